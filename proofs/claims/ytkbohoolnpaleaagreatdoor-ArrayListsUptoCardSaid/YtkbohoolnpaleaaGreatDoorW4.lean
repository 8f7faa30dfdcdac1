/-
  Contracts: Contracts of cmp.Compare at its three types, of the program's units.Compare, of Same and of both Compares of keys. Contracts of the reference Same and of both Compares of keys. Contracts of both Index functions of keys: the number that a text is. Contracts of keys.sort, cmp.Or at ints, and the function that Order hands to slices.SortStableFunc. The row that the sort turns: what stands in it, what is left alone; the contract of slices.swapRangeCmpFunc. The contract of slices.rotateCmpFunc: two neighbouring runs change places. Lists in order by rank, each rank's elements as they came; the contract of slices.insertionSortCmpFunc.
-/
import Derived.Test.YtkbohoolnpaleaaGreatDoorW3
import Derived.Shelf.SlicesQ.Reverse
import Derived.Shelf.SlSortFuncK.RowK2
import Derived.Shelf.RegionOpenPlain
import Derived.BigRegion
namespace Go.Proofs.YtkbohoolnpaleaaGreatDoor
open Go.RowKit
set_option maxHeartbeats 400000
set_option maxRecDepth 100000

theorem c_nanInt (s : Int) (w : World) : Calls Tryz.prog 138 #[.int .i64 s] w fun e w' => e = .returned (.bool false) ∧ w = w' := by
  go_enter Tryz.func138, Tryz.ntmps138
  go_wp2
  go_ret
  exact ⟨rfl, rfl⟩
theorem c_nanU32 (s : Int) (w : World) : Calls Tryz.prog 139 #[.int .u32 s] w fun e w' => e = .returned (.bool false) ∧ w = w' := by
  go_enter Tryz.func139, Tryz.ntmps139
  go_wp2
  go_ret
  exact ⟨rfl, rfl⟩
/-- how numbers compare -/
def cmpZ (a b : Int) : Int := if a < b then -1 else if b < a then 1 else 0
theorem c_cmpInt (a b : Int) (w : World) : Calls Tryz.prog 107 #[.int .i64 a, .int .i64 b] w fun e w' => e = .returned (.int .i64 (cmpZ a b)) ∧ w = w' := by
  unfold cmpZ
  rcases Int.lt_trichotomy a b with h | h | h
  · rw [if_pos h]
    have h1 : decide (a < b) = true := by simpa using h
    go_enter Tryz.func107, Tryz.ntmps107
    go_wp2_with (go_at_call 138; refine (c_nanInt _ _).mono ?_; rintro e w' ⟨rfl, rfl⟩)
    go_ret
    exact ⟨rfl, rfl⟩
  · subst h
    rw [if_neg (by omega), if_neg (by omega)]
    go_enter Tryz.func107, Tryz.ntmps107
    go_wp2_with (go_at_call 138; refine (c_nanInt _ _).mono ?_; rintro e w' ⟨rfl, rfl⟩)
    go_ret
    exact ⟨rfl, rfl⟩
  · rw [if_neg (by omega), if_pos h]
    go_enter Tryz.func107, Tryz.ntmps107
    go_wp2_with (go_at_call 138; refine (c_nanInt _ _).mono ?_; rintro e w' ⟨rfl, rfl⟩)
    go_ret
    exact ⟨rfl, rfl⟩
theorem c_cmpU32 (a b : Int) (w : World) : Calls Tryz.prog 108 #[.int .u32 a, .int .u32 b] w fun e w' => e = .returned (.int .i64 (cmpZ a b)) ∧ w = w' := by
  unfold cmpZ
  rcases Int.lt_trichotomy a b with h | h | h
  · rw [if_pos h]
    go_enter Tryz.func108, Tryz.ntmps108
    go_wp2_with (go_at_call 139; refine (c_nanU32 _ _).mono ?_; rintro e w' ⟨rfl, rfl⟩)
    go_ret
    exact ⟨rfl, rfl⟩
  · subst h
    rw [if_neg (by omega), if_neg (by omega)]
    go_enter Tryz.func108, Tryz.ntmps108
    go_wp2_with (go_at_call 139; refine (c_nanU32 _ _).mono ?_; rintro e w' ⟨rfl, rfl⟩)
    go_ret
    exact ⟨rfl, rfl⟩
  · rw [if_neg (by omega), if_pos h]
    go_enter Tryz.func108, Tryz.ntmps108
    go_wp2_with (go_at_call 139; refine (c_nanU32 _ _).mono ?_; rintro e w' ⟨rfl, rfl⟩)
    go_ret
    exact ⟨rfl, rfl⟩

/-- units as bytes -/
def flat : List Nat → List UInt8
  | [] => []
  | x :: l => UInt8.ofNat (x / 256) :: UInt8.ofNat (x % 256) :: flat l
theorem flat_append (a b : List Nat) : flat (a ++ b) = flat a ++ flat b := by induction a with
  | nil => rfl
  | cons x a ih => simp [flat, ih]
theorem ub_lt (s : ByteArray) (i : Nat) : ub s i < 256 := UInt8.toNat_lt _
theorem unitAt_lt (s : ByteArray) (k : Nat) : unitAt s k < 65536 := by have := ub_lt s (2 * k); have := ub_lt s (2 * k + 1); unfold unitAt; omega
theorem flat_take (s : ByteArray) (k : Nat) (h : k ≤ s.size / 2) : s.data.toList.take (2 * k) = flat (unitsN s k) := by
  induction k with
  | zero => rfl
  | succ k ih =>
    have hl : s.data.toList.length = s.size := by simp
    have e : 2 * (k + 1) = (2 * k + 1) + 1 := by omega
    rw [e, List.take_succ_eq_append_getElem (by omega), List.take_succ_eq_append_getElem (by omega), ih (by omega)]
    simp only [unitsN, flat_append, flat, List.append_assoc, List.singleton_append]
    have k1 : ub s (2 * k) = (s.data.toList[2 * k]'(by omega)).toNat := by unfold ub; rw [List.getD_eq_getElem?_getD, List.getElem?_eq_getElem (by omega)]; rfl
    have k2 : ub s (2 * k + 1) = (s.data.toList[2 * k + 1]'(by omega)).toNat := by unfold ub; rw [List.getD_eq_getElem?_getD, List.getElem?_eq_getElem (by omega)]; rfl
    have := ub_lt s (2 * k)
    have := ub_lt s (2 * k + 1)
    have d1 : unitAt s k / 256 = ub s (2 * k) := by unfold unitAt; omega
    have d2 : unitAt s k % 256 = ub s (2 * k + 1) := by unfold unitAt; omega
    rw [d1, d2, k1, k2, UInt8.ofNat_toNat, UInt8.ofNat_toNat]
theorem even_flat (s : ByteArray) : (evenB s).toList = flat (U s) := by
  rw [ByteArray.toList_eq]
  unfold U
  rw [← flat_take s _ (Nat.le_refl _)]
  unfold evenB
  simp [ByteArray.data_extract, Nat.mul_comm]
theorem U_lt (s : ByteArray) : ∀ x ∈ U s, x < 65536 := by
  unfold U
  generalize s.size / 2 = m
  induction m with
  | zero => intro x hx; cases hx
  | succ k ih =>
    intro x hx
    rcases List.mem_append.1 hx with h | h
    · exact ih x h
    · rw [List.mem_singleton] at h; rw [h]; exact unitAt_lt s k
theorem u8_lt (a b : Nat) (ha : a < 256) (hb : b < 256) : (UInt8.ofNat a < UInt8.ofNat b) ↔ a < b := by
  rw [UInt8.lt_iff_toNat_lt, UInt8.toNat_ofNat', UInt8.toNat_ofNat']
  have : a % 2 ^ 8 = a := Nat.mod_eq_of_lt ha
  have : b % 2 ^ 8 = b := Nat.mod_eq_of_lt hb
  omega
theorem u8_eq (a b : Nat) (ha : a < 256) (hb : b < 256) : (UInt8.ofNat a = UInt8.ofNat b) ↔ a = b := by
  rw [← UInt8.toNat_inj, UInt8.toNat_ofNat', UInt8.toNat_ofNat']
  have : a % 2 ^ 8 = a := Nat.mod_eq_of_lt ha
  have : b % 2 ^ 8 = b := Nat.mod_eq_of_lt hb
  omega
theorem flat_less (a b : List Nat) (ha : ∀ x ∈ a, x < 65536) (hb : ∀ x ∈ b, x < 65536) : Op.bytesLess (flat a) (flat b) = decide (cmpU a b = -1) := by
  induction a generalizing b with
  | nil => cases b <;> simp [flat, cmpU, Op.bytesLess]
  | cons x a ih => cases b with
    | nil => simp [flat, cmpU, Op.bytesLess]
    | cons y b =>
      have hx := ha x (List.mem_cons_self ..)
      have hy := hb y (List.mem_cons_self ..)
      have h := ih b (fun z hz => ha z (List.mem_cons_of_mem _ hz)) (fun z hz => hb z (List.mem_cons_of_mem _ hz))
      have hc : cmpU (x :: a) (y :: b) = if x < y then -1 else if y < x then 1 else cmpU a b := rfl
      generalize cmpU (x :: a) (y :: b) = R at *
      simp only [flat, Op.bytesLess, h]
      have l1 := u8_lt (x / 256) (y / 256) (by omega) (by omega)
      have l2 := u8_lt (x % 256) (y % 256) (by omega) (by omega)
      have e1 := u8_eq (x / 256) (y / 256) (by omega) (by omega)
      have e2 := u8_eq (x % 256) (y % 256) (by omega) (by omega)
      apply Bool.eq_iff_iff.2
      simp only [Bool.or_eq_true, Bool.and_eq_true, decide_eq_true_eq, beq_iff_eq, l1, l2, e1, e2]
      rcases Nat.lt_trichotomy x y with g | g | g
      · rw [if_pos g] at hc; rw [hc]; constructor
        · intro _; rfl
        · intro _; omega
      · subst g; simp at hc; rw [hc]; simp
      · rw [if_neg (by omega), if_pos g] at hc; rw [hc]; constructor
        · intro _; omega
        · intro h; omega
theorem flat_inj (a b : List Nat) (ha : ∀ x ∈ a, x < 65536) (hb : ∀ x ∈ b, x < 65536) (h : flat a = flat b) : a = b := by
  induction a generalizing b with
  | nil => cases b with
    | nil => rfl
    | cons y b => simp [flat] at h
  | cons x a ih => cases b with
    | nil => simp [flat] at h
    | cons y b =>
      have hx := ha x (List.mem_cons_self ..)
      have hy := hb y (List.mem_cons_self ..)
      simp only [flat, List.cons.injEq] at h
      have e1 := (u8_eq (x / 256) (y / 256) (by omega) (by omega)).1 h.1
      have e2 := (u8_eq (x % 256) (y % 256) (by omega) (by omega)).1 h.2.1
      have : x = y := by omega
      rw [this, ih b (fun z hz => ha z (List.mem_cons_of_mem _ hz)) (fun z hz => hb z (List.mem_cons_of_mem _ hz)) h.2.2]

end Go.Proofs.YtkbohoolnpaleaaGreatDoor
namespace Go.Proofs.YtkbohoolnpaleaaGreatDoor
open Go.RowKit
set_option maxHeartbeats 400000
set_option maxRecDepth 100000

/-- a key as a value -/
def keyV (s : ByteArray) (n : Int) : Value := .agg #[.string s, .int .i64 n]
/-- keys alike -/
def sameK (s t : ByteArray) (m n : Int) : Bool := if 0 < m ∨ 0 < n then decide (m = n) else decide (cmpU (U s) (U t) = 0)
theorem below_two (w : World) (o p : Obj) : Below w.heap.size w ((w.alloc o).alloc p) := ((Below.refl _ w).alloc (Nat.le_refl _) o).alloc (by simp) p
theorem below_after {w w1 w' : World} (h1 : Below w.heap.size w w1) (h : Below w1.heap.size w1 w') : Below w.heap.size w w' := h1.trans (h.mono h1.size)
theorem ret_bool {a b : Bool} (h : a = b) : Ending.returned (.bool a) = .returned (.bool b) := by rw [h]
/-- how keys compare -/
def cmpK (s t : ByteArray) (m n : Int) : Int :=
  if 0 < m then (if 0 < n then cmpZ m n else 1) else if 0 < n then -1 else cmpU (U s) (U t)
theorem cmpZ_neg (m n : Int) : cmpZ n m = - cmpZ m n := by
  unfold cmpZ
  rcases Int.lt_trichotomy m n with h | h | h
  · rw [if_neg (by omega), if_pos h, if_pos h]; rfl
  · subst h; simp
  · rw [if_pos h, if_neg (by omega), if_pos h]
theorem cmpK_neg (s t : ByteArray) (m n : Int) : cmpK t s n m = - cmpK s t m n := by
  unfold cmpK
  have := cmpZ_neg m n
  have := cmpU_neg (U s) (U t)
  repeat' split
  all_goals first | assumption | omega | rfl
theorem cmpK_zero (s t : ByteArray) (m n : Int) : decide (cmpK s t m n = 0) = sameK s t m n := by
  unfold cmpK sameK cmpZ
  apply Bool.eq_iff_iff.2
  rw [decide_eq_true_eq]
  rcases Int.lt_or_le 0 m with hm | hm
  · have h1 : 0 < m ∨ 0 < n := .inl hm
    simp only [if_pos hm, if_pos h1, decide_eq_true_eq]
    rcases Int.lt_or_le 0 n with hn | hn
    · simp only [if_pos hn]; split
      · omega
      · split <;> omega
    · rw [if_neg (by omega)]; omega
  · have h0 : ¬ 0 < m := by omega
    simp only [if_neg h0]
    rcases Int.lt_or_le 0 n with hn | hn
    · have h1 : 0 < m ∨ 0 < n := .inr hn
      simp only [if_pos hn, if_pos h1, decide_eq_true_eq]; omega
    · have h1 : ¬ (0 < m ∨ 0 < n) := by omega
      have h2 : ¬ 0 < n := by omega
      simp only [if_neg h1, if_neg h2, decide_eq_true_eq]
end Go.Proofs.YtkbohoolnpaleaaGreatDoor
namespace Go.Proofs.YtkbohoolnpaleaaGreatDoor
open Go.RowKit
set_option maxHeartbeats 400000
set_option maxRecDepth 100000

def numU : List Nat → Nat → Option Nat
  | [], a => some a
  | x :: l, a => if x < 48 ∨ 57 < x then none else numU l (10 * a + (x - 48))
/-- the number that a list of units is -/
def idxOf (l : List Nat) : Option Nat :=
  if l.length = 0 ∨ 10 < l.length ∨ (l[0]? = some 48 ∧ 1 < l.length) then none
  else match numU l 0 with
    | none => none
    | some n => if 4294967294 < n then none else some n
def idxV (r : Option Nat) : Value := .tuple #[.int .u32 ((r.getD 0 : Nat) : Int), .bool r.isSome]
theorem numU_le (l : List Nat) (a n : Nat) (h : numU l a = some n) : n < (a + 1) * 10 ^ l.length := by
  induction l generalizing a with
  | nil => simp [numU] at h; subst h; simp
  | cons x l ih =>
    simp only [numU] at h
    split at h
    · cases h
    · have := ih _ h
      rw [List.length_cons, Nat.pow_succ]
      refine Nat.lt_of_lt_of_le this ?_
      rw [Nat.mul_comm (10 ^ l.length), ← Nat.mul_assoc]
      exact Nat.mul_le_mul_right _ (by omega)
theorem u64_step (v x : Nat) (hv : v < 1000000000000) (h1 : ¬ (x < 48 ∨ 57 < x)) : IntKind.u64.wrap (IntKind.u64.wrap (10 * (v : Int)) + IntKind.u64.wrap (IntKind.u16.wrap ((x : Int) - 48))) = ((10 * v + (x - 48) : Nat) : Int) := by
  simp only [IntKind.wrap_u64, IntKind.wrap_u16]; omega

theorem c_Index (s : ByteArray) (hs : s.size ≤ 1099511627776) (w : World) :
    Calls Tryz.prog 42 #[.string s] w fun e w' => e = .returned (idxV (idxOf (U s))) ∧ Below w.heap.size w w' := by
  have H1 := Lib.hid (c_ULen s hs)
  have H2 := Lib.hid (c_Units s hs w)
  have hls := U_len s
  unfold U at *
  generalize unitsN s (s.size / 2) = A at *
  rw [← hls] at H1 H2
  have hm1 : A.length ≤ 1099511627776 := by omega
  clear hls
  generalize hR : idxOf A = R
  by_cases hn : A.length = 0 ∨ 10 < A.length
  · have hR' : R = none := by rw [← hR]; unfold idxOf; rw [if_pos (by omega)]
    subst hR'
    clear hR
    have hn' : A.length < 1 ∨ 10 < A.length := by omega
    rcases hn' with h | h
    · have : A.length = 0 := by omega
      go_enter Tryz.func42, Tryz.ntmps42
      go_wp2_with (go_at_call 59; refine (H1.out _).mono ?_; rintro e w' ⟨rfl, rfl⟩)
      go_ret2
      exact ⟨rfl, Below.refl _ _⟩
    · have : ¬ A.length < 1 := by omega
      go_enter Tryz.func42, Tryz.ntmps42
      go_wp2_with (go_at_call 59; refine (H1.out _).mono ?_; rintro e w' ⟨rfl, rfl⟩)
      go_ret2
      exact ⟨rfl, Below.refl _ _⟩
  · have hn1 : ¬ (A.length : Int) < 1 := by omega
    have hn2 : ¬ (10 : Int) < A.length := by omega
    have hn3 : A.length ≤ 10 := by omega
    replace hR := Lib.hid hR
    replace hn := Lib.hid hn
    go_enter Tryz.func42, Tryz.ntmps42
    go_wp2_with (go_at_call 59; refine (H1.out _).mono ?_; rintro e w' ⟨rfl, rfl⟩)
    refine H2.out.mono ?_
    rintro e w1 ⟨v1, rfl, hown1, hb1⟩
    have r1 := Rd_own hown1
    clear hown1
    obtain ⟨b1, c1, rfl, q1⟩ := r1
    rw [u16s_len] at *
    have q1 := Lib.hid q1
    go_wp2
    go_loopw [19, 5, 6, 7] (fun i v _ _ wr => ∃ k a : Nat, k ≤ A.length ∧ i = .int .i64 (k : Int) ∧ v = .int .u64 (a : Int) ∧ a < 10 ^ k ∧ Hid (numU (A.drop k) a = numU A 0) ∧ Hid (0 < k → ¬ (A[0]? = some 48 ∧ 1 < A.length)) ∧ Below w.heap.size w wr ∧ Below w1.heap.size w1 wr) (fun i _ _ _ _ => A.length - (intOf i).toNat)
    case atStart => exact ⟨0, 0, by omega, rfl, rfl, by decide, rfl, fun h => by omega, hb1, Below.refl _ _⟩
    case round =>
      obtain ⟨k, a, hk, rfl, rfl, ha, hnum, hz, hbel1, hbel2⟩ := hrel
      have hpow : (10 : Nat) ^ k ≤ 10 ^ 10 := Nat.pow_le_pow_right (by decide) (by omega)
      have ha2 : a < 10000000000 := by omega
      rcases Nat.lt_or_ge k A.length with hlt | hge
      · obtain ⟨x, hx, hdx⟩ := drop_one A k hlt
        obtain ⟨g1, hg1, rfl, hc1, hcell1⟩ := q1.out k _ (u16s_get A k x hx)
        clear q1
        rw [← hbel2.cell (p := ⟨g1, k, none⟩) (by show g1 < _; omega)] at hcell1
        have hlow : (0 : Int) ≤ x := by omega
        by_cases hx1 : x < 48 ∨ 57 < x
        · have hRn : R = none := by
            have : numU A 0 = none := by rw [← hnum.out, hdx]; simp only [numU]; rw [if_pos hx1]
            rw [← hR.out]; unfold idxOf; split
            · rfl
            · rw [this]
          subst hRn
          clear hnum
          rcases hx1 with hx1 | hx1
          · have : (x : Int) < 48 := by omega
            go_wp2
            go_ret2
            exact ⟨rfl, hbel1⟩
          · have : ¬ (x : Int) < 48 := by omega
            have : (57 : Int) < x := by omega
            go_wp2
            go_ret2
            exact ⟨rfl, hbel1⟩
        · have f1 : ¬ (x : Int) < 48 := by omega
          have f2 : ¬ (57 : Int) < x := by omega
          by_cases hz1 : k = 0 ∧ x = 48 ∧ 1 < A.length
          · obtain ⟨rfl, rfl, h3⟩ := hz1
            have hRn : R = none := by
              rw [← hR.out]; unfold idxOf; rw [if_pos (.inr (.inr ⟨hx, h3⟩))]
            subst hRn
            clear hnum hz hx
            go_wp2
            go_ret2
            exact ⟨rfl, hbel1⟩
          · have hnum' : Hid (numU (A.drop (k + 1)) (10 * a + (x - 48)) = numU A 0) := by
              have := hnum.out
              rw [hdx] at this
              simp only [numU] at this
              rw [if_neg hx1] at this
              exact this
            have hz' : Hid (0 < k + 1 → ¬ (A[0]? = some 48 ∧ 1 < A.length)) := by
              intro _ ⟨g1, g2⟩
              rcases Nat.eq_zero_or_pos k with h | h
              · subst h; rw [hx] at g1; injection g1 with g1; exact hz1 ⟨rfl, g1, g2⟩
              · exact hz.out h ⟨g1, g2⟩
            have ha' : Hid (10 * a + (x - 48) < 10 ^ (k + 1)) := by show _ < _; rw [Nat.pow_succ]; omega
            clear hnum hz hx hx1 hdx
            have hz2 : k ≠ 0 ∨ (k = 0 ∧ x ≠ 48) ∨ (k = 0 ∧ x = 48 ∧ A.length = 1) := by omega
            clear hz1
            rcases hz2 with h | ⟨h, h2⟩ | ⟨h, h2, h3⟩
            · go_wp2
              go_roundw
              case rel => exact ⟨k + 1, 10 * a + (x - 48), by omega, by go_num, by go_num, ha'.out, hnum', hz', hbel1, hbel2⟩
              case measure => simp [intOf]; omega
            · have : ¬ (x : Int) = 48 := by omega
              subst h
              go_wp2
              go_roundw
              case rel => exact ⟨0 + 1, 10 * a + (x - 48), by omega, by go_num, by go_num, ha'.out, hnum', hz', hbel1, hbel2⟩
              case measure => simp [intOf]; omega
            · subst h
              subst h2
              have : ¬ (1 : Int) < A.length := by omega
              go_wp2
              go_roundw
              case rel => exact ⟨0 + 1, 10 * a + (48 - 48), by omega, by go_num, by go_num, ha'.out, hnum', hz', hbel1, hbel2⟩
              case measure => simp [intOf]; omega
      · have hk2 : k = A.length := by omega
        subst hk2
        have hnum := hnum.out
        rw [List.drop_length] at hnum
        simp only [numU] at hnum
        have hR2 : R = if 4294967294 < a then none else some a := by
          have h1 := hz.out (by omega)
          have h2 := hn.out
          rw [← hR.out]; unfold idxOf
          have h3 : ¬ (A.length = 0 ∨ 10 < A.length ∨ (A[0]? = some 48 ∧ 1 < A.length)) := by
            rintro (h | h | h)
            · exact h2 (.inl h)
            · exact h2 (.inr h)
            · exact h1 h
          rw [if_neg h3, ← hnum]
        clear hR hz hn hnum hpow ha
        rcases Nat.lt_or_ge 4294967294 a with h | h
        · rw [if_pos h] at hR2
          subst hR2
          go_wp2
          go_ret2
          exact ⟨rfl, hbel1⟩
        · rw [if_neg (by omega)] at hR2
          subst hR2
          have e : IntKind.u32.wrap (a : Int) = (a : Int) := by rw [IntKind.wrap_u32]; omega
          go_wp2
          go_ret2
          exact ⟨rfl, hbel1⟩

end Go.Proofs.YtkbohoolnpaleaaGreatDoor
namespace Go.Proofs.YtkbohoolnpaleaaGreatDoor
open Go.RowKit
set_option maxHeartbeats 400000
set_option maxRecDepth 100000

def kindK (s : ByteArray) (n : Int) : Int := if 0 < n then 2 else if (idxOf (U s)).isSome then 0 else 1
def numK (s : ByteArray) (n : Int) : Nat := if 0 < n then 0 else (idxOf (U s)).getD 0
/-- where a key stands: indices by number, then texts, then symbols -/
def rankK (s : ByteArray) (n : Int) : Nat := if 0 < n then 8589934592 else match idxOf (U s) with
  | some i => i
  | none => 4294967296
theorem idxOf_le (l : List Nat) (n : Nat) (h : idxOf l = some n) : n ≤ 4294967294 := by
  unfold idxOf at h
  split at h
  · cases h
  · split at h
    · cases h
    · split at h
      · cases h
      · injection h with h; omega
theorem c_ksort (s : ByteArray) (n : Int) (hs : s.size ≤ 1099511627776) (w : World) :
    Calls Tryz.prog 105 #[keyV s n] w fun e w' => e = .returned (.tuple #[.int .i64 (kindK s n), .int .u32 (numK s n : Int)]) ∧ Below w.heap.size w w' := by
  have H := fun w => Lib.hid (c_Index s hs w)
  unfold keyV kindK numK
  have hb0 : ∀ o, Below w.heap.size w (w.alloc o) := fun o => (Below.refl _ w).alloc (Nat.le_refl _) o
  generalize idxOf (U s) = R at *
  rcases Int.lt_or_le 0 n with hn | hn
  · rw [if_pos hn, if_pos hn]
    go_enter Tryz.func105, Tryz.ntmps105
    go_wp2
    go_ret2
    exact ⟨rfl, hb0 _⟩
  · have hn' : ¬ 0 < n := by omega
    rw [if_neg hn', if_neg hn']
    cases R with
    | none =>
      go_enter Tryz.func105, Tryz.ntmps105
      go_wp2_with (go_at_call 42; refine (H _).out.mono ?_; rintro e w' ⟨rfl, hb⟩; unfold idxV)
      go_ret2
      exact ⟨rfl, below_after (hb0 _) hb⟩
    | some i =>
      go_enter Tryz.func105, Tryz.ntmps105
      go_wp2_with (go_at_call 42; refine (H _).out.mono ?_; rintro e w' ⟨rfl, hb⟩; unfold idxV)
      go_ret2
      exact ⟨rfl, below_after (hb0 _) hb⟩
def orZ (x y : Int) : Int := if x = 0 then y else x
theorem c_Or (x y : Int) (g : Nat) (w : World) (h0 : w.cell? ⟨g, 0, none⟩ = some (.int .i64 x)) (h1 : w.cell? ⟨g, 1, none⟩ = some (.int .i64 y)) :
    Calls Tryz.prog 106 #[.slice (some ⟨g, 0, none⟩) 2 2] w fun e w' => e = .returned (.int .i64 (orZ x y)) ∧ w = w' := by
  unfold orZ
  by_cases hx : x = 0
  · subst hx
    by_cases hy : y = 0
    · subst hy
      go_enter Tryz.func106, Tryz.ntmps106
      go_wp2
      go_loopw [8, 5] (fun i _ wr => ∃ k : Nat, k ≤ 2 ∧ i = .int .i64 (k : Int) ∧ wr = w) (fun i _ _ => 2 - (intOf i).toNat)
      case atStart => exact ⟨0, by omega, rfl, rfl⟩
      case round =>
        obtain ⟨k, hk, rfl, rfl⟩ := hrel
        have : k = 0 ∨ k = 1 ∨ k = 2 := by omega
        rcases this with rfl | rfl | rfl
        · go_wp2
          go_roundw
          case rel => exact ⟨1, by omega, rfl, by first | rfl | trivial⟩
          case measure => simp [intOf]
        · go_wp2
          go_roundw
          case rel => exact ⟨2, by omega, rfl, by first | rfl | trivial⟩
          case measure => simp [intOf]
        · go_wp2
          go_ret
          exact ⟨rfl, rfl⟩
    · have hy' : (y == 0) = false := beq_eq_false_iff_ne.2 hy
      go_enter Tryz.func106, Tryz.ntmps106
      go_wp2
      go_loopw [8, 5] (fun i _ wr => ∃ k : Nat, k ≤ 1 ∧ i = .int .i64 (k : Int) ∧ wr = w) (fun i _ _ => 2 - (intOf i).toNat)
      case atStart => exact ⟨0, by omega, rfl, rfl⟩
      case round =>
        obtain ⟨k, hk, rfl, rfl⟩ := hrel
        have : k = 0 ∨ k = 1 := by omega
        rcases this with rfl | rfl
        · go_wp2
          go_roundw
          case rel => exact ⟨1, by omega, rfl, by first | rfl | trivial⟩
          case measure => simp [intOf]
        · go_wp2
          go_ret
          exact ⟨rfl, rfl⟩
  · have hx' : (x == 0) = false := beq_eq_false_iff_ne.2 hx
    rw [if_neg hx]
    go_enter Tryz.func106, Tryz.ntmps106
    go_wp2
    go_loopw [8, 5] (fun i _ wr => i = .int .i64 0 ∧ wr = w) (fun i _ _ => 2 - (intOf i).toNat)
    case atStart => exact ⟨rfl, rfl⟩
    case round =>
      obtain ⟨rfl, rfl⟩ := hrel
      go_wp2
      go_ret
      exact ⟨rfl, rfl⟩
theorem cmp_rank (s t : ByteArray) (m n : Int) : (if cmpZ (kindK s m) (kindK t n) = 0 then cmpZ (numK s m) (numK t n) else cmpZ (kindK s m) (kindK t n)) = cmpZ (rankK s m) (rankK t n) := by
  have l1 := idxOf_le (U s)
  have l2 := idxOf_le (U t)
  unfold kindK numK rankK
  generalize idxOf (U s) = A at *
  generalize idxOf (U t) = B at *
  by_cases hm : 0 < m <;> by_cases hn : 0 < n
  · simp [hm, hn, cmpZ]
  · cases B with
    | none => simp [hm, hn, cmpZ]
    | some j => have := l2 j rfl; simp [hm, hn]; unfold cmpZ; simp; omega
  · cases A with
    | none => simp [hm, hn, cmpZ]
    | some i => have := l1 i rfl; simp [hm, hn]; unfold cmpZ; simp; omega
  · cases A with
    | none => cases B with
      | none => simp [hm, hn, cmpZ]
      | some j => have := l2 j rfl; simp [hm, hn]; unfold cmpZ; simp; omega
    | some i => cases B with
      | none => have := l1 i rfl; simp [hm, hn]; unfold cmpZ; simp; omega
      | some j => simp [hm, hn, cmpZ]

theorem cell_alloc1 (w : World) (c : Array Value) (ty : TypeId) (j : Nat) : (w.alloc (.cells c ty)).cell? ⟨w.heap.size, j, none⟩ = c[j]? :=
  cell_of_row _ _ _ _ _ _ (heap_alloc_new w _)
theorem cell_alloc2 (w : World) (o : Obj) (c : Array Value) (ty : TypeId) (j : Nat) : ((w.alloc o).alloc (.cells c ty)).cell? ⟨w.heap.size + 1, j, none⟩ = c[j]? := by
  have := cell_alloc1 (w.alloc o) c ty j
  rw [show (w.alloc o).heap.size = w.heap.size + 1 by simp] at this
  exact this
theorem c_OrderF (s t : ByteArray) (m n : Int) (hs : s.size ≤ 1099511627776) (ht : t.size ≤ 1099511627776) (w : World) :
    Calls Tryz.prog 104 #[keyV s m, keyV t n] w fun e w' => e = .returned (.int .i64 (cmpZ (rankK s m) (rankK t n))) ∧ Below w.heap.size w w' := by
  have H1 := fun w => Lib.hid (c_ksort s m hs w)
  have H2 := fun w => Lib.hid (c_ksort t n ht w)
  have HR := Lib.hid (show orZ _ _ = _ from cmp_rank s t m n)
  unfold keyV at *
  generalize kindK s m = k1 at *
  generalize kindK t n = k2 at *
  generalize numK s m = n1 at *
  generalize numK t n = n2 at *
  generalize cmpZ (rankK s m) (rankK t n) = R at *
  have hbb := Lib.hid (below_two w)
  go_enter Tryz.func104, Tryz.ntmps104
  go_wp2_with fail
  refine (H1 _).out.mono ?_
  rintro e wa ⟨rfl, ha⟩
  have d0 : wa.cell? ⟨w.heap.size + 1, 0, none⟩ = some (.string t) := by
    rw [ha.cell (p := ⟨w.heap.size + 1, 0, none⟩) (by simp)]; exact cell_alloc2 _ _ _ _ _
  have d1 : wa.cell? ⟨w.heap.size + 1, 1, none⟩ = some (.int .i64 n) := by
    rw [ha.cell (p := ⟨w.heap.size + 1, 1, none⟩) (by simp)]; exact cell_alloc2 _ _ _ _ _
  have ha' : Below w.heap.size w wa := below_after (hbb.out _ _) ha
  clear ha hbb
  go_wp2_with fail
  refine (H2 _).out.mono ?_
  rintro e wb ⟨rfl, hb⟩
  have hb' : Below w.heap.size w wb := below_after ha' hb
  clear hb d0 d1
  go_wp2_with (first | (go_at_call 107; refine (c_cmpInt _ _ _).mono ?_; rintro e w' ⟨rfl, rfl⟩) | (go_at_call 108; refine (c_cmpU32 _ _ _).mono ?_; rintro e w' ⟨rfl, rfl⟩) | (go_at_call 106; refine (c_Or _ _ _ _ (cell_alloc1 _ _ _ _) (cell_alloc1 _ _ _ _)).mono ?_; rintro e w' ⟨rfl, rfl⟩))
  go_ret
  exact ⟨ret_int HR.out, hb'.alloc hb'.size _⟩
end Go.Proofs.YtkbohoolnpaleaaGreatDoor
namespace Go.Proofs.YtkbohoolnpaleaaGreatDoor
open Go.RowKit Go.Shelf Go.Lib Go.Sort Go.Proofs
set_option maxHeartbeats 400000
set_option maxRecDepth 100000

abbrev KK := ByteArray × Int
def encK (x : KK) : List Value := [.string x.1, .int .i64 x.2]
theorem encK_len (x : KK) : (encK x).length = 2 := rfl
theorem encK_one (x : KK) : ∀ v ∈ encK x, v.oneCell' = true := by
  intro v hv
  simp [encK] at hv
  rcases hv with rfl | rfl <;> rfl
/-- the row at block blk holds d -/
def RowK (w : World) (blk : Nat) (d : Array KK) : Prop := HoldsK encK 2 w blk 0 d ∧ blk < w.heap.size
/-- all but the row is as it was -/
structure Fr (blk : Nat) (w w' : World) : Prop where
  os : w'.os = w.os
  tape : w'.tape = w.tape
  output : w'.output = w.output
  size : w.heap.size ≤ w'.heap.size
  block : ∀ k, k < w.heap.size → k ≠ blk → w'.heap[k]? = w.heap[k]?
theorem Fr.refl (blk : Nat) (w : World) : Fr blk w w := ⟨rfl, rfl, rfl, Nat.le_refl _, fun _ _ _ => rfl⟩
theorem Fr.trans {blk : Nat} {a b c : World} (h : Fr blk a b) (k : Fr blk b c) : Fr blk a c :=
  ⟨k.os.trans h.os, k.tape.trans h.tape, k.output.trans h.output, Nat.le_trans h.size k.size, fun i hi hn => (k.block i (Nat.lt_of_lt_of_le hi h.size) hn).trans (h.block i hi hn)⟩
theorem Fr.below {blk : Nat} {w w' : World} (h : Below w.heap.size w w') : Fr blk w w' := ⟨h.os, h.tape, h.output, h.size, fun k hk _ => h.block k hk⟩
theorem RowK.keep {w w' : World} {blk : Nat} {d : Array KK} (h : RowK w blk d) (hb : Below w.heap.size w w') : RowK w' blk d := by
  refine ⟨fun j hj => ?_, Nat.lt_of_lt_of_le h.2 hb.size⟩
  have := h.1 j hj
  rw [← hb.cell (p := ⟨blk, 0 + j, none⟩) h.2, ← hb.frozen (p := ⟨blk, 0 + j, none⟩) h.2] at this
  exact this
theorem RowK.drewN {w : World} {blk : Nat} {d : Array KK} (h : RowK w blk d) (n : Nat) : RowK (w.drewN n) blk d := h
theorem swap_step {w : World} {blk : Nat} {d : Array KK} (h : RowK w blk d) (i j : Nat) (hi : i < d.size) (hj : j < d.size) :
    RowK ((w.drew.setCells blk (i * 2) (encK d[j]!)).setCells blk (j * 2) (encK d[i]!)) blk (swp d i j) ∧ Fr blk w ((w.drew.setCells blk (i * 2) (encK d[j]!)).setCells blk (j * 2) (encK d[i]!)) := by
  have e0 : putRowK encK 2 w blk 0 d = w := putRowK_self encK 2 w blk 0 d h.1
  have e1 := swap_worldK encK 2 encK_len w 0 1 blk 0 d i j hi hj
  rw [ahead_zero, e0, Nat.zero_add, Nat.zero_add] at e1
  have e2 : w.drew = w.drewN 1 := rfl
  rw [e2, e1]
  refine ⟨⟨holdsK_putRowK encK 2 _ blk 0 d _ (holdsK_ahead encK 2 w _ blk 0 d h.1) (by rw [size_swp]), ?_⟩, ?_, ?_, ?_, ?_, ?_⟩
  · rw [size_putRowK]; exact h.2
  · rfl
  · rfl
  · rfl
  · rw [size_putRowK]; exact Nat.le_refl _
  · intro k hk hne
    show ((w.heap.modify blk _)[k]?) = w.heap[k]?
    rw [Array.getElem?_modify, if_neg (fun h => hne h.symm)]
theorem cell_row {w : World} {blk : Nat} {d : Array KK} (h : RowK w blk d) (i : Nat) (hi : i < d.size) :
    w.cell? ⟨blk, i * 2, none⟩ = some (.string d[i]!.1) ∧ w.cell? ⟨blk, i * 2 + 1, none⟩ = some (.int .i64 d[i]!.2) ∧ w.frozen? ⟨blk, i * 2, none⟩ = false ∧ w.frozen? ⟨blk, i * 2 + 1, none⟩ = false := by
  have h0 := h.1.cell hi (show 0 < 2 by omega)
  have h1 := h.1.cell hi (show 1 < 2 by omega)
  simp only [Nat.zero_add, Nat.add_zero] at h0 h1
  exact ⟨h0.1, h1.1, h0.2, h1.2⟩

/-- the world behind an exchange, as the walk leaves it -/
def swW (w : World) (blk i j : Nat) (x y : KK) : World :=
  ((((w.setCell ⟨blk, i * 2, none⟩ (.string x.1)).setCell ⟨blk, i * 2 + 1, none⟩ (.int .i64 x.2)).setCell ⟨blk, j * 2, none⟩ (.string y.1)).setCell ⟨blk, j * 2 + 1, none⟩ (.int .i64 y.2)).drew
theorem swap_done {w : World} {blk : Nat} {d : Array KK} (h : RowK w blk d) (i j : Nat) (hi : i < d.size) (hj : j < d.size) : RowK (swW w blk i j d[j]! d[i]!) blk (swp d i j) ∧ Fr blk w (swW w blk i j d[j]! d[i]!) := swap_step h i j hi hj

/-- m exchanges -/
def swapN (a b : Nat) : Nat → Array KK → Array KK
  | 0, d => d
  | i + 1, d => swp (swapN a b i d) (a + i) (b + i)
theorem swapN_size (a b i : Nat) (d : Array KK) : (swapN a b i d).size = d.size := by induction i with
  | zero => rfl
  | succ i ih => simp only [swapN]; rw [size_swp]; exact ih
theorem c_swapRange (f : Value) (blk cap a b m : Nat) (d : Array KK) (ha : a + m ≤ d.size) (hb : b + m ≤ d.size) (hab : a ≠ b) (hsz : d.size ≤ 1099511627776) (w : World) (h : RowK w blk d) :
    Calls Tryz.prog 174 #[.slice (some ⟨blk, 0, none⟩) d.size cap, .int .i64 (a : Int), .int .i64 (b : Int), .int .i64 (m : Int), f] w fun e w' => e = .returned (.tuple #[]) ∧ RowK w' blk (swapN a b m d) ∧ Fr blk w w' := by
  replace h := Lib.hid h
  go_enter Tryz.func174, Tryz.ntmps174
  go_wp2
  go_loopw [10] (fun i wr => ∃ k : Nat, k ≤ m ∧ i = .int .i64 (k : Int) ∧ RowK wr blk (swapN a b k d) ∧ Fr blk w wr) (fun i _ => m - (intOf i).toNat)
  case atStart => exact ⟨0, by omega, rfl, h.out, Fr.refl _ _⟩
  case round =>
    obtain ⟨k, hk, rfl, hrow, hfr⟩ := hrel
    rcases Nat.lt_or_ge k m with hlt | hge
    · have hsd := swapN_size a b k d
      obtain ⟨s1, s2⟩ := swap_done hrow (a + k) (b + k) (by omega) (by omega)
      obtain ⟨a1, a2, a3, a4⟩ := cell_row hrow (a + k) (by omega)
      obtain ⟨b1, b2, b3, b4⟩ := cell_row hrow (b + k) (by omega)
      have hne : ¬ (a + k) * 2 = (b + k) * 2 := by omega
      have hne1 : ¬ (a + k) * 2 = (b + k) * 2 + 1 := by omega
      have hne2 : ¬ (a + k) * 2 + 1 = (b + k) * 2 := by omega
      have g1 : IntKind.i64.wrap ((a : Int) + (k : Int)) = ((a + k : Nat) : Int) := by rw [IntKind.wrap_i64]; omega
      have g2 : IntKind.i64.wrap ((b : Int) + (k : Int)) = ((b + k : Nat) : Int) := by rw [IntKind.wrap_i64]; omega
      have hA : a + k < d.size := by omega
      have hB : b + k < d.size := by omega
      replace s1 := Lib.hid s1
      replace s2 := Lib.hid s2
      replace hrow := Lib.hid hrow
      have mixed : Tryz.prog.follows Departure.mixedOrders = true := by kernel_rfl
      generalize (swapN a b k d)[a + k]! = xa at *
      generalize (swapN a b k d)[b + k]! = xb at *
      go_wp2
      go_big_region_o
      all_goals go_wp2
      go_roundw
      case rel => exact ⟨k + 1, by omega, by go_num, s1.out, hfr.trans s2.out⟩
      case measure => simp [intOf]; omega
    · have hk2 : k = m := by omega
      subst hk2
      go_wp2
      go_end0
      exact ⟨rfl, hrow, hfr⟩
end Go.Proofs.YtkbohoolnpaleaaGreatDoor
namespace Go.Proofs.YtkbohoolnpaleaaGreatDoor
open Go.RowKit Go.Shelf Go.Lib Go.Sort Go.Proofs
set_option maxHeartbeats 400000
set_option maxRecDepth 100000

theorem swp_list (P Q S : List KK) (x y : KK) : swp (P ++ x :: (Q ++ y :: S)).toArray P.length (P.length + (Q.length + 1)) = (P ++ y :: (Q ++ x :: S)).toArray := by
  unfold swp
  have g1 : (P ++ x :: (Q ++ y :: S)).toArray[P.length]! = x := by simp
  have g2 : (P ++ x :: (Q ++ y :: S)).toArray[P.length + (Q.length + 1)]! = y := by
    rw [getElem!_pos _ _ (by simp)]
    simp [List.getElem_append_right, List.getElem_cons]
  rw [g1, g2]
  simp [List.set_append_right]
theorem swapN_list (n : Nat) (P A Q B S : List KK) (hA : A.length = n) (hB : B.length = n) :
    swapN P.length (P.length + (n + Q.length)) n (P ++ (A ++ (Q ++ (B ++ S)))).toArray = (P ++ (B ++ (Q ++ (A ++ S)))).toArray := by
  induction n generalizing A B Q S with
  | zero =>
    rw [List.length_eq_zero_iff] at hA hB
    subst hA; subst hB; rfl
  | succ n ih =>
    obtain ⟨A1, x, rfl⟩ : ∃ A1 x, A = A1 ++ [x] := ⟨A.dropLast, A.getLast (by intro h; simp [h] at hA), (List.dropLast_concat_getLast _).symm⟩
    obtain ⟨B1, y, rfl⟩ : ∃ B1 y, B = B1 ++ [y] := ⟨B.dropLast, B.getLast (by intro h; simp [h] at hB), (List.dropLast_concat_getLast _).symm⟩
    simp at hA hB
    have h := ih A1 (x :: Q) B1 (y :: S) hA hB
    simp only [swapN]
    have e1 : P ++ (A1 ++ [x] ++ (Q ++ (B1 ++ [y] ++ S))) = P ++ (A1 ++ (x :: Q ++ (B1 ++ (y :: S)))) := by simp
    have e2 : P.length + (n + 1 + Q.length) = P.length + (n + (x :: Q).length) := by simp; omega
    rw [e1, e2, h]
    have e3 : P ++ (B1 ++ (x :: Q ++ (A1 ++ y :: S))) = (P ++ B1) ++ x :: ((Q ++ A1) ++ y :: S) := by simp
    have e4 : P.length + n = (P ++ B1).length := by simp; omega
    have e5 : P.length + (n + (x :: Q).length) + n = (P ++ B1).length + ((Q ++ A1).length + 1) := by simp; omega
    rw [e3, e4, e5, swp_list]
    simp
/-- the row holds a list -/
def RowL (w : World) (blk : Nat) (l : List KK) : Prop := RowK w blk l.toArray
theorem c_swapL (f : Value) (blk cap : Nat) (P A Q B S : List KK) (len m a b : Nat) (hlen : len = (P ++ (A ++ (Q ++ (B ++ S)))).length) (hA : A.length = m) (hB : B.length = m) (ha : a = P.length) (hb : b = P.length + (m + Q.length)) (hne : a ≠ b) (hsz : len ≤ 1099511627776) (w : World) (h : RowL w blk (P ++ (A ++ (Q ++ (B ++ S))))) :
    Calls Tryz.prog 174 #[.slice (some ⟨blk, 0, none⟩) len cap, .int .i64 (a : Int), .int .i64 (b : Int), .int .i64 (m : Int), f] w fun e w' => e = .returned (.tuple #[]) ∧ RowL w' blk (P ++ (B ++ (Q ++ (A ++ S)))) ∧ Fr blk w w' := by
  have := c_swapRange f blk cap a b m (P ++ (A ++ (Q ++ (B ++ S)))).toArray (by simp; omega) (by simp; omega) hne (by simp at hlen ⊢; omega) w h
  have e2 : swapN a b m (P ++ (A ++ (Q ++ (B ++ S)))).toArray = (P ++ (B ++ (Q ++ (A ++ S)))).toArray := by rw [ha, hb]; exact swapN_list m P A Q B S hA hB
  rw [e2] at this
  have e : (P ++ (A ++ (Q ++ (B ++ S)))).toArray.size = len := by rw [hlen]; simp
  rw [e] at this
  exact this

theorem split_at (l : List KK) (k : Nat) (h : k ≤ l.length) : ∃ A B, l = A ++ B ∧ A.length = k := ⟨l.take k, l.drop k, (List.take_append_drop k l).symm, by simp; omega⟩
/-- where the rotation stands: runs of i and of j are still to change places about m -/
def RotI (blk len m : Nat) (G : List KK) (w : World) (i j : Nat) : Prop :=
  ∃ P X Y S : List KK, X.length = i ∧ Y.length = j ∧ m = P.length + i ∧ len = (P ++ (X ++ (Y ++ S))).length ∧ P ++ (Y ++ (X ++ S)) = G ∧ RowL w blk (P ++ (X ++ (Y ++ S)))
theorem RotI.bound {blk len m : Nat} {G : List KK} {w : World} {i j : Nat} (h : RotI blk len m G w i j) : i ≤ m ∧ m + j ≤ len := by
  obtain ⟨P, X, Y, S, h1, h2, h3, h4, h5, h6⟩ := h
  simp only [List.length_append] at h4
  omega
theorem rot_lt (f : Value) (blk cap len m i j : Nat) (G : List KK) (w : World) (h : RotI blk len m G w i j) (hsz : len ≤ 1099511627776) (hi : 0 < i) (hij : i < j) (za zb zc : Int) (ha : za = (m : Int) - i) (hb : zb = (m : Int) + j - i) (hc : zc = i) :
    Calls Tryz.prog 174 #[.slice (some ⟨blk, 0, none⟩) len cap, .int .i64 za, .int .i64 zb, .int .i64 zc, f] w fun e w' => e = .returned (.tuple #[]) ∧ RotI blk len m G w' i (j - i) ∧ Fr blk w w' := by
  obtain ⟨P, X, Y, S, h1, h2, h3, h4, h5, h6⟩ := h
  obtain ⟨Ya, Yb, rfl, hYa⟩ := split_at Y (j - i) (by omega)
  have hYb : Yb.length = i := by simp only [List.length_append] at h2; omega
  have e : P ++ (X ++ (Ya ++ Yb ++ S)) = P ++ (X ++ (Ya ++ (Yb ++ S))) := by simp
  rw [e] at h4 h6
  have hC := c_swapL f blk cap P X Ya Yb S len i P.length (P.length + (i + Ya.length)) h4 h1 hYb rfl rfl (by omega) hsz w h6
  have z1 : za = (P.length : Int) := by omega
  have z2 : zb = ((P.length + (i + Ya.length) : Nat) : Int) := by omega
  rw [z1, z2, hc]
  refine hC.mono ?_
  rintro e w1 ⟨rfl, hrow, hfr⟩
  refine ⟨rfl, ⟨P, Yb, Ya, X ++ S, hYb, hYa, h3, ?_, ?_, hrow⟩, hfr⟩
  · simp only [List.length_append] at h4 ⊢; omega
  · rw [← h5]; simp
theorem rot_gt (f : Value) (blk cap len m i j : Nat) (G : List KK) (w : World) (h : RotI blk len m G w i j) (hsz : len ≤ 1099511627776) (hi : 0 < j) (hij : j < i) (za zb zc : Int) (ha : za = (m : Int) - i) (hb : zb = (m : Int)) (hc : zc = j) :
    Calls Tryz.prog 174 #[.slice (some ⟨blk, 0, none⟩) len cap, .int .i64 za, .int .i64 zb, .int .i64 zc, f] w fun e w' => e = .returned (.tuple #[]) ∧ RotI blk len m G w' (i - j) j ∧ Fr blk w w' := by
  obtain ⟨P, X, Y, S, h1, h2, h3, h4, h5, h6⟩ := h
  obtain ⟨Xa, Xb, rfl, hXa⟩ := split_at X j (by omega)
  have hXb : Xb.length = i - j := by simp only [List.length_append] at h1; omega
  have e : P ++ (Xa ++ Xb ++ (Y ++ S)) = P ++ (Xa ++ (Xb ++ (Y ++ S))) := by simp
  rw [e] at h4 h6
  have hC := c_swapL f blk cap P Xa Xb Y S len j P.length m h4 hXa h2 rfl (by omega) (by omega) hsz w h6
  have z1 : za = (P.length : Int) := by omega
  rw [z1, hb, hc]
  refine hC.mono ?_
  rintro e w1 ⟨rfl, hrow, hfr⟩
  refine ⟨rfl, ⟨P ++ Y, Xb, Xa, S, hXb, hXa, ?_, ?_, ?_, ?_⟩, hfr⟩
  · simp only [List.length_append]; omega
  · simp only [List.length_append] at h4 ⊢; omega
  · rw [← h5]; simp
  · rw [List.append_assoc]; exact hrow
theorem rot_eq (f : Value) (blk cap len m i j : Nat) (G : List KK) (w : World) (h : RotI blk len m G w i j) (hsz : len ≤ 1099511627776) (hi : 0 < j) (hij : i = j) (za zb zc : Int) (ha : za = (m : Int) - i) (hb : zb = (m : Int)) (hc : zc = i) :
    Calls Tryz.prog 174 #[.slice (some ⟨blk, 0, none⟩) len cap, .int .i64 za, .int .i64 zb, .int .i64 zc, f] w fun e w' => e = .returned (.tuple #[]) ∧ RowL w' blk G ∧ Fr blk w w' := by
  obtain ⟨P, X, Y, S, h1, h2, h3, h4, h5, h6⟩ := h
  have hC := c_swapL f blk cap P X [] Y S len i P.length m h4 h1 (by omega) rfl (by simp; omega) (by omega) hsz w h6
  have z1 : za = (P.length : Int) := by omega
  rw [z1, hb, hc]
  refine hC.mono ?_
  rintro e w1 ⟨rfl, hrow, hfr⟩
  exact ⟨rfl, by rw [← h5]; exact hrow, hfr⟩
theorem c_rotate (f : Value) (blk cap : Nat) (P X Y S : List KK) (len a m b : Nat) (hlen : len = (P ++ (X ++ (Y ++ S))).length) (ha : a = P.length) (hm : m = a + X.length) (hb : b = m + Y.length) (hX : 0 < X.length) (hY : 0 < Y.length) (hsz : len ≤ 1099511627776) (w : World) (h : RowL w blk (P ++ (X ++ (Y ++ S)))) :
    Calls Tryz.prog 173 #[.slice (some ⟨blk, 0, none⟩) len cap, .int .i64 (a : Int), .int .i64 (m : Int), .int .i64 (b : Int), f] w fun e w' => e = .returned (.tuple #[]) ∧ RowL w' blk (P ++ (Y ++ (X ++ S))) ∧ Fr blk w w' := by
  generalize hG : P ++ (Y ++ (X ++ S)) = G
  have hrel0 : RotI blk len m G w (m - a) (b - m) := ⟨P, X, Y, S, by omega, by omega, by omega, hlen, hG, h⟩
  have hbl : b ≤ len := by simp at hlen; omega
  have ham : a < m := by omega
  have hmb : m < b := by omega
  clear hG hlen ha hm hb hX hY h
  go_enter Tryz.func173, Tryz.ntmps173
  go_wp2
  go_loopw [10, 11] (fun vi vj wr => ∃ i j : Nat, vi = .int .i64 (i : Int) ∧ vj = .int .i64 (j : Int) ∧ 0 < i ∧ 0 < j ∧ RotI blk len m G wr i j ∧ Fr blk w wr) (fun vi vj _ => (intOf vi).toNat + (intOf vj).toNat)
  case atStart => exact ⟨m - a, b - m, by go_num, by go_num, by omega, by omega, hrel0, Fr.refl _ _⟩
  case round =>
    obtain ⟨i, j, rfl, rfl, hi, hj, hrot, hfr⟩ := hrel
    clear hrel0
    have hbd := hrot.bound
    rcases Nat.lt_trichotomy i j with hij | hij | hij
    · have hC := fun za zb zc => Lib.hid (rot_lt f blk cap len m i j G wr hrot hsz hi hij za zb zc)
      clear hrot
      go_wp2_with (go_at_call 174; refine ((hC _ _ _).out (by omega) (by omega) (by omega)).mono ?_; rintro e w1 ⟨rfl, hrow, hfr1⟩)
      go_roundw
      case rel => exact ⟨i, j - i, rfl, by go_num, hi, by omega, hrow, hfr.trans hfr1⟩
      case measure => simp [intOf]; omega
    · have hC := fun za zb zc => Lib.hid (rot_eq f blk cap len m i j G wr hrot hsz hj hij za zb zc)
      clear hrot
      go_wp2_with (go_at_call 174; refine ((hC _ _ _).out (by omega) (by omega) (by omega)).mono ?_; rintro e w1 ⟨rfl, hrow, hfr1⟩)
      go_end0
      exact ⟨rfl, hrow, hfr.trans hfr1⟩
    · have hC := fun za zb zc => Lib.hid (rot_gt f blk cap len m i j G wr hrot hsz hj hij za zb zc)
      clear hrot
      go_wp2_with (go_at_call 174; refine ((hC _ _ _).out (by omega) (by omega) (by omega)).mono ?_; rintro e w1 ⟨rfl, hrow, hfr1⟩)
      go_roundw
      case rel => exact ⟨i - j, j, by go_num, rfl, by omega, hj, hrow, hfr.trans hfr1⟩
      case measure => simp [intOf]; omega
end Go.Proofs.YtkbohoolnpaleaaGreatDoor
namespace Go.Proofs.YtkbohoolnpaleaaGreatDoor
open Go.RowKit Go.Shelf Go.Lib Go.Sort Go.Proofs
set_option maxHeartbeats 400000
set_option maxRecDepth 100000

def rk (x : KK) : Nat := rankK x.1 x.2
def Srt (l : List KK) : Prop := l.Pairwise (fun x y => rk x ≤ rk y)
def cls (r : Nat) (l : List KK) : List KK := l.filter (fun x => rk x == r)
/-- the same elements of each rank, in the same order -/
def Eqv (a b : List KK) : Prop := ∀ r, cls r a = cls r b
theorem cls_append (r : Nat) (a b : List KK) : cls r (a ++ b) = cls r a ++ cls r b := List.filter_append ..
theorem Eqv.refl (a : List KK) : Eqv a a := fun _ => rfl
theorem Eqv.symm {a b : List KK} (h : Eqv a b) : Eqv b a := fun r => (h r).symm
theorem Eqv.trans {a b c : List KK} (h : Eqv a b) (k : Eqv b c) : Eqv a c := fun r => (h r).trans (k r)
theorem Eqv.app {a b c d : List KK} (h : Eqv a b) (k : Eqv c d) : Eqv (a ++ c) (b ++ d) := fun r => by rw [cls_append, cls_append, h r, k r]
theorem Eqv.mem {a b : List KK} (h : Eqv a b) {x : KK} (hx : x ∈ a) : x ∈ b := by
  have : x ∈ cls (rk x) a := List.mem_filter.2 ⟨hx, by simp⟩
  rw [h] at this
  exact (List.mem_filter.1 this).1
theorem perm_of_cls {α : Type} (f : α → Nat) (a b : List α) (h : ∀ r, a.filter (fun x => f x == r) = b.filter (fun x => f x == r)) : a.Perm b := by
  classical
  rw [List.perm_iff_count]
  intro x
  have e : ∀ l : List α, List.count x l = List.count x (l.filter (fun y => f y == f x)) := fun l => (List.count_filter (by simp)).symm
  rw [e a, e b, h]
theorem Eqv.len {a b : List KK} (h : Eqv a b) : a.length = b.length := (perm_of_cls rk a b h).length_eq
theorem Eqv.swap {a b : List KK} (h : ∀ x ∈ a, ∀ y ∈ b, rk x ≠ rk y) : Eqv (a ++ b) (b ++ a) := fun r => by
  rw [cls_append, cls_append]
  cases ha : cls r a with
  | nil => simp
  | cons x l => cases hb : cls r b with
    | nil => simp
    | cons y m =>
      have hx : x ∈ cls r a := by rw [ha]; exact List.mem_cons_self ..
      have hy : y ∈ cls r b := by rw [hb]; exact List.mem_cons_self ..
      have hx := List.mem_filter.1 hx
      have hy := List.mem_filter.1 hy
      have e1 : rk x = r := by simpa using hx.2
      have e2 : rk y = r := by simpa using hy.2
      exact absurd (e1.trans e2.symm) (h x hx.1 y hy.1)
theorem Srt.app {a b : List KK} (ha : Srt a) (hb : Srt b) (h : ∀ x ∈ a, ∀ y ∈ b, rk x ≤ rk y) : Srt (a ++ b) := List.pairwise_append.2 ⟨ha, hb, h⟩
theorem Srt.parts {a b : List KK} (h : Srt (a ++ b)) : Srt a ∧ Srt b ∧ ∀ x ∈ a, ∀ y ∈ b, rk x ≤ rk y := List.pairwise_append.1 h
theorem Srt.one (x : KK) : Srt [x] := List.pairwise_singleton ..
/-- every text in a list is short enough -/
def Small (l : List KK) : Prop := ∀ x ∈ l, x.1.size ≤ 1099511627776
/-- the inner loop's state: x stands at place j; what it has passed is greater -/
def InsI (blk : Nat) (P R S : List KK) (x : KK) (i j : Nat) (w : World) : Prop :=
  ∃ Z1 Z2 T, RowL w blk (P ++ (Z1 ++ (x :: (Z2 ++ (T ++ S))))) ∧ Srt (Z1 ++ Z2) ∧ (∀ z ∈ Z2, rk x < rk z) ∧ Eqv (Z1 ++ (x :: (Z2 ++ T))) R ∧ P.length + Z1.length = j ∧ P.length + Z1.length + Z2.length = i
/-- the outer loop's state: all before i is in order -/
def InsO (blk : Nat) (P R S : List KK) (i : Nat) (w : World) : Prop :=
  ∃ Z T, RowL w blk (P ++ (Z ++ (T ++ S))) ∧ Srt Z ∧ Eqv (Z ++ T) R ∧ P.length + Z.length = i
theorem cell_list {w : World} {blk : Nat} {P Q : List KK} {x : KK} (h : RowL w blk (P ++ x :: Q)) (i : Nat) (hi : i = P.length) :
    w.cell? ⟨blk, i * 2, none⟩ = some (.string x.1) ∧ w.cell? ⟨blk, i * 2 + 1, none⟩ = some (.int .i64 x.2) ∧ w.frozen? ⟨blk, i * 2, none⟩ = false ∧ w.frozen? ⟨blk, i * 2 + 1, none⟩ = false := by
  have := cell_row h i (by simp; omega)
  have e : (P ++ x :: Q).toArray[i]! = x := by subst hi; simp
  rw [e] at this
  exact this
theorem swap_list {w : World} {blk : Nat} {P Q : List KK} {x y : KK} (h : RowL w blk (P ++ x :: y :: Q)) (i j : Nat) (hi : i = P.length + 1) (hj : j = P.length) :
    RowL (swW w blk i j x y) blk (P ++ y :: x :: Q) ∧ Fr blk w (swW w blk i j x y) := by
  have := swap_done h i j (by simp; omega) (by simp; omega)
  have e1 : (P ++ x :: y :: Q).toArray[j]! = x := by subst hj; simp
  have e2 : (P ++ x :: y :: Q).toArray[i]! = y := by
    subst hi
    rw [getElem!_pos _ _ (by simp)]
    simp [List.getElem_append_right]
  rw [e1, e2] at this
  have e3 : swp (P ++ x :: y :: Q).toArray i j = (P ++ y :: x :: Q).toArray := by
    unfold swp
    rw [e1, e2]
    subst hi; subst hj
    simp [List.set_append_right]
  rw [e3] at this
  exact this
theorem swap_list' {w : World} {blk : Nat} {P Q : List KK} {x y : KK} (h : RowL w blk (P ++ x :: y :: Q)) (i j : Nat) (hi : i = P.length) (hj : j = P.length + 1) :
    RowL (swW w blk i j y x) blk (P ++ y :: x :: Q) ∧ Fr blk w (swW w blk i j y x) := by
  have := swap_done h i j (by simp; omega) (by simp; omega)
  have e1 : (P ++ x :: y :: Q).toArray[i]! = x := by subst hi; simp
  have e2 : (P ++ x :: y :: Q).toArray[j]! = y := by
    subst hj
    rw [getElem!_pos _ _ (by simp)]
    simp [List.getElem_append_right]
  rw [e1, e2] at this
  have e3 : swp (P ++ x :: y :: Q).toArray i j = (P ++ y :: x :: Q).toArray := by
    unfold swp
    rw [e1, e2]
    subst hi; subst hj
    simp [List.set_append_right]
  rw [e3] at this
  exact this

theorem InsO.bound {blk : Nat} {P R S : List KK} {i : Nat} {w : World} (h : InsO blk P R S i w) : P.length ≤ i ∧ i ≤ P.length + R.length := by
  obtain ⟨Z, T, h1, h2, h3, h4⟩ := h
  have := h3.len
  simp at this
  omega
theorem InsI.bound {blk : Nat} {P R S : List KK} {x : KK} {i j : Nat} {w : World} (h : InsI blk P R S x i j w) : P.length ≤ j ∧ j ≤ i ∧ i < P.length + R.length := by
  obtain ⟨Z1, Z2, T, h1, h2, h3, h4, h5, h6⟩ := h
  have := h4.len
  simp at this
  omega
theorem InsI.lt {blk : Nat} {P R S : List KK} {x : KK} {i j : Nat} {w : World} (h : InsI blk P R S x i j w) : blk < w.heap.size := by
  obtain ⟨Z1, Z2, T, h1, _⟩ := h
  exact h1.2
/-- into the inner loop -/
theorem InsO.enter {blk : Nat} {P R S : List KK} {i : Nat} {w : World} (h : InsO blk P R S i w) (hi : i < P.length + R.length) : ∃ x ∈ R, InsI blk P R S x i i w := by
  obtain ⟨Z, T, h1, h2, h3, h4⟩ := h
  cases T with
  | nil => have := h3.len; simp at this; omega
  | cons x T => exact ⟨x, h3.mem (by simp), Z, [], T, by simpa using h1, by simpa using h2, fun z hz => by simp at hz, by simpa using h3, h4, by simpa using h4⟩
/-- out of the inner loop -/
theorem leave_aux {blk : Nat} {P R S : List KK} {x : KK} {i : Nat} {w : World} (Z1 Z2 T : List KK) (h1 : RowL w blk (P ++ (Z1 ++ (x :: (Z2 ++ (T ++ S)))))) (h2 : Srt (Z1 ++ Z2)) (h3 : ∀ z ∈ Z2, rk x < rk z) (h4 : Eqv (Z1 ++ (x :: (Z2 ++ T))) R) (h6 : P.length + Z1.length + Z2.length = i) (hz : ∀ z ∈ Z1, rk z ≤ rk x) : InsO blk P R S (i + 1) w := by
  obtain ⟨q1, q2, q3⟩ := h2.parts
  refine ⟨Z1 ++ x :: Z2, T, by simpa using h1, ?_, by simpa using h4, by simp; omega⟩
  refine q1.app ?_ ?_
  · exact List.pairwise_cons.2 ⟨fun z hz => Nat.le_of_lt (h3 z hz), q2⟩
  · intro z hz1 y hy
    rcases List.mem_cons.1 hy with rfl | hy
    · exact hz z hz1
    · exact q3 z hz1 y hy
theorem InsI.leave0 {blk : Nat} {P R S : List KK} {x : KK} {i : Nat} {w : World} (h : InsI blk P R S x i P.length w) : InsO blk P R S (i + 1) w := by
  obtain ⟨Z1, Z2, T, h1, h2, h3, h4, h5, h6⟩ := h
  have : Z1 = [] := List.length_eq_zero_iff.1 (by omega)
  subst this
  exact leave_aux [] Z2 T h1 h2 h3 h4 h6 (fun z hz => by simp at hz)
/-- what the test in the inner loop sees -/
theorem InsI.see {blk : Nat} {P R S : List KK} {x : KK} {i j : Nat} {w : World} (h : InsI blk P R S x i j w) (hj : P.length < j) : ∃ z ∈ R, 
    (w.cell? ⟨blk, j * 2, none⟩ = some (.string x.1) ∧ w.cell? ⟨blk, j * 2 + 1, none⟩ = some (.int .i64 x.2) ∧ w.frozen? ⟨blk, j * 2, none⟩ = false ∧ w.frozen? ⟨blk, j * 2 + 1, none⟩ = false) ∧
    (w.cell? ⟨blk, (j - 1) * 2, none⟩ = some (.string z.1) ∧ w.cell? ⟨blk, (j - 1) * 2 + 1, none⟩ = some (.int .i64 z.2) ∧ w.frozen? ⟨blk, (j - 1) * 2, none⟩ = false ∧ w.frozen? ⟨blk, (j - 1) * 2 + 1, none⟩ = false) ∧
    (rk x < rk z → InsI blk P R S x i (j - 1) (swW w blk j (j - 1) z x) ∧ Fr blk w (swW w blk j (j - 1) z x)) ∧
    (rk z ≤ rk x → InsO blk P R S (i + 1) w) := by
  have h0 := h
  obtain ⟨Z1, Z2, T, h1, h2, h3, h4, h5, h6⟩ := h
  obtain ⟨Y, z, rfl⟩ : ∃ Y z, Z1 = Y ++ [z] := ⟨Z1.dropLast, Z1.getLast (by intro hn; subst hn; simp at h5; omega), (List.dropLast_concat_getLast _).symm⟩
  simp only [List.length_append, List.length_cons, List.length_nil] at h5 h6
  have e1 : P ++ (Y ++ [z] ++ (x :: (Z2 ++ (T ++ S)))) = (P ++ Y ++ [z]) ++ x :: (Z2 ++ (T ++ S)) := by simp
  have e2 : P ++ (Y ++ [z] ++ (x :: (Z2 ++ (T ++ S)))) = (P ++ Y) ++ z :: (x :: (Z2 ++ (T ++ S))) := by simp
  have c1 := cell_list (e1 ▸ h1) j (by simp; omega)
  have c2 := cell_list (e2 ▸ h1) (j - 1) (by simp; omega)
  refine ⟨z, h4.mem (by simp), c1, c2, ?_, ?_⟩
  · intro hlt
    obtain ⟨s1, s2⟩ := swap_list (e2 ▸ h1) j (j - 1) (by simp; omega) (by simp; omega)
    refine ⟨⟨Y, z :: Z2, T, by simpa using s1, by simpa using h2, ?_, ?_, by omega, by simp; omega⟩, s2⟩
    · intro y hy
      rcases List.mem_cons.1 hy with rfl | hy
      · exact hlt
      · exact h3 y hy
    · refine Eqv.trans ?_ h4
      have : Eqv ([x] ++ [z]) ([z] ++ [x]) := Eqv.swap (fun a ha b hb => by simp at ha hb; subst ha; subst hb; omega)
      have := (Eqv.refl Y).app (this.app (Eqv.refl (Z2 ++ T)))
      simpa using this
  · intro hle
    refine leave_aux (Y ++ [z]) Z2 T h1 h2 h3 h4 (by simp; omega) ?_
    intro y hy
    obtain ⟨q1, q2, q3⟩ := h2.parts
    obtain ⟨p1, p2, p3⟩ := q1.parts
    rcases List.mem_append.1 hy with hy | hy
    · exact Nat.le_trans (p3 y hy z (by simp)) hle
    · simp at hy; subst hy; exact hle
/-- what a comparator says -/
theorem cmpZ_lt (a b : Nat) : cmpZ (a : Int) (b : Int) < 0 ↔ a < b := by
  unfold cmpZ
  split
  · omega
  · split <;> omega
/-- two elements of the row as a comparator's test reads them, in whatever world behind w -/
theorem peek_keep {w y y' : World} {blk i j : Nat} {x z : KK} (hB : blk < w.heap.size)
    (h : y.cell? ⟨blk, i * 2, none⟩ = some (.string x.1) ∧ y.cell? ⟨blk, i * 2 + 1, none⟩ = some (.int .i64 x.2) ∧ y.cell? ⟨blk, j * 2, none⟩ = some (.string z.1) ∧ y.cell? ⟨blk, j * 2 + 1, none⟩ = some (.int .i64 z.2) ∧ Below w.heap.size w y) (hb : Below y.heap.size y y') :
    y'.cell? ⟨blk, i * 2, none⟩ = some (.string x.1) ∧ y'.cell? ⟨blk, i * 2 + 1, none⟩ = some (.int .i64 x.2) ∧ y'.cell? ⟨blk, j * 2, none⟩ = some (.string z.1) ∧ y'.cell? ⟨blk, j * 2 + 1, none⟩ = some (.int .i64 z.2) ∧ Below w.heap.size w y' := by
  obtain ⟨h1, h2, h3, h4, h5⟩ := h
  have hlt : blk < y.heap.size := Nat.lt_of_lt_of_le hB h5.size
  refine ⟨?_, ?_, ?_, ?_, below_after h5 hb⟩
  · rw [hb.cell (p := ⟨blk, i * 2, none⟩) hlt]; exact h1
  · rw [hb.cell (p := ⟨blk, i * 2 + 1, none⟩) hlt]; exact h2
  · rw [hb.cell (p := ⟨blk, j * 2, none⟩) hlt]; exact h3
  · rw [hb.cell (p := ⟨blk, j * 2 + 1, none⟩) hlt]; exact h4
/-- what the test in the inner loop sees, in numbers alone -/
theorem ins_facts (blk : Nat) (P R S : List KK) (len a b : Nat) (hlen : len = (P ++ (R ++ S)).length) (ha : a = P.length) (hb : b = a + R.length) (hsm : Small R) :
    b ≤ len ∧ (∀ i wr, InsO blk P R S i wr → i ≤ b) ∧ (∀ i wr, InsO blk P R S i wr → i < b → ∃ x, x.1.size ≤ 1099511627776 ∧ InsI blk P R S x i i wr) ∧
    (∀ x i j wr, InsI blk P R S x i j wr → a ≤ j ∧ j ≤ i ∧ i < b ∧ blk < wr.heap.size) ∧ (∀ x i wr, InsI blk P R S x i a wr → ∀ y, Below wr.heap.size wr y → InsO blk P R S (i + 1) y) ∧
    (∀ x i j wr, InsI blk P R S x i (j + 1) wr → a < j + 1 → ∃ z : KK, z.1.size ≤ 1099511627776 ∧
      (wr.cell? ⟨blk, (j + 1) * 2, none⟩ = some (.string x.1) ∧ wr.cell? ⟨blk, (j + 1) * 2 + 1, none⟩ = some (.int .i64 x.2) ∧ wr.frozen? ⟨blk, (j + 1) * 2, none⟩ = false ∧ wr.frozen? ⟨blk, (j + 1) * 2 + 1, none⟩ = false) ∧
      (wr.cell? ⟨blk, j * 2, none⟩ = some (.string z.1) ∧ wr.cell? ⟨blk, j * 2 + 1, none⟩ = some (.int .i64 z.2) ∧ wr.frozen? ⟨blk, j * 2, none⟩ = false ∧ wr.frozen? ⟨blk, j * 2 + 1, none⟩ = false) ∧
      (rk x < rk z → ∀ y, Below wr.heap.size wr y → InsI blk P R S x i j (swW y blk (j + 1) j z x) ∧ Fr blk y (swW y blk (j + 1) j z x)) ∧
      (rk z ≤ rk x → ∀ y, Below wr.heap.size wr y → InsO blk P R S (i + 1) y)) ∧
    (∀ wr, InsO blk P R S b wr → ∃ Z, RowL wr blk (P ++ (Z ++ S)) ∧ Srt Z ∧ Eqv Z R) := by
  have keepI : ∀ x i j wr y, InsI blk P R S x i j wr → Below wr.heap.size wr y → InsI blk P R S x i j y := by
    rintro x i j wr y ⟨Z1, Z2, T, h1, h2⟩ hb
    exact ⟨Z1, Z2, T, RowK.keep h1 hb, h2⟩
  refine ⟨by simp at hlen; omega, ?_, ?_, ?_, ?_, ?_, ?_⟩
  · intro i wr h; have := h.bound; omega
  · intro i wr h hi
    obtain ⟨x, hx, hI⟩ := h.enter (by omega)
    exact ⟨x, hsm x hx, hI⟩
  · intro x i j wr h
    have h1 := h.bound
    have h2 := h.lt
    omega
  · intro x i wr h y hy
    rw [ha] at h
    exact (keepI _ _ _ _ _ h hy).leave0
  · intro x i j wr h hj
    obtain ⟨z, hz, hc1, hc2, hsw, hstop⟩ := h.see (by omega)
    simp only [Nat.add_sub_cancel] at hc2
    refine ⟨z, hsm z hz, hc1, hc2, ?_, ?_⟩
    · intro hlt y hy
      obtain ⟨z', hz', d1, d2, dsw, dstop⟩ := (keepI _ _ _ _ _ h hy).see (by omega)
      simp only [Nat.add_sub_cancel] at d2 dsw
      have e1 : z' = z := by
        have k1 := d2.1
        have k2 := d2.2.1
        have hB := h.lt
        rw [hy.cell (p := ⟨blk, j * 2, none⟩) hB, hc2.1] at k1
        rw [hy.cell (p := ⟨blk, j * 2 + 1, none⟩) hB, hc2.2.1] at k2
        injection k1 with k1; injection k1 with k1
        injection k2 with k2; injection k2 with k2 k3
        exact Prod.ext k1.symm k3.symm
      rw [e1] at dsw
      exact dsw hlt
    · intro hle y hy
      obtain ⟨z', hz', d1, d2, dsw, dstop⟩ := (keepI _ _ _ _ _ h hy).see (by omega)
      simp only [Nat.add_sub_cancel] at d2 dsw
      have e1 : z' = z := by
        have k1 := d2.1
        have k2 := d2.2.1
        have hB := h.lt
        rw [hy.cell (p := ⟨blk, j * 2, none⟩) hB, hc2.1] at k1
        rw [hy.cell (p := ⟨blk, j * 2 + 1, none⟩) hB, hc2.2.1] at k2
        injection k1 with k1; injection k1 with k1
        injection k2 with k2; injection k2 with k2 k3
        exact Prod.ext k1.symm k3.symm
      rw [e1] at dstop
      exact dstop hle
  · rintro wr ⟨Z, T, h1, h2, h3, h4⟩
    have := h3.len
    simp at this
    have hT : T = [] := List.length_eq_zero_iff.1 (by omega)
    subst hT
    exact ⟨Z, by simpa using h1, h2, by simpa using h3⟩
theorem c_ins (blk cap : Nat) (P R S : List KK) (len a b : Nat) (hlen : len = (P ++ (R ++ S)).length) (ha : a = P.length) (hb : b = a + R.length) (hsm : Small R) (hsz : len ≤ 1099511627776) (w : World) (h : RowL w blk (P ++ (R ++ S))) :
    Calls Tryz.prog 165 #[.slice (some ⟨blk, 0, none⟩) len cap, .int .i64 (a : Int), .int .i64 (b : Int), .func (.func 104) #[] #[]] w fun e w' => e = .returned (.tuple #[]) ∧ (∃ Z, RowL w' blk (P ++ (Z ++ S)) ∧ Srt Z ∧ Eqv Z R) ∧ Fr blk w w' := by
  obtain ⟨hbl, f1, f2, f3, f4, f5, hfin⟩ := ins_facts blk P R S len a b hlen ha hb hsm
  have hR0 : R = [] ∨ InsO blk P R S (a + 1) w := by
    cases R with
    | nil => exact .inl rfl
    | cons x R => exact .inr ⟨[x], R, by simpa using h, Srt.one x, Eqv.refl _, by simp; omega⟩
  rcases hR0 with rfl | hO
  · obtain rfl : b = a := by simpa using hb
    clear ha hlen hb f1 f2 f3 f4 f5 hfin
    go_enter Tryz.func165, Tryz.ntmps165
    go_wp2
    go_loopw [8] (fun vi wr => vi = .int .i64 ((b : Int) + 1) ∧ wr = w) (fun _ _ => 0)
    case atStart => exact ⟨rfl, rfl⟩
    case round =>
      obtain ⟨rfl, rfl⟩ := hrel
      go_wp2
      go_end0
      exact ⟨rfl, ⟨[], h, List.Pairwise.nil, Eqv.refl _⟩, Fr.refl _ _⟩
  · clear h ha hlen hb hsm
    replace f1 := Lib.hid f1
    replace f2 := Lib.hid f2
    replace f3 := Lib.hid f3
    replace f4 := Lib.hid f4
    replace f5 := Lib.hid f5
    replace hfin := Lib.hid hfin
    generalize hIO : InsO blk P R S = IO at *
    generalize hII : InsI blk P R S = II at *
    clear hIO hII
    have hab := f1.out _ _ hO
    go_enter Tryz.func165, Tryz.ntmps165
    go_wp2
    go_loopw [8] (fun vi wr => ∃ i : Nat, vi = .int .i64 (i : Int) ∧ IO i wr ∧ a < i ∧ Fr blk w wr) (fun vi _ => b + 1 - (intOf vi).toNat)
    case atStart => exact ⟨a + 1, by go_num, hO, by omega, Fr.refl _ _⟩
    case round =>
      obtain ⟨i, rfl, hI, hai, hfr⟩ := hrel
      have hbi := f1.out _ _ hI
      rcases Nat.lt_or_ge i b with hlt | hge
      · obtain ⟨x, hxs, hin⟩ := f2.out _ _ hI hlt
        clear hI hO hab
        go_wp2
        go_loopw [9] (fun vj wr2 => ∃ j : Nat, vj = .int .i64 (j : Int) ∧ II x i j wr2 ∧ Fr blk w wr2) (fun vj _ => (intOf vj).toNat)
        case atStart => exact ⟨i, rfl, hin, hfr⟩
        case round =>
          obtain ⟨j, rfl, hJ, hfr2⟩ := hrel
          obtain ⟨g1, g2, g3, hB⟩ := f3.out _ _ _ _ hJ
          clear hin hfr
          rcases Nat.lt_or_ge a j with haj | haj
          · obtain ⟨jp, rfl⟩ : ∃ jp, j = jp + 1 := ⟨j - 1, by omega⟩
            obtain ⟨z, hzs, hc1, hc2, hsw, hstop⟩ := f5.out _ _ _ _ hJ haj
            have hS0 : wr.drew.cell? ⟨blk, (jp + 1) * 2, none⟩ = some (.string x.1) ∧ wr.drew.cell? ⟨blk, (jp + 1) * 2 + 1, none⟩ = some (.int .i64 x.2) ∧ wr.drew.cell? ⟨blk, jp * 2, none⟩ = some (.string z.1) ∧ wr.drew.cell? ⟨blk, jp * 2 + 1, none⟩ = some (.int .i64 z.2) ∧ Below wr.heap.size wr wr.drew := ⟨hc1.1, hc1.2.1, hc2.1, hc2.2.1, (Below.refl _ _).drew⟩
            have hO := fun y => Lib.hid (c_OrderF x.1 z.1 x.2 z.2 hxs hzs y)
            unfold keyV at hO
            have hlt2 := cmpZ_lt (rankK x.1 x.2) (rankK z.1 z.2)
            generalize hR : cmpZ (rankK x.1 x.2) (rankK z.1 z.2) = Rz at hO hlt2
            replace hsw := Lib.hid hsw
            replace hstop := Lib.hid hstop
            have hfz := Lib.hid (And.intro hc1.2.2 hc2.2.2)
            clear hJ hR hc1 hc2
            have haj' : (a : Int) < (jp : Int) + 1 := by omega
            have hw1 : IntKind.i64.wrap (jp : Int) = (jp : Int) := by rw [IntKind.wrap_i64]; omega
            have hp0 : (0 : Int) ≤ (jp : Int) + 1 := by omega
            have he0 : ((jp : Int) + 1).toNat = jp + 1 := by omega
            have hjl : (jp : Int) + 1 < (len : Int) := by omega
            have hjl' : (jp : Int) < (len : Int) := by omega
            by_cases hlv : Rz < 0
            · have hlv' := Lib.hid (hlt2.1 hlv)
              clear hlt2
              go_wp2_with fail
              go_region_held3 (fun y => y.cell? ⟨blk, (jp + 1) * 2, none⟩ = some (.string x.1) ∧ y.cell? ⟨blk, (jp + 1) * 2 + 1, none⟩ = some (.int .i64 x.2) ∧ y.cell? ⟨blk, jp * 2, none⟩ = some (.string z.1) ∧ y.cell? ⟨blk, jp * 2 + 1, none⟩ = some (.int .i64 z.2) ∧ Below wr.heap.size wr y) (first | assumption | exact peek_keep hB (by assumption) (by assumption)) (first | (go_at_call 104; refine (hO _).out.mono ?_; rintro e y' ⟨rfl, hb⟩))
              obtain ⟨d1, d2, d3, d4, hbel⟩ := peek_keep hB hS0 hb
              obtain ⟨s1, s2⟩ := hsw.out hlv'.out y' hbel
              have z1 : y'.frozen? ⟨blk, (jp + 1) * 2, none⟩ = false := by rw [hbel.frozen (p := ⟨blk, (jp + 1) * 2, none⟩) hB]; exact hfz.out.1.1
              have z2 : y'.frozen? ⟨blk, (jp + 1) * 2 + 1, none⟩ = false := by rw [hbel.frozen (p := ⟨blk, (jp + 1) * 2 + 1, none⟩) hB]; exact hfz.out.1.2
              have z3 : y'.frozen? ⟨blk, jp * 2, none⟩ = false := by rw [hbel.frozen (p := ⟨blk, jp * 2, none⟩) hB]; exact hfz.out.2.1
              have z4 : y'.frozen? ⟨blk, jp * 2 + 1, none⟩ = false := by rw [hbel.frozen (p := ⟨blk, jp * 2 + 1, none⟩) hB]; exact hfz.out.2.2
              replace s1 := Lib.hid s1
              replace s2 := Lib.hid s2
              have hfr3 : Fr blk w y' := hfr2.trans (Fr.below hbel)
              have mixed : Tryz.prog.follows Departure.mixedOrders = true := by kernel_rfl
              have n1 : ¬ (jp + 1) * 2 = jp * 2 := by omega
              have n2 : ¬ (jp + 1) * 2 = jp * 2 + 1 := by omega
              have n3 : ¬ (jp + 1) * 2 + 1 = jp * 2 := by omega
              clear hS0 hb hbel hB
              go_wp2
              go_big_region_o
              all_goals go_wp2
              go_roundw
              case rel => exact ⟨jp, by go_num, s1.out, hfr3.trans s2.out⟩
              case measure => simp [intOf]
            · have hle : rk z ≤ rk x := Nat.le_of_not_lt (fun h => hlv (hlt2.2 h))
              have hle := Lib.hid hle
              have hlv2 : (0 : Int) ≤ Rz := by omega
              clear hlt2
              go_wp2_with fail
              go_region_held3 (fun y => y.cell? ⟨blk, (jp + 1) * 2, none⟩ = some (.string x.1) ∧ y.cell? ⟨blk, (jp + 1) * 2 + 1, none⟩ = some (.int .i64 x.2) ∧ y.cell? ⟨blk, jp * 2, none⟩ = some (.string z.1) ∧ y.cell? ⟨blk, jp * 2 + 1, none⟩ = some (.int .i64 z.2) ∧ Below wr.heap.size wr y) (first | assumption | exact peek_keep hB (by assumption) (by assumption)) (first | (go_at_call 104; refine (hO _).out.mono ?_; rintro e y' ⟨rfl, hb⟩))
              obtain ⟨d1, d2, d3, d4, hbel⟩ := peek_keep hB hS0 hb
              have s1 := Lib.hid (hstop.out hle.out y' hbel)
              have hfr3 : Fr blk w y' := hfr2.trans (Fr.below hbel)
              clear hS0 hb hbel hB d1 d2 d3 d4
              go_wp2
              go_roundw
              case rel => exact ⟨i + 1, by go_num, s1.out, by omega, hfr3⟩
              case measure => simp [intOf]; omega
          · obtain rfl : j = a := by omega
            have s1 := Lib.hid (f4.out _ _ _ hJ)
            have hb2 := fun nq => Lib.hid (bel_drewN (Below.refl wr.heap.size wr) nq)
            have mixed : Tryz.prog.follows Departure.mixedOrders = true := by kernel_rfl
            clear hJ
            go_wp2
            go_quiet (fail)
            go_wp2
            go_roundw
            case rel => exact ⟨i + 1, by go_num, s1.out _ (hb2 _).out, by omega, hfr2.trans (Fr.below (hb2 _).out)⟩
            case measure => simp [intOf]; omega
      · have hib : i = b := by omega
        subst hib
        go_wp2
        go_end0
        exact ⟨rfl, hfin.out _ hI, hfr⟩
end Go.Proofs.YtkbohoolnpaleaaGreatDoor

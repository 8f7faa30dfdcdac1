/-
  Contracts: Contract of the reference Units: the units of a text. Condition: the text is shorter than 2^40 bytes. Contracts of the program's even, unit, Len, Units. Condition: the text is shorter than 2^40 bytes. Contract of the program's Units. Condition: the text is shorter than 2^40 bytes. Contract of the reference Compare: how two lists of units compare. Condition: the texts are shorter than 2^40 bytes. Contracts of cmp.Compare at its three types, of the program's units.Compare, of Same and of both Compares of keys. Contracts of the reference Same and of both Compares of keys. Contracts of both Index functions of keys: the number that a text is. Contracts of keys.sort, cmp.Or at ints, and the function that Order hands to slices.SortStableFunc. The row that the sort turns: what stands in it, what is left alone; the contract of slices.swapRangeCmpFunc. The contract of slices.rotateCmpFunc: two neighbouring runs change places.
-/
import Derived.Test.YtoccmiinkfhohaaGreatRows
import Derived.WalkKit
import Derived.WalkSpells
import Derived.WalkLawsBesides
import Derived.Deep.QuietTactic
import Derived.BigQuiet
import Derived.Deep.RegionHeld3
import Derived.Deep.AppendLies
import Derived.Lib.Hide
import Derived.Shelf.SlicesQ.Reverse
import Derived.Shelf.SlSortFuncK.RowK2
import Derived.Shelf.RegionOpenPlain
import Derived.BigRegion
namespace Go.Proofs.YtoccmiinkfhohaaGreat
open Go.RowKit
set_option maxHeartbeats 400000
set_option maxRecDepth 100000

/-- the units of a text -/
def ub (s : ByteArray) (i : Nat) : Nat := (s.data.toList.getD i 0).toNat
def unitAt (s : ByteArray) (k : Nat) : Nat := ub s (2 * k) * 256 + ub s (2 * k + 1)
def unitsN (s : ByteArray) : Nat → List Nat
  | 0 => []
  | k + 1 => unitsN s k ++ [unitAt s k]
def u16s (l : List Nat) : List Value := l.map fun n : Nat => .int .u16 (n : Int)
theorem own_base {w : World} {base : Nat} {e : TypeId} {size : Nat} {v : Value} {n : Nat} {xs : List Value} (h : w.ownsRow base e size v n xs) : ∀ k, v.ownBlock = some k → base ≤ k := by
  intro k hk
  rcases h.2 with ⟨rfl, _⟩ | ⟨g, cap, cur, rfl, hb, _⟩
  · cases hk
  · cases hk; exact hb
theorem infoU16 : (Tryz.prog.info? 142).map (fun i => (i.zero, i.size, i.bytes)) = some (some (.int .u16 0), 1, 2) := by kernel_rfl

theorem ub_get (s : ByteArray) (i : Nat) (h : i < s.size) : ub s i = s[i].toNat := by
  unfold ub
  have h' : i < s.data.toList.length := by simpa using h
  rw [List.getD_eq_getElem?_getD, List.getElem?_eq_getElem h']; rfl
theorem unit_val (s : ByteArray) (k : Nat) (i j : Int) (hi : i = 2 * (k : Int)) (hj : j = 2 * (k : Int) + 1) (h1 : i.toNat < s.size) (h2 : j.toNat < s.size) :
    IntKind.u16.wrap (IntKind.u16.wrap (IntKind.u16.wrap (s[i.toNat].toNat : Int) * 256) + IntKind.u16.wrap (s[j.toNat].toNat : Int)) = (unitAt s k : Int) := by
  have e1 : i.toNat = 2 * k := by omega
  have e2 : j.toNat = 2 * k + 1 := by omega
  have a1 := ub_get s i.toNat h1
  have a2 := ub_get s j.toNat h2
  have b1 : s[i.toNat].toNat < 256 := s[i.toNat].toNat_lt
  have b2 : s[j.toNat].toNat < 256 := s[j.toNat].toNat_lt
  unfold unitAt
  rw [← a1, ← a2, e1, e2]
  rw [← a1, e1] at b1
  rw [← a2, e2] at b2
  generalize ub s (2 * k) = x at *
  generalize ub s (2 * k + 1) = y at *
  simp only [IntKind.wrap_u16]
  omega
theorem c_UnitsR (s : ByteArray) (hs : s.size ≤ 1099511627776) (w : World) :
    Calls Tryz.prog 67 #[.string s] w fun e w' => ∃ v, e = .returned v ∧ w'.ownsRow w.heap.size 142 1 v (s.size / 2) (u16s (unitsN s (s.size / 2))) ∧ Below w.heap.size w w' := by
  obtain ⟨i0, hi0, hz0, hz1, hz2⟩ := info_parts infoU16
  go_enter Tryz.func67, Tryz.ntmps67
  go_wp2
  go_loopw [3, 4] (fun v i wr => ∃ k : Nat, k ≤ s.size / 2 ∧ i = .int .i64 ((2 * k : Nat) : Int) ∧ wr.ownsRow w.heap.size 142 1 v k (u16s (unitsN s k)) ∧ Below w.heap.size w wr) (fun _ i _ => s.size - (intOf i).toNat)
  case atStart => exact ⟨0, by omega, rfl, World.ownsRow_nil _ _ _ _, Below.refl _ _⟩
  case round =>
    obtain ⟨k, hk, rfl, hown, hbel⟩ := hrel
    rcases Nat.lt_or_ge (2 * k + 1) s.size with hlt | hge
    · go_wp2
      have hi0' : (0 : Int) ≤ ((2 * k : Nat) : Int) := Int.natCast_nonneg _
      have hi1 : ((2 * k : Nat) : Int) < (s.size : Int) := by omega
      have hk0 : (0 : Int) ≤ 2 * (k : Int) + 1 := by omega
      have hk1 : 2 * (k : Int) + 1 < (s.size : Int) := by omega
      have hsum : IntKind.i64.wrap (2 * (k : Int) + 1) = 2 * (k : Int) + 1 := IntWalk.i64_in _ (by omega)
      have hsz := hbel.size
      have hval := unit_val s k (2 * (k : Int)) (2 * (k : Int) + 1) rfl rfl (by omega) (by omega)
      go_region_held3 (fun _ => True) (first | trivial | go_keep) ((refine step_append_lies _ (by rfl) _ _ _ (by rfl) w.heap.size 142 i0 _ 1 2 Tryz.underlying140 hi0 hz0 hz1 hz2 rfl (by omega) u3 k (u16s (unitsN s k)) (by rfl) ((hown.alloc _).drew) ⟨wr.heap.size, 0, none⟩ 1 1 [.int .u16 (unitAt s k)] (by rfl) (by rfl) (World.news_of_block (cs := #[.int .u16 (unitAt s k)]) (t := 142) (fr := (0, 0)) (by exact heap_alloc_new wr _)) (by simp [Value.oneCell']) (by omega) (by unfold maxLen; omega) (by omega) (by simp; omega) (wr.heap.size + 1) (by simp) ?_; intro gg cap w1 hown1 hgrow hat hlt))
      all_goals
        have hown2 : w1.ownsRow w.heap.size 142 1 (Value.slice (some ⟨gg, 0, none⟩) (k + 1) cap) (k + 1) (u16s (unitsN s (k + 1))) := by
          have e : u16s (unitsN s (k + 1)) = u16s (unitsN s k) ++ [Value.int IntKind.u16 (unitAt s k)] := by simp [u16s, unitsN]
          rw [e]; exact hown1
        have hbel2 : Below w.heap.size w w1 := ((hbel.alloc hsz _).drew).grown hgrow (by simp; omega) (own_base hown)
        clear hown1 hgrow hval hsum
        go_wp2
        go_roundw
        case rel => exact ⟨k + 1, by omega, by go_num, hown2, hbel2⟩
        case measure => simp [intOf]; omega
    · have hk2 : k = s.size / 2 := by omega
      go_wp2
      go_ret
      exact ⟨_, rfl, by rw [← hk2]; exact hown, hbel⟩
end Go.Proofs.YtoccmiinkfhohaaGreat
namespace Go.Proofs.YtoccmiinkfhohaaGreat
open Go.RowKit
set_option maxHeartbeats 400000
set_option maxRecDepth 100000

/-- a text without an odd byte -/
def evenB (s : ByteArray) : ByteArray := s.extract 0 (s.size / 2 * 2)
theorem evenB_size (s : ByteArray) : (evenB s).size = s.size / 2 * 2 := by unfold evenB; rw [ByteArray.size_extract]; omega
theorem and_not1 (n : Nat) (h : n < 9223372036854775808) : bits BinOp.andNot IntKind.i64 (n : Int) 1 = ((n / 2 * 2 : Nat) : Int) := by
  have key : (BitVec.ofInt 64 (n : Int) &&& ~~~ BitVec.ofInt 64 1).toNat = n / 2 * 2 := by
    rw [BitVec.toNat_and, ofInt_u64 n (by omega)]
    have : (~~~ BitVec.ofInt 64 1).toNat = 18446744073709551614 := by decide
    rw [this]
    have e : n &&& 18446744073709551614 = n / 2 * 2 := by
      have h1 : n = n / 2 * 2 + n % 2 := by omega
      apply Nat.eq_of_testBit_eq
      intro i
      rw [Nat.testBit_and]
      cases i with
      | zero => simp [Nat.testBit_zero]
      | succ j =>
        rw [Nat.testBit_succ, Nat.testBit_succ]
        have h2 : n / 2 * 2 / 2 = n / 2 := by omega
        rw [Nat.testBit_succ, h2]
        have h3 : (18446744073709551614 : Nat) / 2 = 2 ^ 63 - 1 := by decide
        rw [h3, Nat.testBit_two_pow_sub_one]
        by_cases hj : j < 63
        · simp [hj]
        · have : (n / 2).testBit j = false := Nat.testBit_lt_two_pow (Nat.lt_of_lt_of_le (by omega : n / 2 < 2 ^ 63) (Nat.pow_le_pow_right (by decide) (by omega)))
          rw [this]; simp
    exact e
  show IntKind.i64.wrap ((BitVec.ofInt 64 (n : Int) &&& ~~~ BitVec.ofInt 64 1).toNat : Nat) = _
  rw [key, IntKind.wrap_i64]
  omega

theorem c_even (s : ByteArray) (hs : s.size ≤ 1099511627776) (w : World) :
    Calls Tryz.prog 88 #[.string s] w fun e w' => e = .returned (.string (evenB s)) ∧ w = w' := by
  have h := and_not1 s.size (by omega)
  have h1 : s.size / 2 * 2 ≤ s.size := by omega
  unfold evenB
  generalize s.size / 2 * 2 = n at *
  go_enter Tryz.func88, Tryz.ntmps88
  go_wp2
  go_ret
  exact ⟨rfl, rfl⟩
theorem c_ULen (s : ByteArray) (hs : s.size ≤ 1099511627776) (w : World) :
    Calls Tryz.prog 72 #[.string s] w fun e w' => e = .returned (.int .i64 ((s.size / 2 : Nat) : Int)) ∧ w = w' := by
  go_enter Tryz.func72, Tryz.ntmps72
  go_wp2
  go_ret
  exact ⟨rfl, rfl⟩
theorem unit_or (s : ByteArray) (k : Nat) (i j : Int) (hi : i = 2 * (k : Int)) (hj : j = 2 * (k : Int) + 1) (h1 : i.toNat < s.size) (h2 : j.toNat < s.size) :
    bits BinOp.or IntKind.u16 (IntKind.u16.wrap (IntKind.u16.wrap (s[i.toNat].toNat : Int) * 256)) (IntKind.u16.wrap (s[j.toNat].toNat : Int)) = (unitAt s k : Int) := by
  have e1 : i.toNat = 2 * k := by omega
  have e2 : j.toNat = 2 * k + 1 := by omega
  have a1 := ub_get s i.toNat h1
  have a2 := ub_get s j.toNat h2
  have b1 : s[i.toNat].toNat < 256 := s[i.toNat].toNat_lt
  have b2 : s[j.toNat].toNat < 256 := s[j.toNat].toNat_lt
  unfold unitAt
  rw [← a1, ← a2, e1, e2]
  rw [← a1, e1] at b1
  rw [← a2, e2] at b2
  generalize ub s (2 * k) = x at *
  generalize ub s (2 * k + 1) = y at *
  have w1 : IntKind.u16.wrap (IntKind.u16.wrap (x : Int) * 256) = ((x * 256 : Nat) : Int) := by simp only [IntKind.wrap_u16]; omega
  have w2 : IntKind.u16.wrap (y : Int) = (y : Int) := by simp only [IntKind.wrap_u16]; omega
  rw [w1, w2, u16_or_nat _ _ (by omega) (by omega), nat_join 8 _ _ (by omega) (by omega)]
theorem ret_int {k : IntKind} {a b : Int} (h : a = b) : Ending.returned (.int k a) = .returned (.int k b) := by rw [h]
theorem c_unit (s : ByteArray) (k : Nat) (hs : s.size ≤ 1099511627776) (hk : 2 * k + 1 < s.size) (w : World) :
    Calls Tryz.prog 89 #[.string s, .int .i64 (k : Int)] w fun e w' => e = .returned (.int .u16 (unitAt s k)) ∧ ∃ nq, w' = w.drewN nq := by
  have h0 : (0 : Int) ≤ 2 * (k : Int) := by omega
  have h1 : 2 * (k : Int) < (s.size : Int) := by omega
  have h2 : (0 : Int) ≤ 2 * (k : Int) + 1 := by omega
  have h3 : 2 * (k : Int) + 1 < (s.size : Int) := by omega
  have s1 : IntKind.i64.wrap (2 * (k : Int)) = 2 * (k : Int) := IntWalk.i64_in _ (by omega)
  have s2 : IntKind.i64.wrap (2 * (k : Int) + 1) = 2 * (k : Int) + 1 := IntWalk.i64_in _ (by omega)
  have hval := unit_or s k (2 * (k : Int)) (2 * (k : Int) + 1) rfl rfl (by omega) (by omega)
  go_enter Tryz.func89, Tryz.ntmps89
  go_wp2
  go_quiet (fail)
  go_wp2
  go_ret
  exact ⟨ret_int hval, _, rfl⟩
end Go.Proofs.YtoccmiinkfhohaaGreat
namespace Go.Proofs.YtoccmiinkfhohaaGreat
open Go.RowKit
set_option maxHeartbeats 400000
set_option maxRecDepth 100000

theorem bel_drewN {B : Nat} {a w : World} (h : Below B a w) (n : Nat) : Below B a (w.drewN n) := h.trans ⟨rfl, rfl, rfl, Nat.le_refl _, fun _ _ => rfl⟩
theorem own_drewN {w : World} {B e size n : Nat} {v : Value} {xs : List Value} (h : w.ownsRow B e size v n xs) (q : Nat) : (w.drewN q).ownsRow B e size v n xs := h
theorem u16s_snoc (s : ByteArray) (k : Nat) : u16s (unitsN s (k + 1)) = u16s (unitsN s k) ++ [Value.int IntKind.u16 (unitAt s k)] := by simp [u16s, unitsN]
theorem unitAt_even (s : ByteArray) (k : Nat) (h : k < s.size / 2) : unitAt (evenB s) k = unitAt s k := by
  have hs := evenB_size s
  have key : ∀ i, i < s.size / 2 * 2 → ub (evenB s) i = ub s i := by
    intro i hi
    rw [ub_get _ _ (by omega), ub_get _ _ (by omega)]
    unfold evenB
    rw [ByteArray.getElem_extract]
    congr 2; omega
  unfold unitAt
  rw [key _ (by omega), key _ (by omega)]
theorem unitsN_even (s : ByteArray) (k : Nat) (h : k ≤ s.size / 2) : unitsN (evenB s) k = unitsN s k := by
  induction k with
  | zero => rfl
  | succ k ih => simp only [unitsN]; rw [ih (by omega), unitAt_even s k (by omega)]
theorem c_Units (s : ByteArray) (hs : s.size ≤ 1099511627776) (w : World) :
    Calls Tryz.prog 86 #[.string s] w fun e w' => ∃ v, e = .returned v ∧ w'.ownsRow w.heap.size 142 1 v (s.size / 2) (u16s (unitsN s (s.size / 2))) ∧ Below w.heap.size w w' := by
  obtain ⟨i0, hi0, hz0, hz1, hz2⟩ := info_parts infoU16
  have hE := evenB_size s
  have hU := unitsN_even s (s.size / 2) (Nat.le_refl _)
  rw [← hU]
  have H := Lib.hid (c_even s hs)
  have hm : s.size / 2 ≤ 549755813888 := by omega
  generalize evenB s = E at *
  generalize s.size / 2 = m at *
  have hE1 : E.size ≤ m * 2 := by omega
  have hE2 : m * 2 ≤ E.size := by omega
  clear hE hU
  go_enter Tryz.func86, Tryz.ntmps86
  go_wp2_with (first | (go_at_call 88; refine (H.out _).mono ?_; rintro e w' ⟨rfl, rfl⟩) | (at_make; refine wpList_make_own _ rfl _ _ 140 rfl w.heap.size 142 i0 (.int .u16 0) 1 Tryz.underlying140 hi0 hz0 hz1 _ _ _ m rfl rfl (by omega) (by rw [hz2]; omega) (by unfold maxLen; omega) (Nat.le_refl _) ?_; intro w1 hown1 hgrow1))
  have hbel1 : Below w.heap.size w w1 := (Below.refl _ _).grown hgrow1 (Nat.le_refl _) (fun _ h => by cases h)
  have eE : (E.size : Int) / 2 = (m : Int) := by omega
  rw [eE]
  clear eE hgrow1
  generalize hv0 : Value.slice (some ⟨w.heap.size, 0, none⟩) 0 m = v0 at *
  clear hv0
  go_loopw [4, 5, 15] (fun v _ i wr => ∃ k : Nat, k ≤ m ∧ i = .int .i64 (k : Int) ∧ wr.ownsRow w.heap.size 142 1 v k (u16s (unitsN E k)) ∧ Below w.heap.size w wr) (fun _ _ i _ => m - (intOf i).toNat)
  case atStart => exact ⟨0, by omega, rfl, hown1, hbel1⟩
  case round =>
    obtain ⟨k, hk, rfl, hown, hbel⟩ := hrel
    rcases Nat.lt_or_ge k m with hlt | hge
    · have hsz := hbel.size
      go_wp2_with (first | (go_at_call 89; refine (c_unit E k (by omega) (by omega) _).mono ?_; rintro e w' ⟨rfl, nq, rfl⟩) | (at_builtin; go_loud (refine wpList_append_lies _ (by rfl) _ _ _ (by rfl) w.heap.size 142 i0 _ 1 2 Tryz.underlying140 hi0 hz0 hz1 hz2 rfl (by omega) u4 k (u16s (unitsN E k)) (by rfl) ((own_drewN hown nq).alloc _) ⟨wr.heap.size, 0, none⟩ 1 1 [.int .u16 (unitAt E k)] (by rfl) (by rfl) (World.news_of_block (cs := #[.int .u16 (unitAt E k)]) (t := 142) (fr := (0, 0)) (by exact heap_alloc_new (wr.drewN nq) _)) (by simp [Value.oneCell']) (by omega) (by unfold maxLen; omega) (by omega) (by simp; omega) (wr.heap.size + 1) (by simp) ?_); intro gg cap w2 hown2 hgrow hat hlt2))
      have hown3 : w2.ownsRow w.heap.size 142 1 (Value.slice (some ⟨gg, 0, none⟩) (k + 1) cap) (k + 1) (u16s (unitsN E (k + 1))) := by
        rw [u16s_snoc]; exact hown2
      have hbel2 : Below w.heap.size w w2 := ((bel_drewN hbel nq).alloc hsz _).grown hgrow (by simp; omega) (own_base hown)
      clear hown2 hgrow
      go_roundw
      case rel => exact ⟨k + 1, by omega, by go_num, hown3, hbel2⟩
      case measure => simp [intOf]; omega
    · have hk2 : k = m := by omega
      subst hk2
      go_wp2
      go_ret
      exact ⟨_, rfl, hown, hbel⟩
end Go.Proofs.YtoccmiinkfhohaaGreat
namespace Go.Proofs.YtoccmiinkfhohaaGreat
open Go.RowKit
set_option maxHeartbeats 400000
set_option maxRecDepth 100000

/-- v reads as the row xs; its block is below B -/
def Rd (B : Nat) (w : World) (v : Value) (xs : List Value) : Prop :=
  ∃ b c, v = .slice b xs.length c ∧ ∀ j u, xs[j]? = some u → ∃ g, g < B ∧ b = some ⟨g, 0, none⟩ ∧ xs.length ≤ c ∧ w.cell? ⟨g, j, none⟩ = some u
theorem add_zero_addr (g j : Nat) : (⟨g, 0, none⟩ : Addr).add j = ⟨g, j, none⟩ := by
  unfold Addr.add
  simp
  omega
theorem Rd_own {w : World} {base : Nat} {e : TypeId} {v : Value} {n : Nat} {xs : List Value} (h : w.ownsRow base e 1 v n xs) : Rd w.heap.size w v xs := by
  have hl := h.lt
  have hc := fun g hg => World.ownsRow.cells h (g := g) hg
  rcases h with ⟨hn, ⟨rfl, rfl⟩ | ⟨g, cap, cur, rfl, hb, hh, h1, h2, h3, h4⟩⟩
  · have : xs = [] := List.length_eq_zero_iff.1 (by omega)
    subst this
    exact ⟨none, 0, rfl, fun j u hu => by simp at hu⟩
  · have hn' : n = xs.length := by omega
    subst hn'
    refine ⟨_, cap, rfl, ?_⟩
    intro j u hu
    have := hc g rfl j u hu
    rw [add_zero_addr] at this
    exact ⟨g, (hl g rfl).2, rfl, h1, this⟩
theorem Rd.keep {B B' : Nat} {w w' : World} {v : Value} {xs : List Value} (h : Rd B w v xs) (hb : Below B' w w') (hB : B ≤ B') : Rd B w' v xs := by
  obtain ⟨b, c, h1, h2⟩ := h
  refine ⟨b, c, h1, fun j u hu => ?_⟩
  obtain ⟨g, k1, k2, k3, k4⟩ := h2 j u hu
  exact ⟨g, k1, k2, k3, by rw [hb.cell (p := ⟨g, j, none⟩) (by show g < B'; omega)]; exact k4⟩

/-- how lists of units compare -/
def cmpU : List Nat → List Nat → Int
  | [], [] => 0
  | [], _ :: _ => -1
  | _ :: _, [] => 1
  | x :: xs, y :: ys => if x < y then -1 else if y < x then 1 else cmpU xs ys
theorem cmpU_self (l : List Nat) : cmpU l l = 0 := by induction l with
  | nil => rfl
  | cons x l ih => simp [cmpU, ih]
theorem cmpU_eq {a b : List Nat} (h : cmpU a b = 0) : a = b := by
  induction a generalizing b with
  | nil => cases b with
    | nil => rfl
    | cons y b => simp [cmpU] at h
  | cons x a ih => cases b with
    | nil => simp [cmpU] at h
    | cons y b =>
      simp only [cmpU] at h
      split at h
      · omega
      · split at h
        · omega
        · have : x = y := by omega
          rw [this, ih h]
theorem cmpU_neg (a b : List Nat) : cmpU b a = - cmpU a b := by
  induction a generalizing b with
  | nil => cases b <;> simp [cmpU]
  | cons x a ih => cases b with
    | nil => simp [cmpU]
    | cons y b =>
      simp only [cmpU]
      rcases Nat.lt_trichotomy x y with h | h | h
      · rw [if_neg (by omega), if_pos h, if_pos h]; rfl
      · subst h; simp [ih]
      · rw [if_pos h, if_neg (by omega), if_pos h]
theorem cmpU_cases (a b : List Nat) : cmpU a b = -1 ∨ cmpU a b = 0 ∨ cmpU a b = 1 := by
  induction a generalizing b with
  | nil => cases b <;> simp [cmpU]
  | cons x a ih => cases b with
    | nil => simp [cmpU]
    | cons y b =>
      simp only [cmpU]
      split
      · simp
      · split
        · simp
        · exact ih b
/-- the units of a text -/
def U (s : ByteArray) : List Nat := unitsN s (s.size / 2)
theorem unitsN_len (s : ByteArray) (k : Nat) : (unitsN s k).length = k := by induction k with
  | zero => rfl
  | succ k ih => simp [unitsN, ih]
theorem U_len (s : ByteArray) : (U s).length = s.size / 2 := unitsN_len _ _
theorem u16s_len (l : List Nat) : (u16s l).length = l.length := by simp [u16s]
theorem u16s_get (l : List Nat) (k : Nat) (x : Nat) (h : l[k]? = some x) : (u16s l)[k]? = some (.int .u16 (x : Int)) := by simp [u16s, h]
theorem drop_one (l : List Nat) (k : Nat) (h : k < l.length) : ∃ x, l[k]? = some x ∧ l.drop k = x :: l.drop (k + 1) := ⟨l[k], List.getElem?_eq_getElem h, List.drop_eq_getElem_cons h⟩

theorem c_CompareR (s t : ByteArray) (hs : s.size ≤ 1099511627776) (ht : t.size ≤ 1099511627776) (w : World) :
    Calls Tryz.prog 52 #[.string s, .string t] w fun e w' => e = .returned (.int .i64 (cmpU (U s) (U t))) ∧ Below w.heap.size w w' := by
  have H1 := Lib.hid (c_UnitsR s hs w)
  have H2 := fun w1 => Lib.hid (c_UnitsR t ht w1)
  have hls := U_len s
  have hlt := U_len t
  unfold U at *
  generalize unitsN s (s.size / 2) = A at *
  generalize unitsN t (t.size / 2) = B at *
  rw [← hls] at H1
  rw [← hlt] at H2
  have hm1 : A.length ≤ 1099511627776 := by omega
  have hm2 : B.length ≤ 1099511627776 := by omega
  clear hls hlt
  generalize hR : cmpU A B = R
  go_enter Tryz.func52, Tryz.ntmps52
  go_wp2_with fail
  refine H1.out.mono ?_
  rintro e w1 ⟨v1, rfl, hown1, hb1⟩
  have r1 := Lib.hid (Rd_own hown1)
  clear hown1
  go_wp2_with fail
  refine (H2 _).out.mono ?_
  rintro e w2 ⟨v2, rfl, hown2, hb2⟩
  have r2 := Rd_own hown2
  have r1' := r1.out.keep hb2 (Nat.le_refl _)
  have hbel : Below w.heap.size w w2 := hb1.trans (hb2.mono hb1.size)
  have hw12 := hb2.size
  clear hown2 hb1 hb2 r1
  obtain ⟨b1, c1, rfl, q1⟩ := r1'
  obtain ⟨b2, c2, rfl, q2⟩ := r2
  rw [u16s_len, u16s_len] at *
  have q1 := Lib.hid q1
  have q2 := Lib.hid q2
  have hR := Lib.hid hR
  go_wp2
  go_loopw [14, 7] (fun i _ wr => ∃ k : Nat, k ≤ A.length ∧ i = .int .i64 (k : Int) ∧ cmpU (A.drop k) (B.drop k) = R ∧ Below w.heap.size w wr ∧ Below w2.heap.size w2 wr) (fun i _ _ => A.length - (intOf i).toNat)
  case atStart => exact ⟨0, by omega, rfl, hR.out, hbel, Below.refl _ _⟩
  case round =>
    obtain ⟨k, hk, rfl, hcmp, hbel1, hbel2⟩ := hrel
    rcases Nat.lt_or_ge k A.length with hlt | hge
    · obtain ⟨x, hx, hdx⟩ := drop_one A k hlt
      obtain ⟨g1, hg1, rfl, hc1, hcell1⟩ := q1.out k _ (u16s_get A k x hx)
      rw [← hbel2.cell (p := ⟨g1, k, none⟩) (by show g1 < _; omega)] at hcell1
      rcases Nat.lt_or_ge k B.length with hlt2 | hge2
      · obtain ⟨y, hy, hdy⟩ := drop_one B k hlt2
        obtain ⟨g2, hg2, rfl, hc2, hcell2⟩ := q2.out k _ (u16s_get B k y hy)
        rw [← hbel2.cell (p := ⟨g2, k, none⟩) (by show g2 < _; omega)] at hcell2
        rw [hdx, hdy] at hcmp
        simp only [cmpU] at hcmp
        rcases Nat.lt_trichotomy x y with hxy | hxy | hxy
        · rw [if_pos hxy] at hcmp
          have f1 : decide ((x : Int) < (y : Int)) = true := by simp; omega
          clear hR q1 q2
          go_wp2
          go_quiet (fail)
          go_wp2
          go_ret
          exact ⟨ret_int hcmp, bel_drewN hbel1 _⟩
        · subst hxy
          simp only [Nat.lt_irrefl, if_false] at hcmp
          have hcmp := Lib.hid hcmp
          go_wp2
          go_quiet (fail)
          go_wp2
          go_quiet (fail)
          go_wp2
          go_roundw
          case rel => exact ⟨k + 1, by omega, by go_num, hcmp.out, bel_drewN hbel1 _, bel_drewN hbel2 _⟩
          case measure => simp [intOf]; omega
        · rw [if_neg (by omega), if_pos hxy] at hcmp
          go_wp2
          go_quiet (fail)
          go_wp2
          go_quiet (fail)
          go_wp2
          go_ret
          exact ⟨ret_int hcmp, bel_drewN (bel_drewN hbel1 _) _⟩
      · rw [hdx, List.drop_eq_nil_of_le hge2] at hcmp
        simp only [cmpU] at hcmp
        go_wp2
        go_ret
        exact ⟨ret_int hcmp, hbel1⟩
    · have hk2 : k = A.length := by omega
      subst hk2
      rw [List.drop_length] at hcmp
      rcases Nat.lt_or_ge A.length B.length with hlt2 | hge2
      · obtain ⟨y, hy, hdy⟩ := drop_one B _ hlt2
        rw [hdy] at hcmp
        simp only [cmpU] at hcmp
        go_wp2
        go_ret
        exact ⟨ret_int hcmp, hbel1⟩
      · rw [List.drop_eq_nil_of_le hge2] at hcmp
        simp only [cmpU] at hcmp
        go_wp2
        go_ret
        exact ⟨ret_int hcmp, hbel1⟩
end Go.Proofs.YtoccmiinkfhohaaGreat
namespace Go.Proofs.YtoccmiinkfhohaaGreat
open Go.RowKit
set_option maxHeartbeats 400000
set_option maxRecDepth 100000

theorem c_nanInt (s : Int) (w : World) : Calls Tryz.prog 80 #[.int .i64 s] w fun e w' => e = .returned (.bool false) ∧ w = w' := by
  go_enter Tryz.func80, Tryz.ntmps80
  go_wp2
  go_ret
  exact ⟨rfl, rfl⟩
theorem c_nanU32 (s : Int) (w : World) : Calls Tryz.prog 81 #[.int .u32 s] w fun e w' => e = .returned (.bool false) ∧ w = w' := by
  go_enter Tryz.func81, Tryz.ntmps81
  go_wp2
  go_ret
  exact ⟨rfl, rfl⟩
/-- how numbers compare -/
def cmpZ (a b : Int) : Int := if a < b then -1 else if b < a then 1 else 0
theorem c_cmpInt (a b : Int) (w : World) : Calls Tryz.prog 65 #[.int .i64 a, .int .i64 b] w fun e w' => e = .returned (.int .i64 (cmpZ a b)) ∧ w = w' := by
  unfold cmpZ
  rcases Int.lt_trichotomy a b with h | h | h
  · rw [if_pos h]
    have h1 : decide (a < b) = true := by simpa using h
    go_enter Tryz.func65, Tryz.ntmps65
    go_wp2_with (go_at_call 80; refine (c_nanInt _ _).mono ?_; rintro e w' ⟨rfl, rfl⟩)
    go_ret
    exact ⟨rfl, rfl⟩
  · subst h
    rw [if_neg (by omega), if_neg (by omega)]
    go_enter Tryz.func65, Tryz.ntmps65
    go_wp2_with (go_at_call 80; refine (c_nanInt _ _).mono ?_; rintro e w' ⟨rfl, rfl⟩)
    go_ret
    exact ⟨rfl, rfl⟩
  · rw [if_neg (by omega), if_pos h]
    go_enter Tryz.func65, Tryz.ntmps65
    go_wp2_with (go_at_call 80; refine (c_nanInt _ _).mono ?_; rintro e w' ⟨rfl, rfl⟩)
    go_ret
    exact ⟨rfl, rfl⟩
theorem c_cmpU32 (a b : Int) (w : World) : Calls Tryz.prog 66 #[.int .u32 a, .int .u32 b] w fun e w' => e = .returned (.int .i64 (cmpZ a b)) ∧ w = w' := by
  unfold cmpZ
  rcases Int.lt_trichotomy a b with h | h | h
  · rw [if_pos h]
    go_enter Tryz.func66, Tryz.ntmps66
    go_wp2_with (go_at_call 81; refine (c_nanU32 _ _).mono ?_; rintro e w' ⟨rfl, rfl⟩)
    go_ret
    exact ⟨rfl, rfl⟩
  · subst h
    rw [if_neg (by omega), if_neg (by omega)]
    go_enter Tryz.func66, Tryz.ntmps66
    go_wp2_with (go_at_call 81; refine (c_nanU32 _ _).mono ?_; rintro e w' ⟨rfl, rfl⟩)
    go_ret
    exact ⟨rfl, rfl⟩
  · rw [if_neg (by omega), if_pos h]
    go_enter Tryz.func66, Tryz.ntmps66
    go_wp2_with (go_at_call 81; refine (c_nanU32 _ _).mono ?_; rintro e w' ⟨rfl, rfl⟩)
    go_ret
    exact ⟨rfl, rfl⟩

/-- units as bytes -/
def flat : List Nat → List UInt8
  | [] => []
  | x :: l => UInt8.ofNat (x / 256) :: UInt8.ofNat (x % 256) :: flat l
theorem flat_append (a b : List Nat) : flat (a ++ b) = flat a ++ flat b := by induction a with
  | nil => rfl
  | cons x a ih => simp [flat, ih]
theorem ub_lt (s : ByteArray) (i : Nat) : ub s i < 256 := UInt8.toNat_lt _
theorem unitAt_lt (s : ByteArray) (k : Nat) : unitAt s k < 65536 := by have := ub_lt s (2 * k); have := ub_lt s (2 * k + 1); unfold unitAt; omega
theorem flat_take (s : ByteArray) (k : Nat) (h : k ≤ s.size / 2) : s.data.toList.take (2 * k) = flat (unitsN s k) := by
  induction k with
  | zero => rfl
  | succ k ih =>
    have hl : s.data.toList.length = s.size := by simp
    have e : 2 * (k + 1) = (2 * k + 1) + 1 := by omega
    rw [e, List.take_succ_eq_append_getElem (by omega), List.take_succ_eq_append_getElem (by omega), ih (by omega)]
    simp only [unitsN, flat_append, flat, List.append_assoc, List.singleton_append]
    have k1 : ub s (2 * k) = (s.data.toList[2 * k]'(by omega)).toNat := by unfold ub; rw [List.getD_eq_getElem?_getD, List.getElem?_eq_getElem (by omega)]; rfl
    have k2 : ub s (2 * k + 1) = (s.data.toList[2 * k + 1]'(by omega)).toNat := by unfold ub; rw [List.getD_eq_getElem?_getD, List.getElem?_eq_getElem (by omega)]; rfl
    have := ub_lt s (2 * k)
    have := ub_lt s (2 * k + 1)
    have d1 : unitAt s k / 256 = ub s (2 * k) := by unfold unitAt; omega
    have d2 : unitAt s k % 256 = ub s (2 * k + 1) := by unfold unitAt; omega
    rw [d1, d2, k1, k2, UInt8.ofNat_toNat, UInt8.ofNat_toNat]
theorem even_flat (s : ByteArray) : (evenB s).toList = flat (U s) := by
  rw [ByteArray.toList_eq]
  unfold U
  rw [← flat_take s _ (Nat.le_refl _)]
  unfold evenB
  simp [ByteArray.data_extract, Nat.mul_comm]
theorem U_lt (s : ByteArray) : ∀ x ∈ U s, x < 65536 := by
  unfold U
  generalize s.size / 2 = m
  induction m with
  | zero => intro x hx; cases hx
  | succ k ih =>
    intro x hx
    rcases List.mem_append.1 hx with h | h
    · exact ih x h
    · rw [List.mem_singleton] at h; rw [h]; exact unitAt_lt s k
theorem u8_lt (a b : Nat) (ha : a < 256) (hb : b < 256) : (UInt8.ofNat a < UInt8.ofNat b) ↔ a < b := by
  rw [UInt8.lt_iff_toNat_lt, UInt8.toNat_ofNat', UInt8.toNat_ofNat']
  have : a % 2 ^ 8 = a := Nat.mod_eq_of_lt ha
  have : b % 2 ^ 8 = b := Nat.mod_eq_of_lt hb
  omega
theorem u8_eq (a b : Nat) (ha : a < 256) (hb : b < 256) : (UInt8.ofNat a = UInt8.ofNat b) ↔ a = b := by
  rw [← UInt8.toNat_inj, UInt8.toNat_ofNat', UInt8.toNat_ofNat']
  have : a % 2 ^ 8 = a := Nat.mod_eq_of_lt ha
  have : b % 2 ^ 8 = b := Nat.mod_eq_of_lt hb
  omega
theorem flat_less (a b : List Nat) (ha : ∀ x ∈ a, x < 65536) (hb : ∀ x ∈ b, x < 65536) : Op.bytesLess (flat a) (flat b) = decide (cmpU a b = -1) := by
  induction a generalizing b with
  | nil => cases b <;> simp [flat, cmpU, Op.bytesLess]
  | cons x a ih => cases b with
    | nil => simp [flat, cmpU, Op.bytesLess]
    | cons y b =>
      have hx := ha x (List.mem_cons_self ..)
      have hy := hb y (List.mem_cons_self ..)
      have h := ih b (fun z hz => ha z (List.mem_cons_of_mem _ hz)) (fun z hz => hb z (List.mem_cons_of_mem _ hz))
      have hc : cmpU (x :: a) (y :: b) = if x < y then -1 else if y < x then 1 else cmpU a b := rfl
      generalize cmpU (x :: a) (y :: b) = R at *
      simp only [flat, Op.bytesLess, h]
      have l1 := u8_lt (x / 256) (y / 256) (by omega) (by omega)
      have l2 := u8_lt (x % 256) (y % 256) (by omega) (by omega)
      have e1 := u8_eq (x / 256) (y / 256) (by omega) (by omega)
      have e2 := u8_eq (x % 256) (y % 256) (by omega) (by omega)
      apply Bool.eq_iff_iff.2
      simp only [Bool.or_eq_true, Bool.and_eq_true, decide_eq_true_eq, beq_iff_eq, l1, l2, e1, e2]
      rcases Nat.lt_trichotomy x y with g | g | g
      · rw [if_pos g] at hc; rw [hc]; constructor
        · intro _; rfl
        · intro _; omega
      · subst g; simp at hc; rw [hc]; simp
      · rw [if_neg (by omega), if_pos g] at hc; rw [hc]; constructor
        · intro _; omega
        · intro h; omega
theorem flat_inj (a b : List Nat) (ha : ∀ x ∈ a, x < 65536) (hb : ∀ x ∈ b, x < 65536) (h : flat a = flat b) : a = b := by
  induction a generalizing b with
  | nil => cases b with
    | nil => rfl
    | cons y b => simp [flat] at h
  | cons x a ih => cases b with
    | nil => simp [flat] at h
    | cons y b =>
      have hx := ha x (List.mem_cons_self ..)
      have hy := hb y (List.mem_cons_self ..)
      simp only [flat, List.cons.injEq] at h
      have e1 := (u8_eq (x / 256) (y / 256) (by omega) (by omega)).1 h.1
      have e2 := (u8_eq (x % 256) (y % 256) (by omega) (by omega)).1 h.2.1
      have : x = y := by omega
      rw [this, ih b (fun z hz => ha z (List.mem_cons_of_mem _ hz)) (fun z hz => hb z (List.mem_cons_of_mem _ hz)) h.2.2]

end Go.Proofs.YtoccmiinkfhohaaGreat
namespace Go.Proofs.YtoccmiinkfhohaaGreat
open Go.RowKit
set_option maxHeartbeats 400000
set_option maxRecDepth 100000

/-- a key as a value -/
def keyV (s : ByteArray) (n : Int) : Value := .agg #[.string s, .int .i64 n]
/-- keys alike -/
def sameK (s t : ByteArray) (m n : Int) : Bool := if 0 < m ∨ 0 < n then decide (m = n) else decide (cmpU (U s) (U t) = 0)
theorem below_two (w : World) (o p : Obj) : Below w.heap.size w ((w.alloc o).alloc p) := ((Below.refl _ w).alloc (Nat.le_refl _) o).alloc (by simp) p
theorem below_after {w w1 w' : World} (h1 : Below w.heap.size w w1) (h : Below w1.heap.size w1 w') : Below w.heap.size w w' := h1.trans (h.mono h1.size)
theorem ret_bool {a b : Bool} (h : a = b) : Ending.returned (.bool a) = .returned (.bool b) := by rw [h]
theorem c_Same4 (s t : ByteArray) (m n : Int) (hs : s.size ≤ 1099511627776) (ht : t.size ≤ 1099511627776) (w : World) :
    Calls Tryz.prog 20 #[keyV s m, keyV t n] w fun e w' => e = .returned (.bool (sameK s t m n)) ∧ Below w.heap.size w w' := by
  have H := fun w => Lib.hid (c_CompareR s t hs ht w)
  unfold keyV sameK
  generalize cmpU (U s) (U t) = R at *
  have hbb := below_two w
  rcases Int.lt_or_le 0 m with hm | hm
  · rw [if_pos (.inl hm)]
    go_enter Tryz.func20, Tryz.ntmps20
    go_wp2
    go_ret
    exact ⟨ret_bool (by apply Bool.eq_iff_iff.2; simp), hbb _ _⟩
  · have fm : ¬ 0 < m := by omega
    rcases Int.lt_or_le 0 n with hn | hn
    · rw [if_pos (.inr hn)]
      go_enter Tryz.func20, Tryz.ntmps20
      go_wp2
      go_ret
      exact ⟨ret_bool (by apply Bool.eq_iff_iff.2; simp), hbb _ _⟩
    · have fn : ¬ 0 < n := by omega
      rw [if_neg (by omega)]
      go_enter Tryz.func20, Tryz.ntmps20
      go_wp2_with (go_at_call 52; refine (H _).out.mono ?_; rintro e w' ⟨rfl, hb⟩)
      go_ret
      exact ⟨ret_bool (by apply Bool.eq_iff_iff.2; simp), below_after (hbb _ _) hb⟩
/-- how keys compare -/
def cmpK (s t : ByteArray) (m n : Int) : Int :=
  if 0 < m then (if 0 < n then cmpZ m n else 1) else if 0 < n then -1 else cmpU (U s) (U t)
theorem cmpZ_neg (m n : Int) : cmpZ n m = - cmpZ m n := by
  unfold cmpZ
  rcases Int.lt_trichotomy m n with h | h | h
  · rw [if_neg (by omega), if_pos h, if_pos h]; rfl
  · subst h; simp
  · rw [if_pos h, if_neg (by omega), if_pos h]
theorem cmpK_neg (s t : ByteArray) (m n : Int) : cmpK t s n m = - cmpK s t m n := by
  unfold cmpK
  have := cmpZ_neg m n
  have := cmpU_neg (U s) (U t)
  repeat' split
  all_goals first | assumption | omega | rfl
theorem cmpK_zero (s t : ByteArray) (m n : Int) : decide (cmpK s t m n = 0) = sameK s t m n := by
  unfold cmpK sameK cmpZ
  apply Bool.eq_iff_iff.2
  rw [decide_eq_true_eq]
  rcases Int.lt_or_le 0 m with hm | hm
  · have h1 : 0 < m ∨ 0 < n := .inl hm
    simp only [if_pos hm, if_pos h1, decide_eq_true_eq]
    rcases Int.lt_or_le 0 n with hn | hn
    · simp only [if_pos hn]; split
      · omega
      · split <;> omega
    · rw [if_neg (by omega)]; omega
  · have h0 : ¬ 0 < m := by omega
    simp only [if_neg h0]
    rcases Int.lt_or_le 0 n with hn | hn
    · have h1 : 0 < m ∨ 0 < n := .inr hn
      simp only [if_pos hn, if_pos h1, decide_eq_true_eq]; omega
    · have h1 : ¬ (0 < m ∨ 0 < n) := by omega
      have h2 : ¬ 0 < n := by omega
      simp only [if_neg h1, if_neg h2, decide_eq_true_eq]
end Go.Proofs.YtoccmiinkfhohaaGreat
namespace Go.Proofs.YtoccmiinkfhohaaGreat
open Go.RowKit
set_option maxHeartbeats 400000
set_option maxRecDepth 100000

def numU : List Nat → Nat → Option Nat
  | [], a => some a
  | x :: l, a => if x < 48 ∨ 57 < x then none else numU l (10 * a + (x - 48))
/-- the number that a list of units is -/
def idxOf (l : List Nat) : Option Nat :=
  if l.length = 0 ∨ 10 < l.length ∨ (l[0]? = some 48 ∧ 1 < l.length) then none
  else match numU l 0 with
    | none => none
    | some n => if 4294967294 < n then none else some n
def idxV (r : Option Nat) : Value := .tuple #[.int .u32 ((r.getD 0 : Nat) : Int), .bool r.isSome]
theorem numU_le (l : List Nat) (a n : Nat) (h : numU l a = some n) : n < (a + 1) * 10 ^ l.length := by
  induction l generalizing a with
  | nil => simp [numU] at h; subst h; simp
  | cons x l ih =>
    simp only [numU] at h
    split at h
    · cases h
    · have := ih _ h
      rw [List.length_cons, Nat.pow_succ]
      refine Nat.lt_of_lt_of_le this ?_
      rw [Nat.mul_comm (10 ^ l.length), ← Nat.mul_assoc]
      exact Nat.mul_le_mul_right _ (by omega)
theorem u64_step (v x : Nat) (hv : v < 1000000000000) (h1 : ¬ (x < 48 ∨ 57 < x)) : IntKind.u64.wrap (IntKind.u64.wrap (10 * (v : Int)) + IntKind.u64.wrap (IntKind.u16.wrap ((x : Int) - 48))) = ((10 * v + (x - 48) : Nat) : Int) := by
  simp only [IntKind.wrap_u64, IntKind.wrap_u16]; omega

theorem c_Index (s : ByteArray) (hs : s.size ≤ 1099511627776) (w : World) :
    Calls Tryz.prog 79 #[.string s] w fun e w' => e = .returned (idxV (idxOf (U s))) ∧ Below w.heap.size w w' := by
  have H1 := Lib.hid (c_ULen s hs)
  have H2 := Lib.hid (c_Units s hs w)
  have hls := U_len s
  unfold U at *
  generalize unitsN s (s.size / 2) = A at *
  rw [← hls] at H1 H2
  have hm1 : A.length ≤ 1099511627776 := by omega
  clear hls
  generalize hR : idxOf A = R
  by_cases hn : A.length = 0 ∨ 10 < A.length
  · have hR' : R = none := by rw [← hR]; unfold idxOf; rw [if_pos (by omega)]
    subst hR'
    clear hR
    have hn' : A.length < 1 ∨ 10 < A.length := by omega
    rcases hn' with h | h
    · have : A.length = 0 := by omega
      go_enter Tryz.func79, Tryz.ntmps79
      go_wp2_with (go_at_call 72; refine (H1.out _).mono ?_; rintro e w' ⟨rfl, rfl⟩)
      go_ret2
      exact ⟨rfl, Below.refl _ _⟩
    · have : ¬ A.length < 1 := by omega
      go_enter Tryz.func79, Tryz.ntmps79
      go_wp2_with (go_at_call 72; refine (H1.out _).mono ?_; rintro e w' ⟨rfl, rfl⟩)
      go_ret2
      exact ⟨rfl, Below.refl _ _⟩
  · have hn1 : ¬ (A.length : Int) < 1 := by omega
    have hn2 : ¬ (10 : Int) < A.length := by omega
    have hn3 : A.length ≤ 10 := by omega
    replace hR := Lib.hid hR
    replace hn := Lib.hid hn
    go_enter Tryz.func79, Tryz.ntmps79
    go_wp2_with (go_at_call 72; refine (H1.out _).mono ?_; rintro e w' ⟨rfl, rfl⟩)
    refine H2.out.mono ?_
    rintro e w1 ⟨v1, rfl, hown1, hb1⟩
    have r1 := Rd_own hown1
    clear hown1
    obtain ⟨b1, c1, rfl, q1⟩ := r1
    rw [u16s_len] at *
    have q1 := Lib.hid q1
    go_wp2
    go_loopw [19, 5, 6, 7] (fun i v _ _ wr => ∃ k a : Nat, k ≤ A.length ∧ i = .int .i64 (k : Int) ∧ v = .int .u64 (a : Int) ∧ a < 10 ^ k ∧ Hid (numU (A.drop k) a = numU A 0) ∧ Hid (0 < k → ¬ (A[0]? = some 48 ∧ 1 < A.length)) ∧ Below w.heap.size w wr ∧ Below w1.heap.size w1 wr) (fun i _ _ _ _ => A.length - (intOf i).toNat)
    case atStart => exact ⟨0, 0, by omega, rfl, rfl, by decide, rfl, fun h => by omega, hb1, Below.refl _ _⟩
    case round =>
      obtain ⟨k, a, hk, rfl, rfl, ha, hnum, hz, hbel1, hbel2⟩ := hrel
      have hpow : (10 : Nat) ^ k ≤ 10 ^ 10 := Nat.pow_le_pow_right (by decide) (by omega)
      have ha2 : a < 10000000000 := by omega
      rcases Nat.lt_or_ge k A.length with hlt | hge
      · obtain ⟨x, hx, hdx⟩ := drop_one A k hlt
        obtain ⟨g1, hg1, rfl, hc1, hcell1⟩ := q1.out k _ (u16s_get A k x hx)
        clear q1
        rw [← hbel2.cell (p := ⟨g1, k, none⟩) (by show g1 < _; omega)] at hcell1
        have hlow : (0 : Int) ≤ x := by omega
        by_cases hx1 : x < 48 ∨ 57 < x
        · have hRn : R = none := by
            have : numU A 0 = none := by rw [← hnum.out, hdx]; simp only [numU]; rw [if_pos hx1]
            rw [← hR.out]; unfold idxOf; split
            · rfl
            · rw [this]
          subst hRn
          clear hnum
          rcases hx1 with hx1 | hx1
          · have : (x : Int) < 48 := by omega
            go_wp2
            go_ret2
            exact ⟨rfl, hbel1⟩
          · have : ¬ (x : Int) < 48 := by omega
            have : (57 : Int) < x := by omega
            go_wp2
            go_ret2
            exact ⟨rfl, hbel1⟩
        · have f1 : ¬ (x : Int) < 48 := by omega
          have f2 : ¬ (57 : Int) < x := by omega
          by_cases hz1 : k = 0 ∧ x = 48 ∧ 1 < A.length
          · obtain ⟨rfl, rfl, h3⟩ := hz1
            have hRn : R = none := by
              rw [← hR.out]; unfold idxOf; rw [if_pos (.inr (.inr ⟨hx, h3⟩))]
            subst hRn
            clear hnum hz hx
            go_wp2
            go_ret2
            exact ⟨rfl, hbel1⟩
          · have hnum' : Hid (numU (A.drop (k + 1)) (10 * a + (x - 48)) = numU A 0) := by
              have := hnum.out
              rw [hdx] at this
              simp only [numU] at this
              rw [if_neg hx1] at this
              exact this
            have hz' : Hid (0 < k + 1 → ¬ (A[0]? = some 48 ∧ 1 < A.length)) := by
              intro _ ⟨g1, g2⟩
              rcases Nat.eq_zero_or_pos k with h | h
              · subst h; rw [hx] at g1; injection g1 with g1; exact hz1 ⟨rfl, g1, g2⟩
              · exact hz.out h ⟨g1, g2⟩
            have ha' : Hid (10 * a + (x - 48) < 10 ^ (k + 1)) := by show _ < _; rw [Nat.pow_succ]; omega
            clear hnum hz hx hx1 hdx
            have hz2 : k ≠ 0 ∨ (k = 0 ∧ x ≠ 48) ∨ (k = 0 ∧ x = 48 ∧ A.length = 1) := by omega
            clear hz1
            rcases hz2 with h | ⟨h, h2⟩ | ⟨h, h2, h3⟩
            · go_wp2
              go_roundw
              case rel => exact ⟨k + 1, 10 * a + (x - 48), by omega, by go_num, by go_num, ha'.out, hnum', hz', hbel1, hbel2⟩
              case measure => simp [intOf]; omega
            · have : ¬ (x : Int) = 48 := by omega
              subst h
              go_wp2
              go_roundw
              case rel => exact ⟨0 + 1, 10 * a + (x - 48), by omega, by go_num, by go_num, ha'.out, hnum', hz', hbel1, hbel2⟩
              case measure => simp [intOf]; omega
            · subst h
              subst h2
              have : ¬ (1 : Int) < A.length := by omega
              go_wp2
              go_roundw
              case rel => exact ⟨0 + 1, 10 * a + (48 - 48), by omega, by go_num, by go_num, ha'.out, hnum', hz', hbel1, hbel2⟩
              case measure => simp [intOf]; omega
      · have hk2 : k = A.length := by omega
        subst hk2
        have hnum := hnum.out
        rw [List.drop_length] at hnum
        simp only [numU] at hnum
        have hR2 : R = if 4294967294 < a then none else some a := by
          have h1 := hz.out (by omega)
          have h2 := hn.out
          rw [← hR.out]; unfold idxOf
          have h3 : ¬ (A.length = 0 ∨ 10 < A.length ∨ (A[0]? = some 48 ∧ 1 < A.length)) := by
            rintro (h | h | h)
            · exact h2 (.inl h)
            · exact h2 (.inr h)
            · exact h1 h
          rw [if_neg h3, ← hnum]
        clear hR hz hn hnum hpow ha
        rcases Nat.lt_or_ge 4294967294 a with h | h
        · rw [if_pos h] at hR2
          subst hR2
          go_wp2
          go_ret2
          exact ⟨rfl, hbel1⟩
        · rw [if_neg (by omega)] at hR2
          subst hR2
          have e : IntKind.u32.wrap (a : Int) = (a : Int) := by rw [IntKind.wrap_u32]; omega
          go_wp2
          go_ret2
          exact ⟨rfl, hbel1⟩

theorem c_Index4 (s : ByteArray) (hs : s.size ≤ 1099511627776) (w : World) :
    Calls Tryz.prog 68 #[.string s] w fun e w' => e = .returned (idxV (idxOf (U s))) ∧ Below w.heap.size w w' := by
  have H2 := Lib.hid (c_UnitsR s hs w)
  have hls := U_len s
  unfold U at *
  generalize unitsN s (s.size / 2) = A at *
  rw [← hls] at H2
  have hm1 : A.length ≤ 1099511627776 := by omega
  clear hls
  generalize hR : idxOf A = R
  replace hR := Lib.hid hR
  go_enter Tryz.func68, Tryz.ntmps68
  go_wp2_with fail
  refine H2.out.mono ?_
  rintro e w1 ⟨v1, rfl, hown1, hb1⟩
  have r1 := Rd_own hown1
  clear hown1
  obtain ⟨b1, c1, rfl, q1⟩ := r1
  rw [u16s_len] at *
  by_cases hn : A.length = 0 ∨ 10 < A.length
  · have hR' : R = none := by rw [← hR.out]; unfold idxOf; rw [if_pos (by omega)]
    subst hR'
    clear hR
    rcases hn with h | h
    · go_wp2
      go_ret2
      exact ⟨rfl, hb1⟩
    · have h1 : ¬ A.length = 0 := by omega
      have h2 : ¬ (A.length : Int) = 0 := by omega
      go_wp2
      go_ret2
      exact ⟨rfl, hb1⟩
  · obtain ⟨x0, hx0, _⟩ := drop_one A 0 (by omega)
    obtain ⟨g1, hg1, rfl, hc1, hcell0⟩ := q1 0 _ (u16s_get A 0 x0 hx0)
    have hn1 : ¬ A.length = 0 := by omega
    have hn1' : ((A.length : Int) == 0) = false := beq_eq_false_iff_ne.2 (by omega)
    have hn2 : ¬ (10 : Int) < A.length := by omega
    have hn3 : A.length ≤ 10 := by omega
    replace hn := Lib.hid hn
    replace q1 := Lib.hid q1
    by_cases hz1 : x0 = 48 ∧ 1 < A.length
    · obtain ⟨h1, h2⟩ := hz1
      have hR' : R = none := by rw [← hR.out]; unfold idxOf; rw [if_pos (.inr (.inr ⟨by rw [hx0, h1], h2⟩))]
      subst hR'
      subst h1
      clear hR
      go_wp2
      go_ret2
      exact ⟨rfl, hb1⟩
    · have hz : Hid (¬ (A[0]? = some 48 ∧ 1 < A.length)) := by
        intro ⟨g1, g2⟩
        rw [hx0] at g1; injection g1 with g1
        exact hz1 ⟨g1, g2⟩
      have hz2 : ¬ x0 = 48 ∨ (x0 = 48 ∧ A.length = 1) := by omega
      clear hz1
      have hx0' := Lib.hid hx0
      clear hx0
      have hz3 : (¬ (x0 : Int) = 48) ∨ (x0 = 48 ∧ A.length = 1) := by omega
      clear hz2
      rcases hz3 with h | ⟨h, h'⟩
      · go_wp2
        go_loopw [31, 5, 7] (fun i v _ wr => ∃ k a : Nat, k ≤ A.length ∧ i = .int .i64 (k : Int) ∧ v = .int .u64 (a : Int) ∧ a < 10 ^ k ∧ Hid (numU (A.drop k) a = numU A 0) ∧ Below w.heap.size w wr ∧ Below w1.heap.size w1 wr) (fun i _ _ _ => A.length - (intOf i).toNat)
        case atStart => exact ⟨0, 0, by omega, rfl, rfl, by decide, rfl, hb1, Below.refl _ _⟩
        case round =>
          obtain ⟨k, a, hk, rfl, rfl, ha, hnum, hbel1, hbel2⟩ := hrel
          have hpow : (10 : Nat) ^ k ≤ 10 ^ 10 := Nat.pow_le_pow_right (by decide) (by omega)
          have ha2 : a < 10000000000 := by omega
          rcases Nat.lt_or_ge k A.length with hlt | hge
          · obtain ⟨x, hx, hdx⟩ := drop_one A k hlt
            obtain ⟨g2, hg2, hgg, hc2, hcell1⟩ := q1.out k _ (u16s_get A k x hx)
            have hgg2 : g1 = g2 := by injection hgg with hgg; injection hgg
            subst hgg2
            clear q1 hgg
            rw [← hbel2.cell (p := ⟨g1, k, none⟩) (by show g1 < _; omega)] at hcell1
            by_cases hx1 : x < 48 ∨ 57 < x
            · have hRn : R = none := by
                have : numU A 0 = none := by rw [← hnum.out, hdx]; simp only [numU]; rw [if_pos hx1]
                rw [← hR.out]; unfold idxOf; split
                · rfl
                · rw [this]
              subst hRn
              clear hnum
              rcases hx1 with hx1 | hx1
              · have : (x : Int) < 48 := by omega
                go_wp2
                go_ret2
                exact ⟨rfl, hbel1⟩
              · have : ¬ (x : Int) < 48 := by omega
                have : (57 : Int) < x := by omega
                go_wp2
                go_ret2
                exact ⟨rfl, hbel1⟩
            · have f1 : ¬ (x : Int) < 48 := by omega
              have f2 : ¬ (57 : Int) < x := by omega
              have hnum' : Hid (numU (A.drop (k + 1)) (10 * a + (x - 48)) = numU A 0) := by
                have := hnum.out
                rw [hdx] at this
                simp only [numU] at this
                rw [if_neg hx1] at this
                exact this
              have ha' : Hid (10 * a + (x - 48) < 10 ^ (k + 1)) := by show _ < _; rw [Nat.pow_succ]; omega
              clear hnum hx hx1 hdx
              go_wp2
              go_roundw
              case rel => exact ⟨k + 1, 10 * a + (x - 48), by omega, by go_num, by go_num, ha'.out, hnum', hbel1, hbel2⟩
              case measure => simp [intOf]; omega
          · have hk2 : k = A.length := by omega
            subst hk2
            have hnum := hnum.out
            rw [List.drop_length] at hnum
            simp only [numU] at hnum
            have hR2 : R = if 4294967294 < a then none else some a := by
              have h1 := hz.out
              have h2 := hn.out
              have h3 : ¬ (A.length = 0 ∨ 10 < A.length ∨ (A[0]? = some 48 ∧ 1 < A.length)) := by
                rintro (h | h | h)
                · exact h2 (.inl h)
                · exact h2 (.inr h)
                · exact h1 h
              rw [← hR.out]; unfold idxOf
              rw [if_neg h3, ← hnum]
            clear hR hz hn hnum hpow ha
            rcases Nat.lt_or_ge 4294967294 a with h | h
            · rw [if_pos h] at hR2
              subst hR2
              go_wp2
              go_ret2
              exact ⟨rfl, hbel1⟩
            · rw [if_neg (by omega)] at hR2
              subst hR2
              have e : IntKind.u32.wrap (a : Int) = (a : Int) := by rw [IntKind.wrap_u32]; omega
              go_wp2
              go_ret2
              exact ⟨rfl, hbel1⟩
      · subst h
        have : ¬ (1 : Int) < A.length := by omega
        go_wp2
        go_loopw [31, 5, 7] (fun i v _ wr => ∃ k a : Nat, k ≤ A.length ∧ i = .int .i64 (k : Int) ∧ v = .int .u64 (a : Int) ∧ a < 10 ^ k ∧ Hid (numU (A.drop k) a = numU A 0) ∧ Below w.heap.size w wr ∧ Below w1.heap.size w1 wr) (fun i _ _ _ => A.length - (intOf i).toNat)
        case atStart => exact ⟨0, 0, by omega, rfl, rfl, by decide, rfl, hb1, Below.refl _ _⟩
        case round =>
          obtain ⟨k, a, hk, rfl, rfl, ha, hnum, hbel1, hbel2⟩ := hrel
          have hpow : (10 : Nat) ^ k ≤ 10 ^ 10 := Nat.pow_le_pow_right (by decide) (by omega)
          have ha2 : a < 10000000000 := by omega
          rcases Nat.lt_or_ge k A.length with hlt | hge
          · obtain ⟨x, hx, hdx⟩ := drop_one A k hlt
            obtain ⟨g2, hg2, hgg, hc2, hcell1⟩ := q1.out k _ (u16s_get A k x hx)
            have hgg2 : g1 = g2 := by injection hgg with hgg; injection hgg
            subst hgg2
            clear q1 hgg
            rw [← hbel2.cell (p := ⟨g1, k, none⟩) (by show g1 < _; omega)] at hcell1
            by_cases hx1 : x < 48 ∨ 57 < x
            · have hRn : R = none := by
                have : numU A 0 = none := by rw [← hnum.out, hdx]; simp only [numU]; rw [if_pos hx1]
                rw [← hR.out]; unfold idxOf; split
                · rfl
                · rw [this]
              subst hRn
              clear hnum
              rcases hx1 with hx1 | hx1
              · have : (x : Int) < 48 := by omega
                go_wp2
                go_ret2
                exact ⟨rfl, hbel1⟩
              · have : ¬ (x : Int) < 48 := by omega
                have : (57 : Int) < x := by omega
                go_wp2
                go_ret2
                exact ⟨rfl, hbel1⟩
            · have f1 : ¬ (x : Int) < 48 := by omega
              have f2 : ¬ (57 : Int) < x := by omega
              have hnum' : Hid (numU (A.drop (k + 1)) (10 * a + (x - 48)) = numU A 0) := by
                have := hnum.out
                rw [hdx] at this
                simp only [numU] at this
                rw [if_neg hx1] at this
                exact this
              have ha' : Hid (10 * a + (x - 48) < 10 ^ (k + 1)) := by show _ < _; rw [Nat.pow_succ]; omega
              clear hnum hx hx1 hdx
              go_wp2
              go_roundw
              case rel => exact ⟨k + 1, 10 * a + (x - 48), by omega, by go_num, by go_num, ha'.out, hnum', hbel1, hbel2⟩
              case measure => simp [intOf]; omega
          · have hk2 : k = A.length := by omega
            subst hk2
            have hnum := hnum.out
            rw [List.drop_length] at hnum
            simp only [numU] at hnum
            have hR2 : R = if 4294967294 < a then none else some a := by
              have h1 := hz.out
              have h2 := hn.out
              have h3 : ¬ (A.length = 0 ∨ 10 < A.length ∨ (A[0]? = some 48 ∧ 1 < A.length)) := by
                rintro (h | h | h)
                · exact h2 (.inl h)
                · exact h2 (.inr h)
                · exact h1 h
              rw [← hR.out]; unfold idxOf
              rw [if_neg h3, ← hnum]
            clear hR hz hn hnum hpow ha
            rcases Nat.lt_or_ge 4294967294 a with h | h
            · rw [if_pos h] at hR2
              subst hR2
              go_wp2
              go_ret2
              exact ⟨rfl, hbel1⟩
            · rw [if_neg (by omega)] at hR2
              subst hR2
              have e : IntKind.u32.wrap (a : Int) = (a : Int) := by rw [IntKind.wrap_u32]; omega
              go_wp2
              go_ret2
              exact ⟨rfl, hbel1⟩
end Go.Proofs.YtoccmiinkfhohaaGreat
namespace Go.Proofs.YtoccmiinkfhohaaGreat
open Go.RowKit
set_option maxHeartbeats 400000
set_option maxRecDepth 100000

def kindK (s : ByteArray) (n : Int) : Int := if 0 < n then 2 else if (idxOf (U s)).isSome then 0 else 1
def numK (s : ByteArray) (n : Int) : Nat := if 0 < n then 0 else (idxOf (U s)).getD 0
/-- where a key stands: indices by number, then texts, then symbols -/
def rankK (s : ByteArray) (n : Int) : Nat := if 0 < n then 8589934592 else match idxOf (U s) with
  | some i => i
  | none => 4294967296
theorem idxOf_le (l : List Nat) (n : Nat) (h : idxOf l = some n) : n ≤ 4294967294 := by
  unfold idxOf at h
  split at h
  · cases h
  · split at h
    · cases h
    · split at h
      · cases h
      · injection h with h; omega
theorem c_ksort (s : ByteArray) (n : Int) (hs : s.size ≤ 1099511627776) (w : World) :
    Calls Tryz.prog 63 #[keyV s n] w fun e w' => e = .returned (.tuple #[.int .i64 (kindK s n), .int .u32 (numK s n : Int)]) ∧ Below w.heap.size w w' := by
  have H := fun w => Lib.hid (c_Index s hs w)
  unfold keyV kindK numK
  have hb0 : ∀ o, Below w.heap.size w (w.alloc o) := fun o => (Below.refl _ w).alloc (Nat.le_refl _) o
  generalize idxOf (U s) = R at *
  rcases Int.lt_or_le 0 n with hn | hn
  · rw [if_pos hn, if_pos hn]
    go_enter Tryz.func63, Tryz.ntmps63
    go_wp2
    go_ret2
    exact ⟨rfl, hb0 _⟩
  · have hn' : ¬ 0 < n := by omega
    rw [if_neg hn', if_neg hn']
    cases R with
    | none =>
      go_enter Tryz.func63, Tryz.ntmps63
      go_wp2_with (go_at_call 79; refine (H _).out.mono ?_; rintro e w' ⟨rfl, hb⟩; unfold idxV)
      go_ret2
      exact ⟨rfl, below_after (hb0 _) hb⟩
    | some i =>
      go_enter Tryz.func63, Tryz.ntmps63
      go_wp2_with (go_at_call 79; refine (H _).out.mono ?_; rintro e w' ⟨rfl, hb⟩; unfold idxV)
      go_ret2
      exact ⟨rfl, below_after (hb0 _) hb⟩
def orZ (x y : Int) : Int := if x = 0 then y else x
theorem c_Or (x y : Int) (g : Nat) (w : World) (h0 : w.cell? ⟨g, 0, none⟩ = some (.int .i64 x)) (h1 : w.cell? ⟨g, 1, none⟩ = some (.int .i64 y)) :
    Calls Tryz.prog 64 #[.slice (some ⟨g, 0, none⟩) 2 2] w fun e w' => e = .returned (.int .i64 (orZ x y)) ∧ w = w' := by
  unfold orZ
  by_cases hx : x = 0
  · subst hx
    by_cases hy : y = 0
    · subst hy
      go_enter Tryz.func64, Tryz.ntmps64
      go_wp2
      go_loopw [8, 5] (fun i _ wr => ∃ k : Nat, k ≤ 2 ∧ i = .int .i64 (k : Int) ∧ wr = w) (fun i _ _ => 2 - (intOf i).toNat)
      case atStart => exact ⟨0, by omega, rfl, rfl⟩
      case round =>
        obtain ⟨k, hk, rfl, rfl⟩ := hrel
        have : k = 0 ∨ k = 1 ∨ k = 2 := by omega
        rcases this with rfl | rfl | rfl
        · go_wp2
          go_roundw
          case rel => exact ⟨1, by omega, rfl, by first | rfl | trivial⟩
          case measure => simp [intOf]
        · go_wp2
          go_roundw
          case rel => exact ⟨2, by omega, rfl, by first | rfl | trivial⟩
          case measure => simp [intOf]
        · go_wp2
          go_ret
          exact ⟨rfl, rfl⟩
    · have hy' : (y == 0) = false := beq_eq_false_iff_ne.2 hy
      go_enter Tryz.func64, Tryz.ntmps64
      go_wp2
      go_loopw [8, 5] (fun i _ wr => ∃ k : Nat, k ≤ 1 ∧ i = .int .i64 (k : Int) ∧ wr = w) (fun i _ _ => 2 - (intOf i).toNat)
      case atStart => exact ⟨0, by omega, rfl, rfl⟩
      case round =>
        obtain ⟨k, hk, rfl, rfl⟩ := hrel
        have : k = 0 ∨ k = 1 := by omega
        rcases this with rfl | rfl
        · go_wp2
          go_roundw
          case rel => exact ⟨1, by omega, rfl, by first | rfl | trivial⟩
          case measure => simp [intOf]
        · go_wp2
          go_ret
          exact ⟨rfl, rfl⟩
  · have hx' : (x == 0) = false := beq_eq_false_iff_ne.2 hx
    rw [if_neg hx]
    go_enter Tryz.func64, Tryz.ntmps64
    go_wp2
    go_loopw [8, 5] (fun i _ wr => i = .int .i64 0 ∧ wr = w) (fun i _ _ => 2 - (intOf i).toNat)
    case atStart => exact ⟨rfl, rfl⟩
    case round =>
      obtain ⟨rfl, rfl⟩ := hrel
      go_wp2
      go_ret
      exact ⟨rfl, rfl⟩
theorem cmp_rank (s t : ByteArray) (m n : Int) : (if cmpZ (kindK s m) (kindK t n) = 0 then cmpZ (numK s m) (numK t n) else cmpZ (kindK s m) (kindK t n)) = cmpZ (rankK s m) (rankK t n) := by
  have l1 := idxOf_le (U s)
  have l2 := idxOf_le (U t)
  unfold kindK numK rankK
  generalize idxOf (U s) = A at *
  generalize idxOf (U t) = B at *
  by_cases hm : 0 < m <;> by_cases hn : 0 < n
  · simp [hm, hn, cmpZ]
  · cases B with
    | none => simp [hm, hn, cmpZ]
    | some j => have := l2 j rfl; simp [hm, hn]; unfold cmpZ; simp; omega
  · cases A with
    | none => simp [hm, hn, cmpZ]
    | some i => have := l1 i rfl; simp [hm, hn]; unfold cmpZ; simp; omega
  · cases A with
    | none => cases B with
      | none => simp [hm, hn, cmpZ]
      | some j => have := l2 j rfl; simp [hm, hn]; unfold cmpZ; simp; omega
    | some i => cases B with
      | none => have := l1 i rfl; simp [hm, hn]; unfold cmpZ; simp; omega
      | some j => simp [hm, hn, cmpZ]

theorem cell_alloc1 (w : World) (c : Array Value) (ty : TypeId) (j : Nat) : (w.alloc (.cells c ty)).cell? ⟨w.heap.size, j, none⟩ = c[j]? :=
  cell_of_row _ _ _ _ _ _ (heap_alloc_new w _)
theorem cell_alloc2 (w : World) (o : Obj) (c : Array Value) (ty : TypeId) (j : Nat) : ((w.alloc o).alloc (.cells c ty)).cell? ⟨w.heap.size + 1, j, none⟩ = c[j]? := by
  have := cell_alloc1 (w.alloc o) c ty j
  rw [show (w.alloc o).heap.size = w.heap.size + 1 by simp] at this
  exact this
theorem c_OrderF (s t : ByteArray) (m n : Int) (hs : s.size ≤ 1099511627776) (ht : t.size ≤ 1099511627776) (w : World) :
    Calls Tryz.prog 62 #[keyV s m, keyV t n] w fun e w' => e = .returned (.int .i64 (cmpZ (rankK s m) (rankK t n))) ∧ Below w.heap.size w w' := by
  have H1 := fun w => Lib.hid (c_ksort s m hs w)
  have H2 := fun w => Lib.hid (c_ksort t n ht w)
  have HR := Lib.hid (show orZ _ _ = _ from cmp_rank s t m n)
  unfold keyV at *
  generalize kindK s m = k1 at *
  generalize kindK t n = k2 at *
  generalize numK s m = n1 at *
  generalize numK t n = n2 at *
  generalize cmpZ (rankK s m) (rankK t n) = R at *
  have hbb := Lib.hid (below_two w)
  go_enter Tryz.func62, Tryz.ntmps62
  go_wp2_with fail
  refine (H1 _).out.mono ?_
  rintro e wa ⟨rfl, ha⟩
  have d0 : wa.cell? ⟨w.heap.size + 1, 0, none⟩ = some (.string t) := by
    rw [ha.cell (p := ⟨w.heap.size + 1, 0, none⟩) (by simp)]; exact cell_alloc2 _ _ _ _ _
  have d1 : wa.cell? ⟨w.heap.size + 1, 1, none⟩ = some (.int .i64 n) := by
    rw [ha.cell (p := ⟨w.heap.size + 1, 1, none⟩) (by simp)]; exact cell_alloc2 _ _ _ _ _
  have ha' : Below w.heap.size w wa := below_after (hbb.out _ _) ha
  clear ha hbb
  go_wp2_with fail
  refine (H2 _).out.mono ?_
  rintro e wb ⟨rfl, hb⟩
  have hb' : Below w.heap.size w wb := below_after ha' hb
  clear hb d0 d1
  go_wp2_with (first | (go_at_call 65; refine (c_cmpInt _ _ _).mono ?_; rintro e w' ⟨rfl, rfl⟩) | (go_at_call 66; refine (c_cmpU32 _ _ _).mono ?_; rintro e w' ⟨rfl, rfl⟩) | (go_at_call 64; refine (c_Or _ _ _ _ (cell_alloc1 _ _ _ _) (cell_alloc1 _ _ _ _)).mono ?_; rintro e w' ⟨rfl, rfl⟩))
  go_ret
  exact ⟨ret_int HR.out, hb'.alloc hb'.size _⟩
end Go.Proofs.YtoccmiinkfhohaaGreat
namespace Go.Proofs.YtoccmiinkfhohaaGreat
open Go.RowKit Go.Shelf Go.Lib Go.Sort Go.Proofs
set_option maxHeartbeats 400000
set_option maxRecDepth 100000

abbrev KK := ByteArray × Int
def encK (x : KK) : List Value := [.string x.1, .int .i64 x.2]
theorem encK_len (x : KK) : (encK x).length = 2 := rfl
theorem encK_one (x : KK) : ∀ v ∈ encK x, v.oneCell' = true := by
  intro v hv
  simp [encK] at hv
  rcases hv with rfl | rfl <;> rfl
/-- the row at block blk holds d -/
def RowK (w : World) (blk : Nat) (d : Array KK) : Prop := HoldsK encK 2 w blk 0 d ∧ blk < w.heap.size
/-- all but the row is as it was -/
structure Fr (blk : Nat) (w w' : World) : Prop where
  os : w'.os = w.os
  tape : w'.tape = w.tape
  output : w'.output = w.output
  size : w.heap.size ≤ w'.heap.size
  block : ∀ k, k < w.heap.size → k ≠ blk → w'.heap[k]? = w.heap[k]?
theorem Fr.refl (blk : Nat) (w : World) : Fr blk w w := ⟨rfl, rfl, rfl, Nat.le_refl _, fun _ _ _ => rfl⟩
theorem Fr.trans {blk : Nat} {a b c : World} (h : Fr blk a b) (k : Fr blk b c) : Fr blk a c :=
  ⟨k.os.trans h.os, k.tape.trans h.tape, k.output.trans h.output, Nat.le_trans h.size k.size, fun i hi hn => (k.block i (Nat.lt_of_lt_of_le hi h.size) hn).trans (h.block i hi hn)⟩
theorem Fr.below {blk : Nat} {w w' : World} (h : Below w.heap.size w w') : Fr blk w w' := ⟨h.os, h.tape, h.output, h.size, fun k hk _ => h.block k hk⟩
theorem RowK.keep {w w' : World} {blk : Nat} {d : Array KK} (h : RowK w blk d) (hb : Below w.heap.size w w') : RowK w' blk d := by
  refine ⟨fun j hj => ?_, Nat.lt_of_lt_of_le h.2 hb.size⟩
  have := h.1 j hj
  rw [← hb.cell (p := ⟨blk, 0 + j, none⟩) h.2, ← hb.frozen (p := ⟨blk, 0 + j, none⟩) h.2] at this
  exact this
theorem RowK.drewN {w : World} {blk : Nat} {d : Array KK} (h : RowK w blk d) (n : Nat) : RowK (w.drewN n) blk d := h
theorem swap_step {w : World} {blk : Nat} {d : Array KK} (h : RowK w blk d) (i j : Nat) (hi : i < d.size) (hj : j < d.size) :
    RowK ((w.drew.setCells blk (i * 2) (encK d[j]!)).setCells blk (j * 2) (encK d[i]!)) blk (swp d i j) ∧ Fr blk w ((w.drew.setCells blk (i * 2) (encK d[j]!)).setCells blk (j * 2) (encK d[i]!)) := by
  have e0 : putRowK encK 2 w blk 0 d = w := putRowK_self encK 2 w blk 0 d h.1
  have e1 := swap_worldK encK 2 encK_len w 0 1 blk 0 d i j hi hj
  rw [ahead_zero, e0, Nat.zero_add, Nat.zero_add] at e1
  have e2 : w.drew = w.drewN 1 := rfl
  rw [e2, e1]
  refine ⟨⟨holdsK_putRowK encK 2 _ blk 0 d _ (holdsK_ahead encK 2 w _ blk 0 d h.1) (by rw [size_swp]), ?_⟩, ?_, ?_, ?_, ?_, ?_⟩
  · rw [size_putRowK]; exact h.2
  · rfl
  · rfl
  · rfl
  · rw [size_putRowK]; exact Nat.le_refl _
  · intro k hk hne
    show ((w.heap.modify blk _)[k]?) = w.heap[k]?
    rw [Array.getElem?_modify, if_neg (fun h => hne h.symm)]
theorem cell_row {w : World} {blk : Nat} {d : Array KK} (h : RowK w blk d) (i : Nat) (hi : i < d.size) :
    w.cell? ⟨blk, i * 2, none⟩ = some (.string d[i]!.1) ∧ w.cell? ⟨blk, i * 2 + 1, none⟩ = some (.int .i64 d[i]!.2) ∧ w.frozen? ⟨blk, i * 2, none⟩ = false ∧ w.frozen? ⟨blk, i * 2 + 1, none⟩ = false := by
  have h0 := h.1.cell hi (show 0 < 2 by omega)
  have h1 := h.1.cell hi (show 1 < 2 by omega)
  simp only [Nat.zero_add, Nat.add_zero] at h0 h1
  exact ⟨h0.1, h1.1, h0.2, h1.2⟩

/-- the world behind an exchange, as the walk leaves it -/
def swW (w : World) (blk i j : Nat) (x y : KK) : World :=
  ((((w.setCell ⟨blk, i * 2, none⟩ (.string x.1)).setCell ⟨blk, i * 2 + 1, none⟩ (.int .i64 x.2)).setCell ⟨blk, j * 2, none⟩ (.string y.1)).setCell ⟨blk, j * 2 + 1, none⟩ (.int .i64 y.2)).drew
theorem swap_done {w : World} {blk : Nat} {d : Array KK} (h : RowK w blk d) (i j : Nat) (hi : i < d.size) (hj : j < d.size) : RowK (swW w blk i j d[j]! d[i]!) blk (swp d i j) ∧ Fr blk w (swW w blk i j d[j]! d[i]!) := swap_step h i j hi hj

/-- m exchanges -/
def swapN (a b : Nat) : Nat → Array KK → Array KK
  | 0, d => d
  | i + 1, d => swp (swapN a b i d) (a + i) (b + i)
theorem swapN_size (a b i : Nat) (d : Array KK) : (swapN a b i d).size = d.size := by induction i with
  | zero => rfl
  | succ i ih => simp only [swapN]; rw [size_swp]; exact ih
theorem c_swapRange (f : Value) (blk cap a b m : Nat) (d : Array KK) (ha : a + m ≤ d.size) (hb : b + m ≤ d.size) (hab : a ≠ b) (hsz : d.size ≤ 1099511627776) (w : World) (h : RowK w blk d) :
    Calls Tryz.prog 90 #[.slice (some ⟨blk, 0, none⟩) d.size cap, .int .i64 (a : Int), .int .i64 (b : Int), .int .i64 (m : Int), f] w fun e w' => e = .returned (.tuple #[]) ∧ RowK w' blk (swapN a b m d) ∧ Fr blk w w' := by
  replace h := Lib.hid h
  go_enter Tryz.func90, Tryz.ntmps90
  go_wp2
  go_loopw [10] (fun i wr => ∃ k : Nat, k ≤ m ∧ i = .int .i64 (k : Int) ∧ RowK wr blk (swapN a b k d) ∧ Fr blk w wr) (fun i _ => m - (intOf i).toNat)
  case atStart => exact ⟨0, by omega, rfl, h.out, Fr.refl _ _⟩
  case round =>
    obtain ⟨k, hk, rfl, hrow, hfr⟩ := hrel
    rcases Nat.lt_or_ge k m with hlt | hge
    · have hsd := swapN_size a b k d
      obtain ⟨s1, s2⟩ := swap_done hrow (a + k) (b + k) (by omega) (by omega)
      obtain ⟨a1, a2, a3, a4⟩ := cell_row hrow (a + k) (by omega)
      obtain ⟨b1, b2, b3, b4⟩ := cell_row hrow (b + k) (by omega)
      have hne : ¬ (a + k) * 2 = (b + k) * 2 := by omega
      have hne1 : ¬ (a + k) * 2 = (b + k) * 2 + 1 := by omega
      have hne2 : ¬ (a + k) * 2 + 1 = (b + k) * 2 := by omega
      have g1 : IntKind.i64.wrap ((a : Int) + (k : Int)) = ((a + k : Nat) : Int) := by rw [IntKind.wrap_i64]; omega
      have g2 : IntKind.i64.wrap ((b : Int) + (k : Int)) = ((b + k : Nat) : Int) := by rw [IntKind.wrap_i64]; omega
      have hA : a + k < d.size := by omega
      have hB : b + k < d.size := by omega
      replace s1 := Lib.hid s1
      replace s2 := Lib.hid s2
      replace hrow := Lib.hid hrow
      have mixed : Tryz.prog.follows Departure.mixedOrders = true := by kernel_rfl
      generalize (swapN a b k d)[a + k]! = xa at *
      generalize (swapN a b k d)[b + k]! = xb at *
      go_wp2
      go_big_region_o
      all_goals go_wp2
      go_roundw
      case rel => exact ⟨k + 1, by omega, by go_num, s1.out, hfr.trans s2.out⟩
      case measure => simp [intOf]; omega
    · have hk2 : k = m := by omega
      subst hk2
      go_wp2
      go_end0
      exact ⟨rfl, hrow, hfr⟩
end Go.Proofs.YtoccmiinkfhohaaGreat
namespace Go.Proofs.YtoccmiinkfhohaaGreat
open Go.RowKit Go.Shelf Go.Lib Go.Sort Go.Proofs
set_option maxHeartbeats 400000
set_option maxRecDepth 100000

theorem swp_list (P Q S : List KK) (x y : KK) : swp (P ++ x :: (Q ++ y :: S)).toArray P.length (P.length + (Q.length + 1)) = (P ++ y :: (Q ++ x :: S)).toArray := by
  unfold swp
  have g1 : (P ++ x :: (Q ++ y :: S)).toArray[P.length]! = x := by simp
  have g2 : (P ++ x :: (Q ++ y :: S)).toArray[P.length + (Q.length + 1)]! = y := by
    rw [getElem!_pos _ _ (by simp)]
    simp [List.getElem_append_right, List.getElem_cons]
  rw [g1, g2]
  simp [List.set_append_right]
theorem swapN_list (n : Nat) (P A Q B S : List KK) (hA : A.length = n) (hB : B.length = n) :
    swapN P.length (P.length + (n + Q.length)) n (P ++ (A ++ (Q ++ (B ++ S)))).toArray = (P ++ (B ++ (Q ++ (A ++ S)))).toArray := by
  induction n generalizing A B Q S with
  | zero =>
    rw [List.length_eq_zero_iff] at hA hB
    subst hA; subst hB; rfl
  | succ n ih =>
    obtain ⟨A1, x, rfl⟩ : ∃ A1 x, A = A1 ++ [x] := ⟨A.dropLast, A.getLast (by intro h; simp [h] at hA), (List.dropLast_concat_getLast _).symm⟩
    obtain ⟨B1, y, rfl⟩ : ∃ B1 y, B = B1 ++ [y] := ⟨B.dropLast, B.getLast (by intro h; simp [h] at hB), (List.dropLast_concat_getLast _).symm⟩
    simp at hA hB
    have h := ih A1 (x :: Q) B1 (y :: S) hA hB
    simp only [swapN]
    have e1 : P ++ (A1 ++ [x] ++ (Q ++ (B1 ++ [y] ++ S))) = P ++ (A1 ++ (x :: Q ++ (B1 ++ (y :: S)))) := by simp
    have e2 : P.length + (n + 1 + Q.length) = P.length + (n + (x :: Q).length) := by simp; omega
    rw [e1, e2, h]
    have e3 : P ++ (B1 ++ (x :: Q ++ (A1 ++ y :: S))) = (P ++ B1) ++ x :: ((Q ++ A1) ++ y :: S) := by simp
    have e4 : P.length + n = (P ++ B1).length := by simp; omega
    have e5 : P.length + (n + (x :: Q).length) + n = (P ++ B1).length + ((Q ++ A1).length + 1) := by simp; omega
    rw [e3, e4, e5, swp_list]
    simp
/-- the row holds a list -/
def RowL (w : World) (blk : Nat) (l : List KK) : Prop := RowK w blk l.toArray
theorem c_swapL (f : Value) (blk cap : Nat) (P A Q B S : List KK) (len m a b : Nat) (hlen : len = (P ++ (A ++ (Q ++ (B ++ S)))).length) (hA : A.length = m) (hB : B.length = m) (ha : a = P.length) (hb : b = P.length + (m + Q.length)) (hne : a ≠ b) (hsz : len ≤ 1099511627776) (w : World) (h : RowL w blk (P ++ (A ++ (Q ++ (B ++ S))))) :
    Calls Tryz.prog 90 #[.slice (some ⟨blk, 0, none⟩) len cap, .int .i64 (a : Int), .int .i64 (b : Int), .int .i64 (m : Int), f] w fun e w' => e = .returned (.tuple #[]) ∧ RowL w' blk (P ++ (B ++ (Q ++ (A ++ S)))) ∧ Fr blk w w' := by
  have := c_swapRange f blk cap a b m (P ++ (A ++ (Q ++ (B ++ S)))).toArray (by simp; omega) (by simp; omega) hne (by simp at hlen ⊢; omega) w h
  have e2 : swapN a b m (P ++ (A ++ (Q ++ (B ++ S)))).toArray = (P ++ (B ++ (Q ++ (A ++ S)))).toArray := by rw [ha, hb]; exact swapN_list m P A Q B S hA hB
  rw [e2] at this
  have e : (P ++ (A ++ (Q ++ (B ++ S)))).toArray.size = len := by rw [hlen]; simp
  rw [e] at this
  exact this

theorem split_at (l : List KK) (k : Nat) (h : k ≤ l.length) : ∃ A B, l = A ++ B ∧ A.length = k := ⟨l.take k, l.drop k, (List.take_append_drop k l).symm, by simp; omega⟩
/-- where the rotation stands: runs of i and of j are still to change places about m -/
def RotI (blk len m : Nat) (G : List KK) (w : World) (i j : Nat) : Prop :=
  ∃ P X Y S : List KK, X.length = i ∧ Y.length = j ∧ m = P.length + i ∧ len = (P ++ (X ++ (Y ++ S))).length ∧ P ++ (Y ++ (X ++ S)) = G ∧ RowL w blk (P ++ (X ++ (Y ++ S)))
theorem RotI.bound {blk len m : Nat} {G : List KK} {w : World} {i j : Nat} (h : RotI blk len m G w i j) : i ≤ m ∧ m + j ≤ len := by
  obtain ⟨P, X, Y, S, h1, h2, h3, h4, h5, h6⟩ := h
  simp only [List.length_append] at h4
  omega
theorem rot_lt (f : Value) (blk cap len m i j : Nat) (G : List KK) (w : World) (h : RotI blk len m G w i j) (hsz : len ≤ 1099511627776) (hi : 0 < i) (hij : i < j) (za zb zc : Int) (ha : za = (m : Int) - i) (hb : zb = (m : Int) + j - i) (hc : zc = i) :
    Calls Tryz.prog 90 #[.slice (some ⟨blk, 0, none⟩) len cap, .int .i64 za, .int .i64 zb, .int .i64 zc, f] w fun e w' => e = .returned (.tuple #[]) ∧ RotI blk len m G w' i (j - i) ∧ Fr blk w w' := by
  obtain ⟨P, X, Y, S, h1, h2, h3, h4, h5, h6⟩ := h
  obtain ⟨Ya, Yb, rfl, hYa⟩ := split_at Y (j - i) (by omega)
  have hYb : Yb.length = i := by simp only [List.length_append] at h2; omega
  have e : P ++ (X ++ (Ya ++ Yb ++ S)) = P ++ (X ++ (Ya ++ (Yb ++ S))) := by simp
  rw [e] at h4 h6
  have hC := c_swapL f blk cap P X Ya Yb S len i P.length (P.length + (i + Ya.length)) h4 h1 hYb rfl rfl (by omega) hsz w h6
  have z1 : za = (P.length : Int) := by omega
  have z2 : zb = ((P.length + (i + Ya.length) : Nat) : Int) := by omega
  rw [z1, z2, hc]
  refine hC.mono ?_
  rintro e w1 ⟨rfl, hrow, hfr⟩
  refine ⟨rfl, ⟨P, Yb, Ya, X ++ S, hYb, hYa, h3, ?_, ?_, hrow⟩, hfr⟩
  · simp only [List.length_append] at h4 ⊢; omega
  · rw [← h5]; simp
theorem rot_gt (f : Value) (blk cap len m i j : Nat) (G : List KK) (w : World) (h : RotI blk len m G w i j) (hsz : len ≤ 1099511627776) (hi : 0 < j) (hij : j < i) (za zb zc : Int) (ha : za = (m : Int) - i) (hb : zb = (m : Int)) (hc : zc = j) :
    Calls Tryz.prog 90 #[.slice (some ⟨blk, 0, none⟩) len cap, .int .i64 za, .int .i64 zb, .int .i64 zc, f] w fun e w' => e = .returned (.tuple #[]) ∧ RotI blk len m G w' (i - j) j ∧ Fr blk w w' := by
  obtain ⟨P, X, Y, S, h1, h2, h3, h4, h5, h6⟩ := h
  obtain ⟨Xa, Xb, rfl, hXa⟩ := split_at X j (by omega)
  have hXb : Xb.length = i - j := by simp only [List.length_append] at h1; omega
  have e : P ++ (Xa ++ Xb ++ (Y ++ S)) = P ++ (Xa ++ (Xb ++ (Y ++ S))) := by simp
  rw [e] at h4 h6
  have hC := c_swapL f blk cap P Xa Xb Y S len j P.length m h4 hXa h2 rfl (by omega) (by omega) hsz w h6
  have z1 : za = (P.length : Int) := by omega
  rw [z1, hb, hc]
  refine hC.mono ?_
  rintro e w1 ⟨rfl, hrow, hfr⟩
  refine ⟨rfl, ⟨P ++ Y, Xb, Xa, S, hXb, hXa, ?_, ?_, ?_, ?_⟩, hfr⟩
  · simp only [List.length_append]; omega
  · simp only [List.length_append] at h4 ⊢; omega
  · rw [← h5]; simp
  · rw [List.append_assoc]; exact hrow
theorem rot_eq (f : Value) (blk cap len m i j : Nat) (G : List KK) (w : World) (h : RotI blk len m G w i j) (hsz : len ≤ 1099511627776) (hi : 0 < j) (hij : i = j) (za zb zc : Int) (ha : za = (m : Int) - i) (hb : zb = (m : Int)) (hc : zc = i) :
    Calls Tryz.prog 90 #[.slice (some ⟨blk, 0, none⟩) len cap, .int .i64 za, .int .i64 zb, .int .i64 zc, f] w fun e w' => e = .returned (.tuple #[]) ∧ RowL w' blk G ∧ Fr blk w w' := by
  obtain ⟨P, X, Y, S, h1, h2, h3, h4, h5, h6⟩ := h
  have hC := c_swapL f blk cap P X [] Y S len i P.length m h4 h1 (by omega) rfl (by simp; omega) (by omega) hsz w h6
  have z1 : za = (P.length : Int) := by omega
  rw [z1, hb, hc]
  refine hC.mono ?_
  rintro e w1 ⟨rfl, hrow, hfr⟩
  exact ⟨rfl, by rw [← h5]; exact hrow, hfr⟩
theorem c_rotate (f : Value) (blk cap : Nat) (P X Y S : List KK) (len a m b : Nat) (hlen : len = (P ++ (X ++ (Y ++ S))).length) (ha : a = P.length) (hm : m = a + X.length) (hb : b = m + Y.length) (hX : 0 < X.length) (hY : 0 < Y.length) (hsz : len ≤ 1099511627776) (w : World) (h : RowL w blk (P ++ (X ++ (Y ++ S)))) :
    Calls Tryz.prog 87 #[.slice (some ⟨blk, 0, none⟩) len cap, .int .i64 (a : Int), .int .i64 (m : Int), .int .i64 (b : Int), f] w fun e w' => e = .returned (.tuple #[]) ∧ RowL w' blk (P ++ (Y ++ (X ++ S))) ∧ Fr blk w w' := by
  generalize hG : P ++ (Y ++ (X ++ S)) = G
  have hrel0 : RotI blk len m G w (m - a) (b - m) := ⟨P, X, Y, S, by omega, by omega, by omega, hlen, hG, h⟩
  have hbl : b ≤ len := by simp at hlen; omega
  have ham : a < m := by omega
  have hmb : m < b := by omega
  clear hG hlen ha hm hb hX hY h
  go_enter Tryz.func87, Tryz.ntmps87
  go_wp2
  go_loopw [10, 11] (fun vi vj wr => ∃ i j : Nat, vi = .int .i64 (i : Int) ∧ vj = .int .i64 (j : Int) ∧ 0 < i ∧ 0 < j ∧ RotI blk len m G wr i j ∧ Fr blk w wr) (fun vi vj _ => (intOf vi).toNat + (intOf vj).toNat)
  case atStart => exact ⟨m - a, b - m, by go_num, by go_num, by omega, by omega, hrel0, Fr.refl _ _⟩
  case round =>
    obtain ⟨i, j, rfl, rfl, hi, hj, hrot, hfr⟩ := hrel
    clear hrel0
    have hbd := hrot.bound
    rcases Nat.lt_trichotomy i j with hij | hij | hij
    · have hC := fun za zb zc => Lib.hid (rot_lt f blk cap len m i j G wr hrot hsz hi hij za zb zc)
      clear hrot
      go_wp2_with (go_at_call 90; refine ((hC _ _ _).out (by omega) (by omega) (by omega)).mono ?_; rintro e w1 ⟨rfl, hrow, hfr1⟩)
      go_roundw
      case rel => exact ⟨i, j - i, rfl, by go_num, hi, by omega, hrow, hfr.trans hfr1⟩
      case measure => simp [intOf]; omega
    · have hC := fun za zb zc => Lib.hid (rot_eq f blk cap len m i j G wr hrot hsz hj hij za zb zc)
      clear hrot
      go_wp2_with (go_at_call 90; refine ((hC _ _ _).out (by omega) (by omega) (by omega)).mono ?_; rintro e w1 ⟨rfl, hrow, hfr1⟩)
      go_end0
      exact ⟨rfl, hrow, hfr.trans hfr1⟩
    · have hC := fun za zb zc => Lib.hid (rot_gt f blk cap len m i j G wr hrot hsz hj hij za zb zc)
      clear hrot
      go_wp2_with (go_at_call 90; refine ((hC _ _ _).out (by omega) (by omega) (by omega)).mono ?_; rintro e w1 ⟨rfl, hrow, hfr1⟩)
      go_roundw
      case rel => exact ⟨i - j, j, by go_num, rfl, by omega, hj, hrow, hfr.trans hfr1⟩
      case measure => simp [intOf]; omega
end Go.Proofs.YtoccmiinkfhohaaGreat

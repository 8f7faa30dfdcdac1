/-
  Contract of the reference Units: the units of a text. Condition: the text is shorter than 2^40 bytes.
-/
import Derived.Test.YtbodfdmmfaampaaGreatDoorRows
import Derived.WalkKit
import Derived.WalkSpells
import Derived.WalkLawsBesides
import Derived.Deep.QuietTactic
import Derived.BigQuiet
import Derived.Deep.RegionHeld3
import Derived.Deep.AppendLies
import Derived.Lib.Hide
namespace Go.Proofs.YtbodfdmmfaampaaGreatDoor
open Go.RowKit
set_option maxHeartbeats 400000
set_option maxRecDepth 100000

/-- the units of a text -/
def ub (s : ByteArray) (i : Nat) : Nat := (s.data.toList.getD i 0).toNat
def unitAt (s : ByteArray) (k : Nat) : Nat := ub s (2 * k) * 256 + ub s (2 * k + 1)
def unitsN (s : ByteArray) : Nat → List Nat
  | 0 => []
  | k + 1 => unitsN s k ++ [unitAt s k]
def u16s (l : List Nat) : List Value := l.map fun n : Nat => .int .u16 (n : Int)
theorem own_base {w : World} {base : Nat} {e : TypeId} {size : Nat} {v : Value} {n : Nat} {xs : List Value} (h : w.ownsRow base e size v n xs) : ∀ k, v.ownBlock = some k → base ≤ k := by
  intro k hk
  rcases h.2 with ⟨rfl, _⟩ | ⟨g, cap, cur, rfl, hb, _⟩
  · cases hk
  · cases hk; exact hb
theorem infoU16 : (Tryz.prog.info? 42).map (fun i => (i.zero, i.size, i.bytes)) = some (some (.int .u16 0), 1, 2) := by kernel_rfl

theorem ub_get (s : ByteArray) (i : Nat) (h : i < s.size) : ub s i = s[i].toNat := by
  unfold ub
  have h' : i < s.data.toList.length := by simpa using h
  rw [List.getD_eq_getElem?_getD, List.getElem?_eq_getElem h']; rfl
theorem unit_val (s : ByteArray) (k : Nat) (i j : Int) (hi : i = 2 * (k : Int)) (hj : j = 2 * (k : Int) + 1) (h1 : i.toNat < s.size) (h2 : j.toNat < s.size) :
    IntKind.u16.wrap (IntKind.u16.wrap (IntKind.u16.wrap (s[i.toNat].toNat : Int) * 256) + IntKind.u16.wrap (s[j.toNat].toNat : Int)) = (unitAt s k : Int) := by
  have e1 : i.toNat = 2 * k := by omega
  have e2 : j.toNat = 2 * k + 1 := by omega
  have a1 := ub_get s i.toNat h1
  have a2 := ub_get s j.toNat h2
  have b1 : s[i.toNat].toNat < 256 := s[i.toNat].toNat_lt
  have b2 : s[j.toNat].toNat < 256 := s[j.toNat].toNat_lt
  unfold unitAt
  rw [← a1, ← a2, e1, e2]
  rw [← a1, e1] at b1
  rw [← a2, e2] at b2
  generalize ub s (2 * k) = x at *
  generalize ub s (2 * k + 1) = y at *
  simp only [IntKind.wrap_u16]
  omega
theorem c_UnitsR (s : ByteArray) (hs : s.size ≤ 1099511627776) (w : World) :
    Calls Tryz.prog 17 #[.string s] w fun e w' => ∃ v, e = .returned v ∧ w'.ownsRow w.heap.size 42 1 v (s.size / 2) (u16s (unitsN s (s.size / 2))) ∧ Below w.heap.size w w' := by
  obtain ⟨i0, hi0, hz0, hz1, hz2⟩ := info_parts infoU16
  go_enter Tryz.func17, Tryz.ntmps17
  go_wp2
  go_loopw [3, 4] (fun v i wr => ∃ k : Nat, k ≤ s.size / 2 ∧ i = .int .i64 ((2 * k : Nat) : Int) ∧ wr.ownsRow w.heap.size 42 1 v k (u16s (unitsN s k)) ∧ Below w.heap.size w wr) (fun _ i _ => s.size - (intOf i).toNat)
  case atStart => exact ⟨0, by omega, rfl, World.ownsRow_nil _ _ _ _, Below.refl _ _⟩
  case round =>
    obtain ⟨k, hk, rfl, hown, hbel⟩ := hrel
    rcases Nat.lt_or_ge (2 * k + 1) s.size with hlt | hge
    · go_wp2
      have hi0' : (0 : Int) ≤ ((2 * k : Nat) : Int) := Int.natCast_nonneg _
      have hi1 : ((2 * k : Nat) : Int) < (s.size : Int) := by omega
      have hk0 : (0 : Int) ≤ 2 * (k : Int) + 1 := by omega
      have hk1 : 2 * (k : Int) + 1 < (s.size : Int) := by omega
      have hsum : IntKind.i64.wrap (2 * (k : Int) + 1) = 2 * (k : Int) + 1 := IntWalk.i64_in _ (by omega)
      have hsz := hbel.size
      have hval := unit_val s k (2 * (k : Int)) (2 * (k : Int) + 1) rfl rfl (by omega) (by omega)
      go_region_held3 (fun _ => True) (first | trivial | go_keep) ((refine step_append_lies _ (by rfl) _ _ _ (by rfl) w.heap.size 42 i0 _ 1 2 Tryz.underlying40 hi0 hz0 hz1 hz2 rfl (by omega) u3 k (u16s (unitsN s k)) (by rfl) ((hown.alloc _).drew) ⟨wr.heap.size, 0, none⟩ 1 1 [.int .u16 (unitAt s k)] (by rfl) (by rfl) (World.news_of_block (cs := #[.int .u16 (unitAt s k)]) (t := 42) (fr := (0, 0)) (by exact heap_alloc_new wr _)) (by simp [Value.oneCell']) (by omega) (by unfold maxLen; omega) (by omega) (by simp; omega) (wr.heap.size + 1) (by simp) ?_; intro gg cap w1 hown1 hgrow hat hlt))
      all_goals
        have hown2 : w1.ownsRow w.heap.size 42 1 (Value.slice (some ⟨gg, 0, none⟩) (k + 1) cap) (k + 1) (u16s (unitsN s (k + 1))) := by
          have e : u16s (unitsN s (k + 1)) = u16s (unitsN s k) ++ [Value.int IntKind.u16 (unitAt s k)] := by simp [u16s, unitsN]
          rw [e]; exact hown1
        have hbel2 : Below w.heap.size w w1 := ((hbel.alloc hsz _).drew).grown hgrow (by simp; omega) (own_base hown)
        clear hown1 hgrow hval hsum
        go_wp2
        go_roundw
        case rel => exact ⟨k + 1, by omega, by go_num, hown2, hbel2⟩
        case measure => simp [intOf]; omega
    · have hk2 : k = s.size / 2 := by omega
      go_wp2
      go_ret
      exact ⟨_, rfl, by rw [← hk2]; exact hown, hbel⟩
end Go.Proofs.YtbodfdmmfaampaaGreatDoor

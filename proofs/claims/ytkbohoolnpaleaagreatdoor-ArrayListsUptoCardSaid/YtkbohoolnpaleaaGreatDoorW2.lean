/-
  Contracts: The contract of formatBase10. The contract of setDigits. The contract of fmtEFG in the form 'e', where the exponent is one digit. The contract of ftoa64 at whole numbers below 2^32, in the form 'e', the fewest digits. The contract of ftoa64 at whole numbers below 2^32, in the form 'e', the fewest digits. The contract of strconv.FormatFloat at whole numbers below 2^32, in the form 'e', the fewest digits. The contract of Atoi at a numeral of at most 18 bytes (turned from the guide's worked text).
-/
import Derived.Test.YtkbohoolnpaleaaGreatDoorW1
import Derived.BigRegion
import Derived.RegionTactic
import Derived.Deep.RegionHeld3
import Derived.Deep.Cut
import Derived.Deep.CutRange
import Derived.Deep.DeepCutAuto
import Derived.Deep.AppendLies
import Derived.OwnWalk
import Derived.Laws.IdiomStrings
import Derived.Laws.BytesArg
import Derived.Lib.Strings
import Derived.Lib.Walk
import Derived.Lib.ConvBytes
import Derived.Lib.Atoi
import Derived.Lib.ItoaWalk
import Derived.Laws.Strings3
import Derived.BigCall
import Derived.BigGuard
namespace Go.Proofs.YtkbohoolnpaleaaGreatDoor
open Go.RowKit
set_option maxHeartbeats 1000000
set_option maxRecDepth 100000

def smalls : ByteArray := ⟨#[48, 48, 48, 49, 48, 50, 48, 51, 48, 52, 48, 53, 48, 54, 48, 55, 48, 56, 48, 57, 49, 48, 49, 49, 49, 50, 49, 51, 49, 52, 49, 53, 49, 54, 49, 55, 49, 56, 49, 57, 50, 48, 50, 49, 50, 50, 50, 51, 50, 52, 50, 53, 50, 54, 50, 55, 50, 56, 50, 57, 51, 48, 51, 49, 51, 50, 51, 51, 51, 52, 51, 53, 51, 54, 51, 55, 51, 56, 51, 57, 52, 48, 52, 49, 52, 50, 52, 51, 52, 52, 52, 53, 52, 54, 52, 55, 52, 56, 52, 57, 53, 48, 53, 49, 53, 50, 53, 51, 53, 52, 53, 53, 53, 54, 53, 55, 53, 56, 53, 57, 54, 48, 54, 49, 54, 50, 54, 51, 54, 52, 54, 53, 54, 54, 54, 55, 54, 56, 54, 57, 55, 48, 55, 49, 55, 50, 55, 51, 55, 52, 55, 53, 55, 54, 55, 55, 55, 56, 55, 57, 56, 48, 56, 49, 56, 50, 56, 51, 56, 52, 56, 53, 56, 54, 56, 55, 56, 56, 56, 57, 57, 48, 57, 49, 57, 50, 57, 51, 57, 52, 57, 53, 57, 54, 57, 55, 57, 56, 57, 57]⟩
theorem smalls_hi (y : Nat) (h : y < 100) (h2 : y * 2 < (⟨#[48, 48, 48, 49, 48, 50, 48, 51, 48, 52, 48, 53, 48, 54, 48, 55, 48, 56, 48, 57, 49, 48, 49, 49, 49, 50, 49, 51, 49, 52, 49, 53, 49, 54, 49, 55, 49, 56, 49, 57, 50, 48, 50, 49, 50, 50, 50, 51, 50, 52, 50, 53, 50, 54, 50, 55, 50, 56, 50, 57, 51, 48, 51, 49, 51, 50, 51, 51, 51, 52, 51, 53, 51, 54, 51, 55, 51, 56, 51, 57, 52, 48, 52, 49, 52, 50, 52, 51, 52, 52, 52, 53, 52, 54, 52, 55, 52, 56, 52, 57, 53, 48, 53, 49, 53, 50, 53, 51, 53, 52, 53, 53, 53, 54, 53, 55, 53, 56, 53, 57, 54, 48, 54, 49, 54, 50, 54, 51, 54, 52, 54, 53, 54, 54, 54, 55, 54, 56, 54, 57, 55, 48, 55, 49, 55, 50, 55, 51, 55, 52, 55, 53, 55, 54, 55, 55, 55, 56, 55, 57, 56, 48, 56, 49, 56, 50, 56, 51, 56, 52, 56, 53, 56, 54, 56, 55, 56, 56, 56, 57, 57, 48, 57, 49, 57, 50, 57, 51, 57, 52, 57, 53, 57, 54, 57, 55, 57, 56, 57, 57]⟩ : ByteArray).size) : ((⟨#[48, 48, 48, 49, 48, 50, 48, 51, 48, 52, 48, 53, 48, 54, 48, 55, 48, 56, 48, 57, 49, 48, 49, 49, 49, 50, 49, 51, 49, 52, 49, 53, 49, 54, 49, 55, 49, 56, 49, 57, 50, 48, 50, 49, 50, 50, 50, 51, 50, 52, 50, 53, 50, 54, 50, 55, 50, 56, 50, 57, 51, 48, 51, 49, 51, 50, 51, 51, 51, 52, 51, 53, 51, 54, 51, 55, 51, 56, 51, 57, 52, 48, 52, 49, 52, 50, 52, 51, 52, 52, 52, 53, 52, 54, 52, 55, 52, 56, 52, 57, 53, 48, 53, 49, 53, 50, 53, 51, 53, 52, 53, 53, 53, 54, 53, 55, 53, 56, 53, 57, 54, 48, 54, 49, 54, 50, 54, 51, 54, 52, 54, 53, 54, 54, 54, 55, 54, 56, 54, 57, 55, 48, 55, 49, 55, 50, 55, 51, 55, 52, 55, 53, 55, 54, 55, 55, 55, 56, 55, 57, 56, 48, 56, 49, 56, 50, 56, 51, 56, 52, 56, 53, 56, 54, 56, 55, 56, 56, 56, 57, 57, 48, 57, 49, 57, 50, 57, 51, 57, 52, 57, 53, 57, 54, 57, 55, 57, 56, 57, 57]⟩ : ByteArray)[y * 2]'h2).toNat = 48 + y / 10 := by
  have all : ∀ j : Fin 100, ∃ h, (smalls[j.val * 2]'h).toNat = 48 + j.val / 10 := by decide +kernel
  exact (all ⟨y, h⟩).choose_spec
theorem smalls_lo (y : Nat) (h : y < 100) (h2 : y * 2 + 1 < (⟨#[48, 48, 48, 49, 48, 50, 48, 51, 48, 52, 48, 53, 48, 54, 48, 55, 48, 56, 48, 57, 49, 48, 49, 49, 49, 50, 49, 51, 49, 52, 49, 53, 49, 54, 49, 55, 49, 56, 49, 57, 50, 48, 50, 49, 50, 50, 50, 51, 50, 52, 50, 53, 50, 54, 50, 55, 50, 56, 50, 57, 51, 48, 51, 49, 51, 50, 51, 51, 51, 52, 51, 53, 51, 54, 51, 55, 51, 56, 51, 57, 52, 48, 52, 49, 52, 50, 52, 51, 52, 52, 52, 53, 52, 54, 52, 55, 52, 56, 52, 57, 53, 48, 53, 49, 53, 50, 53, 51, 53, 52, 53, 53, 53, 54, 53, 55, 53, 56, 53, 57, 54, 48, 54, 49, 54, 50, 54, 51, 54, 52, 54, 53, 54, 54, 54, 55, 54, 56, 54, 57, 55, 48, 55, 49, 55, 50, 55, 51, 55, 52, 55, 53, 55, 54, 55, 55, 55, 56, 55, 57, 56, 48, 56, 49, 56, 50, 56, 51, 56, 52, 56, 53, 56, 54, 56, 55, 56, 56, 56, 57, 57, 48, 57, 49, 57, 50, 57, 51, 57, 52, 57, 53, 57, 54, 57, 55, 57, 56, 57, 57]⟩ : ByteArray).size) : ((⟨#[48, 48, 48, 49, 48, 50, 48, 51, 48, 52, 48, 53, 48, 54, 48, 55, 48, 56, 48, 57, 49, 48, 49, 49, 49, 50, 49, 51, 49, 52, 49, 53, 49, 54, 49, 55, 49, 56, 49, 57, 50, 48, 50, 49, 50, 50, 50, 51, 50, 52, 50, 53, 50, 54, 50, 55, 50, 56, 50, 57, 51, 48, 51, 49, 51, 50, 51, 51, 51, 52, 51, 53, 51, 54, 51, 55, 51, 56, 51, 57, 52, 48, 52, 49, 52, 50, 52, 51, 52, 52, 52, 53, 52, 54, 52, 55, 52, 56, 52, 57, 53, 48, 53, 49, 53, 50, 53, 51, 53, 52, 53, 53, 53, 54, 53, 55, 53, 56, 53, 57, 54, 48, 54, 49, 54, 50, 54, 51, 54, 52, 54, 53, 54, 54, 54, 55, 54, 56, 54, 57, 55, 48, 55, 49, 55, 50, 55, 51, 55, 52, 55, 53, 55, 54, 55, 55, 55, 56, 55, 57, 56, 48, 56, 49, 56, 50, 56, 51, 56, 52, 56, 53, 56, 54, 56, 55, 56, 56, 56, 57, 57, 48, 57, 49, 57, 50, 57, 51, 57, 52, 57, 53, 57, 54, 57, 55, 57, 56, 57, 57]⟩ : ByteArray)[y * 2 + 1]'h2).toNat = 48 + y % 10 := by
  have all : ∀ j : Fin 100, ∃ h, (smalls[j.val * 2 + 1]'h).toNat = 48 + j.val % 10 := by decide +kernel
  exact (all ⟨y, h⟩).choose_spec
/-- of n digits of u those from place m on are written in block b; v is what is left -/
def FB (w0 : World) (b n u : Nat) (m v : Nat) (w : World) : Prop :=
  m ≤ n ∧ v = u / 10 ^ (n - m) ∧ Below b w0 w ∧ (∀ j, j < n → (∃ x, w.cell? ⟨b, j, none⟩ = some x) ∧ w.frozen? ⟨b, j, none⟩ = false) ∧
  ∀ j, m ≤ j → j < n → w.cell? ⟨b, j, none⟩ = some (.int .u8 ((48 + u / 10 ^ (n - 1 - j) % 10 : Nat) : Int))
theorem FB.put {w0 w : World} {b n u m v : Nat} (h : FB w0 b n u m v w) (hm : 1 ≤ m) {x : Nat} (hx : x = 48 + v % 10) :
    FB w0 b n u (m - 1) (v / 10) (w.setCell ⟨b, m - 1, none⟩ (.int .u8 (x : Int))) := by
  obtain ⟨h1, h2, h3, h4, h5⟩ := h
  obtain ⟨⟨y, hy⟩, _⟩ := h4 (m - 1) (by omega)
  refine ⟨by omega, ?_, h3.setCell (Nat.le_refl _) _, fun j hj => ⟨?_, ?_⟩, fun j hj hjn => ?_⟩
  · rw [h2, Nat.div_div_eq_div_mul, ← Nat.pow_succ]
    have : (n - m).succ = n - (m - 1) := by omega
    rw [this]
  · by_cases e : j = m - 1
    · subst e; exact ⟨_, set_sameD hy⟩
    · obtain ⟨⟨z, hz⟩, _⟩ := h4 j hj
      exact ⟨z, (set_other (fun h => e h.symm)).trans hz⟩
  · rw [World.frozen?_setCell]; exact (h4 j hj).2
  · by_cases e : j = m - 1
    · subst e
      rw [set_sameD hy, hx, h2]
      have : n - 1 - (m - 1) = n - m := by omega
      rw [this]
    · rw [set_other (fun h => e h.symm)]
      exact h5 j (by omega) hjn
theorem FB.draw {w0 w : World} {b n u m v : Nat} (h : FB w0 b n u m v w) : FB w0 b n u m v w.drew := ⟨h.1, h.2.1, h.2.2.1.drew, h.2.2.2.1, h.2.2.2.2⟩
theorem c_fmt10 (n u b c : Nat) (hn : n ≤ 32) (hu : u < 10 ^ n) (hu2 : u < 18446744073709551616) (w0 w : World) (h : FB w0 b n u n u w) :
    Calls Tryz.prog 135 #[.slice (some ⟨b, 0, none⟩) n c, .int .u64 (u : Int)] w fun e w' => e = .returned (.tuple #[]) ∧ FB w0 b n u 0 0 w' := by
  go_enter Tryz.func135, Tryz.ntmps135
  go_wp2_with fail
  go_loopw [4, 1, 5, 6, 7, 8, 9, 10, 11] (fun vn vu _ _ _ _ _ _ _ wr => ∃ m v : Nat, vn = .int .i64 (m : Int) ∧ vu = .int .u64 (v : Int) ∧ FB w0 b n u m v wr) (fun vn _ _ _ _ _ _ _ _ _ => (intOf vn).toNat)
  case atStart => exact ⟨n, u, rfl, rfl, h⟩
  case round =>
    obtain ⟨m, v, rfl, rfl, hfb⟩ := hrel
    have hv2 : v < 18446744073709551616 := by
      have := hfb.2.1
      exact Nat.lt_of_le_of_lt (by rw [this]; exact Nat.div_le_self _ _) hu2
    have hvm : v < 10 ^ m := by
      rw [hfb.2.1]
      have h1 := hfb.1
      apply Nat.div_lt_of_lt_mul
      rw [← Nat.pow_add]
      have : n - m + m = n := by omega
      rw [this]; exact hu
    have hmn := hfb.1
    clear h
    by_cases h8 : 8 ≤ m
    · have h8' : (8 : Int) ≤ (m : Int) := by omega
      replace hfb := Lib.hid hfb
      clear hvm
      obtain ⟨y0, hy0⟩ : ∃ y, y = v % 100 := ⟨_, rfl⟩
      have a0 : (v : Int) % 100 = (y0 : Int) := by omega
      have l0 : y0 < 100 := by omega
      replace hy0 := Lib.hid hy0
      obtain ⟨y1, hy1⟩ : ∃ y, y = v % 10000 / 100 := ⟨_, rfl⟩
      have a1 : (v : Int) % 10000 / 100 = (y1 : Int) := by omega
      have l1 : y1 < 100 := by omega
      replace hy1 := Lib.hid hy1
      obtain ⟨y2, hy2⟩ : ∃ y, y = v % 100000000 / 10000 % 100 := ⟨_, rfl⟩
      have a2 : (v : Int) % 100000000 / 10000 % 100 = (y2 : Int) := by omega
      have l2 : y2 < 100 := by omega
      replace hy2 := Lib.hid hy2
      obtain ⟨y3, hy3⟩ : ∃ y, y = v % 100000000 / 10000 / 100 := ⟨_, rfl⟩
      have a3 : (v : Int) % 100000000 / 10000 / 100 = (y3 : Int) := by omega
      have l3 : y3 < 100 := by omega
      replace hy3 := Lib.hid hy3
      go_upto_region 7 with (fail)
      go_cut [44] from 42 to 54 (fun _ wc => FB w0 b n u (m - 2) (v / 100) wc)
      case first =>
        obtain ⟨⟨x1, c1⟩, f1⟩ := hfb.out.2.2.2.1 (m - 1) (by omega)
        obtain ⟨⟨x2, c2⟩, f2⟩ := hfb.out.2.2.2.1 (m - 2) (by omega)
        have e1 : ((m : Int) - 1).toNat = m - 1 := by omega
        have e2 : ((m : Int) - 2).toNat = m - 2 := by omega
        have b1 : (0 : Int) ≤ (m : Int) - 1 ∧ (m : Int) - 1 < (n : Int) := by omega
        have b2 : (0 : Int) ≤ (m : Int) - 2 ∧ (m : Int) - 2 < (n : Int) := by omega
        have w1 : IntKind.u32.wrap ((y0 : Int) * 2 + 1) = (y0 : Int) * 2 + 1 := by rw [IntKind.wrap_u32]; omega
        have t1 : ((y0 : Int) * 2 + 1).toNat = y0 * 2 + 1 := by omega
        have s1 : ((y0 : Int) * 2).toNat = y0 * 2 := by omega
        have g1 : (y0 : Int) * 2 + 1 < 200 := by omega
        have k1 : (y0 : Int) * 2 < 200 := by omega
        have z1 : (0 : Int) ≤ (y0 : Int) * 2 + 1 := by omega
        have q1 : (0 : Int) ≤ (y0 : Int) * 2 := by omega
        go_region
        go_wp2_with fail
        go_meet
        case rel =>
          have e3 : m - 2 = m - 1 - 1 := by omega
          have e4 : v / 100 = v / 10 / 10 := by omega
          rw [e3, e4]
          have hp := hfb.out
          refine FB.put (m := m - 1) (FB.put (m := m) (FB.draw hp) (by omega) ?_) (by omega) ?_
          · rw [smalls_lo _ l0]; have := hy0.out; omega
          · rw [smalls_hi _ l0]; have := hy0.out; omega
      case rest =>
        have h0c := Lib.hid hcut
        clear hcut
        go_upto_region 8 with (fail)
        go_cut [57] from 55 to 67 (fun _ wc => FB w0 b n u (m - 4) (v / 10000) wc)
        case first =>
          obtain ⟨⟨x1, c1⟩, f1⟩ := h0c.out.2.2.2.1 (m - 3) (by omega)
          obtain ⟨⟨x2, c2⟩, f2⟩ := h0c.out.2.2.2.1 (m - 4) (by omega)
          have e1 : ((m : Int) - 3).toNat = m - 3 := by omega
          have e2 : ((m : Int) - 4).toNat = m - 4 := by omega
          have b1 : (0 : Int) ≤ (m : Int) - 3 ∧ (m : Int) - 3 < (n : Int) := by omega
          have b2 : (0 : Int) ≤ (m : Int) - 4 ∧ (m : Int) - 4 < (n : Int) := by omega
          have w1 : IntKind.u32.wrap ((y1 : Int) * 2 + 1) = (y1 : Int) * 2 + 1 := by rw [IntKind.wrap_u32]; omega
          have t1 : ((y1 : Int) * 2 + 1).toNat = y1 * 2 + 1 := by omega
          have s1 : ((y1 : Int) * 2).toNat = y1 * 2 := by omega
          have g1 : (y1 : Int) * 2 + 1 < 200 := by omega
          have k1 : (y1 : Int) * 2 < 200 := by omega
          have z1 : (0 : Int) ≤ (y1 : Int) * 2 + 1 := by omega
          have q1 : (0 : Int) ≤ (y1 : Int) * 2 := by omega
          go_region
          go_wp2_with fail
          go_meet
          case rel =>
            have e3 : m - 4 = m - 3 - 1 := by omega
            have e4 : v / 10000 = v / 100 / 10 / 10 := by omega
            rw [e3, e4]
            have hp := h0c.out
            refine FB.put (m := m - 3) (FB.put (m := m - 2) (FB.draw hp) (by omega) ?_) (by omega) ?_
            · rw [smalls_lo _ l1]; have := hy1.out; omega
            · rw [smalls_hi _ l1]; have := hy1.out; omega
        case rest =>
          have h1c := Lib.hid hcut
          clear hcut
          go_upto_region 9 with (fail)
          go_cut [70] from 68 to 80 (fun _ wc => FB w0 b n u (m - 6) (v / 1000000) wc)
          case first =>
            obtain ⟨⟨x1, c1⟩, f1⟩ := h1c.out.2.2.2.1 (m - 5) (by omega)
            obtain ⟨⟨x2, c2⟩, f2⟩ := h1c.out.2.2.2.1 (m - 6) (by omega)
            have e1 : ((m : Int) - 5).toNat = m - 5 := by omega
            have e2 : ((m : Int) - 6).toNat = m - 6 := by omega
            have b1 : (0 : Int) ≤ (m : Int) - 5 ∧ (m : Int) - 5 < (n : Int) := by omega
            have b2 : (0 : Int) ≤ (m : Int) - 6 ∧ (m : Int) - 6 < (n : Int) := by omega
            have w1 : IntKind.u32.wrap ((y2 : Int) * 2 + 1) = (y2 : Int) * 2 + 1 := by rw [IntKind.wrap_u32]; omega
            have t1 : ((y2 : Int) * 2 + 1).toNat = y2 * 2 + 1 := by omega
            have s1 : ((y2 : Int) * 2).toNat = y2 * 2 := by omega
            have g1 : (y2 : Int) * 2 + 1 < 200 := by omega
            have k1 : (y2 : Int) * 2 < 200 := by omega
            have z1 : (0 : Int) ≤ (y2 : Int) * 2 + 1 := by omega
            have q1 : (0 : Int) ≤ (y2 : Int) * 2 := by omega
            go_region
            go_wp2_with fail
            go_meet
            case rel =>
              have e3 : m - 6 = m - 5 - 1 := by omega
              have e4 : v / 1000000 = v / 10000 / 10 / 10 := by omega
              rw [e3, e4]
              have hp := h1c.out
              refine FB.put (m := m - 5) (FB.put (m := m - 4) (FB.draw hp) (by omega) ?_) (by omega) ?_
              · rw [smalls_lo _ l2]; have := hy2.out; omega
              · rw [smalls_hi _ l2]; have := hy2.out; omega
          case rest =>
            have h2c := Lib.hid hcut
            clear hcut
            go_upto_region 10 with (fail)
            go_cut [83] from 81 to 93 (fun _ wc => FB w0 b n u (m - 8) (v / 100000000) wc)
            case first =>
              obtain ⟨⟨x1, c1⟩, f1⟩ := h2c.out.2.2.2.1 (m - 7) (by omega)
              obtain ⟨⟨x2, c2⟩, f2⟩ := h2c.out.2.2.2.1 (m - 8) (by omega)
              have e1 : ((m : Int) - 7).toNat = m - 7 := by omega
              have e2 : ((m : Int) - 8).toNat = m - 8 := by omega
              have b1 : (0 : Int) ≤ (m : Int) - 7 ∧ (m : Int) - 7 < (n : Int) := by omega
              have b2 : (0 : Int) ≤ (m : Int) - 8 ∧ (m : Int) - 8 < (n : Int) := by omega
              have w1 : IntKind.u32.wrap ((y3 : Int) * 2 + 1) = (y3 : Int) * 2 + 1 := by rw [IntKind.wrap_u32]; omega
              have t1 : ((y3 : Int) * 2 + 1).toNat = y3 * 2 + 1 := by omega
              have s1 : ((y3 : Int) * 2).toNat = y3 * 2 := by omega
              have g1 : (y3 : Int) * 2 + 1 < 200 := by omega
              have k1 : (y3 : Int) * 2 < 200 := by omega
              have z1 : (0 : Int) ≤ (y3 : Int) * 2 + 1 := by omega
              have q1 : (0 : Int) ≤ (y3 : Int) * 2 := by omega
              go_region
              go_wp2_with fail
              go_meet
              case rel =>
                have e3 : m - 8 = m - 7 - 1 := by omega
                have e4 : v / 100000000 = v / 1000000 / 10 / 10 := by omega
                rw [e3, e4]
                have hp := h2c.out
                refine FB.put (m := m - 7) (FB.put (m := m - 6) (FB.draw hp) (by omega) ?_) (by omega) ?_
                · rw [smalls_lo _ l3]; have := hy3.out; omega
                · rw [smalls_hi _ l3]; have := hy3.out; omega
            case rest =>
              have h3c := Lib.hid hcut
              clear hcut
              go_wp2_with fail
              go_roundw
              case rel => exact ⟨m - 8, v / 100000000, by go_num, by go_num, h3c.out⟩
              case measure => simp [intOf]; omega
    · have h8' : ¬ (8 : Int) ≤ (m : Int) := by omega
      have hp7 : 10 ^ m ≤ 10 ^ 7 := Nat.pow_le_pow_right (by decide) (by omega)
      have hv8 : v < 10000000 := Nat.lt_of_lt_of_le hvm hp7
      have hv9 : (v : Int) < 10000000 := by omega
      clear hp7 hu2 hv2
      replace hfb := Lib.hid hfb
      by_cases h4 : 4 ≤ m
      · have h4' : (4 : Int) ≤ (m : Int) := by omega
        obtain ⟨y0, hy0⟩ : ∃ y, y = v % 100 := ⟨_, rfl⟩
        have a0 : (v : Int) % 100 = (y0 : Int) := by omega
        have l0 : y0 < 100 := by omega
        replace hy0 := Lib.hid hy0
        obtain ⟨y1, hy1⟩ : ∃ y, y = v % 10000 / 100 := ⟨_, rfl⟩
        have a1 : (v : Int) % 10000 / 100 = (y1 : Int) := by omega
        have l1 : y1 < 100 := by omega
        replace hy1 := Lib.hid hy1
        go_upto_region 17 with (fail)
        go_cut [112] (fun _ wc => FB w0 b n u (m - 2) (v / 100) wc)
        case first =>
          obtain ⟨⟨x1, c1⟩, f1⟩ := hfb.out.2.2.2.1 (m - 1) (by omega)
          obtain ⟨⟨x2, c2⟩, f2⟩ := hfb.out.2.2.2.1 (m - 2) (by omega)
          have e1 : ((m : Int) - 1).toNat = m - 1 := by omega
          have e2 : ((m : Int) - 2).toNat = m - 2 := by omega
          have b1 : (0 : Int) ≤ (m : Int) - 1 ∧ (m : Int) - 1 < (n : Int) := by omega
          have b2 : (0 : Int) ≤ (m : Int) - 2 ∧ (m : Int) - 2 < (n : Int) := by omega
          have w1 : IntKind.u32.wrap ((y0 : Int) * 2 + 1) = (y0 : Int) * 2 + 1 := by rw [IntKind.wrap_u32]; omega
          have t1 : ((y0 : Int) * 2 + 1).toNat = y0 * 2 + 1 := by omega
          have s1 : ((y0 : Int) * 2).toNat = y0 * 2 := by omega
          have g1 : (y0 : Int) * 2 + 1 < 200 := by omega
          have k1 : (y0 : Int) * 2 < 200 := by omega
          have z1 : (0 : Int) ≤ (y0 : Int) * 2 + 1 := by omega
          have q1 : (0 : Int) ≤ (y0 : Int) * 2 := by omega
          go_region
          go_wp2_with fail
          go_meet
          case rel =>
            have e3 : m - 2 = m - 1 - 1 := by omega
            have e4 : v / 100 = v / 10 / 10 := by omega
            rw [e3, e4]
            have hp := hfb.out
            refine FB.put (m := m - 1) (FB.put (m := m) (FB.draw hp) (by omega) ?_) (by omega) ?_
            · rw [smalls_lo _ l0]; have := hy0.out; omega
            · rw [smalls_hi _ l0]; have := hy0.out; omega
        case rest =>
          have h0c := Lib.hid hcut
          clear hcut
          go_upto_region 18 with (fail)
          go_cut [125] (fun _ wc => FB w0 b n u (m - 4) (v / 10000) wc)
          case first =>
            obtain ⟨⟨x1, c1⟩, f1⟩ := h0c.out.2.2.2.1 (m - 3) (by omega)
            obtain ⟨⟨x2, c2⟩, f2⟩ := h0c.out.2.2.2.1 (m - 4) (by omega)
            have e1 : ((m : Int) - 3).toNat = m - 3 := by omega
            have e2 : ((m : Int) - 4).toNat = m - 4 := by omega
            have b1 : (0 : Int) ≤ (m : Int) - 3 ∧ (m : Int) - 3 < (n : Int) := by omega
            have b2 : (0 : Int) ≤ (m : Int) - 4 ∧ (m : Int) - 4 < (n : Int) := by omega
            have w1 : IntKind.u32.wrap ((y1 : Int) * 2 + 1) = (y1 : Int) * 2 + 1 := by rw [IntKind.wrap_u32]; omega
            have t1 : ((y1 : Int) * 2 + 1).toNat = y1 * 2 + 1 := by omega
            have s1 : ((y1 : Int) * 2).toNat = y1 * 2 := by omega
            have g1 : (y1 : Int) * 2 + 1 < 200 := by omega
            have k1 : (y1 : Int) * 2 < 200 := by omega
            have z1 : (0 : Int) ≤ (y1 : Int) * 2 + 1 := by omega
            have q1 : (0 : Int) ≤ (y1 : Int) * 2 := by omega
            go_region
            go_wp2_with fail
            go_meet
            case rel =>
              have e3 : m - 4 = m - 3 - 1 := by omega
              have e4 : v / 10000 = v / 100 / 10 / 10 := by omega
              rw [e3, e4]
              have hp := h0c.out
              refine FB.put (m := m - 3) (FB.put (m := m - 2) (FB.draw hp) (by omega) ?_) (by omega) ?_
              · rw [smalls_lo _ l1]; have := hy1.out; omega
              · rw [smalls_hi _ l1]; have := hy1.out; omega
          case rest =>
            have h1c := Lib.hid hcut
            clear hcut
            have hm4 : m - 4 < 4 := by omega
            by_cases h2 : 2 ≤ m - 4
            · have h2' : (2 : Int) ≤ (m : Int) - 4 := by omega
              have hv4 : v / 10000 < 1000 := by
                have := Nat.pow_le_pow_right (n := 10) (by decide) (show m ≤ 7 by omega)
                omega
              obtain ⟨y5, hy5⟩ : ∃ y, y = v / 10000 % 100 := ⟨_, rfl⟩
              have a5 : (v : Int) / 10000 % 100 = (y5 : Int) := by omega
              have l5 : y5 < 100 := by omega
              replace hy5 := Lib.hid hy5
              go_upto_region 23 with (fail)
              go_cut [147] (fun _ wc => FB w0 b n u (m - 6) (v / 1000000) wc)
              case first =>
                obtain ⟨⟨x1, c1⟩, f1⟩ := h1c.out.2.2.2.1 (m - 5) (by omega)
                obtain ⟨⟨x2, c2⟩, f2⟩ := h1c.out.2.2.2.1 (m - 6) (by omega)
                have e1 : ((m : Int) - 4 - 1).toNat = m - 5 := by omega
                have e2 : ((m : Int) - 4 - 2).toNat = m - 6 := by omega
                have b1 : (0 : Int) ≤ (m : Int) - 4 - 1 ∧ (m : Int) - 4 - 1 < (n : Int) := by omega
                have b2 : (0 : Int) ≤ (m : Int) - 4 - 2 ∧ (m : Int) - 4 - 2 < (n : Int) := by omega
                have w1 : IntKind.u32.wrap ((y5 : Int) * 2 + 1) = (y5 : Int) * 2 + 1 := by rw [IntKind.wrap_u32]; omega
                have t1 : ((y5 : Int) * 2 + 1).toNat = y5 * 2 + 1 := by omega
                have s1 : ((y5 : Int) * 2).toNat = y5 * 2 := by omega
                have g1 : (y5 : Int) * 2 + 1 < 200 := by omega
                have k1 : (y5 : Int) * 2 < 200 := by omega
                have z1 : (0 : Int) ≤ (y5 : Int) * 2 + 1 := by omega
                have q1 : (0 : Int) ≤ (y5 : Int) * 2 := by omega
                go_region
                go_wp2_with fail
                go_meet
                case rel =>
                  have e3 : m - 6 = m - 5 - 1 := by omega
                  have e4 : v / 1000000 = v / 10000 / 10 / 10 := by omega
                  rw [e3, e4]
                  have hp := h1c.out
                  refine FB.put (m := m - 5) (FB.put (m := m - 4) (FB.draw hp) (by omega) ?_) (by omega) ?_
                  · rw [smalls_lo _ l5]; have := hy5.out; omega
                  · rw [smalls_hi _ l5]; have := hy5.out; omega
              case rest =>
                have h5c := Lib.hid hcut
                clear hcut
                by_cases h1 : 1 ≤ m - 6
                · have h1' : (0 : Int) < (m : Int) - 4 - 2 := by omega
                  have hv6 : v / 1000000 < 10 := by omega
                  obtain ⟨⟨x1, c1⟩, f1⟩ := h5c.out.2.2.2.1 0 (by omega)
                  have hn0 : (0 : Int) < (n : Int) := by omega
                  have hn1 : (0 : Int) ≤ 0 ∧ (0 : Int) < (n : Int) := by omega
                  have hv7 : (v : Int) / 10000 / 100 < 10 := by omega
                  have e3 : (0 : Nat) = m - 6 - 1 := by omega
                  have e4 : (0 : Nat) = v / 1000000 / 10 := by omega
                  have hq := FB.put (x := 48 + v / 10000 / 100) h5c.out (by omega) (by omega)
                  rw [← e3, ← e4] at hq
                  replace hq := Lib.hid hq
                  clear e3 e4 hv6 h1 hv8 hvm hm4 h8 hv4 h2 h4
                  go_upto_region 25 with (fail)
                  clear hv9
                  go_wp2_with fail
                  go_end0
                  exact ⟨rfl, hq.out⟩
                · have h1' : ¬ (0 : Int) < (m : Int) - 4 - 2 := by omega
                  have hv6 : v < 1000000 := by
                    have := Nat.pow_le_pow_right (n := 10) (by decide) (show m ≤ 6 by omega)
                    omega
                  have e3 : m - 6 = 0 := by omega
                  have e4 : v / 1000000 = 0 := by omega
                  have hq := h5c.out
                  rw [e3, e4] at hq
                  replace hq := Lib.hid hq
                  clear e3 e4 hv6 h1 hv8 hvm hm4 h8 hv4 h2 h4
                  go_upto_region 25 with (fail)
                  clear hv9
                  go_wp2_with fail
                  go_end0
                  exact ⟨rfl, hq.out⟩
            · have h2' : ¬ (2 : Int) ≤ (m : Int) - 4 := by omega
              by_cases h1 : 1 ≤ m - 4
              · have h1' : (0 : Int) < (m : Int) - 4 := by omega
                have hv6 : v / 10000 < 10 := by
                  have := Nat.pow_le_pow_right (n := 10) (by decide) (show m ≤ 5 by omega)
                  omega
                obtain ⟨⟨x1, c1⟩, f1⟩ := h1c.out.2.2.2.1 0 (by omega)
                have hn0 : (0 : Int) < (n : Int) := by omega
                have hn1 : (0 : Int) ≤ 0 ∧ (0 : Int) < (n : Int) := by omega
                have hv7 : (v : Int) / 10000 < 10 := by omega
                have e3 : (0 : Nat) = m - 4 - 1 := by omega
                have e4 : (0 : Nat) = v / 10000 / 10 := by omega
                have hq := FB.put (x := 48 + v / 10000) h1c.out (by omega) (by omega)
                rw [← e3, ← e4] at hq
                replace hq := Lib.hid hq
                clear e3 e4 hv6 h1 hv8 hvm hm4 h8 h2 h4
                go_upto_region 25 with (fail)
                clear hv9
                go_wp2_with fail
                go_end0
                exact ⟨rfl, hq.out⟩
              · have h1' : ¬ (0 : Int) < (m : Int) - 4 := by omega
                have hv6 : v < 10000 := by
                  have := Nat.pow_le_pow_right (n := 10) (by decide) (show m ≤ 4 by omega)
                  omega
                have e3 : m - 4 = 0 := by omega
                have e4 : v / 10000 = 0 := by omega
                have hq := h1c.out
                rw [e3, e4] at hq
                replace hq := Lib.hid hq
                clear e3 e4 hv6 h1 hv8 hvm hm4 h8 h2 h4
                go_upto_region 25 with (fail)
                clear hv9
                go_wp2_with fail
                go_end0
                exact ⟨rfl, hq.out⟩
      · have h4' : ¬ (4 : Int) ≤ (m : Int) := by omega
        have hm4 : m < 4 := by omega
        by_cases h2 : 2 ≤ m
        · have h2' : (2 : Int) ≤ (m : Int) := by omega
          have hv4 : v < 1000 := by
            have := Nat.pow_le_pow_right (n := 10) (by decide) (show m ≤ 3 by omega)
            omega
          obtain ⟨y5, hy5⟩ : ∃ y, y = v % 100 := ⟨_, rfl⟩
          have a5 : (v : Int) % 100 = (y5 : Int) := by omega
          have l5 : y5 < 100 := by omega
          replace hy5 := Lib.hid hy5
          go_upto_region 23 with (fail)
          go_cut [147] (fun _ wc => FB w0 b n u (m - 2) (v / 100) wc)
          case first =>
            obtain ⟨⟨x1, c1⟩, f1⟩ := hfb.out.2.2.2.1 (m - 1) (by omega)
            obtain ⟨⟨x2, c2⟩, f2⟩ := hfb.out.2.2.2.1 (m - 2) (by omega)
            have e1 : ((m : Int) - 1).toNat = m - 1 := by omega
            have e2 : ((m : Int) - 2).toNat = m - 2 := by omega
            have b1 : (0 : Int) ≤ (m : Int) - 1 ∧ (m : Int) - 1 < (n : Int) := by omega
            have b2 : (0 : Int) ≤ (m : Int) - 2 ∧ (m : Int) - 2 < (n : Int) := by omega
            have w1 : IntKind.u32.wrap ((y5 : Int) * 2 + 1) = (y5 : Int) * 2 + 1 := by rw [IntKind.wrap_u32]; omega
            have t1 : ((y5 : Int) * 2 + 1).toNat = y5 * 2 + 1 := by omega
            have s1 : ((y5 : Int) * 2).toNat = y5 * 2 := by omega
            have g1 : (y5 : Int) * 2 + 1 < 200 := by omega
            have k1 : (y5 : Int) * 2 < 200 := by omega
            have z1 : (0 : Int) ≤ (y5 : Int) * 2 + 1 := by omega
            have q1 : (0 : Int) ≤ (y5 : Int) * 2 := by omega
            go_region
            go_wp2_with fail
            go_meet
            case rel =>
              have e3 : m - 2 = m - 1 - 1 := by omega
              have e4 : v / 100 = v / 10 / 10 := by omega
              rw [e3, e4]
              have hp := hfb.out
              refine FB.put (m := m - 1) (FB.put (m := m) (FB.draw hp) (by omega) ?_) (by omega) ?_
              · rw [smalls_lo _ l5]; have := hy5.out; omega
              · rw [smalls_hi _ l5]; have := hy5.out; omega
          case rest =>
            have h5c := Lib.hid hcut
            clear hcut
            by_cases h1 : 1 ≤ m - 2
            · have h1' : (0 : Int) < (m : Int) - 2 := by omega
              have hv6 : v / 100 < 10 := by omega
              obtain ⟨⟨x1, c1⟩, f1⟩ := h5c.out.2.2.2.1 0 (by omega)
              have hn0 : (0 : Int) < (n : Int) := by omega
              have hn1 : (0 : Int) ≤ 0 ∧ (0 : Int) < (n : Int) := by omega
              have hv7 : (v : Int) / 100 < 10 := by omega
              have e3 : (0 : Nat) = m - 2 - 1 := by omega
              have e4 : (0 : Nat) = v / 100 / 10 := by omega
              have hq := FB.put (x := 48 + v / 100) h5c.out (by omega) (by omega)
              rw [← e3, ← e4] at hq
              replace hq := Lib.hid hq
              clear e3 e4 hv6 h1 hv8 hvm hm4 h8 hv4 h2 h4
              go_upto_region 25 with (fail)
              clear hv9
              go_wp2_with fail
              go_end0
              exact ⟨rfl, hq.out⟩
            · have h1' : ¬ (0 : Int) < (m : Int) - 2 := by omega
              have hv6 : v < 100 := by
                have := Nat.pow_le_pow_right (n := 10) (by decide) (show m ≤ 2 by omega)
                omega
              have e3 : m - 2 = 0 := by omega
              have e4 : v / 100 = 0 := by omega
              have hq := h5c.out
              rw [e3, e4] at hq
              replace hq := Lib.hid hq
              clear e3 e4 hv6 h1 hv8 hvm hm4 h8 hv4 h2 h4
              go_upto_region 25 with (fail)
              clear hv9
              go_wp2_with fail
              go_end0
              exact ⟨rfl, hq.out⟩
        · have h2' : ¬ (2 : Int) ≤ (m : Int) := by omega
          by_cases h1 : 1 ≤ m
          · have h1' : (0 : Int) < (m : Int) := by omega
            have hv6 : v < 10 := by
              have := Nat.pow_le_pow_right (n := 10) (by decide) (show m ≤ 1 by omega)
              omega
            obtain ⟨⟨x1, c1⟩, f1⟩ := hfb.out.2.2.2.1 0 (by omega)
            have hn0 : (0 : Int) < (n : Int) := by omega
            have hn1 : (0 : Int) ≤ 0 ∧ (0 : Int) < (n : Int) := by omega
            have hv7 : (v : Int) < 10 := by omega
            have e3 : (0 : Nat) = m - 1 := by omega
            have e4 : (0 : Nat) = v / 10 := by omega
            have hq := FB.put (x := 48 + v) hfb.out (by omega) (by omega)
            rw [← e3, ← e4] at hq
            replace hq := Lib.hid hq
            clear e3 e4 hv6 h1 hv8 hvm hm4 h8 h2 h4
            go_upto_region 25 with (fail)
            clear hv9
            go_wp2_with fail
            go_end0
            exact ⟨rfl, hq.out⟩
          · have h1' : ¬ (0 : Int) < (m : Int) := by omega
            have hv6 : v < 1 := by
              have := Nat.pow_le_pow_right (n := 10) (by decide) (show m ≤ 0 by omega)
              omega
            have e3 : m = 0 := by omega
            have e4 : v = 0 := by omega
            have hq := hfb.out
            rw [e3, e4] at hq
            replace hq := Lib.hid hq
            clear e3 e4 hv6 h1 hv8 hvm hm4 h8 h2 h4
            go_upto_region 25 with (fail)
            clear hv9
            go_wp2_with fail
            go_end0
            exact ⟨rfl, hq.out⟩
end Go.Proofs.YtkbohoolnpaleaaGreatDoor
namespace Go.Proofs.YtkbohoolnpaleaaGreatDoor
open Go.RowKit
set_option maxHeartbeats 1000000
set_option maxRecDepth 100000

theorem FB.cell {w0 w : World} {b n u : Nat} (h : FB w0 b n u 0 0 w) (j : Nat) (hj : j < n) : w.cell? ⟨b, j, none⟩ = some (.int .u8 ((48 + u / 10 ^ (n - 1 - j) % 10 : Nat) : Int)) := h.2.2.2.2 j (Nat.zero_le _) hj
theorem trim_digits {n u m v : Nat} (hm : m ≤ n) (hm1 : 1 ≤ m) (hu : u = v * 10 ^ (n - m)) (hv : v % 10 ≠ 0) :
    (∀ j, m ≤ j → j < n → u / 10 ^ (n - 1 - j) % 10 = 0) ∧ u / 10 ^ (n - 1 - (m - 1)) % 10 ≠ 0 := by
  constructor
  · intro j h1 h2
    have e : n - m = (n - 1 - j) + ((j - m) + 1) := by omega
    rw [hu, e, Nat.pow_add, Nat.mul_comm (10 ^ (n - 1 - j)), ← Nat.mul_assoc, Nat.mul_div_cancel _ (Nat.pow_pos (by decide)), Nat.pow_succ, ← Nat.mul_assoc]
    exact Nat.mul_mod_left _ _
  · have e : n - 1 - (m - 1) = n - m := by omega
    rw [e, hu, Nat.mul_div_cancel _ (Nat.pow_pos (by decide))]
    exact hv
theorem c_setDigits (b d n m v : Nat) (p : Int) (hp1 : -100000 ≤ p) (hp2 : p ≤ 100000) (hn : n ≤ 32) (hd : d < 10 ^ n) (hd2 : d < 18446744073709551616) (hm1 : 1 ≤ m) (hm : m ≤ n) (hdv : d = v * 10 ^ (n - m)) (hv : v % 10 ≠ 0) (w0 w : World) (h : FB w0 b n d n d w) :
    Calls Tryz.prog 123 #[.slice (some ⟨b, 0, none⟩) 32 32, .int .u64 (d : Int), .int .i64 p, .int .i64 (n : Int)] w fun e w' => e = .returned (.tuple #[.int .i64 ((n : Int) + p), .int .i64 (m : Int)]) ∧ FB w0 b n d 0 0 w' := by
  have hF := Lib.hid (c_fmt10 n d b 32 hn hd hd2 w0 w h)
  obtain ⟨g1, g2⟩ := trim_digits hm hm1 hdv hv
  have hnI : (n : Int) ≤ 32 := by omega
  have g1 := Lib.hid g1
  have g2 := Lib.hid g2
  clear h hdv hv hd hd2
  go_enter Tryz.func123, Tryz.ntmps123
  go_wp2_with (go_at_call 135; refine hF.out.mono ?_; rintro e w1 ⟨rfl, hfb⟩)
  replace hfb := Lib.hid hfb
  go_loop [3] (fun vn => ∃ k : Nat, m ≤ k ∧ k ≤ n ∧ vn = .int .i64 (k : Int)) (fun vn => (intOf vn).toNat)
  case atStart => exact ⟨n, hm, Nat.le_refl _, rfl⟩
  case round =>
    obtain ⟨k, hk1, hk2, rfl⟩ := hrel
    have hc := hfb.out.cell (k - 1) (by omega)
    have e1 : ((k : Int) - 1).toNat = k - 1 := by omega
    have b1 : (0 : Int) ≤ (k : Int) - 1 ∧ (k : Int) - 1 < 32 := by omega
    have hk0 : (0 : Int) < (k : Int) := by omega
    by_cases hlt : m < k
    · have hz := g1.out (k - 1) (by omega) (by omega)
      rw [hz] at hc
      clear hF
      go_wp2
      go_round
      case rel => exact ⟨k - 1, by omega, by omega, by go_num⟩
      case measure => simp [intOf]; omega
    · obtain rfl : k = m := by omega
      have hz := g2.out
      generalize d / 10 ^ (n - 1 - (k - 1)) % 10 = x at *
      have hne : (((48 + x : Nat) : Int) == 48) = false := by simp; omega
      clear hF hz
      go_wp2
      refine bodyPost_ret (v := .tuple #[.int .i64 ((n : Int) + p), .int .i64 (k : Int)]) (by simp [results, Tryz.results123, go_sem]) rfl ?_
      exact ⟨rfl, hfb.out⟩
end Go.Proofs.YtkbohoolnpaleaaGreatDoor
namespace Go.Proofs.YtkbohoolnpaleaaGreatDoor
open Go.RowKit
set_option maxHeartbeats 1000000
set_option maxRecDepth 100000

def b8 (l : List Nat) : List Value := l.map fun n : Nat => .int .u8 (n : Int)
theorem b8_len (l : List Nat) : (b8 l).length = l.length := by simp [b8]
theorem infoByte : (Tryz.prog.info? 5).map (fun i => (i.zero, i.size, i.bytes)) = some (some (.int .u8 0), 1, 1) := by kernel_rfl
/-- a row of bytes of the call's own, from block B on, that is not block b; block b as in w0 -/
def Buf (w0 w : World) (B b : Nat) (v : Value) (l : List Nat) : Prop :=
  w.ownsRow B 5 1 v l.length (b8 l) ∧ v.ownBlock ≠ some b ∧ Below B w0 w ∧ w.heap[b]? = w0.heap[b]? ∧ b < w.heap.size
theorem own_lo {w : World} {base : Nat} {e : TypeId} {size : Nat} {v : Value} {n : Nat} {xs : List Value} (h : w.ownsRow base e size v n xs) : ∀ k, v.ownBlock = some k → base ≤ k := by
  intro k hk
  rcases h.2 with ⟨rfl, _⟩ | ⟨g, cap, cur, rfl, hb, _⟩
  · cases hk
  · cases hk; exact hb
theorem Buf.step {w0 w w' : World} {B b g n c : Nat} {v : Value} {l news : List Nat} {o : Obj} (h : Buf w0 w B b v l) (hB : B ≤ w.heap.size) (hg : (w.alloc o).grownBy w' v.ownBlock)
    (hown : w'.ownsRow B 5 1 (.slice (some ⟨g, 0, none⟩) n c) n (b8 l ++ b8 news)) (hn : n = (l ++ news).length) (hat : v.ownBlock = some g ∨ g = w.heap.size + 1) :
    Buf w0 w' B b (.slice (some ⟨g, 0, none⟩) n c) (l ++ news) := by
  obtain ⟨h1, h2, h3, h4, h5⟩ := h
  have e : b8 (l ++ news) = b8 l ++ b8 news := by simp [b8]
  refine ⟨by rw [e, ← hn]; exact hown, ?_, (h3.alloc hB o).grown hg (by simp; omega) (own_lo h1), ?_, ?_⟩
  · intro hb
    simp [Value.ownBlock] at hb
    subst hb
    rcases hat with h | h
    · exact h2 h
    · omega
  · rw [hg.block b (by simp; omega) (fun h => h2 h.symm), Below.heap_alloc _ _ _ h5]; exact h4
  · exact Nat.lt_of_lt_of_le h5 (Nat.le_trans (by simp) hg.size)
/-- .. an append from block b itself: no new block ahead of it -/
theorem Buf.step2 {w0 w w' : World} {B b g n c : Nat} {v : Value} {l news : List Nat} (h : Buf w0 w B b v l) (hB : B ≤ w.heap.size) (hg : w.grownBy w' v.ownBlock)
    (hown : w'.ownsRow B 5 1 (.slice (some ⟨g, 0, none⟩) n c) n (b8 l ++ b8 news)) (hn : n = (l ++ news).length) (hat : v.ownBlock = some g ∨ g = w.heap.size) :
    Buf w0 w' B b (.slice (some ⟨g, 0, none⟩) n c) (l ++ news) := by
  obtain ⟨h1, h2, h3, h4, h5⟩ := h
  have e : b8 (l ++ news) = b8 l ++ b8 news := by simp [b8]
  refine ⟨by rw [e, ← hn]; exact hown, ?_, h3.grown hg hB (own_lo h1), ?_, ?_⟩
  · intro hb
    simp [Value.ownBlock] at hb
    subst hb
    rcases hat with h | h
    · exact h2 h
    · omega
  · rw [hg.block b h5 (fun h => h2 h.symm)]; exact h4
  · exact Nat.lt_of_lt_of_le h5 hg.size
section
variable {ops : Array Oper} {rest : List Oper} {o : Oper} {a : Act} {Q : Exit → Act → World → Prop}
/-- append of new bytes to such a row -/
theorem app_buf (hgd : o.guard = none) (s x : Operand) (ho : o.op = .call { callee := .builtin .append, args := #[s, x], argTypes := #[113, 113] })
    {w0 w : World} {B b : Nat} {v : Value} {l : List Nat} (hb : Buf w0 w B b v l) (hB : B ≤ w.heap.size) (hs : a.eval s = v) (news : List Nat) (m n : Nat) (cs : Array Value)
    (hcs : cs.toList = b8 news) (hm : m = news.length) (hm0 : 0 < m) (hn : n = (l ++ news).length) (hn2 : n ≤ 1000000) (hx : a.eval x = .slice (some ⟨w.heap.size, 0, none⟩) m m)
    (h : ∀ g cap w', Buf w0 w' B b (.slice (some ⟨g, 0, none⟩) n cap) (l ++ news) → B ≤ w'.heap.size → wpList Tryz.prog ops Q rest (a.put o.dst (.slice (some ⟨g, 0, none⟩) n cap)) w') :
    wpList Tryz.prog ops Q (o :: rest) a (w.alloc (.cells cs 5)) := by
  obtain ⟨i0, hi0, hz0, hz1, hz2⟩ := info_parts infoByte
  have e1 : l.length + m = n := by rw [hn, hm, List.length_append]
  refine wpList_append_lies _ hgd s x _ ho B 5 i0 _ 1 1 Tryz.underlying113 hi0 hz0 hz1 hz2 rfl (by omega) v l.length (b8 l) hs (hb.1.alloc _) ⟨w.heap.size, 0, none⟩ m m (b8 news) hx (by rw [b8_len]; omega)
    (fun j u hj => World.news_of_block (t := 5) (fr := (0, 0)) (heap_alloc_new w _) j u (by rw [hcs]; exact hj)) ?_ hm0 (by unfold maxLen; omega) (by omega) (by simp; omega) (w.heap.size + 1) (by simp) ?_
  · intro u hu
    obtain ⟨n, _, rfl⟩ := List.mem_map.1 hu
    rfl
  · intro g cap w' hown hg hat hlt
    rw [e1] at hown ⊢
    have hb' := hb.step hB hg hown hn hat
    exact h g cap w' hb' (Nat.le_trans hB (Nat.le_trans (by simp) hg.size))
/-- .. of bytes that lie in block b -/
theorem app_buf2 (hgd : o.guard = none) (s x : Operand) (ho : o.op = .call { callee := .builtin .append, args := #[s, x], argTypes := #[113, 113] })
    {w0 w : World} {B b : Nat} {v : Value} {l : List Nat} (hb : Buf w0 w B b v l) (hB : B ≤ w.heap.size) (hs : a.eval s = v) (news : List Nat) (m n i c : Nat)
    (hm : m = news.length) (hm0 : 0 < m) (hn : n = (l ++ news).length) (hn2 : n ≤ 1000000) (hx : a.eval x = .slice (some ⟨b, i, none⟩) m c)
    (hc : ∀ (j u : Nat), news[j]? = some u → w0.cell? ⟨b, i + j, none⟩ = some (.int .u8 (u : Int)))
    (h : ∀ g cap w', Buf w0 w' B b (.slice (some ⟨g, 0, none⟩) n cap) (l ++ news) → B ≤ w'.heap.size → wpList Tryz.prog ops Q rest (a.put o.dst (.slice (some ⟨g, 0, none⟩) n cap)) w') :
    wpList Tryz.prog ops Q (o :: rest) a w := by
  obtain ⟨i0, hi0, hz0, hz1, hz2⟩ := info_parts infoByte
  have e1 : l.length + m = n := by rw [hn, hm, List.length_append]
  refine wpList_append_lies _ hgd s x _ ho B 5 i0 _ 1 1 Tryz.underlying113 hi0 hz0 hz1 hz2 rfl (by omega) v l.length (b8 l) hs hb.1 ⟨b, i, none⟩ m c (b8 news) hx (by rw [b8_len]; omega) ?_ ?_ hm0 (by unfold maxLen; omega) (by omega) hB w.heap.size rfl ?_
  · intro j u hj
    have hadd : (⟨b, i, none⟩ : Addr).add j = ⟨b, i + j, none⟩ := by unfold Addr.add; split <;> simp_all
    rw [hadd, World.cell?_of_block (w := w0) (w' := w) hb.2.2.2.1]
    simp only [b8, List.getElem?_map, Option.map_eq_some_iff] at hj
    obtain ⟨n, hn, rfl⟩ := hj
    exact hc j n hn
  · intro u hu
    obtain ⟨n, _, rfl⟩ := List.mem_map.1 hu
    rfl
  · intro g cap w' hown hg hat hlt
    rw [e1] at hown ⊢
    have hb' := hb.step2 hB hg hown hn hat
    exact h g cap w' hb' (Nat.le_trans hB hg.size)
end
theorem c_efmt1 (b B : Nat) (c0 e : Nat) (v0 : Value) (he : e < 10) (w : World) (hB : B ≤ w.heap.size) (h : Buf w w B b v0 []) (hc0 : w.cell? ⟨b, 0, none⟩ = some (.int .u8 (c0 : Int))) :
    Calls Tryz.prog 120 #[v0, .bool false, .slice (some ⟨b, 0, none⟩) 32 32, .int .i64 ((e : Int) + 1), .int .i64 1, .int .i64 0, .int .u8 101, .bool true] w fun r w' => ∃ v', r = .returned v' ∧ Buf w w' B b v' ([c0] ++ [101] ++ [43] ++ [48, e + 48]) := by
  have he1 : (e : Int) < 10 := by omega
  have h := Lib.hid h
  go_enter Tryz.func120, Tryz.ntmps120
  go_wp2_with (first
    | (at_builtin; refine app_buf rfl _ _ rfl h.out hB rfl [c0] 1 1 _ rfl rfl (by omega) rfl (by omega) rfl ?_; intro g1 k1 w1 hb1 hB1; replace hb1 := Lib.hid hb1)
    | (at_builtin; refine app_buf rfl _ _ rfl hb1.out hB1 rfl [101] 1 2 _ rfl rfl (by omega) rfl (by omega) rfl ?_; intro g2 k2 w2 hb2 hB2; replace hb2 := Lib.hid hb2)
    | (at_builtin; refine app_buf rfl _ _ rfl hb2.out hB2 rfl [43] 1 3 _ rfl rfl (by omega) rfl (by omega) rfl ?_; intro g3 k3 w3 hb3 hB3; replace hb3 := Lib.hid hb3)
    | (at_builtin; refine app_buf rfl _ _ rfl hb3.out hB3 rfl [48, e + 48] 2 5 _ rfl rfl (by omega) rfl (by omega) rfl ?_; intro g4 k4 w4 hb4 hB4; replace hb4 := Lib.hid hb4))
  go_ret
  exact ⟨_, rfl, hb4.out⟩
theorem c_efmt2 (b B m : Nat) (ds : List Nat) (c0 e : Nat) (v0 : Value) (he : e < 10) (hm : 2 ≤ m) (hm2 : m ≤ 32) (hds : ds.length = m - 1) (w : World) (hB : B ≤ w.heap.size) (h : Buf w w B b v0 []) (hc0 : w.cell? ⟨b, 0, none⟩ = some (.int .u8 (c0 : Int)))
    (hc : ∀ (j u : Nat), ds[j]? = some u → w.cell? ⟨b, 1 + j, none⟩ = some (.int .u8 (u : Int))) :
    Calls Tryz.prog 120 #[v0, .bool false, .slice (some ⟨b, 0, none⟩) 32 32, .int .i64 ((e : Int) + 1), .int .i64 (m : Int), .int .i64 ((m : Int) - 1), .int .u8 101, .bool true] w fun r w' => ∃ v', r = .returned v' ∧ Buf w w' B b v' ([c0] ++ [46] ++ ds ++ [101] ++ [43] ++ [48, e + 48]) := by
  have he1 : (e : Int) < 10 := by omega
  have hm3 : (2 : Int) ≤ (m : Int) := by omega
  have hm4 : (m : Int) ≤ 32 := by omega
  have hne : ((m : Int) != 0) = true := by simp; omega
  have hmin : (m : Int) - 1 + 1 = (m : Int) := by omega
  have h := Lib.hid h
  replace hds := Lib.hid hds
  replace hc := Lib.hid hc
  clear hm hm2
  go_enter Tryz.func120, Tryz.ntmps120
  go_wp2_with (first
    | (at_builtin; refine app_buf rfl _ _ rfl h.out hB rfl [c0] 1 1 _ rfl rfl (by omega) rfl (by omega) rfl ?_; intro g1 k1 w1 hb1 hB1; replace hb1 := Lib.hid hb1)
    | (at_builtin; refine app_buf rfl _ _ rfl hb1.out hB1 rfl [46] 1 2 _ rfl rfl (by omega) rfl (by omega) rfl ?_; intro g2 k2 w2 hb2 hB2; replace hb2 := Lib.hid hb2)
    | (at_builtin; go_loud (refine app_buf2 rfl _ _ rfl hb2.out hB2 rfl ds (m - 1) (2 + (m - 1)) 1 31 hds.out.symm (by omega) (by have := hds.out; simp; omega) (by omega) rfl hc.out ?_); intro g3 k3 w3 hb3 hB3; replace hb3 := Lib.hid hb3))
  go_loopw [0, 114] (fun u0 u1 wr => u0 = .slice (some ⟨g3, 0, none⟩) (2 + (m - 1)) k3 ∧ u1 = .int .i64 0 ∧ wr = w3) (fun _ _ _ => 0)
  case atStart => exact ⟨rfl, rfl, rfl⟩
  case round =>
    obtain ⟨rfl, rfl, rfl⟩ := hrel
    go_wp2_with (first
      | (at_builtin; refine app_buf rfl _ _ rfl hb3.out hB3 rfl [101] 1 (3 + (m - 1)) _ rfl rfl (by omega) (by have := hds.out; simp; omega) (by omega) rfl ?_; intro g4 k4 w4 hb4 hB4; replace hb4 := Lib.hid hb4)
      | (at_builtin; refine app_buf rfl _ _ rfl hb4.out hB4 rfl [43] 1 (4 + (m - 1)) _ rfl rfl (by omega) (by have := hds.out; simp; omega) (by omega) rfl ?_; intro g5 k5 w5 hb5 hB5; replace hb5 := Lib.hid hb5)
      | (at_builtin; refine app_buf rfl _ _ rfl hb5.out hB5 rfl [48, e + 48] 2 (6 + (m - 1)) _ rfl rfl (by omega) (by have := hds.out; simp; omega) (by omega) rfl ?_; intro g6 k6 w6 hb6 hB6; replace hb6 := Lib.hid hb6))
    go_ret
    exact ⟨_, rfl, hb6.out⟩
end Go.Proofs.YtkbohoolnpaleaaGreatDoor
namespace Go.Proofs.YtkbohoolnpaleaaGreatDoor
open Go.RowKit
set_option maxHeartbeats 1000000
set_option maxRecDepth 100000

theorem nd_ex (u : Nat) (h : 0 < u) : ∃ n, IsNd u n := by
  induction u using Nat.strongRecOn with
  | ind u ih =>
    by_cases h1 : u < 10
    · exact ⟨1, IsNd.digit h h1⟩
    · obtain ⟨n, hn⟩ := ih (u / 10) (by omega) (by omega)
      exact ⟨n + 1, hn.step⟩
theorem c_numDigits' (d n : Nat) (hn : IsNd d n) (h1 : d < 1000000000000000000) (w : World) (hT : P10 w) :
    Calls Tryz.prog 124 #[.int .u64 (d : Int)] w fun e w' => e = .returned (.int .i64 (n : Int)) ∧ w = w' := by
  refine (c_numDigits d hn.pos h1 w hT).mono ?_
  rintro e w' ⟨m, rfl, hm, rfl⟩
  rw [hm.one hn]
  exact ⟨rfl, rfl⟩
theorem r_f64bits (x : Nat) (w : World) : (callFunc 117 #[.float .f64 x]).run Tryz.prog w = .ok (.value (.int .u64 x)) w := by kernel_rfl
/-- the bytes of a number's digits -/
def dg (m v : Nat) : List Nat := (fw m v).map (48 + ·)
/-- the bytes of v, of m digits, as d.dde+0n -/
def sciB (m v e : Nat) : List Nat := if m = 1 then dg m v ++ [101] ++ [43] ++ [48, e + 48] else (dg m v).take 1 ++ [46] ++ (dg m v).drop 1 ++ [101] ++ [43] ++ [48, e + 48]
theorem dg_len (m v : Nat) : (dg m v).length = m := by simp [dg, fw_len]
theorem dg_get (m v j : Nat) (h : j < m) : (dg m v)[j]? = some (48 + v / 10 ^ (m - 1 - j) % 10) := by
  simp [dg, fw_get m v j h]
theorem FB.dg {w0 w : World} {b n m v : Nat} (hm : m ≤ n) (h : FB w0 b n (v * 10 ^ (n - m)) 0 0 w) (j u : Nat) (hj : (dg m v)[j]? = some u) : w.cell? ⟨b, j, none⟩ = some (.int .u8 (u : Int)) := by
  have hjm : j < m := by
    have := (List.getElem?_eq_some_iff.1 hj).1
    rwa [dg_len] at this
  rw [dg_get m v j hjm] at hj
  cases hj
  rw [h.cell j (by omega)]
  have e : n - 1 - j = (n - m) + (m - 1 - j) := by omega
  rw [e, Nat.pow_add, ← Nat.div_div_eq_div_mul, Nat.mul_div_cancel _ (Nat.pow_pos (by decide))]
/-- fmtEFG at the digits of v -/
theorem c_efmt (b B m v e : Nat) (v0 : Value) (he : e < 10) (hm : 1 ≤ m) (hm2 : m ≤ 32) (w : World) (hB : B ≤ w.heap.size) (h : Buf w w B b v0 []) (hc : ∀ (j u : Nat), (dg m v)[j]? = some u → w.cell? ⟨b, j, none⟩ = some (.int .u8 (u : Int))) :
    Calls Tryz.prog 120 #[v0, .bool false, .slice (some ⟨b, 0, none⟩) 32 32, .int .i64 ((e : Int) + 1), .int .i64 (m : Int), .int .i64 ((m : Int) - 1), .int .u8 101, .bool true] w fun r w' => ∃ v', r = .returned v' ∧ Buf w w' B b v' (sciB m v e) := by
  have h0 := dg_get m v 0 (by omega)
  have hl := dg_len m v
  unfold sciB
  generalize dg m v = D at *
  generalize 48 + v / 10 ^ (m - 1 - 0) % 10 = c0 at *
  obtain ⟨rest, rfl⟩ : ∃ r, D = c0 :: r := by
    cases D with
    | nil => simp at h0
    | cons x r => simp at h0; exact ⟨r, by rw [h0]⟩
  by_cases h1 : m = 1
  · subst h1
    have : rest = [] := by
      cases rest with
      | nil => rfl
      | cons x r => simp at hl
    subst this
    rw [if_pos rfl]
    exact c_efmt1 b B c0 e v0 he w hB h (hc 0 c0 rfl)
  · rw [if_neg h1]
    exact c_efmt2 b B m rest c0 e v0 he (by omega) hm2 (by simp at hl; omega) w hB h (hc 0 c0 rfl) (fun j u hj => by
      have := hc (j + 1) u (by simpa using hj)
      rw [Nat.add_comm 1 j]; exact this)
end Go.Proofs.YtkbohoolnpaleaaGreatDoor
namespace Go.Proofs.YtkbohoolnpaleaaGreatDoor
open Go.RowKit
set_option maxHeartbeats 2000000
set_option maxRecDepth 100000

/-- the word of the float64 of i, which has k bits -/
def wordOf (i k : Nat) : Nat := (1022 + k) * 4503599627370496 + (i * 2 ^ (53 - k) - 4503599627370496)
theorem and_i64 (a b : Nat) (ha : a < 9223372036854775808) (hb : b < 9223372036854775808) : bits BinOp.and IntKind.i64 (a : Int) (b : Int) = ((a &&& b : Nat) : Int) := by
  have h0 : ∀ x : Nat, x < 9223372036854775808 → (BitVec.ofInt 64 (x : Int)).toNat = x := by
    intro x hx
    rw [BitVec.toNat_ofInt]
    omega
  show IntKind.i64.wrap ((BitVec.ofInt 64 (a : Int) &&& BitVec.ofInt 64 (b : Int)).toNat : Nat) = _
  rw [BitVec.toNat_and, h0 a ha, h0 b hb]
  have := Nat.and_le_left (n := a) (m := b)
  rw [IntKind.wrap_i64]; omega
theorem or_52 (F : Nat) (h : F < 4503599627370496) : F ||| 4503599627370496 = F + 4503599627370496 := by
  have h1 : F < 2 ^ 52 := h
  have h2 := Nat.two_pow_add_eq_or_of_lt h1 1
  rw [Nat.mul_one] at h2
  have e : (2 : Nat) ^ 52 = 4503599627370496 := by decide
  rw [e] at h2
  rw [Nat.or_comm, ← h2]; omega
theorem Pows.keep {w w' : World} (h : Pows w) (hb : Below w.heap.size w w') : Pows w' := by
  intro p h1 h2
  obtain ⟨c1, c2⟩ := h p h1 h2
  exact ⟨(hb.cell (p := ⟨5, (p + 348) * 2, none⟩) (lt_of_cell c1)).trans c1, (hb.cell (p := ⟨5, (p + 348) * 2 + 1, none⟩) (lt_of_cell c2)).trans c2⟩
theorem P10.keep {w w' : World} (h : P10 w) (hb : Below w.heap.size w w') : P10 w' := by
  intro i hi
  have c1 := h i hi
  exact (hb.cell (p := ⟨4, i, none⟩) (lt_of_cell c1)).trans c1
theorem zeros32 (j : Nat) (h : j < 32) : (#[.int .u8 0, .int .u8 0, .int .u8 0, .int .u8 0, .int .u8 0, .int .u8 0, .int .u8 0, .int .u8 0, .int .u8 0, .int .u8 0, .int .u8 0, .int .u8 0, .int .u8 0, .int .u8 0, .int .u8 0, .int .u8 0, .int .u8 0, .int .u8 0, .int .u8 0, .int .u8 0, .int .u8 0, .int .u8 0, .int .u8 0, .int .u8 0, .int .u8 0, .int .u8 0, .int .u8 0, .int .u8 0, .int .u8 0, .int .u8 0, .int .u8 0, .int .u8 0] : Array Value)[j]? = some (.int .u8 0) := by
  show ((List.replicate 32 (Value.int .u8 0)).toArray)[j]? = _
  rw [List.getElem?_toArray, List.getElem?_replicate, if_pos h]
theorem FB.back {w0 w : World} {b n u m v : Nat} (h : FB w0 b n u m v w) : FB w0 b n u n u w := ⟨Nat.le_refl _, by simp, h.2.2.1, h.2.2.2.1, fun j h1 h2 => by omega⟩
theorem own_belowD {w w' : World} {B e size n : Nat} {v : Value} {xs : List Value} (h : w.ownsRow B e size v n xs) (hb : Below w.heap.size w w') : w'.ownsRow B e size v n xs :=
  h.kept (row := none) ⟨hb.os, hb.tape, hb.output, hb.size, fun k hk _ => hb.block k hk⟩ (by cases h : v.ownBlock with | none => exact .inl rfl | some q => exact .inr (by simp))
theorem c_ftoa64 (i k n B : Nat) (v0 : Value) (hk : 1 ≤ k) (hk2 : k ≤ 32) (hi : i < 2 ^ k) (hi0 : 2 ^ (k - 1) ≤ i) (hn : IsNd i n) (w : World) (hB : B ≤ w.heap.size) (h : w.ownsRow B 5 1 v0 0 (b8 [])) (hT : Pows w) (hP : P10 w) :
    Calls Tryz.prog 95 #[v0, .float .f64 (wordOf i k), .int .u8 101, .int .i64 (-1)] w fun r w' => ∃ (v' : Value) (m v : Nat), r = .returned v' ∧ 1 ≤ m ∧ m ≤ n ∧ i = v * 10 ^ (n - m) ∧ v % 10 ≠ 0 ∧ w'.ownsRow B 5 1 v' (sciB m v (n - 1)).length (b8 (sciB m v (n - 1))) ∧ Below B w w' := by
  have hF : 4503599627370496 ≤ i * 2 ^ (53 - k) ∧ i * 2 ^ (53 - k) < 9007199254740992 := by
    have e1 : (2 : Nat) ^ 53 = 2 ^ k * 2 ^ (53 - k) := by rw [← Nat.pow_add]; congr 1; omega
    have e2 : (2 : Nat) ^ 52 = 2 ^ (k - 1) * 2 ^ (53 - k) := by rw [← Nat.pow_add]; congr 1; omega
    have h1 : i * 2 ^ (53 - k) < 2 ^ k * 2 ^ (53 - k) := Nat.mul_lt_mul_of_pos_right hi (Nat.two_pow_pos _)
    have h2 : 2 ^ (k - 1) * 2 ^ (53 - k) ≤ i * 2 ^ (53 - k) := Nat.mul_le_mul_right _ hi0
    have e3 : (2 : Nat) ^ 53 = 9007199254740992 := by decide
    have e4 : (2 : Nat) ^ 52 = 4503599627370496 := by decide
    omega
  obtain ⟨hF1, hF2⟩ := hF
  have hm64 : i * 2 ^ (64 - k) = i * 2 ^ (53 - k) * 2048 := by
    have : 2 ^ (64 - k) = 2 ^ (53 - k) * 2048 := by rw [show (2048 : Nat) = 2 ^ 11 from rfl, ← Nat.pow_add]; congr 1; omega
    rw [this, Nat.mul_assoc]
  have hS := Lib.hid (fun w hT => d_short i k hk hk2 hi hi0 w hT)
  rw [hm64] at hS
  unfold wordOf
  generalize i * 2 ^ (53 - k) = M at *
  have hx : (1022 + k) * 4503599627370496 + (M - 4503599627370496) < 4751297606875873280 := by omega
  have x1 : ((1022 + k) * 4503599627370496 + (M - 4503599627370496)) / 4503599627370496 = 1022 + k := by omega
  have x2 : ((1022 + k) * 4503599627370496 + (M - 4503599627370496)) % 4503599627370496 = M - 4503599627370496 := by omega
  generalize (1022 + k) * 4503599627370496 + (M - 4503599627370496) = x at *
  have a1 : ((x : Int) / 9223372036854775808 != 0) = false := by
    have : (x : Int) / 9223372036854775808 = 0 := by omega
    rw [this]; rfl
  have a2 : (x : Int) / 4503599627370496 = ((1022 + k : Nat) : Int) := by omega
  have a3 : bits BinOp.and IntKind.i64 ((1022 + k : Nat) : Int) 2047 = ((1022 + k : Nat) : Int) := by
    have := and_i64 (1022 + k) 2047 (by omega) (by omega)
    rw [show (1022 + k) &&& 2047 = 1022 + k by
      rw [show (2047 : Nat) = 2 ^ 11 - 1 from rfl, Nat.and_two_pow_sub_one_eq_mod]; omega] at this
    exact this
  have a4 : bits BinOp.and IntKind.u64 (x : Int) 4503599627370495 = ((M - 4503599627370496 : Nat) : Int) := by
    have := bits_and_u64_nat x 4503599627370495 (by omega) (by omega)
    rw [show x &&& 4503599627370495 = M - 4503599627370496 by
      rw [show (4503599627370495 : Nat) = 2 ^ 52 - 1 from rfl, Nat.and_two_pow_sub_one_eq_mod, show (2 : Nat) ^ 52 = 4503599627370496 from rfl, x2]] at this
    exact this
  have a5 : bits BinOp.or IntKind.u64 ((M - 4503599627370496 : Nat) : Int) 4503599627370496 = (M : Int) := by
    have := bits_or_u64_nat (M - 4503599627370496) 4503599627370496 (by omega) (by omega)
    rw [or_52 _ (by omega), show M - 4503599627370496 + 4503599627370496 = M by omega] at this
    exact this
  have hr := r_f64bits x
  have hL : Hid (∀ w, Calls Tryz.prog 121 #[.int .u64 (M : Int)] w fun e w' => e = .returned (.int .i64 53) ∧ w = w') := by
    intro w
    have h1 := d_Len64 (M : Int) w (by omega) (by omega)
    have e64 : (2 : Nat) ^ 64 = 18446744073709551616 := by decide
    have e53 : (2 : Nat) ^ 53 = 9007199254740992 := by decide
    have e52 : (2 : Nat) ^ 52 = 4503599627370496 := by decide
    have et : (M : Int).toNat = M := by omega
    rw [et] at h1
    obtain ⟨b1, b2⟩ := bitLen_lib M (by omega)
    have b2 := b2 (by omega)
    have hl : Lib.bitLen M = 53 := by
      generalize Lib.bitLen M = L at *
      rcases Nat.lt_trichotomy L 53 with h | h | h
      · have := Nat.pow_le_pow_right (n := 2) (by decide) (show L ≤ 52 by omega); omega
      · exact h
      · have := Nat.pow_le_pow_right (n := 2) (by decide) (show 53 ≤ L - 1 by omega); omega
    rw [hl] at h1
    exact h1
  have x3 : ((1022 + k : Nat) : Int) = 1022 + (k : Int) := by omega
  rw [x3] at a2 a3
  have a6 : ((1022 + (k : Int)) == 2047) = false := by simp; omega
  have a7 : ((M : Int) == 0) = false := by simp; omega
  have a8 : ((1022 + (k : Int)) == 0) = false := by simp; omega
  have a9 : (1022 + (k : Int) + -1023 - 11 - 52) = (k : Int) - 64 := by omega
  have a10 : ((M * 2048 : Nat) : Int) = (M : Int) * 2048 := by omega
  rw [a10, ← a9] at hS
  have h5 : 5 < w.heap.size := lt_of_cell (hT 7 (by decide) (by decide)).1
  have hi' := Lib.hid hi
  clear x1 x2 x3 hm64 hF1 hi hi0 a9 a10
  replace h := Lib.hid h
  go_enter Tryz.func95, Tryz.ntmps95
  go_wp2_with fail
  go_quiet (fail)
  go_wp2_with (go_at_call 121; refine (hL.out _).mono ?_; rintro e w1 ⟨rfl, rfl⟩)
  have hbN : Below w.heap.size w (w.drewN nq) := below_drewN (Below.refl _ _) nq
  refine (hS.out _ ((hT.keep hbN).keep ((Below.refl _ _).alloc (Nat.le_refl _) _))).mono ?_
  rintro e w2 ⟨q, rfl, hq, hd, hb2⟩
  generalize hdd : i * 10 ^ q = d at *
  obtain ⟨m, v, hm1, hmn, hiv, hv, -⟩ := fw_trim n i hn.pos hn.2.2
  have hnq : IsNd d (n + q) := by rw [← hdd]; exact hn.shift q
  have hdv : d = v * 10 ^ (n + q - m) := by
    rw [← hdd, hiv, Nat.mul_assoc, ← Nat.pow_add]
    congr 2; omega
  have hn18 : n + q ≤ 18 := by
    rcases Nat.lt_or_ge 18 (n + q) with h' | h'
    · have := Nat.pow_le_pow_right (n := 10) (by decide) (show 18 ≤ n + q - 1 by omega)
      have := hnq.2.1
      have e : (10 : Nat) ^ 18 = 1000000000000000000 := by decide
      omega
    · exact h'
  have hFB : FB w w.heap.size (n + q) d (n + q) d w2 := by
    refine ⟨Nat.le_refl _, by simp, (hbN.alloc (Nat.le_refl _) _).trans (hb2.mono (by simp)), fun j hj => ⟨⟨.int .u8 0, ?_⟩, ?_⟩, fun j h1 h2 => by omega⟩
    · rw [hb2.cell (p := ⟨w.heap.size, j, none⟩) (by simp)]
      exact (World.cell?_alloc_at _ _ w.heap.size j rfl).trans (zeros32 j (by omega))
    · rw [hb2.frozen (p := ⟨w.heap.size, j, none⟩) (by simp)]
      exact World.frozen?_alloc_at _ _ w.heap.size j rfl
  have hdlt : d < 10 ^ (n + q) := hnq.2.2
  have hnd := Lib.hid (fun W (hW : FB w w.heap.size (n + q) d (n + q) d W) => c_numDigits' d (n + q) hnq hd W (hP.keep hW.2.2.1))
  have hsd := Lib.hid (fun W (hW : FB w w.heap.size (n + q) d (n + q) d W) => c_setDigits w.heap.size d (n + q) m v (-(q : Int)) (by omega) (by omega) (by omega) hdlt (by omega) hm1 (by omega) hdv hv w W hW)
  have hS0 : FB w w.heap.size (n + q) d (n + q) d w2.drew := hFB.draw
  replace hdd := Lib.hid hdd
  replace hiv := Lib.hid hiv
  replace hdv := Lib.hid hdv
  clear hnq hdlt hFB hb2
  go_wp2_with fail
  go_region_held3 (fun y => FB w w.heap.size (n + q) d (n + q) d y) (first | assumption | exact FB.back (by assumption)) (first | (go_at_call 124; refine (hnd.out _ (by assumption)).mono ?_; rintro e y' ⟨rfl, rfl⟩) | (go_at_call 123; refine (hsd.out _ (by assumption)).mono ?_; rintro e y' ⟨rfl, hfb⟩))
  rename_i y' _ hfb hzz
  have hbb := hfb.2.2.1
  have hown : y'.ownsRow B 5 1 v0 0 (b8 []) := own_belowD h.out hbb
  have hbuf : Buf y' y' B w.heap.size v0 [] := by
    refine ⟨hown, fun e => ?_, Below.refl _ _, rfl, ?_⟩
    · have := (h.out.lt _ e).2
      omega
    · exact lt_of_cell (hfb.cell 0 (by omega))
  have hn10 : n ≤ 10 := by
    rcases Nat.lt_or_ge 10 n with h' | h'
    · have := Nat.pow_le_pow_right (n := 10) (by decide) (show 10 ≤ n - 1 by omega)
      have h2 := hn.2.1
      have h3 : i < 2 ^ 32 := Nat.lt_of_lt_of_le hi'.out (Nat.pow_le_pow_right (by decide) hk2)
      have e : (10 : Nat) ^ 10 = 10000000000 := by decide
      have e' : (2 : Nat) ^ 32 = 4294967296 := by decide
      omega
    · exact h'
  have hcell : ∀ (j u : Nat), (dg m v)[j]? = some u → y'.cell? ⟨w.heap.size, j, none⟩ = some (.int .u8 (u : Int)) := fun j u hj => FB.dg (n := n + q) (by omega) (by rw [← hdv.out]; exact hfb) j u hj
  have hE0 := c_efmt w.heap.size B m v (n - 1) v0 (by omega) hm1 (by omega) y' (Nat.le_trans hB hbb.size) hbuf hcell
  have f1 : ((n - 1 : Nat) : Int) + 1 = (n : Int) + (q : Int) + -(q : Int) := by have := hn.1; omega
  rw [f1] at hE0
  have hE := Lib.hid hE0
  have f2 : max ((m : Int) - 1) 0 = (m : Int) - 1 := by omega
  clear hE0 f1 hbuf hcell hzz hown
  replace hfb := Lib.hid hfb
  go_wp2_with (go_at_call 120; refine hE.out.mono ?_; rintro e w3 ⟨v', rfl, hb3⟩)
  go_ret
  exact ⟨v', m, v, rfl, hm1, hmn, hiv.out, hv, hb3.1, (hbb.mono hB).trans hb3.2.2.1⟩
end Go.Proofs.YtkbohoolnpaleaaGreatDoor
namespace Go.Proofs.YtkbohoolnpaleaaGreatDoor
open Go.RowKit
set_option maxHeartbeats 1000000
set_option maxRecDepth 100000

def u8s (l : List Nat) : ByteArray := ⟨(l.map UInt8.ofNat).toArray⟩
theorem conv_bytes {w : World} {B n : Nat} {v : Value} {l : List Nat} (h : w.ownsRow B 5 1 v n (b8 l)) (hl : 0 < l.length) (hn : n = l.length) (hb : ∀ x ∈ l, x < 256) :
    (convert 113 9 v).run Tryz.prog w = .ok (.string (u8s l)) w := by
  subst hn
  obtain ⟨g, cap, rfl, _, _⟩ := h.form (by omega)
  have hc := World.ownsRow.cells h (g := g) rfl
  have hlen : l.length = (l.map UInt8.ofNat).length := by simp
  rw [hlen]
  refine run_convert_bytes_back (P := Tryz.prog) w 113 9 5 ⟨g, 0, none⟩ cap (l.map UInt8.ofNat) Tryz.underlying113 Tryz.underlying5 Tryz.underlying9 (fun j hj => hc j _ ?_)
  have hj' : j < l.length := by simpa using hj
  have := hb l[j] (List.getElem_mem hj')
  simp [b8, hj']
  omega
theorem sciB_lt (m v e : Nat) (he : e < 10) : ∀ x ∈ sciB m v e, x < 256 := by
  have hd : ∀ x ∈ dg m v, x < 256 := by
    intro x hx
    obtain ⟨y, hy, rfl⟩ := List.mem_map.1 hx
    have := fw_lt m v y hy
    omega
  intro x hx
  unfold sciB at hx
  split at hx
  · simp only [List.mem_append, List.mem_cons, List.not_mem_nil, or_false] at hx
    rcases hx with ((h | h) | h) | h | h
    · exact hd x h
    all_goals omega
  · simp only [List.mem_append, List.mem_cons, List.not_mem_nil, or_false] at hx
    rcases hx with ((((h | h) | h) | h) | h) | h | h
    · exact hd x (List.mem_of_mem_take h)
    · omega
    · exact hd x (List.mem_of_mem_drop h)
    all_goals omega
theorem sciB_pos (m v e : Nat) : 0 < (sciB m v e).length := by
  unfold sciB; split <;> simp <;> omega
theorem c_FormatFloatI (i k n : Nat) (hk : 1 ≤ k) (hk2 : k ≤ 32) (hi : i < 2 ^ k) (hi0 : 2 ^ (k - 1) ≤ i) (hn : IsNd i n) (hn10 : n ≤ 10) (w : World) (hT : Pows w) (hP : P10 w) :
    Calls Tryz.prog 77 #[.float .f64 (wordOf i k), .int .u8 101, .int .i64 (-1), .int .i64 64] w fun r w' => ∃ m v : Nat, r = .returned (.string (u8s (sciB m v (n - 1)))) ∧ 1 ≤ m ∧ m ≤ n ∧ i = v * 10 ^ (n - m) ∧ v % 10 ≠ 0 ∧ Below w.heap.size w w' := by
  obtain ⟨i0, hi0', hz0, hz1, hz2⟩ := info_parts infoByte
  have hF := Lib.hid (fun (W : World) (v0 : Value) hB h hT hP => c_ftoa64 i k n w.heap.size v0 hk hk2 hi hi0 hn W hB h hT hP)
  generalize wordOf i k = x at *
  replace hn := Lib.hid hn
  clear hi hi0
  go_enter Tryz.func77, Tryz.ntmps77
  go_wp2_with (at_make; refine wpList_make_own _ rfl _ _ 113 rfl w.heap.size 5 i0 (.int .u8 0) 1 Tryz.underlying113 hi0' hz0 hz1 _ _ _ 24 rfl rfl (by omega) (by rw [hz2]; omega) (by unfold maxLen; omega) (Nat.le_refl _) ?_; intro w1 hown1 hgrow1)
  have hb1 : Below w.heap.size w w1 := (Below.refl _ _).grown hgrow1 (Nat.le_refl _) (fun _ h => by cases h)
  refine (hF.out w1 _ hb1.size hown1 (hT.keep hb1) (hP.keep hb1)).mono ?_
  rintro e w2 ⟨v', m, v, rfl, hm1, hmn, hiv, hv, hown, hb2⟩
  have hcv := conv_bytes hown (sciB_pos _ _ _) rfl (sciB_lt m v (n - 1) (by omega))
  replace hiv := Lib.hid hiv
  go_wp2_with fail
  go_ret
  exact ⟨m, v, rfl, hm1, hmn, hiv.out, hv, hb1.trans hb2⟩
theorem c_FormatFloat (i k n : Nat) (hk : 1 ≤ k) (hk2 : k ≤ 32) (hi : i < 2 ^ k) (hi0 : 2 ^ (k - 1) ≤ i) (hn : IsNd i n) (hn10 : n ≤ 10) (w : World) (hT : Pows w) (hP : P10 w) :
    Calls Tryz.prog 54 #[.float .f64 (wordOf i k), .int .u8 101, .int .i64 (-1), .int .i64 64] w fun r w' => ∃ m v : Nat, r = .returned (.string (u8s (sciB m v (n - 1)))) ∧ 1 ≤ m ∧ m ≤ n ∧ i = v * 10 ^ (n - m) ∧ v % 10 ≠ 0 ∧ Below w.heap.size w w' := by
  have hF := Lib.hid (c_FormatFloatI i k n hk hk2 hi hi0 hn hn10 w hT hP)
  generalize wordOf i k = x at *
  replace hn := Lib.hid hn
  clear hi hi0
  go_enter Tryz.func54, Tryz.ntmps54
  go_wp2_with fail
  refine hF.out.mono ?_
  rintro e w2 ⟨m, v, rfl, hm1, hmn, hiv, hv, hb⟩
  replace hiv := Lib.hid hiv
  go_wp2_with fail
  go_ret
  exact ⟨m, v, rfl, hm1, hmn, hiv.out, hv, hb⟩
end Go.Proofs.YtkbohoolnpaleaaGreatDoor
namespace Go.Proofs.YtkbohoolnpaleaaGreatDoor
open Go.RowKit
set_option maxHeartbeats 6400000
set_option maxRecDepth 100000

theorem below_freeze' {B : Nat} {a w : World} (h : Below B a w) {p : Addr} (hp : B ≤ p.block) (n : Nat) : Below B a (w.freeze p n) := by
  unfold World.freeze
  split
  · exact h
  · refine ⟨h.os, h.tape, h.output, by simpa using h.size, fun k hk => ?_⟩
    rw [← h.block k hk]
    simp only [Array.getElem?_modify]
    rw [if_neg (by omega)]
theorem c_AtoiI (s : ByteArray) (n : Int) (hl : s.size ≤ 18) (h : Lib.atoi s.data.toList = some n) (w : World) :
    Calls Tryz.prog 78 #[.string s] w fun e w' => e = .returned (.tuple #[.int .i64 n, .nilIface]) ∧ ∃ t, w' = Lib.bytesWorld w 5 t := by
  obtain ⟨b0, r, hL, hcase⟩ := Lib.atoi_cases h
  clear h
  have hsz : s.size = r.length + 1 := by rw [Lib.size_eq, hL]; rfl
  have hpos : 0 < s.size := by omega
  rcases hcase with hcase | hcase | hcase
  · -- '-'
    obtain ⟨rfl, m, hr, hm, rfl⟩ := hcase
    have hs0 : s[0]'hpos = 45 := by have := Lib.getD_at s 0 hpos; rw [hL] at this; exact this
    have hrl : 1 ≤ r.length := by cases r with | nil => exact absurd rfl hr | cons _ _ => simp
    have hsl : ∀ W, (Instr.slice 9 (.string s) (some (.int .i64 1)) none none).run Tryz.prog W = .ok (.string (s.extract 1 s.size)) W := fun W => by
      rw [run_slice_string_from_if W 9 s .i64 _ Tryz.underlying9, if_pos ⟨by omega, by omega⟩]
      rfl
    have htl : (s.extract 1 s.size).data.toList = r := by
      rw [Lib.extract_data, hL, List.drop_succ_cons, List.drop_zero, List.take_of_length_le (by omega)]
    have hts : (s.extract 1 s.size).size = s.size - 1 := by rw [Lib.size_eq, htl]; omega
    generalize s.extract 1 s.size = t at hsl htl hts
    rw [← htl] at hm
    clear hr htl hL
    have hcv := Lib.run_convert_string_bytes (P := Tryz.prog) w 9 113 5 t (u := .string) Tryz.underlying9 Tryz.underlying113 Tryz.underlying5
    have hB : ∀ j, j < t.size → (Lib.bytesWorld w 5 t).cell? ⟨w.heap.size, j, none⟩ = some (.int .u8 (t.data.toList.getD j 0).toNat) := fun j hj => Lib.bytesWorld_cell w 5 t j hj
    obtain ⟨W1, hW1⟩ : ∃ W1, W1 = Lib.bytesWorld w 5 t := ⟨_, rfl⟩
    rw [← hW1] at hcv hB
    have HW := Lib.hid hW1
    have HB := Lib.hid hB
    have hm18 := Lib.decFrom_lt18 hm (by rw [← Lib.size_eq]; omega)
    have HM := Lib.hid hm
    clear hW1 hB hm
    go_enter Tryz.func78, Tryz.ntmps78
    go_wp2
    go_loop [49, 6] (fun vi vn => ∃ (k acc : Nat), k ≤ t.size ∧ vi = .int .i64 k ∧ vn = .int .i64 acc ∧ Hid (Lib.decFrom 0 (t.data.toList.take k) = some acc)) (fun vi _ => t.size - (RowKit.intOf vi).toNat)
    case atStart => exact ⟨0, 0, Nat.zero_le _, rfl, rfl, rfl⟩
    case round =>
      obtain ⟨k, acc, hk, rfl, rfl, hacc⟩ := hrel
      by_cases hkn : k < t.size
      · obtain ⟨x, hx⟩ : ∃ x, x = t.data.toList.getD k 0 := ⟨_, rfl⟩
        have hxk : t.data.toList[k]? = some x := by
          rw [hx, List.getD, List.getElem?_eq_getElem (by rw [← Lib.size_eq]; exact hkn)]
          rfl
        have hc1 : W1.cell? ⟨w.heap.size, k, none⟩ = some (.int .u8 x.toNat) := by rw [hx]; exact HB.out k hkn
        obtain ⟨dv, hdv⟩ := Lib.digit_of_decFrom _ 0 m HM.out k x hxk
        obtain ⟨h48, h57, hde⟩ := Lib.digitVal_eq hdv
        have hlt := Lib.decFrom_take_lt hacc.out (by omega)
        have Hxk := Lib.hid hxk
        have Hdv := Lib.hid hdv
        clear hx hxk hdv
        go_wp2
        go_round
        case rel => exact ⟨k + 1, acc * 10 + dv, by omega, by go_num, by first | go_num | (congr 1; omega), Lib.decFrom_take _ k 0 acc x dv hacc.out Hxk.out Hdv.out⟩
        case measure => simp [RowKit.intOf]; omega
      · have hke : k = t.size := by omega
        subst hke
        have hfin : acc = m := by
          have h1 := hacc.out
          rw [List.take_of_length_le (by rw [← Lib.size_eq]; exact Nat.le_refl _), HM.out] at h1
          exact (Option.some.inj h1).symm
        subst hfin
        go_wp2
        go_ret2
        exact ⟨by first | rfl | (congr 3; omega), t, HW.out⟩
  · -- '+'
    obtain ⟨rfl, m, hr, hm, rfl⟩ := hcase
    have hs0 : s[0]'hpos = 43 := by have := Lib.getD_at s 0 hpos; rw [hL] at this; exact this
    have hrl : 1 ≤ r.length := by cases r with | nil => exact absurd rfl hr | cons _ _ => simp
    have hsl : ∀ W, (Instr.slice 9 (.string s) (some (.int .i64 1)) none none).run Tryz.prog W = .ok (.string (s.extract 1 s.size)) W := fun W => by
      rw [run_slice_string_from_if W 9 s .i64 _ Tryz.underlying9, if_pos ⟨by omega, by omega⟩]
      rfl
    have htl : (s.extract 1 s.size).data.toList = r := by
      rw [Lib.extract_data, hL, List.drop_succ_cons, List.drop_zero, List.take_of_length_le (by omega)]
    have hts : (s.extract 1 s.size).size = s.size - 1 := by rw [Lib.size_eq, htl]; omega
    generalize s.extract 1 s.size = t at hsl htl hts
    rw [← htl] at hm
    clear hr htl hL
    have hcv := Lib.run_convert_string_bytes (P := Tryz.prog) w 9 113 5 t (u := .string) Tryz.underlying9 Tryz.underlying113 Tryz.underlying5
    have hB : ∀ j, j < t.size → (Lib.bytesWorld w 5 t).cell? ⟨w.heap.size, j, none⟩ = some (.int .u8 (t.data.toList.getD j 0).toNat) := fun j hj => Lib.bytesWorld_cell w 5 t j hj
    obtain ⟨W1, hW1⟩ : ∃ W1, W1 = Lib.bytesWorld w 5 t := ⟨_, rfl⟩
    rw [← hW1] at hcv hB
    have HW := Lib.hid hW1
    have HB := Lib.hid hB
    have hm18 := Lib.decFrom_lt18 hm (by rw [← Lib.size_eq]; omega)
    have HM := Lib.hid hm
    clear hW1 hB hm
    go_enter Tryz.func78, Tryz.ntmps78
    go_wp2
    go_loop [49, 6] (fun vi vn => ∃ (k acc : Nat), k ≤ t.size ∧ vi = .int .i64 k ∧ vn = .int .i64 acc ∧ Hid (Lib.decFrom 0 (t.data.toList.take k) = some acc)) (fun vi _ => t.size - (RowKit.intOf vi).toNat)
    case atStart => exact ⟨0, 0, Nat.zero_le _, rfl, rfl, rfl⟩
    case round =>
      obtain ⟨k, acc, hk, rfl, rfl, hacc⟩ := hrel
      by_cases hkn : k < t.size
      · obtain ⟨x, hx⟩ : ∃ x, x = t.data.toList.getD k 0 := ⟨_, rfl⟩
        have hxk : t.data.toList[k]? = some x := by
          rw [hx, List.getD, List.getElem?_eq_getElem (by rw [← Lib.size_eq]; exact hkn)]
          rfl
        have hc1 : W1.cell? ⟨w.heap.size, k, none⟩ = some (.int .u8 x.toNat) := by rw [hx]; exact HB.out k hkn
        obtain ⟨dv, hdv⟩ := Lib.digit_of_decFrom _ 0 m HM.out k x hxk
        obtain ⟨h48, h57, hde⟩ := Lib.digitVal_eq hdv
        have hlt := Lib.decFrom_take_lt hacc.out (by omega)
        have Hxk := Lib.hid hxk
        have Hdv := Lib.hid hdv
        clear hx hxk hdv
        go_wp2
        go_round
        case rel => exact ⟨k + 1, acc * 10 + dv, by omega, by go_num, by first | go_num | (congr 1; omega), Lib.decFrom_take _ k 0 acc x dv hacc.out Hxk.out Hdv.out⟩
        case measure => simp [RowKit.intOf]; omega
      · have hke : k = t.size := by omega
        subst hke
        have hfin : acc = m := by
          have h1 := hacc.out
          rw [List.take_of_length_le (by rw [← Lib.size_eq]; exact Nat.le_refl _), HM.out] at h1
          exact (Option.some.inj h1).symm
        subst hfin
        go_wp2
        go_ret2
        exact ⟨rfl, t, HW.out⟩
  · -- a digit at once
    obtain ⟨hn45, hn43, m, hm, rfl⟩ := hcase
    have hs0 : s[0]'hpos = b0 := by have := Lib.getD_at s 0 hpos; rw [hL] at this; exact this
    have h45 : ((b0.toNat : Int) == 45) = false := beq_eq_false_iff_ne.2 fun e => hn45 (UInt8.toNat_inj.1 (by show b0.toNat = 45; omega))
    have h43 : ((b0.toNat : Int) == 43) = false := beq_eq_false_iff_ne.2 fun e => hn43 (UInt8.toNat_inj.1 (by show b0.toNat = 43; omega))
    rw [← hL] at hm
    clear hL hn45 hn43
    have hcv := Lib.run_convert_string_bytes (P := Tryz.prog) w 9 113 5 s (u := .string) Tryz.underlying9 Tryz.underlying113 Tryz.underlying5
    have hB : ∀ j, j < s.size → (Lib.bytesWorld w 5 s).cell? ⟨w.heap.size, j, none⟩ = some (.int .u8 (s.data.toList.getD j 0).toNat) := fun j hj => Lib.bytesWorld_cell w 5 s j hj
    obtain ⟨W1, hW1⟩ : ∃ W1, W1 = Lib.bytesWorld w 5 s := ⟨_, rfl⟩
    rw [← hW1] at hcv hB
    have HW := Lib.hid hW1
    have HB := Lib.hid hB
    have hm18 := Lib.decFrom_lt18 hm (by rw [← Lib.size_eq]; omega)
    have HM := Lib.hid hm
    clear hW1 hB hm
    go_enter Tryz.func78, Tryz.ntmps78
    go_wp2
    go_loop [49, 6] (fun vi vn => ∃ (k acc : Nat), k ≤ s.size ∧ vi = .int .i64 k ∧ vn = .int .i64 acc ∧ Hid (Lib.decFrom 0 (s.data.toList.take k) = some acc)) (fun vi _ => s.size - (RowKit.intOf vi).toNat)
    case atStart => exact ⟨0, 0, Nat.zero_le _, rfl, rfl, rfl⟩
    case round =>
      obtain ⟨k, acc, hk, rfl, rfl, hacc⟩ := hrel
      by_cases hkn : k < s.size
      · obtain ⟨x, hx⟩ : ∃ x, x = s.data.toList.getD k 0 := ⟨_, rfl⟩
        have hxk : s.data.toList[k]? = some x := by
          rw [hx, List.getD, List.getElem?_eq_getElem (by rw [← Lib.size_eq]; exact hkn)]
          rfl
        have hc1 : W1.cell? ⟨w.heap.size, k, none⟩ = some (.int .u8 x.toNat) := by rw [hx]; exact HB.out k hkn
        obtain ⟨dv, hdv⟩ := Lib.digit_of_decFrom _ 0 m HM.out k x hxk
        obtain ⟨h48, h57, hde⟩ := Lib.digitVal_eq hdv
        have hlt := Lib.decFrom_take_lt hacc.out (by omega)
        have Hxk := Lib.hid hxk
        have Hdv := Lib.hid hdv
        clear hx hxk hdv
        go_wp2
        go_round
        case rel => exact ⟨k + 1, acc * 10 + dv, by omega, by go_num, by first | go_num | (congr 1; omega), Lib.decFrom_take _ k 0 acc x dv hacc.out Hxk.out Hdv.out⟩
        case measure => simp [RowKit.intOf]; omega
      · have hke : k = s.size := by omega
        subst hke
        have hfin : acc = m := by
          have h1 := hacc.out
          rw [List.take_of_length_le (by rw [← Lib.size_eq]; exact Nat.le_refl _), HM.out] at h1
          exact (Option.some.inj h1).symm
        subst hfin
        go_wp2
        go_ret2
        exact ⟨rfl, s, HW.out⟩




set_option maxRecDepth 100000 in

theorem c_Atoi (s : ByteArray) (n : Int) (hl : s.size ≤ 18) (h : Lib.atoi s.data.toList = some n) (w : World) :
    Calls Tryz.prog 55 #[.string s] w fun e w' => e = .returned (.tuple #[.int .i64 n, .nilIface]) ∧ Below w.heap.size w w' := by
  have hA := Lib.hid (c_AtoiI s n hl h w)
  clear h hl
  go_enter Tryz.func55, Tryz.ntmps55
  go_wp2_with fail
  refine hA.out.mono ?_
  rintro e w2 ⟨rfl, t, rfl⟩
  have hb : Below w.heap.size w (Lib.bytesWorld w 5 t) := below_freeze' ((Below.refl _ w).drew.alloc (Nat.le_refl _) _) (Nat.le_refl _) _
  go_wp2_with fail
  go_ret2
  exact ⟨rfl, hb⟩
end Go.Proofs.YtkbohoolnpaleaaGreatDoor

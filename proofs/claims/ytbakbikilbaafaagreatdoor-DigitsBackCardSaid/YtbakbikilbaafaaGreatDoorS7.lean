/-
  Contracts: The contract of formatBase10. The contract of setDigits. The contract of fmtEFG in the form 'e', where the exponent is one digit. The contract of ftoa64 at whole numbers below 2^32, in the form 'e', the fewest digits. The contract of fmtEFG in the form 'e', at exponents of either sign and up to three digits (printed by gen_XWD.py).
-/
import Derived.Test.YtbakbikilbaafaaGreatDoorS6
import Derived.BigRegion
import Derived.RegionTactic
import Derived.Deep.RegionHeld3
import Derived.Deep.Cut
import Derived.Deep.CutRange
import Derived.Deep.DeepCutAuto
import Derived.Deep.AppendLies
import Derived.OwnWalk
namespace Go.Proofs.YtbakbikilbaafaaGreatDoor
open Go.RowKit
set_option maxHeartbeats 1000000
set_option maxRecDepth 100000

def smalls : ByteArray := ⟨#[48, 48, 48, 49, 48, 50, 48, 51, 48, 52, 48, 53, 48, 54, 48, 55, 48, 56, 48, 57, 49, 48, 49, 49, 49, 50, 49, 51, 49, 52, 49, 53, 49, 54, 49, 55, 49, 56, 49, 57, 50, 48, 50, 49, 50, 50, 50, 51, 50, 52, 50, 53, 50, 54, 50, 55, 50, 56, 50, 57, 51, 48, 51, 49, 51, 50, 51, 51, 51, 52, 51, 53, 51, 54, 51, 55, 51, 56, 51, 57, 52, 48, 52, 49, 52, 50, 52, 51, 52, 52, 52, 53, 52, 54, 52, 55, 52, 56, 52, 57, 53, 48, 53, 49, 53, 50, 53, 51, 53, 52, 53, 53, 53, 54, 53, 55, 53, 56, 53, 57, 54, 48, 54, 49, 54, 50, 54, 51, 54, 52, 54, 53, 54, 54, 54, 55, 54, 56, 54, 57, 55, 48, 55, 49, 55, 50, 55, 51, 55, 52, 55, 53, 55, 54, 55, 55, 55, 56, 55, 57, 56, 48, 56, 49, 56, 50, 56, 51, 56, 52, 56, 53, 56, 54, 56, 55, 56, 56, 56, 57, 57, 48, 57, 49, 57, 50, 57, 51, 57, 52, 57, 53, 57, 54, 57, 55, 57, 56, 57, 57]⟩
theorem smalls_hi (y : Nat) (h : y < 100) (h2 : y * 2 < (⟨#[48, 48, 48, 49, 48, 50, 48, 51, 48, 52, 48, 53, 48, 54, 48, 55, 48, 56, 48, 57, 49, 48, 49, 49, 49, 50, 49, 51, 49, 52, 49, 53, 49, 54, 49, 55, 49, 56, 49, 57, 50, 48, 50, 49, 50, 50, 50, 51, 50, 52, 50, 53, 50, 54, 50, 55, 50, 56, 50, 57, 51, 48, 51, 49, 51, 50, 51, 51, 51, 52, 51, 53, 51, 54, 51, 55, 51, 56, 51, 57, 52, 48, 52, 49, 52, 50, 52, 51, 52, 52, 52, 53, 52, 54, 52, 55, 52, 56, 52, 57, 53, 48, 53, 49, 53, 50, 53, 51, 53, 52, 53, 53, 53, 54, 53, 55, 53, 56, 53, 57, 54, 48, 54, 49, 54, 50, 54, 51, 54, 52, 54, 53, 54, 54, 54, 55, 54, 56, 54, 57, 55, 48, 55, 49, 55, 50, 55, 51, 55, 52, 55, 53, 55, 54, 55, 55, 55, 56, 55, 57, 56, 48, 56, 49, 56, 50, 56, 51, 56, 52, 56, 53, 56, 54, 56, 55, 56, 56, 56, 57, 57, 48, 57, 49, 57, 50, 57, 51, 57, 52, 57, 53, 57, 54, 57, 55, 57, 56, 57, 57]⟩ : ByteArray).size) : ((⟨#[48, 48, 48, 49, 48, 50, 48, 51, 48, 52, 48, 53, 48, 54, 48, 55, 48, 56, 48, 57, 49, 48, 49, 49, 49, 50, 49, 51, 49, 52, 49, 53, 49, 54, 49, 55, 49, 56, 49, 57, 50, 48, 50, 49, 50, 50, 50, 51, 50, 52, 50, 53, 50, 54, 50, 55, 50, 56, 50, 57, 51, 48, 51, 49, 51, 50, 51, 51, 51, 52, 51, 53, 51, 54, 51, 55, 51, 56, 51, 57, 52, 48, 52, 49, 52, 50, 52, 51, 52, 52, 52, 53, 52, 54, 52, 55, 52, 56, 52, 57, 53, 48, 53, 49, 53, 50, 53, 51, 53, 52, 53, 53, 53, 54, 53, 55, 53, 56, 53, 57, 54, 48, 54, 49, 54, 50, 54, 51, 54, 52, 54, 53, 54, 54, 54, 55, 54, 56, 54, 57, 55, 48, 55, 49, 55, 50, 55, 51, 55, 52, 55, 53, 55, 54, 55, 55, 55, 56, 55, 57, 56, 48, 56, 49, 56, 50, 56, 51, 56, 52, 56, 53, 56, 54, 56, 55, 56, 56, 56, 57, 57, 48, 57, 49, 57, 50, 57, 51, 57, 52, 57, 53, 57, 54, 57, 55, 57, 56, 57, 57]⟩ : ByteArray)[y * 2]'h2).toNat = 48 + y / 10 := by
  have all : ∀ j : Fin 100, ∃ h, (smalls[j.val * 2]'h).toNat = 48 + j.val / 10 := by decide +kernel
  exact (all ⟨y, h⟩).choose_spec
theorem smalls_lo (y : Nat) (h : y < 100) (h2 : y * 2 + 1 < (⟨#[48, 48, 48, 49, 48, 50, 48, 51, 48, 52, 48, 53, 48, 54, 48, 55, 48, 56, 48, 57, 49, 48, 49, 49, 49, 50, 49, 51, 49, 52, 49, 53, 49, 54, 49, 55, 49, 56, 49, 57, 50, 48, 50, 49, 50, 50, 50, 51, 50, 52, 50, 53, 50, 54, 50, 55, 50, 56, 50, 57, 51, 48, 51, 49, 51, 50, 51, 51, 51, 52, 51, 53, 51, 54, 51, 55, 51, 56, 51, 57, 52, 48, 52, 49, 52, 50, 52, 51, 52, 52, 52, 53, 52, 54, 52, 55, 52, 56, 52, 57, 53, 48, 53, 49, 53, 50, 53, 51, 53, 52, 53, 53, 53, 54, 53, 55, 53, 56, 53, 57, 54, 48, 54, 49, 54, 50, 54, 51, 54, 52, 54, 53, 54, 54, 54, 55, 54, 56, 54, 57, 55, 48, 55, 49, 55, 50, 55, 51, 55, 52, 55, 53, 55, 54, 55, 55, 55, 56, 55, 57, 56, 48, 56, 49, 56, 50, 56, 51, 56, 52, 56, 53, 56, 54, 56, 55, 56, 56, 56, 57, 57, 48, 57, 49, 57, 50, 57, 51, 57, 52, 57, 53, 57, 54, 57, 55, 57, 56, 57, 57]⟩ : ByteArray).size) : ((⟨#[48, 48, 48, 49, 48, 50, 48, 51, 48, 52, 48, 53, 48, 54, 48, 55, 48, 56, 48, 57, 49, 48, 49, 49, 49, 50, 49, 51, 49, 52, 49, 53, 49, 54, 49, 55, 49, 56, 49, 57, 50, 48, 50, 49, 50, 50, 50, 51, 50, 52, 50, 53, 50, 54, 50, 55, 50, 56, 50, 57, 51, 48, 51, 49, 51, 50, 51, 51, 51, 52, 51, 53, 51, 54, 51, 55, 51, 56, 51, 57, 52, 48, 52, 49, 52, 50, 52, 51, 52, 52, 52, 53, 52, 54, 52, 55, 52, 56, 52, 57, 53, 48, 53, 49, 53, 50, 53, 51, 53, 52, 53, 53, 53, 54, 53, 55, 53, 56, 53, 57, 54, 48, 54, 49, 54, 50, 54, 51, 54, 52, 54, 53, 54, 54, 54, 55, 54, 56, 54, 57, 55, 48, 55, 49, 55, 50, 55, 51, 55, 52, 55, 53, 55, 54, 55, 55, 55, 56, 55, 57, 56, 48, 56, 49, 56, 50, 56, 51, 56, 52, 56, 53, 56, 54, 56, 55, 56, 56, 56, 57, 57, 48, 57, 49, 57, 50, 57, 51, 57, 52, 57, 53, 57, 54, 57, 55, 57, 56, 57, 57]⟩ : ByteArray)[y * 2 + 1]'h2).toNat = 48 + y % 10 := by
  have all : ∀ j : Fin 100, ∃ h, (smalls[j.val * 2 + 1]'h).toNat = 48 + j.val % 10 := by decide +kernel
  exact (all ⟨y, h⟩).choose_spec
/-- of n digits of u those from place m on are written in block b; v is what is left -/
def FB (w0 : World) (b n u : Nat) (m v : Nat) (w : World) : Prop :=
  m ≤ n ∧ v = u / 10 ^ (n - m) ∧ Below b w0 w ∧ (∀ j, j < n → (∃ x, w.cell? ⟨b, j, none⟩ = some x) ∧ w.frozen? ⟨b, j, none⟩ = false) ∧
  ∀ j, m ≤ j → j < n → w.cell? ⟨b, j, none⟩ = some (.int .u8 ((48 + u / 10 ^ (n - 1 - j) % 10 : Nat) : Int))
theorem FB.put {w0 w : World} {b n u m v : Nat} (h : FB w0 b n u m v w) (hm : 1 ≤ m) {x : Nat} (hx : x = 48 + v % 10) :
    FB w0 b n u (m - 1) (v / 10) (w.setCell ⟨b, m - 1, none⟩ (.int .u8 (x : Int))) := by
  obtain ⟨h1, h2, h3, h4, h5⟩ := h
  obtain ⟨⟨y, hy⟩, _⟩ := h4 (m - 1) (by omega)
  refine ⟨by omega, ?_, h3.setCell (Nat.le_refl _) _, fun j hj => ⟨?_, ?_⟩, fun j hj hjn => ?_⟩
  · rw [h2, Nat.div_div_eq_div_mul, ← Nat.pow_succ]
    have : (n - m).succ = n - (m - 1) := by omega
    rw [this]
  · by_cases e : j = m - 1
    · subst e; exact ⟨_, set_sameD hy⟩
    · obtain ⟨⟨z, hz⟩, _⟩ := h4 j hj
      exact ⟨z, (set_other (fun h => e h.symm)).trans hz⟩
  · rw [World.frozen?_setCell]; exact (h4 j hj).2
  · by_cases e : j = m - 1
    · subst e
      rw [set_sameD hy, hx, h2]
      have : n - 1 - (m - 1) = n - m := by omega
      rw [this]
    · rw [set_other (fun h => e h.symm)]
      exact h5 j (by omega) hjn
theorem FB.draw {w0 w : World} {b n u m v : Nat} (h : FB w0 b n u m v w) : FB w0 b n u m v w.drew := ⟨h.1, h.2.1, h.2.2.1.drew, h.2.2.2.1, h.2.2.2.2⟩
theorem c_fmt10 (n u b c : Nat) (hn : n ≤ 32) (hu : u < 10 ^ n) (hu2 : u < 18446744073709551616) (w0 w : World) (h : FB w0 b n u n u w) :
    Calls Tryz.prog 126 #[.slice (some ⟨b, 0, none⟩) n c, .int .u64 (u : Int)] w fun e w' => e = .returned (.tuple #[]) ∧ FB w0 b n u 0 0 w' := by
  go_enter Tryz.func126, Tryz.ntmps126
  go_wp2_with fail
  go_loopw [4, 1, 5, 6, 7, 8, 9, 10, 11] (fun vn vu _ _ _ _ _ _ _ wr => ∃ m v : Nat, vn = .int .i64 (m : Int) ∧ vu = .int .u64 (v : Int) ∧ FB w0 b n u m v wr) (fun vn _ _ _ _ _ _ _ _ _ => (intOf vn).toNat)
  case atStart => exact ⟨n, u, rfl, rfl, h⟩
  case round =>
    obtain ⟨m, v, rfl, rfl, hfb⟩ := hrel
    have hv2 : v < 18446744073709551616 := by
      have := hfb.2.1
      exact Nat.lt_of_le_of_lt (by rw [this]; exact Nat.div_le_self _ _) hu2
    have hvm : v < 10 ^ m := by
      rw [hfb.2.1]
      have h1 := hfb.1
      apply Nat.div_lt_of_lt_mul
      rw [← Nat.pow_add]
      have : n - m + m = n := by omega
      rw [this]; exact hu
    have hmn := hfb.1
    clear h
    by_cases h8 : 8 ≤ m
    · have h8' : (8 : Int) ≤ (m : Int) := by omega
      replace hfb := Lib.hid hfb
      clear hvm
      obtain ⟨y0, hy0⟩ : ∃ y, y = v % 100 := ⟨_, rfl⟩
      have a0 : (v : Int) % 100 = (y0 : Int) := by omega
      have l0 : y0 < 100 := by omega
      replace hy0 := Lib.hid hy0
      obtain ⟨y1, hy1⟩ : ∃ y, y = v % 10000 / 100 := ⟨_, rfl⟩
      have a1 : (v : Int) % 10000 / 100 = (y1 : Int) := by omega
      have l1 : y1 < 100 := by omega
      replace hy1 := Lib.hid hy1
      obtain ⟨y2, hy2⟩ : ∃ y, y = v % 100000000 / 10000 % 100 := ⟨_, rfl⟩
      have a2 : (v : Int) % 100000000 / 10000 % 100 = (y2 : Int) := by omega
      have l2 : y2 < 100 := by omega
      replace hy2 := Lib.hid hy2
      obtain ⟨y3, hy3⟩ : ∃ y, y = v % 100000000 / 10000 / 100 := ⟨_, rfl⟩
      have a3 : (v : Int) % 100000000 / 10000 / 100 = (y3 : Int) := by omega
      have l3 : y3 < 100 := by omega
      replace hy3 := Lib.hid hy3
      go_upto_region 7 with (fail)
      go_cut [44] from 42 to 54 (fun _ wc => FB w0 b n u (m - 2) (v / 100) wc)
      case first =>
        obtain ⟨⟨x1, c1⟩, f1⟩ := hfb.out.2.2.2.1 (m - 1) (by omega)
        obtain ⟨⟨x2, c2⟩, f2⟩ := hfb.out.2.2.2.1 (m - 2) (by omega)
        have e1 : ((m : Int) - 1).toNat = m - 1 := by omega
        have e2 : ((m : Int) - 2).toNat = m - 2 := by omega
        have b1 : (0 : Int) ≤ (m : Int) - 1 ∧ (m : Int) - 1 < (n : Int) := by omega
        have b2 : (0 : Int) ≤ (m : Int) - 2 ∧ (m : Int) - 2 < (n : Int) := by omega
        have w1 : IntKind.u32.wrap ((y0 : Int) * 2 + 1) = (y0 : Int) * 2 + 1 := by rw [IntKind.wrap_u32]; omega
        have t1 : ((y0 : Int) * 2 + 1).toNat = y0 * 2 + 1 := by omega
        have s1 : ((y0 : Int) * 2).toNat = y0 * 2 := by omega
        have g1 : (y0 : Int) * 2 + 1 < 200 := by omega
        have k1 : (y0 : Int) * 2 < 200 := by omega
        have z1 : (0 : Int) ≤ (y0 : Int) * 2 + 1 := by omega
        have q1 : (0 : Int) ≤ (y0 : Int) * 2 := by omega
        go_region
        go_wp2_with fail
        go_meet
        case rel =>
          have e3 : m - 2 = m - 1 - 1 := by omega
          have e4 : v / 100 = v / 10 / 10 := by omega
          rw [e3, e4]
          have hp := hfb.out
          refine FB.put (m := m - 1) (FB.put (m := m) (FB.draw hp) (by omega) ?_) (by omega) ?_
          · rw [smalls_lo _ l0]; have := hy0.out; omega
          · rw [smalls_hi _ l0]; have := hy0.out; omega
      case rest =>
        have h0c := Lib.hid hcut
        clear hcut
        go_upto_region 8 with (fail)
        go_cut [57] from 55 to 67 (fun _ wc => FB w0 b n u (m - 4) (v / 10000) wc)
        case first =>
          obtain ⟨⟨x1, c1⟩, f1⟩ := h0c.out.2.2.2.1 (m - 3) (by omega)
          obtain ⟨⟨x2, c2⟩, f2⟩ := h0c.out.2.2.2.1 (m - 4) (by omega)
          have e1 : ((m : Int) - 3).toNat = m - 3 := by omega
          have e2 : ((m : Int) - 4).toNat = m - 4 := by omega
          have b1 : (0 : Int) ≤ (m : Int) - 3 ∧ (m : Int) - 3 < (n : Int) := by omega
          have b2 : (0 : Int) ≤ (m : Int) - 4 ∧ (m : Int) - 4 < (n : Int) := by omega
          have w1 : IntKind.u32.wrap ((y1 : Int) * 2 + 1) = (y1 : Int) * 2 + 1 := by rw [IntKind.wrap_u32]; omega
          have t1 : ((y1 : Int) * 2 + 1).toNat = y1 * 2 + 1 := by omega
          have s1 : ((y1 : Int) * 2).toNat = y1 * 2 := by omega
          have g1 : (y1 : Int) * 2 + 1 < 200 := by omega
          have k1 : (y1 : Int) * 2 < 200 := by omega
          have z1 : (0 : Int) ≤ (y1 : Int) * 2 + 1 := by omega
          have q1 : (0 : Int) ≤ (y1 : Int) * 2 := by omega
          go_region
          go_wp2_with fail
          go_meet
          case rel =>
            have e3 : m - 4 = m - 3 - 1 := by omega
            have e4 : v / 10000 = v / 100 / 10 / 10 := by omega
            rw [e3, e4]
            have hp := h0c.out
            refine FB.put (m := m - 3) (FB.put (m := m - 2) (FB.draw hp) (by omega) ?_) (by omega) ?_
            · rw [smalls_lo _ l1]; have := hy1.out; omega
            · rw [smalls_hi _ l1]; have := hy1.out; omega
        case rest =>
          have h1c := Lib.hid hcut
          clear hcut
          go_upto_region 9 with (fail)
          go_cut [70] from 68 to 80 (fun _ wc => FB w0 b n u (m - 6) (v / 1000000) wc)
          case first =>
            obtain ⟨⟨x1, c1⟩, f1⟩ := h1c.out.2.2.2.1 (m - 5) (by omega)
            obtain ⟨⟨x2, c2⟩, f2⟩ := h1c.out.2.2.2.1 (m - 6) (by omega)
            have e1 : ((m : Int) - 5).toNat = m - 5 := by omega
            have e2 : ((m : Int) - 6).toNat = m - 6 := by omega
            have b1 : (0 : Int) ≤ (m : Int) - 5 ∧ (m : Int) - 5 < (n : Int) := by omega
            have b2 : (0 : Int) ≤ (m : Int) - 6 ∧ (m : Int) - 6 < (n : Int) := by omega
            have w1 : IntKind.u32.wrap ((y2 : Int) * 2 + 1) = (y2 : Int) * 2 + 1 := by rw [IntKind.wrap_u32]; omega
            have t1 : ((y2 : Int) * 2 + 1).toNat = y2 * 2 + 1 := by omega
            have s1 : ((y2 : Int) * 2).toNat = y2 * 2 := by omega
            have g1 : (y2 : Int) * 2 + 1 < 200 := by omega
            have k1 : (y2 : Int) * 2 < 200 := by omega
            have z1 : (0 : Int) ≤ (y2 : Int) * 2 + 1 := by omega
            have q1 : (0 : Int) ≤ (y2 : Int) * 2 := by omega
            go_region
            go_wp2_with fail
            go_meet
            case rel =>
              have e3 : m - 6 = m - 5 - 1 := by omega
              have e4 : v / 1000000 = v / 10000 / 10 / 10 := by omega
              rw [e3, e4]
              have hp := h1c.out
              refine FB.put (m := m - 5) (FB.put (m := m - 4) (FB.draw hp) (by omega) ?_) (by omega) ?_
              · rw [smalls_lo _ l2]; have := hy2.out; omega
              · rw [smalls_hi _ l2]; have := hy2.out; omega
          case rest =>
            have h2c := Lib.hid hcut
            clear hcut
            go_upto_region 10 with (fail)
            go_cut [83] from 81 to 93 (fun _ wc => FB w0 b n u (m - 8) (v / 100000000) wc)
            case first =>
              obtain ⟨⟨x1, c1⟩, f1⟩ := h2c.out.2.2.2.1 (m - 7) (by omega)
              obtain ⟨⟨x2, c2⟩, f2⟩ := h2c.out.2.2.2.1 (m - 8) (by omega)
              have e1 : ((m : Int) - 7).toNat = m - 7 := by omega
              have e2 : ((m : Int) - 8).toNat = m - 8 := by omega
              have b1 : (0 : Int) ≤ (m : Int) - 7 ∧ (m : Int) - 7 < (n : Int) := by omega
              have b2 : (0 : Int) ≤ (m : Int) - 8 ∧ (m : Int) - 8 < (n : Int) := by omega
              have w1 : IntKind.u32.wrap ((y3 : Int) * 2 + 1) = (y3 : Int) * 2 + 1 := by rw [IntKind.wrap_u32]; omega
              have t1 : ((y3 : Int) * 2 + 1).toNat = y3 * 2 + 1 := by omega
              have s1 : ((y3 : Int) * 2).toNat = y3 * 2 := by omega
              have g1 : (y3 : Int) * 2 + 1 < 200 := by omega
              have k1 : (y3 : Int) * 2 < 200 := by omega
              have z1 : (0 : Int) ≤ (y3 : Int) * 2 + 1 := by omega
              have q1 : (0 : Int) ≤ (y3 : Int) * 2 := by omega
              go_region
              go_wp2_with fail
              go_meet
              case rel =>
                have e3 : m - 8 = m - 7 - 1 := by omega
                have e4 : v / 100000000 = v / 1000000 / 10 / 10 := by omega
                rw [e3, e4]
                have hp := h2c.out
                refine FB.put (m := m - 7) (FB.put (m := m - 6) (FB.draw hp) (by omega) ?_) (by omega) ?_
                · rw [smalls_lo _ l3]; have := hy3.out; omega
                · rw [smalls_hi _ l3]; have := hy3.out; omega
            case rest =>
              have h3c := Lib.hid hcut
              clear hcut
              go_wp2_with fail
              go_roundw
              case rel => exact ⟨m - 8, v / 100000000, by go_num, by go_num, h3c.out⟩
              case measure => simp [intOf]; omega
    · have h8' : ¬ (8 : Int) ≤ (m : Int) := by omega
      have hp7 : 10 ^ m ≤ 10 ^ 7 := Nat.pow_le_pow_right (by decide) (by omega)
      have hv8 : v < 10000000 := Nat.lt_of_lt_of_le hvm hp7
      have hv9 : (v : Int) < 10000000 := by omega
      clear hp7 hu2 hv2
      replace hfb := Lib.hid hfb
      by_cases h4 : 4 ≤ m
      · have h4' : (4 : Int) ≤ (m : Int) := by omega
        obtain ⟨y0, hy0⟩ : ∃ y, y = v % 100 := ⟨_, rfl⟩
        have a0 : (v : Int) % 100 = (y0 : Int) := by omega
        have l0 : y0 < 100 := by omega
        replace hy0 := Lib.hid hy0
        obtain ⟨y1, hy1⟩ : ∃ y, y = v % 10000 / 100 := ⟨_, rfl⟩
        have a1 : (v : Int) % 10000 / 100 = (y1 : Int) := by omega
        have l1 : y1 < 100 := by omega
        replace hy1 := Lib.hid hy1
        go_upto_region 17 with (fail)
        go_cut [112] (fun _ wc => FB w0 b n u (m - 2) (v / 100) wc)
        case first =>
          obtain ⟨⟨x1, c1⟩, f1⟩ := hfb.out.2.2.2.1 (m - 1) (by omega)
          obtain ⟨⟨x2, c2⟩, f2⟩ := hfb.out.2.2.2.1 (m - 2) (by omega)
          have e1 : ((m : Int) - 1).toNat = m - 1 := by omega
          have e2 : ((m : Int) - 2).toNat = m - 2 := by omega
          have b1 : (0 : Int) ≤ (m : Int) - 1 ∧ (m : Int) - 1 < (n : Int) := by omega
          have b2 : (0 : Int) ≤ (m : Int) - 2 ∧ (m : Int) - 2 < (n : Int) := by omega
          have w1 : IntKind.u32.wrap ((y0 : Int) * 2 + 1) = (y0 : Int) * 2 + 1 := by rw [IntKind.wrap_u32]; omega
          have t1 : ((y0 : Int) * 2 + 1).toNat = y0 * 2 + 1 := by omega
          have s1 : ((y0 : Int) * 2).toNat = y0 * 2 := by omega
          have g1 : (y0 : Int) * 2 + 1 < 200 := by omega
          have k1 : (y0 : Int) * 2 < 200 := by omega
          have z1 : (0 : Int) ≤ (y0 : Int) * 2 + 1 := by omega
          have q1 : (0 : Int) ≤ (y0 : Int) * 2 := by omega
          go_region
          go_wp2_with fail
          go_meet
          case rel =>
            have e3 : m - 2 = m - 1 - 1 := by omega
            have e4 : v / 100 = v / 10 / 10 := by omega
            rw [e3, e4]
            have hp := hfb.out
            refine FB.put (m := m - 1) (FB.put (m := m) (FB.draw hp) (by omega) ?_) (by omega) ?_
            · rw [smalls_lo _ l0]; have := hy0.out; omega
            · rw [smalls_hi _ l0]; have := hy0.out; omega
        case rest =>
          have h0c := Lib.hid hcut
          clear hcut
          go_upto_region 18 with (fail)
          go_cut [125] (fun _ wc => FB w0 b n u (m - 4) (v / 10000) wc)
          case first =>
            obtain ⟨⟨x1, c1⟩, f1⟩ := h0c.out.2.2.2.1 (m - 3) (by omega)
            obtain ⟨⟨x2, c2⟩, f2⟩ := h0c.out.2.2.2.1 (m - 4) (by omega)
            have e1 : ((m : Int) - 3).toNat = m - 3 := by omega
            have e2 : ((m : Int) - 4).toNat = m - 4 := by omega
            have b1 : (0 : Int) ≤ (m : Int) - 3 ∧ (m : Int) - 3 < (n : Int) := by omega
            have b2 : (0 : Int) ≤ (m : Int) - 4 ∧ (m : Int) - 4 < (n : Int) := by omega
            have w1 : IntKind.u32.wrap ((y1 : Int) * 2 + 1) = (y1 : Int) * 2 + 1 := by rw [IntKind.wrap_u32]; omega
            have t1 : ((y1 : Int) * 2 + 1).toNat = y1 * 2 + 1 := by omega
            have s1 : ((y1 : Int) * 2).toNat = y1 * 2 := by omega
            have g1 : (y1 : Int) * 2 + 1 < 200 := by omega
            have k1 : (y1 : Int) * 2 < 200 := by omega
            have z1 : (0 : Int) ≤ (y1 : Int) * 2 + 1 := by omega
            have q1 : (0 : Int) ≤ (y1 : Int) * 2 := by omega
            go_region
            go_wp2_with fail
            go_meet
            case rel =>
              have e3 : m - 4 = m - 3 - 1 := by omega
              have e4 : v / 10000 = v / 100 / 10 / 10 := by omega
              rw [e3, e4]
              have hp := h0c.out
              refine FB.put (m := m - 3) (FB.put (m := m - 2) (FB.draw hp) (by omega) ?_) (by omega) ?_
              · rw [smalls_lo _ l1]; have := hy1.out; omega
              · rw [smalls_hi _ l1]; have := hy1.out; omega
          case rest =>
            have h1c := Lib.hid hcut
            clear hcut
            have hm4 : m - 4 < 4 := by omega
            by_cases h2 : 2 ≤ m - 4
            · have h2' : (2 : Int) ≤ (m : Int) - 4 := by omega
              have hv4 : v / 10000 < 1000 := by
                have := Nat.pow_le_pow_right (n := 10) (by decide) (show m ≤ 7 by omega)
                omega
              obtain ⟨y5, hy5⟩ : ∃ y, y = v / 10000 % 100 := ⟨_, rfl⟩
              have a5 : (v : Int) / 10000 % 100 = (y5 : Int) := by omega
              have l5 : y5 < 100 := by omega
              replace hy5 := Lib.hid hy5
              go_upto_region 23 with (fail)
              go_cut [147] (fun _ wc => FB w0 b n u (m - 6) (v / 1000000) wc)
              case first =>
                obtain ⟨⟨x1, c1⟩, f1⟩ := h1c.out.2.2.2.1 (m - 5) (by omega)
                obtain ⟨⟨x2, c2⟩, f2⟩ := h1c.out.2.2.2.1 (m - 6) (by omega)
                have e1 : ((m : Int) - 4 - 1).toNat = m - 5 := by omega
                have e2 : ((m : Int) - 4 - 2).toNat = m - 6 := by omega
                have b1 : (0 : Int) ≤ (m : Int) - 4 - 1 ∧ (m : Int) - 4 - 1 < (n : Int) := by omega
                have b2 : (0 : Int) ≤ (m : Int) - 4 - 2 ∧ (m : Int) - 4 - 2 < (n : Int) := by omega
                have w1 : IntKind.u32.wrap ((y5 : Int) * 2 + 1) = (y5 : Int) * 2 + 1 := by rw [IntKind.wrap_u32]; omega
                have t1 : ((y5 : Int) * 2 + 1).toNat = y5 * 2 + 1 := by omega
                have s1 : ((y5 : Int) * 2).toNat = y5 * 2 := by omega
                have g1 : (y5 : Int) * 2 + 1 < 200 := by omega
                have k1 : (y5 : Int) * 2 < 200 := by omega
                have z1 : (0 : Int) ≤ (y5 : Int) * 2 + 1 := by omega
                have q1 : (0 : Int) ≤ (y5 : Int) * 2 := by omega
                go_region
                go_wp2_with fail
                go_meet
                case rel =>
                  have e3 : m - 6 = m - 5 - 1 := by omega
                  have e4 : v / 1000000 = v / 10000 / 10 / 10 := by omega
                  rw [e3, e4]
                  have hp := h1c.out
                  refine FB.put (m := m - 5) (FB.put (m := m - 4) (FB.draw hp) (by omega) ?_) (by omega) ?_
                  · rw [smalls_lo _ l5]; have := hy5.out; omega
                  · rw [smalls_hi _ l5]; have := hy5.out; omega
              case rest =>
                have h5c := Lib.hid hcut
                clear hcut
                by_cases h1 : 1 ≤ m - 6
                · have h1' : (0 : Int) < (m : Int) - 4 - 2 := by omega
                  have hv6 : v / 1000000 < 10 := by omega
                  obtain ⟨⟨x1, c1⟩, f1⟩ := h5c.out.2.2.2.1 0 (by omega)
                  have hn0 : (0 : Int) < (n : Int) := by omega
                  have hn1 : (0 : Int) ≤ 0 ∧ (0 : Int) < (n : Int) := by omega
                  have hv7 : (v : Int) / 10000 / 100 < 10 := by omega
                  have e3 : (0 : Nat) = m - 6 - 1 := by omega
                  have e4 : (0 : Nat) = v / 1000000 / 10 := by omega
                  have hq := FB.put (x := 48 + v / 10000 / 100) h5c.out (by omega) (by omega)
                  rw [← e3, ← e4] at hq
                  replace hq := Lib.hid hq
                  clear e3 e4 hv6 h1 hv8 hvm hm4 h8 hv4 h2 h4
                  go_upto_region 25 with (fail)
                  clear hv9
                  go_wp2_with fail
                  go_end0
                  exact ⟨rfl, hq.out⟩
                · have h1' : ¬ (0 : Int) < (m : Int) - 4 - 2 := by omega
                  have hv6 : v < 1000000 := by
                    have := Nat.pow_le_pow_right (n := 10) (by decide) (show m ≤ 6 by omega)
                    omega
                  have e3 : m - 6 = 0 := by omega
                  have e4 : v / 1000000 = 0 := by omega
                  have hq := h5c.out
                  rw [e3, e4] at hq
                  replace hq := Lib.hid hq
                  clear e3 e4 hv6 h1 hv8 hvm hm4 h8 hv4 h2 h4
                  go_upto_region 25 with (fail)
                  clear hv9
                  go_wp2_with fail
                  go_end0
                  exact ⟨rfl, hq.out⟩
            · have h2' : ¬ (2 : Int) ≤ (m : Int) - 4 := by omega
              by_cases h1 : 1 ≤ m - 4
              · have h1' : (0 : Int) < (m : Int) - 4 := by omega
                have hv6 : v / 10000 < 10 := by
                  have := Nat.pow_le_pow_right (n := 10) (by decide) (show m ≤ 5 by omega)
                  omega
                obtain ⟨⟨x1, c1⟩, f1⟩ := h1c.out.2.2.2.1 0 (by omega)
                have hn0 : (0 : Int) < (n : Int) := by omega
                have hn1 : (0 : Int) ≤ 0 ∧ (0 : Int) < (n : Int) := by omega
                have hv7 : (v : Int) / 10000 < 10 := by omega
                have e3 : (0 : Nat) = m - 4 - 1 := by omega
                have e4 : (0 : Nat) = v / 10000 / 10 := by omega
                have hq := FB.put (x := 48 + v / 10000) h1c.out (by omega) (by omega)
                rw [← e3, ← e4] at hq
                replace hq := Lib.hid hq
                clear e3 e4 hv6 h1 hv8 hvm hm4 h8 h2 h4
                go_upto_region 25 with (fail)
                clear hv9
                go_wp2_with fail
                go_end0
                exact ⟨rfl, hq.out⟩
              · have h1' : ¬ (0 : Int) < (m : Int) - 4 := by omega
                have hv6 : v < 10000 := by
                  have := Nat.pow_le_pow_right (n := 10) (by decide) (show m ≤ 4 by omega)
                  omega
                have e3 : m - 4 = 0 := by omega
                have e4 : v / 10000 = 0 := by omega
                have hq := h1c.out
                rw [e3, e4] at hq
                replace hq := Lib.hid hq
                clear e3 e4 hv6 h1 hv8 hvm hm4 h8 h2 h4
                go_upto_region 25 with (fail)
                clear hv9
                go_wp2_with fail
                go_end0
                exact ⟨rfl, hq.out⟩
      · have h4' : ¬ (4 : Int) ≤ (m : Int) := by omega
        have hm4 : m < 4 := by omega
        by_cases h2 : 2 ≤ m
        · have h2' : (2 : Int) ≤ (m : Int) := by omega
          have hv4 : v < 1000 := by
            have := Nat.pow_le_pow_right (n := 10) (by decide) (show m ≤ 3 by omega)
            omega
          obtain ⟨y5, hy5⟩ : ∃ y, y = v % 100 := ⟨_, rfl⟩
          have a5 : (v : Int) % 100 = (y5 : Int) := by omega
          have l5 : y5 < 100 := by omega
          replace hy5 := Lib.hid hy5
          go_upto_region 23 with (fail)
          go_cut [147] (fun _ wc => FB w0 b n u (m - 2) (v / 100) wc)
          case first =>
            obtain ⟨⟨x1, c1⟩, f1⟩ := hfb.out.2.2.2.1 (m - 1) (by omega)
            obtain ⟨⟨x2, c2⟩, f2⟩ := hfb.out.2.2.2.1 (m - 2) (by omega)
            have e1 : ((m : Int) - 1).toNat = m - 1 := by omega
            have e2 : ((m : Int) - 2).toNat = m - 2 := by omega
            have b1 : (0 : Int) ≤ (m : Int) - 1 ∧ (m : Int) - 1 < (n : Int) := by omega
            have b2 : (0 : Int) ≤ (m : Int) - 2 ∧ (m : Int) - 2 < (n : Int) := by omega
            have w1 : IntKind.u32.wrap ((y5 : Int) * 2 + 1) = (y5 : Int) * 2 + 1 := by rw [IntKind.wrap_u32]; omega
            have t1 : ((y5 : Int) * 2 + 1).toNat = y5 * 2 + 1 := by omega
            have s1 : ((y5 : Int) * 2).toNat = y5 * 2 := by omega
            have g1 : (y5 : Int) * 2 + 1 < 200 := by omega
            have k1 : (y5 : Int) * 2 < 200 := by omega
            have z1 : (0 : Int) ≤ (y5 : Int) * 2 + 1 := by omega
            have q1 : (0 : Int) ≤ (y5 : Int) * 2 := by omega
            go_region
            go_wp2_with fail
            go_meet
            case rel =>
              have e3 : m - 2 = m - 1 - 1 := by omega
              have e4 : v / 100 = v / 10 / 10 := by omega
              rw [e3, e4]
              have hp := hfb.out
              refine FB.put (m := m - 1) (FB.put (m := m) (FB.draw hp) (by omega) ?_) (by omega) ?_
              · rw [smalls_lo _ l5]; have := hy5.out; omega
              · rw [smalls_hi _ l5]; have := hy5.out; omega
          case rest =>
            have h5c := Lib.hid hcut
            clear hcut
            by_cases h1 : 1 ≤ m - 2
            · have h1' : (0 : Int) < (m : Int) - 2 := by omega
              have hv6 : v / 100 < 10 := by omega
              obtain ⟨⟨x1, c1⟩, f1⟩ := h5c.out.2.2.2.1 0 (by omega)
              have hn0 : (0 : Int) < (n : Int) := by omega
              have hn1 : (0 : Int) ≤ 0 ∧ (0 : Int) < (n : Int) := by omega
              have hv7 : (v : Int) / 100 < 10 := by omega
              have e3 : (0 : Nat) = m - 2 - 1 := by omega
              have e4 : (0 : Nat) = v / 100 / 10 := by omega
              have hq := FB.put (x := 48 + v / 100) h5c.out (by omega) (by omega)
              rw [← e3, ← e4] at hq
              replace hq := Lib.hid hq
              clear e3 e4 hv6 h1 hv8 hvm hm4 h8 hv4 h2 h4
              go_upto_region 25 with (fail)
              clear hv9
              go_wp2_with fail
              go_end0
              exact ⟨rfl, hq.out⟩
            · have h1' : ¬ (0 : Int) < (m : Int) - 2 := by omega
              have hv6 : v < 100 := by
                have := Nat.pow_le_pow_right (n := 10) (by decide) (show m ≤ 2 by omega)
                omega
              have e3 : m - 2 = 0 := by omega
              have e4 : v / 100 = 0 := by omega
              have hq := h5c.out
              rw [e3, e4] at hq
              replace hq := Lib.hid hq
              clear e3 e4 hv6 h1 hv8 hvm hm4 h8 hv4 h2 h4
              go_upto_region 25 with (fail)
              clear hv9
              go_wp2_with fail
              go_end0
              exact ⟨rfl, hq.out⟩
        · have h2' : ¬ (2 : Int) ≤ (m : Int) := by omega
          by_cases h1 : 1 ≤ m
          · have h1' : (0 : Int) < (m : Int) := by omega
            have hv6 : v < 10 := by
              have := Nat.pow_le_pow_right (n := 10) (by decide) (show m ≤ 1 by omega)
              omega
            obtain ⟨⟨x1, c1⟩, f1⟩ := hfb.out.2.2.2.1 0 (by omega)
            have hn0 : (0 : Int) < (n : Int) := by omega
            have hn1 : (0 : Int) ≤ 0 ∧ (0 : Int) < (n : Int) := by omega
            have hv7 : (v : Int) < 10 := by omega
            have e3 : (0 : Nat) = m - 1 := by omega
            have e4 : (0 : Nat) = v / 10 := by omega
            have hq := FB.put (x := 48 + v) hfb.out (by omega) (by omega)
            rw [← e3, ← e4] at hq
            replace hq := Lib.hid hq
            clear e3 e4 hv6 h1 hv8 hvm hm4 h8 h2 h4
            go_upto_region 25 with (fail)
            clear hv9
            go_wp2_with fail
            go_end0
            exact ⟨rfl, hq.out⟩
          · have h1' : ¬ (0 : Int) < (m : Int) := by omega
            have hv6 : v < 1 := by
              have := Nat.pow_le_pow_right (n := 10) (by decide) (show m ≤ 0 by omega)
              omega
            have e3 : m = 0 := by omega
            have e4 : v = 0 := by omega
            have hq := hfb.out
            rw [e3, e4] at hq
            replace hq := Lib.hid hq
            clear e3 e4 hv6 h1 hv8 hvm hm4 h8 h2 h4
            go_upto_region 25 with (fail)
            clear hv9
            go_wp2_with fail
            go_end0
            exact ⟨rfl, hq.out⟩
end Go.Proofs.YtbakbikilbaafaaGreatDoor
namespace Go.Proofs.YtbakbikilbaafaaGreatDoor
open Go.RowKit
set_option maxHeartbeats 1000000
set_option maxRecDepth 100000

theorem FB.cell {w0 w : World} {b n u : Nat} (h : FB w0 b n u 0 0 w) (j : Nat) (hj : j < n) : w.cell? ⟨b, j, none⟩ = some (.int .u8 ((48 + u / 10 ^ (n - 1 - j) % 10 : Nat) : Int)) := h.2.2.2.2 j (Nat.zero_le _) hj
theorem trim_digits {n u m v : Nat} (hm : m ≤ n) (hm1 : 1 ≤ m) (hu : u = v * 10 ^ (n - m)) (hv : v % 10 ≠ 0) :
    (∀ j, m ≤ j → j < n → u / 10 ^ (n - 1 - j) % 10 = 0) ∧ u / 10 ^ (n - 1 - (m - 1)) % 10 ≠ 0 := by
  constructor
  · intro j h1 h2
    have e : n - m = (n - 1 - j) + ((j - m) + 1) := by omega
    rw [hu, e, Nat.pow_add, Nat.mul_comm (10 ^ (n - 1 - j)), ← Nat.mul_assoc, Nat.mul_div_cancel _ (Nat.pow_pos (by decide)), Nat.pow_succ, ← Nat.mul_assoc]
    exact Nat.mul_mod_left _ _
  · have e : n - 1 - (m - 1) = n - m := by omega
    rw [e, hu, Nat.mul_div_cancel _ (Nat.pow_pos (by decide))]
    exact hv
theorem c_setDigits (b d n m v : Nat) (p : Int) (hp1 : -100000 ≤ p) (hp2 : p ≤ 100000) (hn : n ≤ 32) (hd : d < 10 ^ n) (hd2 : d < 18446744073709551616) (hm1 : 1 ≤ m) (hm : m ≤ n) (hdv : d = v * 10 ^ (n - m)) (hv : v % 10 ≠ 0) (w0 w : World) (h : FB w0 b n d n d w) :
    Calls Tryz.prog 164 #[.slice (some ⟨b, 0, none⟩) 32 32, .int .u64 (d : Int), .int .i64 p, .int .i64 (n : Int)] w fun e w' => e = .returned (.tuple #[.int .i64 ((n : Int) + p), .int .i64 (m : Int)]) ∧ FB w0 b n d 0 0 w' := by
  have hF := Lib.hid (c_fmt10 n d b 32 hn hd hd2 w0 w h)
  obtain ⟨g1, g2⟩ := trim_digits hm hm1 hdv hv
  have hnI : (n : Int) ≤ 32 := by omega
  have g1 := Lib.hid g1
  have g2 := Lib.hid g2
  clear h hdv hv hd hd2
  go_enter Tryz.func164, Tryz.ntmps164
  go_wp2_with (go_at_call 126; refine hF.out.mono ?_; rintro e w1 ⟨rfl, hfb⟩)
  replace hfb := Lib.hid hfb
  go_loop [3] (fun vn => ∃ k : Nat, m ≤ k ∧ k ≤ n ∧ vn = .int .i64 (k : Int)) (fun vn => (intOf vn).toNat)
  case atStart => exact ⟨n, hm, Nat.le_refl _, rfl⟩
  case round =>
    obtain ⟨k, hk1, hk2, rfl⟩ := hrel
    have hc := hfb.out.cell (k - 1) (by omega)
    have e1 : ((k : Int) - 1).toNat = k - 1 := by omega
    have b1 : (0 : Int) ≤ (k : Int) - 1 ∧ (k : Int) - 1 < 32 := by omega
    have hk0 : (0 : Int) < (k : Int) := by omega
    by_cases hlt : m < k
    · have hz := g1.out (k - 1) (by omega) (by omega)
      rw [hz] at hc
      clear hF
      go_wp2
      go_round
      case rel => exact ⟨k - 1, by omega, by omega, by go_num⟩
      case measure => simp [intOf]; omega
    · obtain rfl : k = m := by omega
      have hz := g2.out
      generalize d / 10 ^ (n - 1 - (k - 1)) % 10 = x at *
      have hne : (((48 + x : Nat) : Int) == 48) = false := by simp; omega
      clear hF hz
      go_wp2
      refine bodyPost_ret (v := .tuple #[.int .i64 ((n : Int) + p), .int .i64 (k : Int)]) (by simp [results, Tryz.results164, go_sem]) rfl ?_
      exact ⟨rfl, hfb.out⟩
end Go.Proofs.YtbakbikilbaafaaGreatDoor
namespace Go.Proofs.YtbakbikilbaafaaGreatDoor
open Go.RowKit
set_option maxHeartbeats 1000000
set_option maxRecDepth 100000

def b8 (l : List Nat) : List Value := l.map fun n : Nat => .int .u8 (n : Int)
theorem b8_len (l : List Nat) : (b8 l).length = l.length := by simp [b8]
theorem infoByte : (Tryz.prog.info? 5).map (fun i => (i.zero, i.size, i.bytes)) = some (some (.int .u8 0), 1, 1) := by kernel_rfl
/-- a row of bytes of the call's own, from block B on, that is not block b; block b as in w0 -/
def Buf (w0 w : World) (B b : Nat) (v : Value) (l : List Nat) : Prop :=
  w.ownsRow B 5 1 v l.length (b8 l) ∧ v.ownBlock ≠ some b ∧ Below B w0 w ∧ w.heap[b]? = w0.heap[b]? ∧ b < w.heap.size
theorem own_lo {w : World} {base : Nat} {e : TypeId} {size : Nat} {v : Value} {n : Nat} {xs : List Value} (h : w.ownsRow base e size v n xs) : ∀ k, v.ownBlock = some k → base ≤ k := by
  intro k hk
  rcases h.2 with ⟨rfl, _⟩ | ⟨g, cap, cur, rfl, hb, _⟩
  · cases hk
  · cases hk; exact hb
theorem Buf.step {w0 w w' : World} {B b g n c : Nat} {v : Value} {l news : List Nat} {o : Obj} (h : Buf w0 w B b v l) (hB : B ≤ w.heap.size) (hg : (w.alloc o).grownBy w' v.ownBlock)
    (hown : w'.ownsRow B 5 1 (.slice (some ⟨g, 0, none⟩) n c) n (b8 l ++ b8 news)) (hn : n = (l ++ news).length) (hat : v.ownBlock = some g ∨ g = w.heap.size + 1) :
    Buf w0 w' B b (.slice (some ⟨g, 0, none⟩) n c) (l ++ news) := by
  obtain ⟨h1, h2, h3, h4, h5⟩ := h
  have e : b8 (l ++ news) = b8 l ++ b8 news := by simp [b8]
  refine ⟨by rw [e, ← hn]; exact hown, ?_, (h3.alloc hB o).grown hg (by simp; omega) (own_lo h1), ?_, ?_⟩
  · intro hb
    simp [Value.ownBlock] at hb
    subst hb
    rcases hat with h | h
    · exact h2 h
    · omega
  · rw [hg.block b (by simp; omega) (fun h => h2 h.symm), Below.heap_alloc _ _ _ h5]; exact h4
  · exact Nat.lt_of_lt_of_le h5 (Nat.le_trans (by simp) hg.size)
/-- .. an append from block b itself: no new block ahead of it -/
theorem Buf.step2 {w0 w w' : World} {B b g n c : Nat} {v : Value} {l news : List Nat} (h : Buf w0 w B b v l) (hB : B ≤ w.heap.size) (hg : w.grownBy w' v.ownBlock)
    (hown : w'.ownsRow B 5 1 (.slice (some ⟨g, 0, none⟩) n c) n (b8 l ++ b8 news)) (hn : n = (l ++ news).length) (hat : v.ownBlock = some g ∨ g = w.heap.size) :
    Buf w0 w' B b (.slice (some ⟨g, 0, none⟩) n c) (l ++ news) := by
  obtain ⟨h1, h2, h3, h4, h5⟩ := h
  have e : b8 (l ++ news) = b8 l ++ b8 news := by simp [b8]
  refine ⟨by rw [e, ← hn]; exact hown, ?_, h3.grown hg hB (own_lo h1), ?_, ?_⟩
  · intro hb
    simp [Value.ownBlock] at hb
    subst hb
    rcases hat with h | h
    · exact h2 h
    · omega
  · rw [hg.block b h5 (fun h => h2 h.symm)]; exact h4
  · exact Nat.lt_of_lt_of_le h5 hg.size
section
variable {ops : Array Oper} {rest : List Oper} {o : Oper} {a : Act} {Q : Exit → Act → World → Prop}
/-- append of new bytes to such a row -/
theorem app_buf (hgd : o.guard = none) (s x : Operand) (ho : o.op = .call { callee := .builtin .append, args := #[s, x], argTypes := #[90, 90] })
    {w0 w : World} {B b : Nat} {v : Value} {l : List Nat} (hb : Buf w0 w B b v l) (hB : B ≤ w.heap.size) (hs : a.eval s = v) (news : List Nat) (m n : Nat) (cs : Array Value)
    (hcs : cs.toList = b8 news) (hm : m = news.length) (hm0 : 0 < m) (hn : n = (l ++ news).length) (hn2 : n ≤ 1000000) (hx : a.eval x = .slice (some ⟨w.heap.size, 0, none⟩) m m)
    (h : ∀ g cap w', Buf w0 w' B b (.slice (some ⟨g, 0, none⟩) n cap) (l ++ news) → B ≤ w'.heap.size → wpList Tryz.prog ops Q rest (a.put o.dst (.slice (some ⟨g, 0, none⟩) n cap)) w') :
    wpList Tryz.prog ops Q (o :: rest) a (w.alloc (.cells cs 5)) := by
  obtain ⟨i0, hi0, hz0, hz1, hz2⟩ := info_parts infoByte
  have e1 : l.length + m = n := by rw [hn, hm, List.length_append]
  refine wpList_append_lies _ hgd s x _ ho B 5 i0 _ 1 1 Tryz.underlying90 hi0 hz0 hz1 hz2 rfl (by omega) v l.length (b8 l) hs (hb.1.alloc _) ⟨w.heap.size, 0, none⟩ m m (b8 news) hx (by rw [b8_len]; omega)
    (fun j u hj => World.news_of_block (t := 5) (fr := (0, 0)) (heap_alloc_new w _) j u (by rw [hcs]; exact hj)) ?_ hm0 (by unfold maxLen; omega) (by omega) (by simp; omega) (w.heap.size + 1) (by simp) ?_
  · intro u hu
    obtain ⟨n, _, rfl⟩ := List.mem_map.1 hu
    rfl
  · intro g cap w' hown hg hat hlt
    rw [e1] at hown ⊢
    have hb' := hb.step hB hg hown hn hat
    exact h g cap w' hb' (Nat.le_trans hB (Nat.le_trans (by simp) hg.size))
/-- .. of bytes that lie in block b -/
theorem app_buf2 (hgd : o.guard = none) (s x : Operand) (ho : o.op = .call { callee := .builtin .append, args := #[s, x], argTypes := #[90, 90] })
    {w0 w : World} {B b : Nat} {v : Value} {l : List Nat} (hb : Buf w0 w B b v l) (hB : B ≤ w.heap.size) (hs : a.eval s = v) (news : List Nat) (m n i c : Nat)
    (hm : m = news.length) (hm0 : 0 < m) (hn : n = (l ++ news).length) (hn2 : n ≤ 1000000) (hx : a.eval x = .slice (some ⟨b, i, none⟩) m c)
    (hc : ∀ (j u : Nat), news[j]? = some u → w0.cell? ⟨b, i + j, none⟩ = some (.int .u8 (u : Int)))
    (h : ∀ g cap w', Buf w0 w' B b (.slice (some ⟨g, 0, none⟩) n cap) (l ++ news) → B ≤ w'.heap.size → wpList Tryz.prog ops Q rest (a.put o.dst (.slice (some ⟨g, 0, none⟩) n cap)) w') :
    wpList Tryz.prog ops Q (o :: rest) a w := by
  obtain ⟨i0, hi0, hz0, hz1, hz2⟩ := info_parts infoByte
  have e1 : l.length + m = n := by rw [hn, hm, List.length_append]
  refine wpList_append_lies _ hgd s x _ ho B 5 i0 _ 1 1 Tryz.underlying90 hi0 hz0 hz1 hz2 rfl (by omega) v l.length (b8 l) hs hb.1 ⟨b, i, none⟩ m c (b8 news) hx (by rw [b8_len]; omega) ?_ ?_ hm0 (by unfold maxLen; omega) (by omega) hB w.heap.size rfl ?_
  · intro j u hj
    have hadd : (⟨b, i, none⟩ : Addr).add j = ⟨b, i + j, none⟩ := by unfold Addr.add; split <;> simp_all
    rw [hadd, World.cell?_of_block (w := w0) (w' := w) hb.2.2.2.1]
    simp only [b8, List.getElem?_map, Option.map_eq_some_iff] at hj
    obtain ⟨n, hn, rfl⟩ := hj
    exact hc j n hn
  · intro u hu
    obtain ⟨n, _, rfl⟩ := List.mem_map.1 hu
    rfl
  · intro g cap w' hown hg hat hlt
    rw [e1] at hown ⊢
    have hb' := hb.step2 hB hg hown hn hat
    exact h g cap w' hb' (Nat.le_trans hB hg.size)
end
end Go.Proofs.YtbakbikilbaafaaGreatDoor
namespace Go.Proofs.YtbakbikilbaafaaGreatDoor
open Go.RowKit
set_option maxHeartbeats 1000000
set_option maxRecDepth 100000

theorem nd_ex (u : Nat) (h : 0 < u) : ∃ n, IsNd u n := by
  induction u using Nat.strongRecOn with
  | ind u ih =>
    by_cases h1 : u < 10
    · exact ⟨1, IsNd.digit h h1⟩
    · obtain ⟨n, hn⟩ := ih (u / 10) (by omega) (by omega)
      exact ⟨n + 1, hn.step⟩
theorem c_numDigits' (d n : Nat) (hn : IsNd d n) (h1 : d < 1000000000000000000) (w : World) (hT : P10 w) :
    Calls Tryz.prog 125 #[.int .u64 (d : Int)] w fun e w' => e = .returned (.int .i64 (n : Int)) ∧ w = w' := by
  refine (c_numDigits d hn.pos h1 w hT).mono ?_
  rintro e w' ⟨m, rfl, hm, rfl⟩
  rw [hm.one hn]
  exact ⟨rfl, rfl⟩
theorem r_f64bits (x : Nat) (w : World) : (callFunc 159 #[.float .f64 x]).run Tryz.prog w = .ok (.value (.int .u64 x)) w := by kernel_rfl
/-- the bytes of a number's digits -/
def dg (m v : Nat) : List Nat := (fw m v).map (48 + ·)
theorem dg_len (m v : Nat) : (dg m v).length = m := by simp [dg, fw_len]
theorem dg_get (m v j : Nat) (h : j < m) : (dg m v)[j]? = some (48 + v / 10 ^ (m - 1 - j) % 10) := by
  simp [dg, fw_get m v j h]
theorem FB.dg {w0 w : World} {b n m v : Nat} (hm : m ≤ n) (h : FB w0 b n (v * 10 ^ (n - m)) 0 0 w) (j u : Nat) (hj : (dg m v)[j]? = some u) : w.cell? ⟨b, j, none⟩ = some (.int .u8 (u : Int)) := by
  have hjm : j < m := by
    have := (List.getElem?_eq_some_iff.1 hj).1
    rwa [dg_len] at this
  rw [dg_get m v j hjm] at hj
  cases hj
  rw [h.cell j (by omega)]
  have e : n - 1 - j = (n - m) + (m - 1 - j) := by omega
  rw [e, Nat.pow_add, ← Nat.div_div_eq_div_mul, Nat.mul_div_cancel _ (Nat.pow_pos (by decide))]
end Go.Proofs.YtbakbikilbaafaaGreatDoor
namespace Go.Proofs.YtbakbikilbaafaaGreatDoor
open Go.RowKit
set_option linter.unusedVariables false
set_option maxHeartbeats 4000000
set_option maxRecDepth 100000

/-- an exponent's digits: two at least -/
def exD (a : Nat) : List Nat := if a < 10 then [48, a + 48] else if a < 100 then [a / 10 + 48, a % 10 + 48] else [a / 100 + 48, a / 10 % 10 + 48, a % 10 + 48]
def exS (E : Int) : Nat := if E < 0 then 45 else 43
/-- the bytes of v, of m digits, as d.dde+nn -/
def sciG (m v : Nat) (E : Int) : List Nat := (if m = 1 then dg m v else (dg m v).take 1 ++ [46] ++ (dg m v).drop 1) ++ [101] ++ [exS E] ++ exD E.natAbs
theorem exS_pos (e : Nat) : exS (e : Int) = 43 := by unfold exS; rw [if_neg (by omega)]
theorem exS_neg (e : Nat) (h : 1 ≤ e) : exS (-(e : Int)) = 45 := by unfold exS; rw [if_pos (by omega)]
theorem natAbs_cast (e : Nat) : (e : Int).natAbs = e := rfl
theorem natAbs_neg (e : Nat) : (-(e : Int)).natAbs = e := by rw [Int.natAbs_neg]; rfl
theorem c_fApa (b B : Nat) (c0 e : Nat) (v0 : Value) (he : e < 10) (w : World) (hB : B ≤ w.heap.size) (h : Buf w w B b v0 []) (hc0 : w.cell? ⟨b, 0, none⟩ = some (.int .u8 (c0 : Int))) :
    Calls Tryz.prog 162 #[v0, .bool false, .slice (some ⟨b, 0, none⟩) 32 32, .int .i64 ((e : Int) + 1), .int .i64 1, .int .i64 0, .int .u8 101, .bool true] w fun r w' => ∃ v', r = .returned v' ∧ Buf w w' B b v' ([c0] ++ [101] ++ [43] ++ [48, e + 48]) := by
  have e1 : (e : Int) < 10 := by omega
  have hn2 : ¬ (e : Int) < 0 := by omega
  clear he
  have h := Lib.hid h
  go_enter Tryz.func162, Tryz.ntmps162
  go_wp2_with (first
    | (at_builtin; refine app_buf rfl _ _ rfl h.out hB rfl [c0] 1 1 _ rfl rfl (by omega) rfl (by omega) rfl ?_; intro g1 k1 w1 hb1 hB1; replace hb1 := Lib.hid hb1)
    | (at_builtin; refine app_buf rfl _ _ rfl hb1.out hB1 rfl [101] 1 2 _ rfl rfl (by omega) rfl (by omega) rfl ?_; intro g2 k2 w2 hb2 hB2; replace hb2 := Lib.hid hb2)
    | (at_builtin; refine app_buf rfl _ _ rfl hb2.out hB2 rfl [43] 1 3 _ rfl rfl (by omega) rfl (by omega) rfl ?_; intro g3 k3 w3 hb3 hB3; replace hb3 := Lib.hid hb3)
    | (at_builtin; refine app_buf rfl _ _ rfl hb3.out hB3 rfl [48, e + 48] 2 5 _ rfl rfl (by omega) rfl (by omega) rfl ?_; intro g4 k4 w4 hb4 hB4; replace hb4 := Lib.hid hb4))
  go_ret
  exact ⟨_, rfl, hb4.out⟩
theorem c_fBpa (b B m : Nat) (ds : List Nat) (c0 e : Nat) (v0 : Value) (he : e < 10) (hm : 2 ≤ m) (hm2 : m ≤ 32) (hds : ds.length = m - 1) (w : World) (hB : B ≤ w.heap.size) (h : Buf w w B b v0 []) (hc0 : w.cell? ⟨b, 0, none⟩ = some (.int .u8 (c0 : Int)))
    (hc : ∀ (j u : Nat), ds[j]? = some u → w.cell? ⟨b, 1 + j, none⟩ = some (.int .u8 (u : Int))) :
    Calls Tryz.prog 162 #[v0, .bool false, .slice (some ⟨b, 0, none⟩) 32 32, .int .i64 ((e : Int) + 1), .int .i64 (m : Int), .int .i64 ((m : Int) - 1), .int .u8 101, .bool true] w fun r w' => ∃ v', r = .returned v' ∧ Buf w w' B b v' ([c0] ++ [46] ++ ds ++ [101] ++ [43] ++ [48, e + 48]) := by
  have e1 : (e : Int) < 10 := by omega
  have hn2 : ¬ (e : Int) < 0 := by omega
  clear he
  have hm3 : (2 : Int) ≤ (m : Int) := by omega
  have hm4 : (m : Int) ≤ 32 := by omega
  have hne : ((m : Int) != 0) = true := by simp; omega
  have hmin : (m : Int) - 1 + 1 = (m : Int) := by omega
  have h := Lib.hid h
  replace hds := Lib.hid hds
  replace hc := Lib.hid hc
  clear hm hm2
  go_enter Tryz.func162, Tryz.ntmps162
  go_wp2_with (first
    | (at_builtin; refine app_buf rfl _ _ rfl h.out hB rfl [c0] 1 1 _ rfl rfl (by omega) rfl (by omega) rfl ?_; intro g1 k1 w1 hb1 hB1; replace hb1 := Lib.hid hb1)
    | (at_builtin; refine app_buf rfl _ _ rfl hb1.out hB1 rfl [46] 1 2 _ rfl rfl (by omega) rfl (by omega) rfl ?_; intro g2 k2 w2 hb2 hB2; replace hb2 := Lib.hid hb2)
    | (at_builtin; go_loud (refine app_buf2 rfl _ _ rfl hb2.out hB2 rfl ds (m - 1) (2 + (m - 1)) 1 31 hds.out.symm (by omega) (by have := hds.out; simp; omega) (by omega) rfl hc.out ?_); intro g3 k3 w3 hb3 hB3; replace hb3 := Lib.hid hb3))
  go_loopw [0, 114] (fun u0 u1 wr => u0 = .slice (some ⟨g3, 0, none⟩) (2 + (m - 1)) k3 ∧ u1 = .int .i64 0 ∧ wr = w3) (fun _ _ _ => 0)
  case atStart => exact ⟨rfl, rfl, rfl⟩
  case round =>
    obtain ⟨rfl, rfl, rfl⟩ := hrel
    go_wp2_with (first
      | (at_builtin; refine app_buf rfl _ _ rfl hb3.out hB3 rfl [101] 1 (3 + (m - 1)) _ rfl rfl (by omega) (by have := hds.out; simp; omega) (by omega) rfl ?_; intro g4 k4 w4 hb4 hB4; replace hb4 := Lib.hid hb4)
      | (at_builtin; refine app_buf rfl _ _ rfl hb4.out hB4 rfl [43] 1 (4 + (m - 1)) _ rfl rfl (by omega) (by have := hds.out; simp; omega) (by omega) rfl ?_; intro g5 k5 w5 hb5 hB5; replace hb5 := Lib.hid hb5)
      | (at_builtin; refine app_buf rfl _ _ rfl hb5.out hB5 rfl [48, e + 48] 2 (6 + (m - 1)) _ rfl rfl (by omega) (by have := hds.out; simp; omega) (by omega) rfl ?_; intro g6 k6 w6 hb6 hB6; replace hb6 := Lib.hid hb6))
    go_ret
    exact ⟨_, rfl, hb6.out⟩
theorem c_fApb (b B : Nat) (c0 e : Nat) (v0 : Value) (he : 10 ≤ e ∧ e < 100) (w : World) (hB : B ≤ w.heap.size) (h : Buf w w B b v0 []) (hc0 : w.cell? ⟨b, 0, none⟩ = some (.int .u8 (c0 : Int))) :
    Calls Tryz.prog 162 #[v0, .bool false, .slice (some ⟨b, 0, none⟩) 32 32, .int .i64 ((e : Int) + 1), .int .i64 1, .int .i64 0, .int .u8 101, .bool true] w fun r w' => ∃ v', r = .returned v' ∧ Buf w w' B b v' ([c0] ++ [101] ++ [43] ++ [e / 10 + 48, e % 10 + 48]) := by
  obtain ⟨f1, f2⟩ := he
  have e1 : ¬ (e : Int) < 10 := by omega
  have e2 : (e : Int) < 100 := by omega
  have e4 : (10 : Int) ≤ (e : Int) := by omega
  have hn2 : ¬ (e : Int) < 0 := by omega
  clear f1 f2
  have h := Lib.hid h
  go_enter Tryz.func162, Tryz.ntmps162
  go_wp2_with (first
    | (at_builtin; refine app_buf rfl _ _ rfl h.out hB rfl [c0] 1 1 _ rfl rfl (by omega) rfl (by omega) rfl ?_; intro g1 k1 w1 hb1 hB1; replace hb1 := Lib.hid hb1)
    | (at_builtin; refine app_buf rfl _ _ rfl hb1.out hB1 rfl [101] 1 2 _ rfl rfl (by omega) rfl (by omega) rfl ?_; intro g2 k2 w2 hb2 hB2; replace hb2 := Lib.hid hb2)
    | (at_builtin; refine app_buf rfl _ _ rfl hb2.out hB2 rfl [43] 1 3 _ rfl rfl (by omega) rfl (by omega) rfl ?_; intro g3 k3 w3 hb3 hB3; replace hb3 := Lib.hid hb3)
    | (at_builtin; refine app_buf rfl _ _ rfl hb3.out hB3 rfl [e / 10 + 48, e % 10 + 48] 2 5 _ rfl rfl (by omega) rfl (by omega) rfl ?_; intro g4 k4 w4 hb4 hB4; replace hb4 := Lib.hid hb4))
  go_ret
  exact ⟨_, rfl, hb4.out⟩
theorem c_fBpb (b B m : Nat) (ds : List Nat) (c0 e : Nat) (v0 : Value) (he : 10 ≤ e ∧ e < 100) (hm : 2 ≤ m) (hm2 : m ≤ 32) (hds : ds.length = m - 1) (w : World) (hB : B ≤ w.heap.size) (h : Buf w w B b v0 []) (hc0 : w.cell? ⟨b, 0, none⟩ = some (.int .u8 (c0 : Int)))
    (hc : ∀ (j u : Nat), ds[j]? = some u → w.cell? ⟨b, 1 + j, none⟩ = some (.int .u8 (u : Int))) :
    Calls Tryz.prog 162 #[v0, .bool false, .slice (some ⟨b, 0, none⟩) 32 32, .int .i64 ((e : Int) + 1), .int .i64 (m : Int), .int .i64 ((m : Int) - 1), .int .u8 101, .bool true] w fun r w' => ∃ v', r = .returned v' ∧ Buf w w' B b v' ([c0] ++ [46] ++ ds ++ [101] ++ [43] ++ [e / 10 + 48, e % 10 + 48]) := by
  obtain ⟨f1, f2⟩ := he
  have e1 : ¬ (e : Int) < 10 := by omega
  have e2 : (e : Int) < 100 := by omega
  have e4 : (10 : Int) ≤ (e : Int) := by omega
  have hn2 : ¬ (e : Int) < 0 := by omega
  clear f1 f2
  have hm3 : (2 : Int) ≤ (m : Int) := by omega
  have hm4 : (m : Int) ≤ 32 := by omega
  have hne : ((m : Int) != 0) = true := by simp; omega
  have hmin : (m : Int) - 1 + 1 = (m : Int) := by omega
  have h := Lib.hid h
  replace hds := Lib.hid hds
  replace hc := Lib.hid hc
  clear hm hm2
  go_enter Tryz.func162, Tryz.ntmps162
  go_wp2_with (first
    | (at_builtin; refine app_buf rfl _ _ rfl h.out hB rfl [c0] 1 1 _ rfl rfl (by omega) rfl (by omega) rfl ?_; intro g1 k1 w1 hb1 hB1; replace hb1 := Lib.hid hb1)
    | (at_builtin; refine app_buf rfl _ _ rfl hb1.out hB1 rfl [46] 1 2 _ rfl rfl (by omega) rfl (by omega) rfl ?_; intro g2 k2 w2 hb2 hB2; replace hb2 := Lib.hid hb2)
    | (at_builtin; go_loud (refine app_buf2 rfl _ _ rfl hb2.out hB2 rfl ds (m - 1) (2 + (m - 1)) 1 31 hds.out.symm (by omega) (by have := hds.out; simp; omega) (by omega) rfl hc.out ?_); intro g3 k3 w3 hb3 hB3; replace hb3 := Lib.hid hb3))
  go_loopw [0, 114] (fun u0 u1 wr => u0 = .slice (some ⟨g3, 0, none⟩) (2 + (m - 1)) k3 ∧ u1 = .int .i64 0 ∧ wr = w3) (fun _ _ _ => 0)
  case atStart => exact ⟨rfl, rfl, rfl⟩
  case round =>
    obtain ⟨rfl, rfl, rfl⟩ := hrel
    go_wp2_with (first
      | (at_builtin; refine app_buf rfl _ _ rfl hb3.out hB3 rfl [101] 1 (3 + (m - 1)) _ rfl rfl (by omega) (by have := hds.out; simp; omega) (by omega) rfl ?_; intro g4 k4 w4 hb4 hB4; replace hb4 := Lib.hid hb4)
      | (at_builtin; refine app_buf rfl _ _ rfl hb4.out hB4 rfl [43] 1 (4 + (m - 1)) _ rfl rfl (by omega) (by have := hds.out; simp; omega) (by omega) rfl ?_; intro g5 k5 w5 hb5 hB5; replace hb5 := Lib.hid hb5)
      | (at_builtin; refine app_buf rfl _ _ rfl hb5.out hB5 rfl [e / 10 + 48, e % 10 + 48] 2 (6 + (m - 1)) _ rfl rfl (by omega) (by have := hds.out; simp; omega) (by omega) rfl ?_; intro g6 k6 w6 hb6 hB6; replace hb6 := Lib.hid hb6))
    go_ret
    exact ⟨_, rfl, hb6.out⟩
theorem c_fApc (b B : Nat) (c0 e : Nat) (v0 : Value) (he : 100 ≤ e ∧ e < 1000) (w : World) (hB : B ≤ w.heap.size) (h : Buf w w B b v0 []) (hc0 : w.cell? ⟨b, 0, none⟩ = some (.int .u8 (c0 : Int))) :
    Calls Tryz.prog 162 #[v0, .bool false, .slice (some ⟨b, 0, none⟩) 32 32, .int .i64 ((e : Int) + 1), .int .i64 1, .int .i64 0, .int .u8 101, .bool true] w fun r w' => ∃ v', r = .returned v' ∧ Buf w w' B b v' ([c0] ++ [101] ++ [43] ++ [e / 100 + 48, e / 10 % 10 + 48, e % 10 + 48]) := by
  obtain ⟨f1, f2⟩ := he
  have e1 : ¬ (e : Int) < 10 := by omega
  have e2 : ¬ (e : Int) < 100 := by omega
  have e4 : (100 : Int) ≤ (e : Int) := by omega
  have e5 : (e : Int) < 1000 := by omega
  have hn2 : ¬ (e : Int) < 0 := by omega
  clear f1 f2
  have h := Lib.hid h
  go_enter Tryz.func162, Tryz.ntmps162
  go_wp2_with (first
    | (at_builtin; refine app_buf rfl _ _ rfl h.out hB rfl [c0] 1 1 _ rfl rfl (by omega) rfl (by omega) rfl ?_; intro g1 k1 w1 hb1 hB1; replace hb1 := Lib.hid hb1)
    | (at_builtin; refine app_buf rfl _ _ rfl hb1.out hB1 rfl [101] 1 2 _ rfl rfl (by omega) rfl (by omega) rfl ?_; intro g2 k2 w2 hb2 hB2; replace hb2 := Lib.hid hb2)
    | (at_builtin; refine app_buf rfl _ _ rfl hb2.out hB2 rfl [43] 1 3 _ rfl rfl (by omega) rfl (by omega) rfl ?_; intro g3 k3 w3 hb3 hB3; replace hb3 := Lib.hid hb3)
    | (at_builtin; refine app_buf rfl _ _ rfl hb3.out hB3 rfl [e / 100 + 48, e / 10 % 10 + 48, e % 10 + 48] 3 6 _ rfl rfl (by omega) rfl (by omega) rfl ?_; intro g4 k4 w4 hb4 hB4; replace hb4 := Lib.hid hb4))
  go_ret
  exact ⟨_, rfl, hb4.out⟩
theorem c_fBpc (b B m : Nat) (ds : List Nat) (c0 e : Nat) (v0 : Value) (he : 100 ≤ e ∧ e < 1000) (hm : 2 ≤ m) (hm2 : m ≤ 32) (hds : ds.length = m - 1) (w : World) (hB : B ≤ w.heap.size) (h : Buf w w B b v0 []) (hc0 : w.cell? ⟨b, 0, none⟩ = some (.int .u8 (c0 : Int)))
    (hc : ∀ (j u : Nat), ds[j]? = some u → w.cell? ⟨b, 1 + j, none⟩ = some (.int .u8 (u : Int))) :
    Calls Tryz.prog 162 #[v0, .bool false, .slice (some ⟨b, 0, none⟩) 32 32, .int .i64 ((e : Int) + 1), .int .i64 (m : Int), .int .i64 ((m : Int) - 1), .int .u8 101, .bool true] w fun r w' => ∃ v', r = .returned v' ∧ Buf w w' B b v' ([c0] ++ [46] ++ ds ++ [101] ++ [43] ++ [e / 100 + 48, e / 10 % 10 + 48, e % 10 + 48]) := by
  obtain ⟨f1, f2⟩ := he
  have e1 : ¬ (e : Int) < 10 := by omega
  have e2 : ¬ (e : Int) < 100 := by omega
  have e4 : (100 : Int) ≤ (e : Int) := by omega
  have e5 : (e : Int) < 1000 := by omega
  have hn2 : ¬ (e : Int) < 0 := by omega
  clear f1 f2
  have hm3 : (2 : Int) ≤ (m : Int) := by omega
  have hm4 : (m : Int) ≤ 32 := by omega
  have hne : ((m : Int) != 0) = true := by simp; omega
  have hmin : (m : Int) - 1 + 1 = (m : Int) := by omega
  have h := Lib.hid h
  replace hds := Lib.hid hds
  replace hc := Lib.hid hc
  clear hm hm2
  go_enter Tryz.func162, Tryz.ntmps162
  go_wp2_with (first
    | (at_builtin; refine app_buf rfl _ _ rfl h.out hB rfl [c0] 1 1 _ rfl rfl (by omega) rfl (by omega) rfl ?_; intro g1 k1 w1 hb1 hB1; replace hb1 := Lib.hid hb1)
    | (at_builtin; refine app_buf rfl _ _ rfl hb1.out hB1 rfl [46] 1 2 _ rfl rfl (by omega) rfl (by omega) rfl ?_; intro g2 k2 w2 hb2 hB2; replace hb2 := Lib.hid hb2)
    | (at_builtin; go_loud (refine app_buf2 rfl _ _ rfl hb2.out hB2 rfl ds (m - 1) (2 + (m - 1)) 1 31 hds.out.symm (by omega) (by have := hds.out; simp; omega) (by omega) rfl hc.out ?_); intro g3 k3 w3 hb3 hB3; replace hb3 := Lib.hid hb3))
  go_loopw [0, 114] (fun u0 u1 wr => u0 = .slice (some ⟨g3, 0, none⟩) (2 + (m - 1)) k3 ∧ u1 = .int .i64 0 ∧ wr = w3) (fun _ _ _ => 0)
  case atStart => exact ⟨rfl, rfl, rfl⟩
  case round =>
    obtain ⟨rfl, rfl, rfl⟩ := hrel
    go_wp2_with (first
      | (at_builtin; refine app_buf rfl _ _ rfl hb3.out hB3 rfl [101] 1 (3 + (m - 1)) _ rfl rfl (by omega) (by have := hds.out; simp; omega) (by omega) rfl ?_; intro g4 k4 w4 hb4 hB4; replace hb4 := Lib.hid hb4)
      | (at_builtin; refine app_buf rfl _ _ rfl hb4.out hB4 rfl [43] 1 (4 + (m - 1)) _ rfl rfl (by omega) (by have := hds.out; simp; omega) (by omega) rfl ?_; intro g5 k5 w5 hb5 hB5; replace hb5 := Lib.hid hb5)
      | (at_builtin; refine app_buf rfl _ _ rfl hb5.out hB5 rfl [e / 100 + 48, e / 10 % 10 + 48, e % 10 + 48] 3 (7 + (m - 1)) _ rfl rfl (by omega) (by have := hds.out; simp; omega) (by omega) rfl ?_; intro g6 k6 w6 hb6 hB6; replace hb6 := Lib.hid hb6))
    go_ret
    exact ⟨_, rfl, hb6.out⟩
theorem c_fAna (b B : Nat) (c0 e : Nat) (v0 : Value) (he : e < 10) (hn : 1 ≤ e) (w : World) (hB : B ≤ w.heap.size) (h : Buf w w B b v0 []) (hc0 : w.cell? ⟨b, 0, none⟩ = some (.int .u8 (c0 : Int))) :
    Calls Tryz.prog 162 #[v0, .bool false, .slice (some ⟨b, 0, none⟩) 32 32, .int .i64 (-(e : Int) + 1), .int .i64 1, .int .i64 0, .int .u8 101, .bool true] w fun r w' => ∃ v', r = .returned v' ∧ Buf w w' B b v' ([c0] ++ [101] ++ [45] ++ [48, e + 48]) := by
  have e1 : (e : Int) < 10 := by omega
  have hn1 : (1 : Int) ≤ (e : Int) := by omega
  have hn2 : -(e : Int) < 0 := by omega
  clear hn
  clear he
  have h := Lib.hid h
  go_enter Tryz.func162, Tryz.ntmps162
  go_wp2_with (first
    | (at_builtin; refine app_buf rfl _ _ rfl h.out hB rfl [c0] 1 1 _ rfl rfl (by omega) rfl (by omega) rfl ?_; intro g1 k1 w1 hb1 hB1; replace hb1 := Lib.hid hb1)
    | (at_builtin; refine app_buf rfl _ _ rfl hb1.out hB1 rfl [101] 1 2 _ rfl rfl (by omega) rfl (by omega) rfl ?_; intro g2 k2 w2 hb2 hB2; replace hb2 := Lib.hid hb2)
    | (at_builtin; refine app_buf rfl _ _ rfl hb2.out hB2 rfl [45] 1 3 _ rfl rfl (by omega) rfl (by omega) rfl ?_; intro g3 k3 w3 hb3 hB3; replace hb3 := Lib.hid hb3)
    | (at_builtin; refine app_buf rfl _ _ rfl hb3.out hB3 rfl [48, e + 48] 2 5 _ rfl rfl (by omega) rfl (by omega) rfl ?_; intro g4 k4 w4 hb4 hB4; replace hb4 := Lib.hid hb4))
  go_ret
  exact ⟨_, rfl, hb4.out⟩
theorem c_fBna (b B m : Nat) (ds : List Nat) (c0 e : Nat) (v0 : Value) (he : e < 10) (hn : 1 ≤ e) (hm : 2 ≤ m) (hm2 : m ≤ 32) (hds : ds.length = m - 1) (w : World) (hB : B ≤ w.heap.size) (h : Buf w w B b v0 []) (hc0 : w.cell? ⟨b, 0, none⟩ = some (.int .u8 (c0 : Int)))
    (hc : ∀ (j u : Nat), ds[j]? = some u → w.cell? ⟨b, 1 + j, none⟩ = some (.int .u8 (u : Int))) :
    Calls Tryz.prog 162 #[v0, .bool false, .slice (some ⟨b, 0, none⟩) 32 32, .int .i64 (-(e : Int) + 1), .int .i64 (m : Int), .int .i64 ((m : Int) - 1), .int .u8 101, .bool true] w fun r w' => ∃ v', r = .returned v' ∧ Buf w w' B b v' ([c0] ++ [46] ++ ds ++ [101] ++ [45] ++ [48, e + 48]) := by
  have e1 : (e : Int) < 10 := by omega
  have hn1 : (1 : Int) ≤ (e : Int) := by omega
  have hn2 : -(e : Int) < 0 := by omega
  clear hn
  clear he
  have hm3 : (2 : Int) ≤ (m : Int) := by omega
  have hm4 : (m : Int) ≤ 32 := by omega
  have hne : ((m : Int) != 0) = true := by simp; omega
  have hmin : (m : Int) - 1 + 1 = (m : Int) := by omega
  have h := Lib.hid h
  replace hds := Lib.hid hds
  replace hc := Lib.hid hc
  clear hm hm2
  go_enter Tryz.func162, Tryz.ntmps162
  go_wp2_with (first
    | (at_builtin; refine app_buf rfl _ _ rfl h.out hB rfl [c0] 1 1 _ rfl rfl (by omega) rfl (by omega) rfl ?_; intro g1 k1 w1 hb1 hB1; replace hb1 := Lib.hid hb1)
    | (at_builtin; refine app_buf rfl _ _ rfl hb1.out hB1 rfl [46] 1 2 _ rfl rfl (by omega) rfl (by omega) rfl ?_; intro g2 k2 w2 hb2 hB2; replace hb2 := Lib.hid hb2)
    | (at_builtin; go_loud (refine app_buf2 rfl _ _ rfl hb2.out hB2 rfl ds (m - 1) (2 + (m - 1)) 1 31 hds.out.symm (by omega) (by have := hds.out; simp; omega) (by omega) rfl hc.out ?_); intro g3 k3 w3 hb3 hB3; replace hb3 := Lib.hid hb3))
  go_loopw [0, 114] (fun u0 u1 wr => u0 = .slice (some ⟨g3, 0, none⟩) (2 + (m - 1)) k3 ∧ u1 = .int .i64 0 ∧ wr = w3) (fun _ _ _ => 0)
  case atStart => exact ⟨rfl, rfl, rfl⟩
  case round =>
    obtain ⟨rfl, rfl, rfl⟩ := hrel
    go_wp2_with (first
      | (at_builtin; refine app_buf rfl _ _ rfl hb3.out hB3 rfl [101] 1 (3 + (m - 1)) _ rfl rfl (by omega) (by have := hds.out; simp; omega) (by omega) rfl ?_; intro g4 k4 w4 hb4 hB4; replace hb4 := Lib.hid hb4)
      | (at_builtin; refine app_buf rfl _ _ rfl hb4.out hB4 rfl [45] 1 (4 + (m - 1)) _ rfl rfl (by omega) (by have := hds.out; simp; omega) (by omega) rfl ?_; intro g5 k5 w5 hb5 hB5; replace hb5 := Lib.hid hb5)
      | (at_builtin; refine app_buf rfl _ _ rfl hb5.out hB5 rfl [48, e + 48] 2 (6 + (m - 1)) _ rfl rfl (by omega) (by have := hds.out; simp; omega) (by omega) rfl ?_; intro g6 k6 w6 hb6 hB6; replace hb6 := Lib.hid hb6))
    go_ret
    exact ⟨_, rfl, hb6.out⟩
theorem c_fAnb (b B : Nat) (c0 e : Nat) (v0 : Value) (he : 10 ≤ e ∧ e < 100) (hn : 1 ≤ e) (w : World) (hB : B ≤ w.heap.size) (h : Buf w w B b v0 []) (hc0 : w.cell? ⟨b, 0, none⟩ = some (.int .u8 (c0 : Int))) :
    Calls Tryz.prog 162 #[v0, .bool false, .slice (some ⟨b, 0, none⟩) 32 32, .int .i64 (-(e : Int) + 1), .int .i64 1, .int .i64 0, .int .u8 101, .bool true] w fun r w' => ∃ v', r = .returned v' ∧ Buf w w' B b v' ([c0] ++ [101] ++ [45] ++ [e / 10 + 48, e % 10 + 48]) := by
  obtain ⟨f1, f2⟩ := he
  have e1 : ¬ (e : Int) < 10 := by omega
  have e2 : (e : Int) < 100 := by omega
  have e4 : (10 : Int) ≤ (e : Int) := by omega
  have hn1 : (1 : Int) ≤ (e : Int) := by omega
  have hn2 : -(e : Int) < 0 := by omega
  clear hn
  clear f1 f2
  have h := Lib.hid h
  go_enter Tryz.func162, Tryz.ntmps162
  go_wp2_with (first
    | (at_builtin; refine app_buf rfl _ _ rfl h.out hB rfl [c0] 1 1 _ rfl rfl (by omega) rfl (by omega) rfl ?_; intro g1 k1 w1 hb1 hB1; replace hb1 := Lib.hid hb1)
    | (at_builtin; refine app_buf rfl _ _ rfl hb1.out hB1 rfl [101] 1 2 _ rfl rfl (by omega) rfl (by omega) rfl ?_; intro g2 k2 w2 hb2 hB2; replace hb2 := Lib.hid hb2)
    | (at_builtin; refine app_buf rfl _ _ rfl hb2.out hB2 rfl [45] 1 3 _ rfl rfl (by omega) rfl (by omega) rfl ?_; intro g3 k3 w3 hb3 hB3; replace hb3 := Lib.hid hb3)
    | (at_builtin; refine app_buf rfl _ _ rfl hb3.out hB3 rfl [e / 10 + 48, e % 10 + 48] 2 5 _ rfl rfl (by omega) rfl (by omega) rfl ?_; intro g4 k4 w4 hb4 hB4; replace hb4 := Lib.hid hb4))
  go_ret
  exact ⟨_, rfl, hb4.out⟩
theorem c_fBnb (b B m : Nat) (ds : List Nat) (c0 e : Nat) (v0 : Value) (he : 10 ≤ e ∧ e < 100) (hn : 1 ≤ e) (hm : 2 ≤ m) (hm2 : m ≤ 32) (hds : ds.length = m - 1) (w : World) (hB : B ≤ w.heap.size) (h : Buf w w B b v0 []) (hc0 : w.cell? ⟨b, 0, none⟩ = some (.int .u8 (c0 : Int)))
    (hc : ∀ (j u : Nat), ds[j]? = some u → w.cell? ⟨b, 1 + j, none⟩ = some (.int .u8 (u : Int))) :
    Calls Tryz.prog 162 #[v0, .bool false, .slice (some ⟨b, 0, none⟩) 32 32, .int .i64 (-(e : Int) + 1), .int .i64 (m : Int), .int .i64 ((m : Int) - 1), .int .u8 101, .bool true] w fun r w' => ∃ v', r = .returned v' ∧ Buf w w' B b v' ([c0] ++ [46] ++ ds ++ [101] ++ [45] ++ [e / 10 + 48, e % 10 + 48]) := by
  obtain ⟨f1, f2⟩ := he
  have e1 : ¬ (e : Int) < 10 := by omega
  have e2 : (e : Int) < 100 := by omega
  have e4 : (10 : Int) ≤ (e : Int) := by omega
  have hn1 : (1 : Int) ≤ (e : Int) := by omega
  have hn2 : -(e : Int) < 0 := by omega
  clear hn
  clear f1 f2
  have hm3 : (2 : Int) ≤ (m : Int) := by omega
  have hm4 : (m : Int) ≤ 32 := by omega
  have hne : ((m : Int) != 0) = true := by simp; omega
  have hmin : (m : Int) - 1 + 1 = (m : Int) := by omega
  have h := Lib.hid h
  replace hds := Lib.hid hds
  replace hc := Lib.hid hc
  clear hm hm2
  go_enter Tryz.func162, Tryz.ntmps162
  go_wp2_with (first
    | (at_builtin; refine app_buf rfl _ _ rfl h.out hB rfl [c0] 1 1 _ rfl rfl (by omega) rfl (by omega) rfl ?_; intro g1 k1 w1 hb1 hB1; replace hb1 := Lib.hid hb1)
    | (at_builtin; refine app_buf rfl _ _ rfl hb1.out hB1 rfl [46] 1 2 _ rfl rfl (by omega) rfl (by omega) rfl ?_; intro g2 k2 w2 hb2 hB2; replace hb2 := Lib.hid hb2)
    | (at_builtin; go_loud (refine app_buf2 rfl _ _ rfl hb2.out hB2 rfl ds (m - 1) (2 + (m - 1)) 1 31 hds.out.symm (by omega) (by have := hds.out; simp; omega) (by omega) rfl hc.out ?_); intro g3 k3 w3 hb3 hB3; replace hb3 := Lib.hid hb3))
  go_loopw [0, 114] (fun u0 u1 wr => u0 = .slice (some ⟨g3, 0, none⟩) (2 + (m - 1)) k3 ∧ u1 = .int .i64 0 ∧ wr = w3) (fun _ _ _ => 0)
  case atStart => exact ⟨rfl, rfl, rfl⟩
  case round =>
    obtain ⟨rfl, rfl, rfl⟩ := hrel
    go_wp2_with (first
      | (at_builtin; refine app_buf rfl _ _ rfl hb3.out hB3 rfl [101] 1 (3 + (m - 1)) _ rfl rfl (by omega) (by have := hds.out; simp; omega) (by omega) rfl ?_; intro g4 k4 w4 hb4 hB4; replace hb4 := Lib.hid hb4)
      | (at_builtin; refine app_buf rfl _ _ rfl hb4.out hB4 rfl [45] 1 (4 + (m - 1)) _ rfl rfl (by omega) (by have := hds.out; simp; omega) (by omega) rfl ?_; intro g5 k5 w5 hb5 hB5; replace hb5 := Lib.hid hb5)
      | (at_builtin; refine app_buf rfl _ _ rfl hb5.out hB5 rfl [e / 10 + 48, e % 10 + 48] 2 (6 + (m - 1)) _ rfl rfl (by omega) (by have := hds.out; simp; omega) (by omega) rfl ?_; intro g6 k6 w6 hb6 hB6; replace hb6 := Lib.hid hb6))
    go_ret
    exact ⟨_, rfl, hb6.out⟩
theorem c_fAnc (b B : Nat) (c0 e : Nat) (v0 : Value) (he : 100 ≤ e ∧ e < 1000) (hn : 1 ≤ e) (w : World) (hB : B ≤ w.heap.size) (h : Buf w w B b v0 []) (hc0 : w.cell? ⟨b, 0, none⟩ = some (.int .u8 (c0 : Int))) :
    Calls Tryz.prog 162 #[v0, .bool false, .slice (some ⟨b, 0, none⟩) 32 32, .int .i64 (-(e : Int) + 1), .int .i64 1, .int .i64 0, .int .u8 101, .bool true] w fun r w' => ∃ v', r = .returned v' ∧ Buf w w' B b v' ([c0] ++ [101] ++ [45] ++ [e / 100 + 48, e / 10 % 10 + 48, e % 10 + 48]) := by
  obtain ⟨f1, f2⟩ := he
  have e1 : ¬ (e : Int) < 10 := by omega
  have e2 : ¬ (e : Int) < 100 := by omega
  have e4 : (100 : Int) ≤ (e : Int) := by omega
  have e5 : (e : Int) < 1000 := by omega
  have hn1 : (1 : Int) ≤ (e : Int) := by omega
  have hn2 : -(e : Int) < 0 := by omega
  clear hn
  clear f1 f2
  have h := Lib.hid h
  go_enter Tryz.func162, Tryz.ntmps162
  go_wp2_with (first
    | (at_builtin; refine app_buf rfl _ _ rfl h.out hB rfl [c0] 1 1 _ rfl rfl (by omega) rfl (by omega) rfl ?_; intro g1 k1 w1 hb1 hB1; replace hb1 := Lib.hid hb1)
    | (at_builtin; refine app_buf rfl _ _ rfl hb1.out hB1 rfl [101] 1 2 _ rfl rfl (by omega) rfl (by omega) rfl ?_; intro g2 k2 w2 hb2 hB2; replace hb2 := Lib.hid hb2)
    | (at_builtin; refine app_buf rfl _ _ rfl hb2.out hB2 rfl [45] 1 3 _ rfl rfl (by omega) rfl (by omega) rfl ?_; intro g3 k3 w3 hb3 hB3; replace hb3 := Lib.hid hb3)
    | (at_builtin; refine app_buf rfl _ _ rfl hb3.out hB3 rfl [e / 100 + 48, e / 10 % 10 + 48, e % 10 + 48] 3 6 _ rfl rfl (by omega) rfl (by omega) rfl ?_; intro g4 k4 w4 hb4 hB4; replace hb4 := Lib.hid hb4))
  go_ret
  exact ⟨_, rfl, hb4.out⟩
theorem c_fBnc (b B m : Nat) (ds : List Nat) (c0 e : Nat) (v0 : Value) (he : 100 ≤ e ∧ e < 1000) (hn : 1 ≤ e) (hm : 2 ≤ m) (hm2 : m ≤ 32) (hds : ds.length = m - 1) (w : World) (hB : B ≤ w.heap.size) (h : Buf w w B b v0 []) (hc0 : w.cell? ⟨b, 0, none⟩ = some (.int .u8 (c0 : Int)))
    (hc : ∀ (j u : Nat), ds[j]? = some u → w.cell? ⟨b, 1 + j, none⟩ = some (.int .u8 (u : Int))) :
    Calls Tryz.prog 162 #[v0, .bool false, .slice (some ⟨b, 0, none⟩) 32 32, .int .i64 (-(e : Int) + 1), .int .i64 (m : Int), .int .i64 ((m : Int) - 1), .int .u8 101, .bool true] w fun r w' => ∃ v', r = .returned v' ∧ Buf w w' B b v' ([c0] ++ [46] ++ ds ++ [101] ++ [45] ++ [e / 100 + 48, e / 10 % 10 + 48, e % 10 + 48]) := by
  obtain ⟨f1, f2⟩ := he
  have e1 : ¬ (e : Int) < 10 := by omega
  have e2 : ¬ (e : Int) < 100 := by omega
  have e4 : (100 : Int) ≤ (e : Int) := by omega
  have e5 : (e : Int) < 1000 := by omega
  have hn1 : (1 : Int) ≤ (e : Int) := by omega
  have hn2 : -(e : Int) < 0 := by omega
  clear hn
  clear f1 f2
  have hm3 : (2 : Int) ≤ (m : Int) := by omega
  have hm4 : (m : Int) ≤ 32 := by omega
  have hne : ((m : Int) != 0) = true := by simp; omega
  have hmin : (m : Int) - 1 + 1 = (m : Int) := by omega
  have h := Lib.hid h
  replace hds := Lib.hid hds
  replace hc := Lib.hid hc
  clear hm hm2
  go_enter Tryz.func162, Tryz.ntmps162
  go_wp2_with (first
    | (at_builtin; refine app_buf rfl _ _ rfl h.out hB rfl [c0] 1 1 _ rfl rfl (by omega) rfl (by omega) rfl ?_; intro g1 k1 w1 hb1 hB1; replace hb1 := Lib.hid hb1)
    | (at_builtin; refine app_buf rfl _ _ rfl hb1.out hB1 rfl [46] 1 2 _ rfl rfl (by omega) rfl (by omega) rfl ?_; intro g2 k2 w2 hb2 hB2; replace hb2 := Lib.hid hb2)
    | (at_builtin; go_loud (refine app_buf2 rfl _ _ rfl hb2.out hB2 rfl ds (m - 1) (2 + (m - 1)) 1 31 hds.out.symm (by omega) (by have := hds.out; simp; omega) (by omega) rfl hc.out ?_); intro g3 k3 w3 hb3 hB3; replace hb3 := Lib.hid hb3))
  go_loopw [0, 114] (fun u0 u1 wr => u0 = .slice (some ⟨g3, 0, none⟩) (2 + (m - 1)) k3 ∧ u1 = .int .i64 0 ∧ wr = w3) (fun _ _ _ => 0)
  case atStart => exact ⟨rfl, rfl, rfl⟩
  case round =>
    obtain ⟨rfl, rfl, rfl⟩ := hrel
    go_wp2_with (first
      | (at_builtin; refine app_buf rfl _ _ rfl hb3.out hB3 rfl [101] 1 (3 + (m - 1)) _ rfl rfl (by omega) (by have := hds.out; simp; omega) (by omega) rfl ?_; intro g4 k4 w4 hb4 hB4; replace hb4 := Lib.hid hb4)
      | (at_builtin; refine app_buf rfl _ _ rfl hb4.out hB4 rfl [45] 1 (4 + (m - 1)) _ rfl rfl (by omega) (by have := hds.out; simp; omega) (by omega) rfl ?_; intro g5 k5 w5 hb5 hB5; replace hb5 := Lib.hid hb5)
      | (at_builtin; refine app_buf rfl _ _ rfl hb5.out hB5 rfl [e / 100 + 48, e / 10 % 10 + 48, e % 10 + 48] 3 (7 + (m - 1)) _ rfl rfl (by omega) (by have := hds.out; simp; omega) (by omega) rfl ?_; intro g6 k6 w6 hb6 hB6; replace hb6 := Lib.hid hb6))
    go_ret
    exact ⟨_, rfl, hb6.out⟩
/-- fmtEFG at the digits of v -/
theorem c_fmtG (b B m v : Nat) (E : Int) (v0 : Value) (he : -1000 < E) (he2 : E < 1000) (hm : 1 ≤ m) (hm2 : m ≤ 32) (w : World) (hB : B ≤ w.heap.size) (h : Buf w w B b v0 []) (hc : ∀ (j u : Nat), (dg m v)[j]? = some u → w.cell? ⟨b, j, none⟩ = some (.int .u8 (u : Int))) :
    Calls Tryz.prog 162 #[v0, .bool false, .slice (some ⟨b, 0, none⟩) 32 32, .int .i64 (E + 1), .int .i64 (m : Int), .int .i64 ((m : Int) - 1), .int .u8 101, .bool true] w fun r w' => ∃ v', r = .returned v' ∧ Buf w w' B b v' (sciG m v E) := by
  have h0 := dg_get m v 0 (by omega)
  have hl := dg_len m v
  unfold sciG
  generalize dg m v = D at *
  generalize 48 + v / 10 ^ (m - 1 - 0) % 10 = c0 at *
  obtain ⟨rest, rfl⟩ : ∃ r, D = c0 :: r := by
    cases D with
    | nil => simp at h0
    | cons x r => simp at h0; exact ⟨r, by rw [h0]⟩
  have hc1 : 1 < m → ∀ (j u : Nat), rest[j]? = some u → w.cell? ⟨b, 1 + j, none⟩ = some (.int .u8 (u : Int)) := fun _ j u hj => by
    have := hc (j + 1) u (by simpa using hj)
    rw [Nat.add_comm 1 j]; exact this
  by_cases h1 : m = 1
  · subst h1
    have : rest = [] := by
      cases rest with
      | nil => rfl
      | cons x r => simp at hl
    subst this
    rw [if_pos rfl]
    by_cases hE : 0 ≤ E
    · obtain ⟨e, rfl⟩ : ∃ e : Nat, E = (e : Int) := ⟨E.toNat, by omega⟩
      rw [exS_pos, natAbs_cast]
      unfold exD
      split
      · exact c_fApa b B c0 e v0 (by omega) w hB h (hc 0 c0 rfl)
      · split
        · exact c_fApb b B c0 e v0 (by omega) w hB h (hc 0 c0 rfl)
        · exact c_fApc b B c0 e v0 (by omega) w hB h (hc 0 c0 rfl)
    · obtain ⟨e, he1, rfl⟩ : ∃ e : Nat, 1 ≤ e ∧ E = -(e : Int) := ⟨E.natAbs, by omega, by omega⟩
      rw [exS_neg _ he1, natAbs_neg]
      unfold exD
      split
      · exact c_fAna b B c0 e v0 (by omega) he1 w hB h (hc 0 c0 rfl)
      · split
        · exact c_fAnb b B c0 e v0 (by omega) he1 w hB h (hc 0 c0 rfl)
        · exact c_fAnc b B c0 e v0 (by omega) he1 w hB h (hc 0 c0 rfl)
  · rw [if_neg h1]
    have hl2 : rest.length = m - 1 := by simp at hl; omega
    replace hc1 := hc1 (by omega)
    by_cases hE : 0 ≤ E
    · obtain ⟨e, rfl⟩ : ∃ e : Nat, E = (e : Int) := ⟨E.toNat, by omega⟩
      rw [exS_pos, natAbs_cast]
      unfold exD
      split
      · exact c_fBpa b B m rest c0 e v0 (by omega) (by omega) hm2 hl2 w hB h (hc 0 c0 rfl) hc1
      · split
        · exact c_fBpb b B m rest c0 e v0 (by omega) (by omega) hm2 hl2 w hB h (hc 0 c0 rfl) hc1
        · exact c_fBpc b B m rest c0 e v0 (by omega) (by omega) hm2 hl2 w hB h (hc 0 c0 rfl) hc1
    · obtain ⟨e, he1, rfl⟩ : ∃ e : Nat, 1 ≤ e ∧ E = -(e : Int) := ⟨E.natAbs, by omega, by omega⟩
      rw [exS_neg _ he1, natAbs_neg]
      unfold exD
      split
      · exact c_fBna b B m rest c0 e v0 (by omega) he1 (by omega) hm2 hl2 w hB h (hc 0 c0 rfl) hc1
      · split
        · exact c_fBnb b B m rest c0 e v0 (by omega) he1 (by omega) hm2 hl2 w hB h (hc 0 c0 rfl) hc1
        · exact c_fBnc b B m rest c0 e v0 (by omega) he1 (by omega) hm2 hl2 w hB h (hc 0 c0 rfl) hc1
end Go.Proofs.YtbakbikilbaafaaGreatDoor

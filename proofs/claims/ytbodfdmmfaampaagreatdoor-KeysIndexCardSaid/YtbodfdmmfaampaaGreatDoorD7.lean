/-
  The contract of formatBase10.
-/
import Derived.Test.YtbodfdmmfaampaaGreatDoorD6
import Derived.BigRegion
import Derived.RegionTactic
import Derived.Deep.RegionHeld3
import Derived.Deep.Cut
import Derived.Deep.CutRange
import Derived.Deep.DeepCutAuto
namespace Go.Proofs.YtbodfdmmfaampaaGreatDoor
open Go.RowKit
set_option maxHeartbeats 1000000
set_option maxRecDepth 100000

def smalls : ByteArray := ⟨#[48, 48, 48, 49, 48, 50, 48, 51, 48, 52, 48, 53, 48, 54, 48, 55, 48, 56, 48, 57, 49, 48, 49, 49, 49, 50, 49, 51, 49, 52, 49, 53, 49, 54, 49, 55, 49, 56, 49, 57, 50, 48, 50, 49, 50, 50, 50, 51, 50, 52, 50, 53, 50, 54, 50, 55, 50, 56, 50, 57, 51, 48, 51, 49, 51, 50, 51, 51, 51, 52, 51, 53, 51, 54, 51, 55, 51, 56, 51, 57, 52, 48, 52, 49, 52, 50, 52, 51, 52, 52, 52, 53, 52, 54, 52, 55, 52, 56, 52, 57, 53, 48, 53, 49, 53, 50, 53, 51, 53, 52, 53, 53, 53, 54, 53, 55, 53, 56, 53, 57, 54, 48, 54, 49, 54, 50, 54, 51, 54, 52, 54, 53, 54, 54, 54, 55, 54, 56, 54, 57, 55, 48, 55, 49, 55, 50, 55, 51, 55, 52, 55, 53, 55, 54, 55, 55, 55, 56, 55, 57, 56, 48, 56, 49, 56, 50, 56, 51, 56, 52, 56, 53, 56, 54, 56, 55, 56, 56, 56, 57, 57, 48, 57, 49, 57, 50, 57, 51, 57, 52, 57, 53, 57, 54, 57, 55, 57, 56, 57, 57]⟩
theorem smalls_hi (y : Nat) (h : y < 100) (h2 : y * 2 < (⟨#[48, 48, 48, 49, 48, 50, 48, 51, 48, 52, 48, 53, 48, 54, 48, 55, 48, 56, 48, 57, 49, 48, 49, 49, 49, 50, 49, 51, 49, 52, 49, 53, 49, 54, 49, 55, 49, 56, 49, 57, 50, 48, 50, 49, 50, 50, 50, 51, 50, 52, 50, 53, 50, 54, 50, 55, 50, 56, 50, 57, 51, 48, 51, 49, 51, 50, 51, 51, 51, 52, 51, 53, 51, 54, 51, 55, 51, 56, 51, 57, 52, 48, 52, 49, 52, 50, 52, 51, 52, 52, 52, 53, 52, 54, 52, 55, 52, 56, 52, 57, 53, 48, 53, 49, 53, 50, 53, 51, 53, 52, 53, 53, 53, 54, 53, 55, 53, 56, 53, 57, 54, 48, 54, 49, 54, 50, 54, 51, 54, 52, 54, 53, 54, 54, 54, 55, 54, 56, 54, 57, 55, 48, 55, 49, 55, 50, 55, 51, 55, 52, 55, 53, 55, 54, 55, 55, 55, 56, 55, 57, 56, 48, 56, 49, 56, 50, 56, 51, 56, 52, 56, 53, 56, 54, 56, 55, 56, 56, 56, 57, 57, 48, 57, 49, 57, 50, 57, 51, 57, 52, 57, 53, 57, 54, 57, 55, 57, 56, 57, 57]⟩ : ByteArray).size) : ((⟨#[48, 48, 48, 49, 48, 50, 48, 51, 48, 52, 48, 53, 48, 54, 48, 55, 48, 56, 48, 57, 49, 48, 49, 49, 49, 50, 49, 51, 49, 52, 49, 53, 49, 54, 49, 55, 49, 56, 49, 57, 50, 48, 50, 49, 50, 50, 50, 51, 50, 52, 50, 53, 50, 54, 50, 55, 50, 56, 50, 57, 51, 48, 51, 49, 51, 50, 51, 51, 51, 52, 51, 53, 51, 54, 51, 55, 51, 56, 51, 57, 52, 48, 52, 49, 52, 50, 52, 51, 52, 52, 52, 53, 52, 54, 52, 55, 52, 56, 52, 57, 53, 48, 53, 49, 53, 50, 53, 51, 53, 52, 53, 53, 53, 54, 53, 55, 53, 56, 53, 57, 54, 48, 54, 49, 54, 50, 54, 51, 54, 52, 54, 53, 54, 54, 54, 55, 54, 56, 54, 57, 55, 48, 55, 49, 55, 50, 55, 51, 55, 52, 55, 53, 55, 54, 55, 55, 55, 56, 55, 57, 56, 48, 56, 49, 56, 50, 56, 51, 56, 52, 56, 53, 56, 54, 56, 55, 56, 56, 56, 57, 57, 48, 57, 49, 57, 50, 57, 51, 57, 52, 57, 53, 57, 54, 57, 55, 57, 56, 57, 57]⟩ : ByteArray)[y * 2]'h2).toNat = 48 + y / 10 := by
  have all : ∀ j : Fin 100, ∃ h, (smalls[j.val * 2]'h).toNat = 48 + j.val / 10 := by decide +kernel
  exact (all ⟨y, h⟩).choose_spec
theorem smalls_lo (y : Nat) (h : y < 100) (h2 : y * 2 + 1 < (⟨#[48, 48, 48, 49, 48, 50, 48, 51, 48, 52, 48, 53, 48, 54, 48, 55, 48, 56, 48, 57, 49, 48, 49, 49, 49, 50, 49, 51, 49, 52, 49, 53, 49, 54, 49, 55, 49, 56, 49, 57, 50, 48, 50, 49, 50, 50, 50, 51, 50, 52, 50, 53, 50, 54, 50, 55, 50, 56, 50, 57, 51, 48, 51, 49, 51, 50, 51, 51, 51, 52, 51, 53, 51, 54, 51, 55, 51, 56, 51, 57, 52, 48, 52, 49, 52, 50, 52, 51, 52, 52, 52, 53, 52, 54, 52, 55, 52, 56, 52, 57, 53, 48, 53, 49, 53, 50, 53, 51, 53, 52, 53, 53, 53, 54, 53, 55, 53, 56, 53, 57, 54, 48, 54, 49, 54, 50, 54, 51, 54, 52, 54, 53, 54, 54, 54, 55, 54, 56, 54, 57, 55, 48, 55, 49, 55, 50, 55, 51, 55, 52, 55, 53, 55, 54, 55, 55, 55, 56, 55, 57, 56, 48, 56, 49, 56, 50, 56, 51, 56, 52, 56, 53, 56, 54, 56, 55, 56, 56, 56, 57, 57, 48, 57, 49, 57, 50, 57, 51, 57, 52, 57, 53, 57, 54, 57, 55, 57, 56, 57, 57]⟩ : ByteArray).size) : ((⟨#[48, 48, 48, 49, 48, 50, 48, 51, 48, 52, 48, 53, 48, 54, 48, 55, 48, 56, 48, 57, 49, 48, 49, 49, 49, 50, 49, 51, 49, 52, 49, 53, 49, 54, 49, 55, 49, 56, 49, 57, 50, 48, 50, 49, 50, 50, 50, 51, 50, 52, 50, 53, 50, 54, 50, 55, 50, 56, 50, 57, 51, 48, 51, 49, 51, 50, 51, 51, 51, 52, 51, 53, 51, 54, 51, 55, 51, 56, 51, 57, 52, 48, 52, 49, 52, 50, 52, 51, 52, 52, 52, 53, 52, 54, 52, 55, 52, 56, 52, 57, 53, 48, 53, 49, 53, 50, 53, 51, 53, 52, 53, 53, 53, 54, 53, 55, 53, 56, 53, 57, 54, 48, 54, 49, 54, 50, 54, 51, 54, 52, 54, 53, 54, 54, 54, 55, 54, 56, 54, 57, 55, 48, 55, 49, 55, 50, 55, 51, 55, 52, 55, 53, 55, 54, 55, 55, 55, 56, 55, 57, 56, 48, 56, 49, 56, 50, 56, 51, 56, 52, 56, 53, 56, 54, 56, 55, 56, 56, 56, 57, 57, 48, 57, 49, 57, 50, 57, 51, 57, 52, 57, 53, 57, 54, 57, 55, 57, 56, 57, 57]⟩ : ByteArray)[y * 2 + 1]'h2).toNat = 48 + y % 10 := by
  have all : ∀ j : Fin 100, ∃ h, (smalls[j.val * 2 + 1]'h).toNat = 48 + j.val % 10 := by decide +kernel
  exact (all ⟨y, h⟩).choose_spec
/-- of n digits of u those from place m on are written in block b; v is what is left -/
def FB (w0 : World) (b n u : Nat) (m v : Nat) (w : World) : Prop :=
  m ≤ n ∧ v = u / 10 ^ (n - m) ∧ Below b w0 w ∧ (∀ j, j < n → (∃ x, w.cell? ⟨b, j, none⟩ = some x) ∧ w.frozen? ⟨b, j, none⟩ = false) ∧
  ∀ j, m ≤ j → j < n → w.cell? ⟨b, j, none⟩ = some (.int .u8 ((48 + u / 10 ^ (n - 1 - j) % 10 : Nat) : Int))
theorem FB.put {w0 w : World} {b n u m v : Nat} (h : FB w0 b n u m v w) (hm : 1 ≤ m) {x : Nat} (hx : x = 48 + v % 10) :
    FB w0 b n u (m - 1) (v / 10) (w.setCell ⟨b, m - 1, none⟩ (.int .u8 (x : Int))) := by
  obtain ⟨h1, h2, h3, h4, h5⟩ := h
  obtain ⟨⟨y, hy⟩, _⟩ := h4 (m - 1) (by omega)
  refine ⟨by omega, ?_, h3.setCell (Nat.le_refl _) _, fun j hj => ⟨?_, ?_⟩, fun j hj hjn => ?_⟩
  · rw [h2, Nat.div_div_eq_div_mul, ← Nat.pow_succ]
    have : (n - m).succ = n - (m - 1) := by omega
    rw [this]
  · by_cases e : j = m - 1
    · subst e; exact ⟨_, set_same hy⟩
    · obtain ⟨⟨z, hz⟩, _⟩ := h4 j hj
      exact ⟨z, (set_other (fun h => e h.symm)).trans hz⟩
  · rw [World.frozen?_setCell]; exact (h4 j hj).2
  · by_cases e : j = m - 1
    · subst e
      rw [set_same hy, hx, h2]
      have : n - 1 - (m - 1) = n - m := by omega
      rw [this]
    · rw [set_other (fun h => e h.symm)]
      exact h5 j (by omega) hjn
theorem FB.draw {w0 w : World} {b n u m v : Nat} (h : FB w0 b n u m v w) : FB w0 b n u m v w.drew := ⟨h.1, h.2.1, h.2.2.1.drew, h.2.2.2.1, h.2.2.2.2⟩
theorem c_fmt10 (n u b c : Nat) (hn : n ≤ 32) (hu : u < 10 ^ n) (hu2 : u < 18446744073709551616) (w0 w : World) (h : FB w0 b n u n u w) :
    Calls Tryz.prog 89 #[.slice (some ⟨b, 0, none⟩) n c, .int .u64 (u : Int)] w fun e w' => e = .returned (.tuple #[]) ∧ FB w0 b n u 0 0 w' := by
  go_enter Tryz.func89, Tryz.ntmps89
  go_wp2_with fail
  go_loopw [4, 1, 5, 6, 7, 8, 9, 10, 11] (fun vn vu _ _ _ _ _ _ _ wr => ∃ m v : Nat, vn = .int .i64 (m : Int) ∧ vu = .int .u64 (v : Int) ∧ FB w0 b n u m v wr) (fun vn _ _ _ _ _ _ _ _ _ => (intOf vn).toNat)
  case atStart => exact ⟨n, u, rfl, rfl, h⟩
  case round =>
    obtain ⟨m, v, rfl, rfl, hfb⟩ := hrel
    have hv2 : v < 18446744073709551616 := by
      have := hfb.2.1
      exact Nat.lt_of_le_of_lt (by rw [this]; exact Nat.div_le_self _ _) hu2
    have hvm : v < 10 ^ m := by
      rw [hfb.2.1]
      have h1 := hfb.1
      apply Nat.div_lt_of_lt_mul
      rw [← Nat.pow_add]
      have : n - m + m = n := by omega
      rw [this]; exact hu
    have hmn := hfb.1
    clear h
    by_cases h8 : 8 ≤ m
    · have h8' : (8 : Int) ≤ (m : Int) := by omega
      replace hfb := Lib.hid hfb
      clear hvm
      obtain ⟨y0, hy0⟩ : ∃ y, y = v % 100 := ⟨_, rfl⟩
      have a0 : (v : Int) % 100 = (y0 : Int) := by omega
      have l0 : y0 < 100 := by omega
      replace hy0 := Lib.hid hy0
      obtain ⟨y1, hy1⟩ : ∃ y, y = v % 10000 / 100 := ⟨_, rfl⟩
      have a1 : (v : Int) % 10000 / 100 = (y1 : Int) := by omega
      have l1 : y1 < 100 := by omega
      replace hy1 := Lib.hid hy1
      obtain ⟨y2, hy2⟩ : ∃ y, y = v % 100000000 / 10000 % 100 := ⟨_, rfl⟩
      have a2 : (v : Int) % 100000000 / 10000 % 100 = (y2 : Int) := by omega
      have l2 : y2 < 100 := by omega
      replace hy2 := Lib.hid hy2
      obtain ⟨y3, hy3⟩ : ∃ y, y = v % 100000000 / 10000 / 100 := ⟨_, rfl⟩
      have a3 : (v : Int) % 100000000 / 10000 / 100 = (y3 : Int) := by omega
      have l3 : y3 < 100 := by omega
      replace hy3 := Lib.hid hy3
      go_upto_region 7 with (fail)
      go_cut [44] from 42 to 54 (fun _ wc => FB w0 b n u (m - 2) (v / 100) wc)
      case first =>
        obtain ⟨⟨x1, c1⟩, f1⟩ := hfb.out.2.2.2.1 (m - 1) (by omega)
        obtain ⟨⟨x2, c2⟩, f2⟩ := hfb.out.2.2.2.1 (m - 2) (by omega)
        have e1 : ((m : Int) - 1).toNat = m - 1 := by omega
        have e2 : ((m : Int) - 2).toNat = m - 2 := by omega
        have b1 : (0 : Int) ≤ (m : Int) - 1 ∧ (m : Int) - 1 < (n : Int) := by omega
        have b2 : (0 : Int) ≤ (m : Int) - 2 ∧ (m : Int) - 2 < (n : Int) := by omega
        have w1 : IntKind.u32.wrap ((y0 : Int) * 2 + 1) = (y0 : Int) * 2 + 1 := by rw [IntKind.wrap_u32]; omega
        have t1 : ((y0 : Int) * 2 + 1).toNat = y0 * 2 + 1 := by omega
        have s1 : ((y0 : Int) * 2).toNat = y0 * 2 := by omega
        have g1 : (y0 : Int) * 2 + 1 < 200 := by omega
        have k1 : (y0 : Int) * 2 < 200 := by omega
        have z1 : (0 : Int) ≤ (y0 : Int) * 2 + 1 := by omega
        have q1 : (0 : Int) ≤ (y0 : Int) * 2 := by omega
        go_region
        go_wp2_with fail
        go_meet
        case rel =>
          have e3 : m - 2 = m - 1 - 1 := by omega
          have e4 : v / 100 = v / 10 / 10 := by omega
          rw [e3, e4]
          have hp := hfb.out
          refine FB.put (m := m - 1) (FB.put (m := m) (FB.draw hp) (by omega) ?_) (by omega) ?_
          · rw [smalls_lo _ l0]; have := hy0.out; omega
          · rw [smalls_hi _ l0]; have := hy0.out; omega
      case rest =>
        have h0c := Lib.hid hcut
        clear hcut
        go_upto_region 8 with (fail)
        go_cut [57] from 55 to 67 (fun _ wc => FB w0 b n u (m - 4) (v / 10000) wc)
        case first =>
          obtain ⟨⟨x1, c1⟩, f1⟩ := h0c.out.2.2.2.1 (m - 3) (by omega)
          obtain ⟨⟨x2, c2⟩, f2⟩ := h0c.out.2.2.2.1 (m - 4) (by omega)
          have e1 : ((m : Int) - 3).toNat = m - 3 := by omega
          have e2 : ((m : Int) - 4).toNat = m - 4 := by omega
          have b1 : (0 : Int) ≤ (m : Int) - 3 ∧ (m : Int) - 3 < (n : Int) := by omega
          have b2 : (0 : Int) ≤ (m : Int) - 4 ∧ (m : Int) - 4 < (n : Int) := by omega
          have w1 : IntKind.u32.wrap ((y1 : Int) * 2 + 1) = (y1 : Int) * 2 + 1 := by rw [IntKind.wrap_u32]; omega
          have t1 : ((y1 : Int) * 2 + 1).toNat = y1 * 2 + 1 := by omega
          have s1 : ((y1 : Int) * 2).toNat = y1 * 2 := by omega
          have g1 : (y1 : Int) * 2 + 1 < 200 := by omega
          have k1 : (y1 : Int) * 2 < 200 := by omega
          have z1 : (0 : Int) ≤ (y1 : Int) * 2 + 1 := by omega
          have q1 : (0 : Int) ≤ (y1 : Int) * 2 := by omega
          go_region
          go_wp2_with fail
          go_meet
          case rel =>
            have e3 : m - 4 = m - 3 - 1 := by omega
            have e4 : v / 10000 = v / 100 / 10 / 10 := by omega
            rw [e3, e4]
            have hp := h0c.out
            refine FB.put (m := m - 3) (FB.put (m := m - 2) (FB.draw hp) (by omega) ?_) (by omega) ?_
            · rw [smalls_lo _ l1]; have := hy1.out; omega
            · rw [smalls_hi _ l1]; have := hy1.out; omega
        case rest =>
          have h1c := Lib.hid hcut
          clear hcut
          go_upto_region 9 with (fail)
          go_cut [70] from 68 to 80 (fun _ wc => FB w0 b n u (m - 6) (v / 1000000) wc)
          case first =>
            obtain ⟨⟨x1, c1⟩, f1⟩ := h1c.out.2.2.2.1 (m - 5) (by omega)
            obtain ⟨⟨x2, c2⟩, f2⟩ := h1c.out.2.2.2.1 (m - 6) (by omega)
            have e1 : ((m : Int) - 5).toNat = m - 5 := by omega
            have e2 : ((m : Int) - 6).toNat = m - 6 := by omega
            have b1 : (0 : Int) ≤ (m : Int) - 5 ∧ (m : Int) - 5 < (n : Int) := by omega
            have b2 : (0 : Int) ≤ (m : Int) - 6 ∧ (m : Int) - 6 < (n : Int) := by omega
            have w1 : IntKind.u32.wrap ((y2 : Int) * 2 + 1) = (y2 : Int) * 2 + 1 := by rw [IntKind.wrap_u32]; omega
            have t1 : ((y2 : Int) * 2 + 1).toNat = y2 * 2 + 1 := by omega
            have s1 : ((y2 : Int) * 2).toNat = y2 * 2 := by omega
            have g1 : (y2 : Int) * 2 + 1 < 200 := by omega
            have k1 : (y2 : Int) * 2 < 200 := by omega
            have z1 : (0 : Int) ≤ (y2 : Int) * 2 + 1 := by omega
            have q1 : (0 : Int) ≤ (y2 : Int) * 2 := by omega
            go_region
            go_wp2_with fail
            go_meet
            case rel =>
              have e3 : m - 6 = m - 5 - 1 := by omega
              have e4 : v / 1000000 = v / 10000 / 10 / 10 := by omega
              rw [e3, e4]
              have hp := h1c.out
              refine FB.put (m := m - 5) (FB.put (m := m - 4) (FB.draw hp) (by omega) ?_) (by omega) ?_
              · rw [smalls_lo _ l2]; have := hy2.out; omega
              · rw [smalls_hi _ l2]; have := hy2.out; omega
          case rest =>
            have h2c := Lib.hid hcut
            clear hcut
            go_upto_region 10 with (fail)
            go_cut [83] from 81 to 93 (fun _ wc => FB w0 b n u (m - 8) (v / 100000000) wc)
            case first =>
              obtain ⟨⟨x1, c1⟩, f1⟩ := h2c.out.2.2.2.1 (m - 7) (by omega)
              obtain ⟨⟨x2, c2⟩, f2⟩ := h2c.out.2.2.2.1 (m - 8) (by omega)
              have e1 : ((m : Int) - 7).toNat = m - 7 := by omega
              have e2 : ((m : Int) - 8).toNat = m - 8 := by omega
              have b1 : (0 : Int) ≤ (m : Int) - 7 ∧ (m : Int) - 7 < (n : Int) := by omega
              have b2 : (0 : Int) ≤ (m : Int) - 8 ∧ (m : Int) - 8 < (n : Int) := by omega
              have w1 : IntKind.u32.wrap ((y3 : Int) * 2 + 1) = (y3 : Int) * 2 + 1 := by rw [IntKind.wrap_u32]; omega
              have t1 : ((y3 : Int) * 2 + 1).toNat = y3 * 2 + 1 := by omega
              have s1 : ((y3 : Int) * 2).toNat = y3 * 2 := by omega
              have g1 : (y3 : Int) * 2 + 1 < 200 := by omega
              have k1 : (y3 : Int) * 2 < 200 := by omega
              have z1 : (0 : Int) ≤ (y3 : Int) * 2 + 1 := by omega
              have q1 : (0 : Int) ≤ (y3 : Int) * 2 := by omega
              go_region
              go_wp2_with fail
              go_meet
              case rel =>
                have e3 : m - 8 = m - 7 - 1 := by omega
                have e4 : v / 100000000 = v / 1000000 / 10 / 10 := by omega
                rw [e3, e4]
                have hp := h2c.out
                refine FB.put (m := m - 7) (FB.put (m := m - 6) (FB.draw hp) (by omega) ?_) (by omega) ?_
                · rw [smalls_lo _ l3]; have := hy3.out; omega
                · rw [smalls_hi _ l3]; have := hy3.out; omega
            case rest =>
              have h3c := Lib.hid hcut
              clear hcut
              go_wp2_with fail
              go_roundw
              case rel => exact ⟨m - 8, v / 100000000, by go_num, by go_num, h3c.out⟩
              case measure => simp [intOf]; omega
    · have h8' : ¬ (8 : Int) ≤ (m : Int) := by omega
      have hp7 : 10 ^ m ≤ 10 ^ 7 := Nat.pow_le_pow_right (by decide) (by omega)
      have hv8 : v < 10000000 := Nat.lt_of_lt_of_le hvm hp7
      have hv9 : (v : Int) < 10000000 := by omega
      clear hp7 hu2 hv2
      replace hfb := Lib.hid hfb
      by_cases h4 : 4 ≤ m
      · have h4' : (4 : Int) ≤ (m : Int) := by omega
        obtain ⟨y0, hy0⟩ : ∃ y, y = v % 100 := ⟨_, rfl⟩
        have a0 : (v : Int) % 100 = (y0 : Int) := by omega
        have l0 : y0 < 100 := by omega
        replace hy0 := Lib.hid hy0
        obtain ⟨y1, hy1⟩ : ∃ y, y = v % 10000 / 100 := ⟨_, rfl⟩
        have a1 : (v : Int) % 10000 / 100 = (y1 : Int) := by omega
        have l1 : y1 < 100 := by omega
        replace hy1 := Lib.hid hy1
        go_upto_region 17 with (fail)
        go_cut [112] (fun _ wc => FB w0 b n u (m - 2) (v / 100) wc)
        case first =>
          obtain ⟨⟨x1, c1⟩, f1⟩ := hfb.out.2.2.2.1 (m - 1) (by omega)
          obtain ⟨⟨x2, c2⟩, f2⟩ := hfb.out.2.2.2.1 (m - 2) (by omega)
          have e1 : ((m : Int) - 1).toNat = m - 1 := by omega
          have e2 : ((m : Int) - 2).toNat = m - 2 := by omega
          have b1 : (0 : Int) ≤ (m : Int) - 1 ∧ (m : Int) - 1 < (n : Int) := by omega
          have b2 : (0 : Int) ≤ (m : Int) - 2 ∧ (m : Int) - 2 < (n : Int) := by omega
          have w1 : IntKind.u32.wrap ((y0 : Int) * 2 + 1) = (y0 : Int) * 2 + 1 := by rw [IntKind.wrap_u32]; omega
          have t1 : ((y0 : Int) * 2 + 1).toNat = y0 * 2 + 1 := by omega
          have s1 : ((y0 : Int) * 2).toNat = y0 * 2 := by omega
          have g1 : (y0 : Int) * 2 + 1 < 200 := by omega
          have k1 : (y0 : Int) * 2 < 200 := by omega
          have z1 : (0 : Int) ≤ (y0 : Int) * 2 + 1 := by omega
          have q1 : (0 : Int) ≤ (y0 : Int) * 2 := by omega
          go_region
          go_wp2_with fail
          go_meet
          case rel =>
            have e3 : m - 2 = m - 1 - 1 := by omega
            have e4 : v / 100 = v / 10 / 10 := by omega
            rw [e3, e4]
            have hp := hfb.out
            refine FB.put (m := m - 1) (FB.put (m := m) (FB.draw hp) (by omega) ?_) (by omega) ?_
            · rw [smalls_lo _ l0]; have := hy0.out; omega
            · rw [smalls_hi _ l0]; have := hy0.out; omega
        case rest =>
          have h0c := Lib.hid hcut
          clear hcut
          go_upto_region 18 with (fail)
          go_cut [125] (fun _ wc => FB w0 b n u (m - 4) (v / 10000) wc)
          case first =>
            obtain ⟨⟨x1, c1⟩, f1⟩ := h0c.out.2.2.2.1 (m - 3) (by omega)
            obtain ⟨⟨x2, c2⟩, f2⟩ := h0c.out.2.2.2.1 (m - 4) (by omega)
            have e1 : ((m : Int) - 3).toNat = m - 3 := by omega
            have e2 : ((m : Int) - 4).toNat = m - 4 := by omega
            have b1 : (0 : Int) ≤ (m : Int) - 3 ∧ (m : Int) - 3 < (n : Int) := by omega
            have b2 : (0 : Int) ≤ (m : Int) - 4 ∧ (m : Int) - 4 < (n : Int) := by omega
            have w1 : IntKind.u32.wrap ((y1 : Int) * 2 + 1) = (y1 : Int) * 2 + 1 := by rw [IntKind.wrap_u32]; omega
            have t1 : ((y1 : Int) * 2 + 1).toNat = y1 * 2 + 1 := by omega
            have s1 : ((y1 : Int) * 2).toNat = y1 * 2 := by omega
            have g1 : (y1 : Int) * 2 + 1 < 200 := by omega
            have k1 : (y1 : Int) * 2 < 200 := by omega
            have z1 : (0 : Int) ≤ (y1 : Int) * 2 + 1 := by omega
            have q1 : (0 : Int) ≤ (y1 : Int) * 2 := by omega
            go_region
            go_wp2_with fail
            go_meet
            case rel =>
              have e3 : m - 4 = m - 3 - 1 := by omega
              have e4 : v / 10000 = v / 100 / 10 / 10 := by omega
              rw [e3, e4]
              have hp := h0c.out
              refine FB.put (m := m - 3) (FB.put (m := m - 2) (FB.draw hp) (by omega) ?_) (by omega) ?_
              · rw [smalls_lo _ l1]; have := hy1.out; omega
              · rw [smalls_hi _ l1]; have := hy1.out; omega
          case rest =>
            have h1c := Lib.hid hcut
            clear hcut
            have hm4 : m - 4 < 4 := by omega
            by_cases h2 : 2 ≤ m - 4
            · have h2' : (2 : Int) ≤ (m : Int) - 4 := by omega
              have hv4 : v / 10000 < 1000 := by
                have := Nat.pow_le_pow_right (n := 10) (by decide) (show m ≤ 7 by omega)
                omega
              obtain ⟨y5, hy5⟩ : ∃ y, y = v / 10000 % 100 := ⟨_, rfl⟩
              have a5 : (v : Int) / 10000 % 100 = (y5 : Int) := by omega
              have l5 : y5 < 100 := by omega
              replace hy5 := Lib.hid hy5
              go_upto_region 23 with (fail)
              go_cut [147] (fun _ wc => FB w0 b n u (m - 6) (v / 1000000) wc)
              case first =>
                obtain ⟨⟨x1, c1⟩, f1⟩ := h1c.out.2.2.2.1 (m - 5) (by omega)
                obtain ⟨⟨x2, c2⟩, f2⟩ := h1c.out.2.2.2.1 (m - 6) (by omega)
                have e1 : ((m : Int) - 4 - 1).toNat = m - 5 := by omega
                have e2 : ((m : Int) - 4 - 2).toNat = m - 6 := by omega
                have b1 : (0 : Int) ≤ (m : Int) - 4 - 1 ∧ (m : Int) - 4 - 1 < (n : Int) := by omega
                have b2 : (0 : Int) ≤ (m : Int) - 4 - 2 ∧ (m : Int) - 4 - 2 < (n : Int) := by omega
                have w1 : IntKind.u32.wrap ((y5 : Int) * 2 + 1) = (y5 : Int) * 2 + 1 := by rw [IntKind.wrap_u32]; omega
                have t1 : ((y5 : Int) * 2 + 1).toNat = y5 * 2 + 1 := by omega
                have s1 : ((y5 : Int) * 2).toNat = y5 * 2 := by omega
                have g1 : (y5 : Int) * 2 + 1 < 200 := by omega
                have k1 : (y5 : Int) * 2 < 200 := by omega
                have z1 : (0 : Int) ≤ (y5 : Int) * 2 + 1 := by omega
                have q1 : (0 : Int) ≤ (y5 : Int) * 2 := by omega
                go_region
                go_wp2_with fail
                go_meet
                case rel =>
                  have e3 : m - 6 = m - 5 - 1 := by omega
                  have e4 : v / 1000000 = v / 10000 / 10 / 10 := by omega
                  rw [e3, e4]
                  have hp := h1c.out
                  refine FB.put (m := m - 5) (FB.put (m := m - 4) (FB.draw hp) (by omega) ?_) (by omega) ?_
                  · rw [smalls_lo _ l5]; have := hy5.out; omega
                  · rw [smalls_hi _ l5]; have := hy5.out; omega
              case rest =>
                have h5c := Lib.hid hcut
                clear hcut
                by_cases h1 : 1 ≤ m - 6
                · have h1' : (0 : Int) < (m : Int) - 4 - 2 := by omega
                  have hv6 : v / 1000000 < 10 := by omega
                  obtain ⟨⟨x1, c1⟩, f1⟩ := h5c.out.2.2.2.1 0 (by omega)
                  have hn0 : (0 : Int) < (n : Int) := by omega
                  have hn1 : (0 : Int) ≤ 0 ∧ (0 : Int) < (n : Int) := by omega
                  have hv7 : (v : Int) / 10000 / 100 < 10 := by omega
                  have e3 : (0 : Nat) = m - 6 - 1 := by omega
                  have e4 : (0 : Nat) = v / 1000000 / 10 := by omega
                  have hq := FB.put (x := 48 + v / 10000 / 100) h5c.out (by omega) (by omega)
                  rw [← e3, ← e4] at hq
                  replace hq := Lib.hid hq
                  clear e3 e4 hv6 h1 hv8 hvm hm4 h8 hv4 h2 h4
                  go_upto_region 25 with (fail)
                  clear hv9
                  go_wp2_with fail
                  go_end0
                  exact ⟨rfl, hq.out⟩
                · have h1' : ¬ (0 : Int) < (m : Int) - 4 - 2 := by omega
                  have hv6 : v < 1000000 := by
                    have := Nat.pow_le_pow_right (n := 10) (by decide) (show m ≤ 6 by omega)
                    omega
                  have e3 : m - 6 = 0 := by omega
                  have e4 : v / 1000000 = 0 := by omega
                  have hq := h5c.out
                  rw [e3, e4] at hq
                  replace hq := Lib.hid hq
                  clear e3 e4 hv6 h1 hv8 hvm hm4 h8 hv4 h2 h4
                  go_upto_region 25 with (fail)
                  clear hv9
                  go_wp2_with fail
                  go_end0
                  exact ⟨rfl, hq.out⟩
            · have h2' : ¬ (2 : Int) ≤ (m : Int) - 4 := by omega
              by_cases h1 : 1 ≤ m - 4
              · have h1' : (0 : Int) < (m : Int) - 4 := by omega
                have hv6 : v / 10000 < 10 := by
                  have := Nat.pow_le_pow_right (n := 10) (by decide) (show m ≤ 5 by omega)
                  omega
                obtain ⟨⟨x1, c1⟩, f1⟩ := h1c.out.2.2.2.1 0 (by omega)
                have hn0 : (0 : Int) < (n : Int) := by omega
                have hn1 : (0 : Int) ≤ 0 ∧ (0 : Int) < (n : Int) := by omega
                have hv7 : (v : Int) / 10000 < 10 := by omega
                have e3 : (0 : Nat) = m - 4 - 1 := by omega
                have e4 : (0 : Nat) = v / 10000 / 10 := by omega
                have hq := FB.put (x := 48 + v / 10000) h1c.out (by omega) (by omega)
                rw [← e3, ← e4] at hq
                replace hq := Lib.hid hq
                clear e3 e4 hv6 h1 hv8 hvm hm4 h8 h2 h4
                go_upto_region 25 with (fail)
                clear hv9
                go_wp2_with fail
                go_end0
                exact ⟨rfl, hq.out⟩
              · have h1' : ¬ (0 : Int) < (m : Int) - 4 := by omega
                have hv6 : v < 10000 := by
                  have := Nat.pow_le_pow_right (n := 10) (by decide) (show m ≤ 4 by omega)
                  omega
                have e3 : m - 4 = 0 := by omega
                have e4 : v / 10000 = 0 := by omega
                have hq := h1c.out
                rw [e3, e4] at hq
                replace hq := Lib.hid hq
                clear e3 e4 hv6 h1 hv8 hvm hm4 h8 h2 h4
                go_upto_region 25 with (fail)
                clear hv9
                go_wp2_with fail
                go_end0
                exact ⟨rfl, hq.out⟩
      · have h4' : ¬ (4 : Int) ≤ (m : Int) := by omega
        have hm4 : m < 4 := by omega
        by_cases h2 : 2 ≤ m
        · have h2' : (2 : Int) ≤ (m : Int) := by omega
          have hv4 : v < 1000 := by
            have := Nat.pow_le_pow_right (n := 10) (by decide) (show m ≤ 3 by omega)
            omega
          obtain ⟨y5, hy5⟩ : ∃ y, y = v % 100 := ⟨_, rfl⟩
          have a5 : (v : Int) % 100 = (y5 : Int) := by omega
          have l5 : y5 < 100 := by omega
          replace hy5 := Lib.hid hy5
          go_upto_region 23 with (fail)
          go_cut [147] (fun _ wc => FB w0 b n u (m - 2) (v / 100) wc)
          case first =>
            obtain ⟨⟨x1, c1⟩, f1⟩ := hfb.out.2.2.2.1 (m - 1) (by omega)
            obtain ⟨⟨x2, c2⟩, f2⟩ := hfb.out.2.2.2.1 (m - 2) (by omega)
            have e1 : ((m : Int) - 1).toNat = m - 1 := by omega
            have e2 : ((m : Int) - 2).toNat = m - 2 := by omega
            have b1 : (0 : Int) ≤ (m : Int) - 1 ∧ (m : Int) - 1 < (n : Int) := by omega
            have b2 : (0 : Int) ≤ (m : Int) - 2 ∧ (m : Int) - 2 < (n : Int) := by omega
            have w1 : IntKind.u32.wrap ((y5 : Int) * 2 + 1) = (y5 : Int) * 2 + 1 := by rw [IntKind.wrap_u32]; omega
            have t1 : ((y5 : Int) * 2 + 1).toNat = y5 * 2 + 1 := by omega
            have s1 : ((y5 : Int) * 2).toNat = y5 * 2 := by omega
            have g1 : (y5 : Int) * 2 + 1 < 200 := by omega
            have k1 : (y5 : Int) * 2 < 200 := by omega
            have z1 : (0 : Int) ≤ (y5 : Int) * 2 + 1 := by omega
            have q1 : (0 : Int) ≤ (y5 : Int) * 2 := by omega
            go_region
            go_wp2_with fail
            go_meet
            case rel =>
              have e3 : m - 2 = m - 1 - 1 := by omega
              have e4 : v / 100 = v / 10 / 10 := by omega
              rw [e3, e4]
              have hp := hfb.out
              refine FB.put (m := m - 1) (FB.put (m := m) (FB.draw hp) (by omega) ?_) (by omega) ?_
              · rw [smalls_lo _ l5]; have := hy5.out; omega
              · rw [smalls_hi _ l5]; have := hy5.out; omega
          case rest =>
            have h5c := Lib.hid hcut
            clear hcut
            by_cases h1 : 1 ≤ m - 2
            · have h1' : (0 : Int) < (m : Int) - 2 := by omega
              have hv6 : v / 100 < 10 := by omega
              obtain ⟨⟨x1, c1⟩, f1⟩ := h5c.out.2.2.2.1 0 (by omega)
              have hn0 : (0 : Int) < (n : Int) := by omega
              have hn1 : (0 : Int) ≤ 0 ∧ (0 : Int) < (n : Int) := by omega
              have hv7 : (v : Int) / 100 < 10 := by omega
              have e3 : (0 : Nat) = m - 2 - 1 := by omega
              have e4 : (0 : Nat) = v / 100 / 10 := by omega
              have hq := FB.put (x := 48 + v / 100) h5c.out (by omega) (by omega)
              rw [← e3, ← e4] at hq
              replace hq := Lib.hid hq
              clear e3 e4 hv6 h1 hv8 hvm hm4 h8 hv4 h2 h4
              go_upto_region 25 with (fail)
              clear hv9
              go_wp2_with fail
              go_end0
              exact ⟨rfl, hq.out⟩
            · have h1' : ¬ (0 : Int) < (m : Int) - 2 := by omega
              have hv6 : v < 100 := by
                have := Nat.pow_le_pow_right (n := 10) (by decide) (show m ≤ 2 by omega)
                omega
              have e3 : m - 2 = 0 := by omega
              have e4 : v / 100 = 0 := by omega
              have hq := h5c.out
              rw [e3, e4] at hq
              replace hq := Lib.hid hq
              clear e3 e4 hv6 h1 hv8 hvm hm4 h8 hv4 h2 h4
              go_upto_region 25 with (fail)
              clear hv9
              go_wp2_with fail
              go_end0
              exact ⟨rfl, hq.out⟩
        · have h2' : ¬ (2 : Int) ≤ (m : Int) := by omega
          by_cases h1 : 1 ≤ m
          · have h1' : (0 : Int) < (m : Int) := by omega
            have hv6 : v < 10 := by
              have := Nat.pow_le_pow_right (n := 10) (by decide) (show m ≤ 1 by omega)
              omega
            obtain ⟨⟨x1, c1⟩, f1⟩ := hfb.out.2.2.2.1 0 (by omega)
            have hn0 : (0 : Int) < (n : Int) := by omega
            have hn1 : (0 : Int) ≤ 0 ∧ (0 : Int) < (n : Int) := by omega
            have hv7 : (v : Int) < 10 := by omega
            have e3 : (0 : Nat) = m - 1 := by omega
            have e4 : (0 : Nat) = v / 10 := by omega
            have hq := FB.put (x := 48 + v) hfb.out (by omega) (by omega)
            rw [← e3, ← e4] at hq
            replace hq := Lib.hid hq
            clear e3 e4 hv6 h1 hv8 hvm hm4 h8 h2 h4
            go_upto_region 25 with (fail)
            clear hv9
            go_wp2_with fail
            go_end0
            exact ⟨rfl, hq.out⟩
          · have h1' : ¬ (0 : Int) < (m : Int) := by omega
            have hv6 : v < 1 := by
              have := Nat.pow_le_pow_right (n := 10) (by decide) (show m ≤ 0 by omega)
              omega
            have e3 : m = 0 := by omega
            have e4 : v = 0 := by omega
            have hq := hfb.out
            rw [e3, e4] at hq
            replace hq := Lib.hid hq
            clear e3 e4 hv6 h1 hv8 hvm hm4 h8 h2 h4
            go_upto_region 25 with (fail)
            clear hv9
            go_wp2_with fail
            go_end0
            exact ⟨rfl, hq.out⟩
end Go.Proofs.YtbodfdmmfaampaaGreatDoor

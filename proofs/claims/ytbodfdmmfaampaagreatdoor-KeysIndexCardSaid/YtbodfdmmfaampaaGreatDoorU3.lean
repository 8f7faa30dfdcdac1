/-
  Contract of the program's Units. Condition: the text is shorter than 2^40 bytes.
-/
import Derived.Test.YtbodfdmmfaampaaGreatDoorU2
namespace Go.Proofs.YtbodfdmmfaampaaGreatDoor
open Go.RowKit
set_option maxHeartbeats 400000
set_option maxRecDepth 100000

theorem bel_drewN {B : Nat} {a w : World} (h : Below B a w) (n : Nat) : Below B a (w.drewN n) := h.trans ⟨rfl, rfl, rfl, Nat.le_refl _, fun _ _ => rfl⟩
theorem own_drewN {w : World} {B e size n : Nat} {v : Value} {xs : List Value} (h : w.ownsRow B e size v n xs) (q : Nat) : (w.drewN q).ownsRow B e size v n xs := h
theorem u16s_snoc (s : ByteArray) (k : Nat) : u16s (unitsN s (k + 1)) = u16s (unitsN s k) ++ [Value.int IntKind.u16 (unitAt s k)] := by simp [u16s, unitsN]
theorem unitAt_even (s : ByteArray) (k : Nat) (h : k < s.size / 2) : unitAt (evenB s) k = unitAt s k := by
  have hs := evenB_size s
  have key : ∀ i, i < s.size / 2 * 2 → ub (evenB s) i = ub s i := by
    intro i hi
    rw [ub_get _ _ (by omega), ub_get _ _ (by omega)]
    unfold evenB
    rw [ByteArray.getElem_extract]
    congr 2; omega
  unfold unitAt
  rw [key _ (by omega), key _ (by omega)]
theorem unitsN_even (s : ByteArray) (k : Nat) (h : k ≤ s.size / 2) : unitsN (evenB s) k = unitsN s k := by
  induction k with
  | zero => rfl
  | succ k ih => simp only [unitsN]; rw [ih (by omega), unitAt_even s k (by omega)]
theorem c_Units (s : ByteArray) (hs : s.size ≤ 1099511627776) (w : World) :
    Calls Tryz.prog 16 #[.string s] w fun e w' => ∃ v, e = .returned v ∧ w'.ownsRow w.heap.size 42 1 v (s.size / 2) (u16s (unitsN s (s.size / 2))) ∧ Below w.heap.size w w' := by
  obtain ⟨i0, hi0, hz0, hz1, hz2⟩ := info_parts infoU16
  have hE := evenB_size s
  have hU := unitsN_even s (s.size / 2) (Nat.le_refl _)
  rw [← hU]
  have H := Lib.hid (c_even s hs)
  have hm : s.size / 2 ≤ 549755813888 := by omega
  generalize evenB s = E at *
  generalize s.size / 2 = m at *
  have hE1 : E.size ≤ m * 2 := by omega
  have hE2 : m * 2 ≤ E.size := by omega
  clear hE hU
  go_enter Tryz.func16, Tryz.ntmps16
  go_wp2_with (first | (go_at_call 32; refine (H.out _).mono ?_; rintro e w' ⟨rfl, rfl⟩) | (at_make; refine wpList_make_own _ rfl _ _ 40 rfl w.heap.size 42 i0 (.int .u16 0) 1 Tryz.underlying40 hi0 hz0 hz1 _ _ _ m rfl rfl (by omega) (by rw [hz2]; omega) (by unfold maxLen; omega) (Nat.le_refl _) ?_; intro w1 hown1 hgrow1))
  have hbel1 : Below w.heap.size w w1 := (Below.refl _ _).grown hgrow1 (Nat.le_refl _) (fun _ h => by cases h)
  have eE : (E.size : Int) / 2 = (m : Int) := by omega
  rw [eE]
  clear eE hgrow1
  generalize hv0 : Value.slice (some ⟨w.heap.size, 0, none⟩) 0 m = v0 at *
  clear hv0
  go_loopw [4, 5, 15] (fun v _ i wr => ∃ k : Nat, k ≤ m ∧ i = .int .i64 (k : Int) ∧ wr.ownsRow w.heap.size 42 1 v k (u16s (unitsN E k)) ∧ Below w.heap.size w wr) (fun _ _ i _ => m - (intOf i).toNat)
  case atStart => exact ⟨0, by omega, rfl, hown1, hbel1⟩
  case round =>
    obtain ⟨k, hk, rfl, hown, hbel⟩ := hrel
    rcases Nat.lt_or_ge k m with hlt | hge
    · have hsz := hbel.size
      go_wp2_with (first | (go_at_call 33; refine (c_unit E k (by omega) (by omega) _).mono ?_; rintro e w' ⟨rfl, nq, rfl⟩) | (at_builtin; go_loud (refine wpList_append_lies _ (by rfl) _ _ _ (by rfl) w.heap.size 42 i0 _ 1 2 Tryz.underlying40 hi0 hz0 hz1 hz2 rfl (by omega) u4 k (u16s (unitsN E k)) (by rfl) ((own_drewN hown nq).alloc _) ⟨wr.heap.size, 0, none⟩ 1 1 [.int .u16 (unitAt E k)] (by rfl) (by rfl) (World.news_of_block (cs := #[.int .u16 (unitAt E k)]) (t := 42) (fr := (0, 0)) (by exact heap_alloc_new (wr.drewN nq) _)) (by simp [Value.oneCell']) (by omega) (by unfold maxLen; omega) (by omega) (by simp; omega) (wr.heap.size + 1) (by simp) ?_); intro gg cap w2 hown2 hgrow hat hlt2))
      have hown3 : w2.ownsRow w.heap.size 42 1 (Value.slice (some ⟨gg, 0, none⟩) (k + 1) cap) (k + 1) (u16s (unitsN E (k + 1))) := by
        rw [u16s_snoc]; exact hown2
      have hbel2 : Below w.heap.size w w2 := ((bel_drewN hbel nq).alloc hsz _).grown hgrow (by simp; omega) (own_base hown)
      clear hown2 hgrow
      go_roundw
      case rel => exact ⟨k + 1, by omega, by go_num, hown3, hbel2⟩
      case measure => simp [intOf]; omega
    · have hk2 : k = m := by omega
      subst hk2
      go_wp2
      go_ret
      exact ⟨_, rfl, hown, hbel⟩
end Go.Proofs.YtbodfdmmfaampaaGreatDoor

/-
  The contract of strconv.FormatFloat at whole numbers below 2^32, in the form 'e', the fewest digits.
-/
import Derived.Test.YtbodfdmmfaampaaGreatDoorD11
import Derived.Laws.IdiomStrings
import Derived.Laws.BytesArg
namespace Go.Proofs.YtbodfdmmfaampaaGreatDoor
open Go.RowKit
set_option maxHeartbeats 1000000
set_option maxRecDepth 100000

def u8s (l : List Nat) : ByteArray := ⟨(l.map UInt8.ofNat).toArray⟩
theorem conv_bytes {w : World} {B n : Nat} {v : Value} {l : List Nat} (h : w.ownsRow B 5 1 v n (b8 l)) (hl : 0 < l.length) (hn : n = l.length) (hb : ∀ x ∈ l, x < 256) :
    (convert 67 9 v).run Tryz.prog w = .ok (.string (u8s l)) w := by
  subst hn
  obtain ⟨g, cap, rfl, _, _⟩ := h.form (by omega)
  have hc := World.ownsRow.cells h (g := g) rfl
  have hlen : l.length = (l.map UInt8.ofNat).length := by simp
  rw [hlen]
  refine run_convert_bytes_back (P := Tryz.prog) w 67 9 5 ⟨g, 0, none⟩ cap (l.map UInt8.ofNat) Tryz.underlying67 Tryz.underlying5 Tryz.underlying9 (fun j hj => hc j _ ?_)
  have hj' : j < l.length := by simpa using hj
  have := hb l[j] (List.getElem_mem hj')
  simp [b8, hj']
  omega
theorem sciB_lt (m v e : Nat) (he : e < 10) : ∀ x ∈ sciB m v e, x < 256 := by
  have hd : ∀ x ∈ dg m v, x < 256 := by
    intro x hx
    obtain ⟨y, hy, rfl⟩ := List.mem_map.1 hx
    have := fw_lt m v y hy
    omega
  intro x hx
  unfold sciB at hx
  split at hx
  · simp only [List.mem_append, List.mem_cons, List.not_mem_nil, or_false] at hx
    rcases hx with ((h | h) | h) | h | h
    · exact hd x h
    all_goals omega
  · simp only [List.mem_append, List.mem_cons, List.not_mem_nil, or_false] at hx
    rcases hx with ((((h | h) | h) | h) | h) | h | h
    · exact hd x (List.mem_of_mem_take h)
    · omega
    · exact hd x (List.mem_of_mem_drop h)
    all_goals omega
theorem sciB_pos (m v e : Nat) : 0 < (sciB m v e).length := by
  unfold sciB; split <;> simp <;> omega
theorem c_FormatFloatI (i k n : Nat) (hk : 1 ≤ k) (hk2 : k ≤ 32) (hi : i < 2 ^ k) (hi0 : 2 ^ (k - 1) ≤ i) (hn : IsNd i n) (hn10 : n ≤ 10) (w : World) (hT : Pows w) (hP : P10 w) :
    Calls Tryz.prog 53 #[.float .f64 (wordOf i k), .int .u8 101, .int .i64 (-1), .int .i64 64] w fun r w' => ∃ m v : Nat, r = .returned (.string (u8s (sciB m v (n - 1)))) ∧ 1 ≤ m ∧ m ≤ n ∧ i = v * 10 ^ (n - m) ∧ v % 10 ≠ 0 ∧ Below w.heap.size w w' := by
  obtain ⟨i0, hi0', hz0, hz1, hz2⟩ := info_parts infoByte
  have hF := Lib.hid (fun (W : World) (v0 : Value) hB h hT hP => c_ftoa64 i k n w.heap.size v0 hk hk2 hi hi0 hn W hB h hT hP)
  generalize wordOf i k = x at *
  replace hn := Lib.hid hn
  clear hi hi0
  go_enter Tryz.func53, Tryz.ntmps53
  go_wp2_with (at_make; refine wpList_make_own _ rfl _ _ 67 rfl w.heap.size 5 i0 (.int .u8 0) 1 Tryz.underlying67 hi0' hz0 hz1 _ _ _ 24 rfl rfl (by omega) (by rw [hz2]; omega) (by unfold maxLen; omega) (Nat.le_refl _) ?_; intro w1 hown1 hgrow1)
  have hb1 : Below w.heap.size w w1 := (Below.refl _ _).grown hgrow1 (Nat.le_refl _) (fun _ h => by cases h)
  refine (hF.out w1 _ hb1.size hown1 (hT.keep hb1) (hP.keep hb1)).mono ?_
  rintro e w2 ⟨v', m, v, rfl, hm1, hmn, hiv, hv, hown, hb2⟩
  have hcv := conv_bytes hown (sciB_pos _ _ _) rfl (sciB_lt m v (n - 1) (by omega))
  replace hiv := Lib.hid hiv
  go_wp2_with fail
  go_ret
  exact ⟨m, v, rfl, hm1, hmn, hiv.out, hv, hb1.trans hb2⟩
theorem c_FormatFloat (i k n : Nat) (hk : 1 ≤ k) (hk2 : k ≤ 32) (hi : i < 2 ^ k) (hi0 : 2 ^ (k - 1) ≤ i) (hn : IsNd i n) (hn10 : n ≤ 10) (w : World) (hT : Pows w) (hP : P10 w) :
    Calls Tryz.prog 45 #[.float .f64 (wordOf i k), .int .u8 101, .int .i64 (-1), .int .i64 64] w fun r w' => ∃ m v : Nat, r = .returned (.string (u8s (sciB m v (n - 1)))) ∧ 1 ≤ m ∧ m ≤ n ∧ i = v * 10 ^ (n - m) ∧ v % 10 ≠ 0 ∧ Below w.heap.size w w' := by
  have hF := Lib.hid (c_FormatFloatI i k n hk hk2 hi hi0 hn hn10 w hT hP)
  generalize wordOf i k = x at *
  replace hn := Lib.hid hn
  clear hi hi0
  go_enter Tryz.func45, Tryz.ntmps45
  go_wp2_with fail
  refine hF.out.mono ?_
  rintro e w2 ⟨m, v, rfl, hm1, hmn, hiv, hv, hb⟩
  replace hiv := Lib.hid hiv
  go_wp2_with fail
  go_ret
  exact ⟨m, v, rfl, hm1, hmn, hiv.out, hv, hb⟩
end Go.Proofs.YtbodfdmmfaampaaGreatDoor

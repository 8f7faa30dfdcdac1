/-
  Contracts of both Of: the key of a number.
-/
import Derived.Test.YtbodfdmmfaampaaGreatDoorD17
import Derived.Test.YtbodfdmmfaampaaGreatDoorA2
namespace Go.Proofs.YtbodfdmmfaampaaGreatDoor
open Go.RowKit
set_option maxHeartbeats 1000000
set_option maxRecDepth 100000

/-- a number's digits are these, n of them -/
def NdOf (i n : Nat) : Prop := (i = 0 ∧ n = 1) ∨ IsNd i n
theorem NdOf.one {i n m : Nat} (h : NdOf i n) (h' : NdOf i m) : n = m := by
  rcases h with ⟨rfl, rfl⟩ | h
  · rcases h' with ⟨_, rfl⟩ | h'
    · rfl
    · exact absurd h'.pos (by omega)
  · rcases h' with ⟨rfl, _⟩ | h'
    · exact absurd h.pos (by omega)
    · exact h.one h'
theorem NdOf.le10 {i n : Nat} (h : NdOf i n) (hi : i < 4294967296) : 1 ≤ n ∧ n ≤ 10 := by
  rcases h with ⟨_, rfl⟩ | h
  · omega
  · refine ⟨h.1, ?_⟩
    rcases Nat.lt_or_ge 10 n with h' | h'
    · have := Nat.pow_le_pow_right (n := 10) (by decide) (show 10 ≤ n - 1 by omega)
      have h2 := h.2.1
      have e : (10 : Nat) ^ 10 = 10000000000 := by decide
      omega
    · exact h'
/-- the lowest k digits of i, the lowest first, as bytes -/
def rdg (k i : Nat) : List Nat := (dg k i).reverse
theorem rdg_len (k i : Nat) : (rdg k i).length = k := by simp [rdg, dg_len]
theorem dg_succ (k i : Nat) : dg (k + 1) i = (48 + i / 10 ^ k % 10) :: dg k i := by
  unfold dg
  rw [Nat.add_comm k 1, fw_add, fw_one]; rfl
theorem rdg_succ (k i : Nat) : rdg (k + 1) i = rdg k i ++ [48 + i / 10 ^ k % 10] := by
  unfold rdg; rw [dg_succ]; simp
theorem u16s_get' (l : List Nat) (k x : Nat) (h : l[k]? = some x) : (u16s l)[k]? = some (.int .u16 (x : Int)) := by simp [u16s, h]
theorem c_KOf (i : Nat) (hi : i < 4294967296) (w : World) :
    Calls Tryz.prog 8 #[.int .u32 (i : Int)] w fun e w' => ∃ n, e = .returned (.agg #[.string (textU (dg n i)), .int .i64 0]) ∧ NdOf i n ∧ Below w.heap.size w w' := by
  obtain ⟨i0, hi0, hz0, hz1, hz2⟩ := info_parts infoU16
  have h10 : (i : Int) < 4294967296 := by omega
  have hdiv : ∀ k, ((i / 10 ^ k : Nat) : Int) / 10 = ((i / 10 ^ (k + 1) : Nat) : Int) := fun k => by
    rw [Nat.pow_succ, ← Nat.div_div_eq_div_mul]; omega
  replace hdiv := Lib.hid hdiv
  have hrs := Lib.hid (fun k => rdg_succ k i)
  have hle : ∀ k, i / 10 ^ k ≤ i := fun k => Nat.div_le_self _ _
  replace hle := Lib.hid hle
  go_enter Tryz.func8, Tryz.ntmps8
  go_wp2_with fail
  go_loopw [0, 3] (fun vi v wr => ∃ k : Nat, 1 ≤ k ∧ k ≤ 10 ∧ vi = .int .u32 ((i / 10 ^ k : Nat) : Int) ∧ wr.ownsRow (w.heap.size + 1) 42 1 v k (u16s (rdg k i)) ∧ Below (w.heap.size + 1) (w.alloc (.cells #[.string ⟨#[]⟩, .int .i64 0] 29)) wr ∧ Hid (k = 1 ∨ 10 ^ (k - 1) ≤ i)) (fun vi _ _ => (intOf vi).toNat)
  case atStart =>
    refine ⟨1, Nat.le_refl _, by omega, by rw [show 10 ^ 1 = 10 from rfl]; go_num, ?_, ((Below.refl _ _).alloc (by simp) _), .inl rfl⟩
    refine ⟨rfl, .inr ⟨w.heap.size + 1, 1, #[.int .u16 (48 + (i : Int) % 10)], rfl, Nat.le_refl _, ?_, Nat.le_refl _, by unfold maxLen; omega, rfl, ?_⟩⟩
    · have := heap_alloc_new (w.alloc (.cells #[.string ⟨#[]⟩, .int .i64 0] 29)) (.cells #[.int .u16 (48 + (i : Int) % 10)] 42)
      simpa using this
    · simp [u16s, rdg, dg, fw]
  case round =>
    obtain ⟨k, hk1, hk10, rfl, hown, hbel, hnd⟩ := hrel
    have hsz : w.heap.size + 1 ≤ wr.heap.size := by have := hbel.size; simpa using this
    by_cases hpos : 0 < i / 10 ^ k
    · have hkk : k + 1 ≤ 10 := by
        rcases Nat.lt_or_ge k 10 with h | h
        · omega
        · exfalso
          have e : i / 10 ^ k = 0 := by
            apply Nat.div_eq_of_lt
            have := Nat.pow_le_pow_right (n := 10) (by decide) h
            have e : (10 : Nat) ^ 10 = 10000000000 := by decide
            omega
          omega
      have hnd2 : Hid (k + 1 = 1 ∨ 10 ^ (k + 1 - 1) ≤ i) := .inr ((Nat.one_le_div_iff (Nat.pow_pos (by decide))).1 hpos)
      have hr := Lib.hid (hrs.out k)
      have hd := Lib.hid (hdiv.out k)
      have hl := hle.out k
      clear hk10 hnd
      generalize i / 10 ^ k = q at *
      have hqw : IntKind.u32.wrap ((q : Int) / 10) = (q : Int) / 10 := by rw [IntKind.wrap_u32]; omega
      have hq0 : (0 : Int) < (q : Int) := by omega
      have hsn : u16s (rdg k i) ++ [.int .u16 (48 + (q : Int) % 10)] = u16s (rdg (k + 1) i) := by
        rw [hr.out]; simp [u16s]
      replace hsn := Lib.hid hsn
      have hpos' := Lib.hid hpos
      have hk1' := Lib.hid hk1
      have hkk' := Lib.hid hkk
      have hk11 : k ≤ 10 := by omega
      clear hl hpos hi hk1 hkk h10
      go_wp2_with (at_builtin; refine wpList_append_lies _ (by rfl) _ _ _ (by rfl) (w.heap.size + 1) 42 i0 _ 1 2 Tryz.underlying40 hi0 hz0 hz1 hz2 rfl (by omega) u3 k (u16s (rdg k i)) (by rfl) (hown.alloc _) ⟨wr.heap.size, 0, none⟩ 1 1 [.int .u16 (48 + (q : Int) % 10)] (by rfl) (by rfl) (World.news_of_block (cs := #[.int .u16 (48 + (q : Int) % 10)]) (t := 42) (fr := (0, 0)) (by exact heap_alloc_new wr _)) (by simp [Value.oneCell']) (by omega) (by unfold maxLen; omega) (by omega) (by simp; omega) (wr.heap.size + 1) (by simp) ?_; intro gg cap w2 hown2 hgrow hat hlt2)
      have hown3 : w2.ownsRow (w.heap.size + 1) 42 1 (.slice (some ⟨gg, 0, none⟩) (k + 1) cap) (k + 1) (u16s (rdg (k + 1) i)) := by
        rw [← hsn.out]; exact hown2
      have hbel2 := (hbel.alloc hsz (.cells #[.int .u16 (48 + (q : Int) % 10)] 42)).grown hgrow (by simp; omega) (own_lo hown)
      clear hown2 hgrow
      go_roundw
      case rel => exact ⟨k + 1, by omega, hkk'.out, by rw [← hd.out], hown3, hbel2, hnd2⟩
      case measure => have := hpos'.out; simp [intOf]; omega
    · have hq0 : i / 10 ^ k = 0 := Nat.eq_zero_of_not_pos hpos
      have hq : ((i / 10 ^ k : Nat) : Int) = 0 := by rw [hq0]; rfl
      have hlt : i < 10 ^ k := by
        rcases Nat.lt_or_ge i (10 ^ k) with h | h
        · exact h
        · have := (Nat.one_le_div_iff (Nat.pow_pos (by decide))).2 h
          omega
      have hNd : NdOf i k := by
        rcases hnd.out with rfl | h
        · by_cases h0 : i = 0
          · exact .inl ⟨h0, rfl⟩
          · exact .inr (IsNd.digit (by omega) (by simpa using hlt))
        · exact .inr ⟨hk1, h, hlt⟩
      obtain ⟨g, cap, rfl, hgB, hgs⟩ := hown.form (by omega)
      have hgh : ∃ cur, wr.heap[g]? = some (.cells cur 42 (0, 0)) := by
        rcases hown.2 with ⟨h, _⟩ | ⟨g', cap', cur, e, _, h, _⟩
        · cases h
        · cases e; exact ⟨cur, h⟩
      obtain ⟨cur, hgh⟩ := hgh
      have hrv : RV (w.alloc (.cells #[.string ⟨#[]⟩, .int .i64 0] 29)) g (w.heap.size + 1) (rdg k i) 0 wr := by
        refine ⟨hbel, hgs, fun j hj => ⟨by simp [World.frozen?, hgh], ?_⟩⟩
        rw [rdg_len] at hj ⊢
        have hx : (rdg k i)[j]? = some ((rdg k i).getD j 0) := by
          rw [List.getD_eq_getElem?_getD, List.getElem?_eq_getElem (by rw [rdg_len]; exact hj)]; rfl
        have e0 : ¬ (j < 0 ∨ k - 1 - 0 < j) := by omega
        rw [if_neg e0]
        have := World.ownsRow.cells hown (g := g) rfl j _ (u16s_get' _ _ _ hx)
        rw [add_zero_addr] at this
        exact this
      have hR0 := c_Rev (w.alloc (.cells #[.string ⟨#[]⟩, .int .i64 0] 29)) g (w.heap.size + 1) cap (rdg k i) (by rw [rdg_len]; omega) (by rw [rdg_len]; exact hk1) hgB wr hrv
      rw [rdg_len] at hR0
      have hrr : (rdg k i).reverse = dg k i := by simp [rdg]
      rw [hrr] at hR0
      have hR := Lib.hid hR0
      have hk10' : k ≤ 10 := hk10
      clear hR0 hrv hown hnd hrr hgh hi hi0 hz0 hz1 hz2
      replace hNd := Lib.hid hNd
      replace hlt := Lib.hid hlt
      replace hq0 := Lib.hid hq0
      clear h10
      go_wp2_with (go_at_call 19; refine hR.out.mono ?_; rintro e w2 ⟨rfl, hrv2⟩)
      obtain ⟨hb2, hg2, hc2⟩ := hrv2
      have hM0 := c_UMake (dg k i) g cap (fun u hu => by have := dg_dig k i u hu; omega) (by rw [dg_len]; omega) (fun e => by have := dg_len k i; rw [e] at this; simp at this; omega) w2 (fun y hy j u hj => by
        have hjk : j < k := by
          have := (List.getElem?_eq_some_iff.1 hj).1
          rwa [dg_len] at this
        obtain ⟨_, c2⟩ := hc2 j (by rw [dg_len]; exact hjk)
        rw [hy.cell (p := ⟨g, j, none⟩) hg2, c2, dg_len]
        have e0 : ¬ (j < 0 ∨ k - 1 - 0 < j) := by omega
        rw [if_neg e0, List.getD_eq_getElem?_getD, hj]; rfl)
      rw [dg_len] at hM0
      have hM := Lib.hid hM0
      clear hM0 hc2 hR
      go_wp2_with fail
      refine hM.out.mono ?_
      rintro e w3 ⟨rfl, hb3⟩
      have hb3' : Below (w.heap.size + 1) (w.alloc (.cells #[.string ⟨#[]⟩, .int .i64 0] 29)) w3 := hb2.trans (hb3.mono (Nat.le_trans hgB (Nat.le_of_lt hg2)))
      have hh := (hb3'.block w.heap.size (Nat.lt_succ_self _)).trans (heap_alloc_new w _)
      have c0 : w3.cell? ⟨w.heap.size, 0, none⟩ = some (.string ⟨#[]⟩) := by rw [cell_of_row w3 w.heap.size 0 _ _ _ hh]; rfl
      have c1 : w3.cell? ⟨w.heap.size, 1, none⟩ = some (.int .i64 0) := by rw [cell_of_row w3 w.heap.size 1 _ _ _ hh]; rfl
      have f0 : w3.frozen? ⟨w.heap.size, 0, none⟩ = false := by simp [World.frozen?, hh]
      have f1 : w3.frozen? ⟨w.heap.size, 1, none⟩ = false := by simp [World.frozen?, hh]
      have h2 := Lib.hid (heap_setCell_same (w3.setCell ⟨w.heap.size, 0, none⟩ (.string (textU (dg k i)))) w.heap.size 1 _ 29 (.int .i64 0) (heap_setCell_same w3 w.heap.size 0 _ 29 (.string (textU (dg k i))) hh))
      have hbl := Lib.hid (((Below.refl w.heap.size w).alloc (Nat.le_refl _) (.cells #[.string ⟨#[]⟩, .int .i64 0] 29)).trans (hb3'.mono (Nat.le_succ _)))
      clear hb3' hh hb3 hb2 hM
      go_wp2_with fail
      refine bodyPost_ret (results_cell_row rfl _ _ w.heap.size 29 #[.string (textU (dg k i)), .int .i64 0] (0, 0) _ rfl h2.out Tryz.underlying29 rfl infoKeyRow) rfl ?_
      exact ⟨k, rfl, hNd.out, (hbl.out.setCell (Nat.le_refl _) _).setCell (Nat.le_refl _) _⟩
end Go.Proofs.YtbodfdmmfaampaaGreatDoor

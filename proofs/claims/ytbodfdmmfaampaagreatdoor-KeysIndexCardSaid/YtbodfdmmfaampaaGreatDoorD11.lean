/-
  The contract of ftoa64 at whole numbers below 2^32, in the form 'e', the fewest digits.
-/
import Derived.Test.YtbodfdmmfaampaaGreatDoorD10
namespace Go.Proofs.YtbodfdmmfaampaaGreatDoor
open Go.RowKit
set_option maxHeartbeats 2000000
set_option maxRecDepth 100000

/-- the word of the float64 of i, which has k bits -/
def wordOf (i k : Nat) : Nat := (1022 + k) * 4503599627370496 + (i * 2 ^ (53 - k) - 4503599627370496)
theorem and_i64 (a b : Nat) (ha : a < 9223372036854775808) (hb : b < 9223372036854775808) : bits BinOp.and IntKind.i64 (a : Int) (b : Int) = ((a &&& b : Nat) : Int) := by
  have h0 : ∀ x : Nat, x < 9223372036854775808 → (BitVec.ofInt 64 (x : Int)).toNat = x := by
    intro x hx
    rw [BitVec.toNat_ofInt]
    omega
  show IntKind.i64.wrap ((BitVec.ofInt 64 (a : Int) &&& BitVec.ofInt 64 (b : Int)).toNat : Nat) = _
  rw [BitVec.toNat_and, h0 a ha, h0 b hb]
  have := Nat.and_le_left (n := a) (m := b)
  rw [IntKind.wrap_i64]; omega
theorem or_52 (F : Nat) (h : F < 4503599627370496) : F ||| 4503599627370496 = F + 4503599627370496 := by
  have h1 : F < 2 ^ 52 := h
  have h2 := Nat.two_pow_add_eq_or_of_lt h1 1
  rw [Nat.mul_one] at h2
  have e : (2 : Nat) ^ 52 = 4503599627370496 := by decide
  rw [e] at h2
  rw [Nat.or_comm, ← h2]; omega
theorem Pows.keep {w w' : World} (h : Pows w) (hb : Below w.heap.size w w') : Pows w' := by
  intro p h1 h2
  obtain ⟨c1, c2⟩ := h p h1 h2
  exact ⟨(hb.cell (p := ⟨5, (p + 348) * 2, none⟩) (lt_of_cell c1)).trans c1, (hb.cell (p := ⟨5, (p + 348) * 2 + 1, none⟩) (lt_of_cell c2)).trans c2⟩
theorem P10.keep {w w' : World} (h : P10 w) (hb : Below w.heap.size w w') : P10 w' := by
  intro i hi
  have c1 := h i hi
  exact (hb.cell (p := ⟨4, i, none⟩) (lt_of_cell c1)).trans c1
theorem zeros32 (j : Nat) (h : j < 32) : (#[.int .u8 0, .int .u8 0, .int .u8 0, .int .u8 0, .int .u8 0, .int .u8 0, .int .u8 0, .int .u8 0, .int .u8 0, .int .u8 0, .int .u8 0, .int .u8 0, .int .u8 0, .int .u8 0, .int .u8 0, .int .u8 0, .int .u8 0, .int .u8 0, .int .u8 0, .int .u8 0, .int .u8 0, .int .u8 0, .int .u8 0, .int .u8 0, .int .u8 0, .int .u8 0, .int .u8 0, .int .u8 0, .int .u8 0, .int .u8 0, .int .u8 0, .int .u8 0] : Array Value)[j]? = some (.int .u8 0) := by
  show ((List.replicate 32 (Value.int .u8 0)).toArray)[j]? = _
  rw [List.getElem?_toArray, List.getElem?_replicate, if_pos h]
theorem FB.back {w0 w : World} {b n u m v : Nat} (h : FB w0 b n u m v w) : FB w0 b n u n u w := ⟨Nat.le_refl _, by simp, h.2.2.1, h.2.2.2.1, fun j h1 h2 => by omega⟩
theorem own_below' {w w' : World} {B e size n : Nat} {v : Value} {xs : List Value} (h : w.ownsRow B e size v n xs) (hb : Below w.heap.size w w') : w'.ownsRow B e size v n xs :=
  h.kept (row := none) ⟨hb.os, hb.tape, hb.output, hb.size, fun k hk _ => hb.block k hk⟩ (by cases h : v.ownBlock with | none => exact .inl rfl | some q => exact .inr (by simp))
theorem c_ftoa64 (i k n B : Nat) (v0 : Value) (hk : 1 ≤ k) (hk2 : k ≤ 32) (hi : i < 2 ^ k) (hi0 : 2 ^ (k - 1) ≤ i) (hn : IsNd i n) (w : World) (hB : B ≤ w.heap.size) (h : w.ownsRow B 5 1 v0 0 (b8 [])) (hT : Pows w) (hP : P10 w) :
    Calls Tryz.prog 62 #[v0, .float .f64 (wordOf i k), .int .u8 101, .int .i64 (-1)] w fun r w' => ∃ (v' : Value) (m v : Nat), r = .returned v' ∧ 1 ≤ m ∧ m ≤ n ∧ i = v * 10 ^ (n - m) ∧ v % 10 ≠ 0 ∧ w'.ownsRow B 5 1 v' (sciB m v (n - 1)).length (b8 (sciB m v (n - 1))) ∧ Below B w w' := by
  have hF : 4503599627370496 ≤ i * 2 ^ (53 - k) ∧ i * 2 ^ (53 - k) < 9007199254740992 := by
    have e1 : (2 : Nat) ^ 53 = 2 ^ k * 2 ^ (53 - k) := by rw [← Nat.pow_add]; congr 1; omega
    have e2 : (2 : Nat) ^ 52 = 2 ^ (k - 1) * 2 ^ (53 - k) := by rw [← Nat.pow_add]; congr 1; omega
    have h1 : i * 2 ^ (53 - k) < 2 ^ k * 2 ^ (53 - k) := Nat.mul_lt_mul_of_pos_right hi (Nat.two_pow_pos _)
    have h2 : 2 ^ (k - 1) * 2 ^ (53 - k) ≤ i * 2 ^ (53 - k) := Nat.mul_le_mul_right _ hi0
    have e3 : (2 : Nat) ^ 53 = 9007199254740992 := by decide
    have e4 : (2 : Nat) ^ 52 = 4503599627370496 := by decide
    omega
  obtain ⟨hF1, hF2⟩ := hF
  have hm64 : i * 2 ^ (64 - k) = i * 2 ^ (53 - k) * 2048 := by
    have : 2 ^ (64 - k) = 2 ^ (53 - k) * 2048 := by rw [show (2048 : Nat) = 2 ^ 11 from rfl, ← Nat.pow_add]; congr 1; omega
    rw [this, Nat.mul_assoc]
  have hS := Lib.hid (fun w hT => d_short i k hk hk2 hi hi0 w hT)
  rw [hm64] at hS
  unfold wordOf
  generalize i * 2 ^ (53 - k) = M at *
  have hx : (1022 + k) * 4503599627370496 + (M - 4503599627370496) < 4751297606875873280 := by omega
  have x1 : ((1022 + k) * 4503599627370496 + (M - 4503599627370496)) / 4503599627370496 = 1022 + k := by omega
  have x2 : ((1022 + k) * 4503599627370496 + (M - 4503599627370496)) % 4503599627370496 = M - 4503599627370496 := by omega
  generalize (1022 + k) * 4503599627370496 + (M - 4503599627370496) = x at *
  have a1 : ((x : Int) / 9223372036854775808 != 0) = false := by
    have : (x : Int) / 9223372036854775808 = 0 := by omega
    rw [this]; rfl
  have a2 : (x : Int) / 4503599627370496 = ((1022 + k : Nat) : Int) := by omega
  have a3 : bits BinOp.and IntKind.i64 ((1022 + k : Nat) : Int) 2047 = ((1022 + k : Nat) : Int) := by
    have := and_i64 (1022 + k) 2047 (by omega) (by omega)
    rw [show (1022 + k) &&& 2047 = 1022 + k by
      rw [show (2047 : Nat) = 2 ^ 11 - 1 from rfl, Nat.and_two_pow_sub_one_eq_mod]; omega] at this
    exact this
  have a4 : bits BinOp.and IntKind.u64 (x : Int) 4503599627370495 = ((M - 4503599627370496 : Nat) : Int) := by
    have := bits_and_u64_nat x 4503599627370495 (by omega) (by omega)
    rw [show x &&& 4503599627370495 = M - 4503599627370496 by
      rw [show (4503599627370495 : Nat) = 2 ^ 52 - 1 from rfl, Nat.and_two_pow_sub_one_eq_mod, show (2 : Nat) ^ 52 = 4503599627370496 from rfl, x2]] at this
    exact this
  have a5 : bits BinOp.or IntKind.u64 ((M - 4503599627370496 : Nat) : Int) 4503599627370496 = (M : Int) := by
    have := bits_or_u64_nat (M - 4503599627370496) 4503599627370496 (by omega) (by omega)
    rw [or_52 _ (by omega), show M - 4503599627370496 + 4503599627370496 = M by omega] at this
    exact this
  have hr := r_f64bits x
  have hL : Hid (∀ w, Calls Tryz.prog 75 #[.int .u64 (M : Int)] w fun e w' => e = .returned (.int .i64 53) ∧ w = w') := by
    intro w
    have h1 := d_Len64 (M : Int) w (by omega) (by omega)
    have e64 : (2 : Nat) ^ 64 = 18446744073709551616 := by decide
    have e53 : (2 : Nat) ^ 53 = 9007199254740992 := by decide
    have e52 : (2 : Nat) ^ 52 = 4503599627370496 := by decide
    have et : (M : Int).toNat = M := by omega
    rw [et] at h1
    obtain ⟨b1, b2⟩ := bitLen_lib M (by omega)
    have b2 := b2 (by omega)
    have hl : Lib.bitLen M = 53 := by
      generalize Lib.bitLen M = L at *
      rcases Nat.lt_trichotomy L 53 with h | h | h
      · have := Nat.pow_le_pow_right (n := 2) (by decide) (show L ≤ 52 by omega); omega
      · exact h
      · have := Nat.pow_le_pow_right (n := 2) (by decide) (show 53 ≤ L - 1 by omega); omega
    rw [hl] at h1
    exact h1
  have x3 : ((1022 + k : Nat) : Int) = 1022 + (k : Int) := by omega
  rw [x3] at a2 a3
  have a6 : ((1022 + (k : Int)) == 2047) = false := by simp; omega
  have a7 : ((M : Int) == 0) = false := by simp; omega
  have a8 : ((1022 + (k : Int)) == 0) = false := by simp; omega
  have a9 : (1022 + (k : Int) + -1023 - 11 - 52) = (k : Int) - 64 := by omega
  have a10 : ((M * 2048 : Nat) : Int) = (M : Int) * 2048 := by omega
  rw [a10, ← a9] at hS
  have h5 : 5 < w.heap.size := lt_of_cell (hT 7 (by decide) (by decide)).1
  have hi' := Lib.hid hi
  clear x1 x2 x3 hm64 hF1 hi hi0 a9 a10
  replace h := Lib.hid h
  go_enter Tryz.func62, Tryz.ntmps62
  go_wp2_with fail
  go_quiet (fail)
  go_wp2_with (go_at_call 75; refine (hL.out _).mono ?_; rintro e w1 ⟨rfl, rfl⟩)
  have hbN : Below w.heap.size w (w.drewN nq) := below_drewN (Below.refl _ _) nq
  refine (hS.out _ ((hT.keep hbN).keep ((Below.refl _ _).alloc (Nat.le_refl _) _))).mono ?_
  rintro e w2 ⟨q, rfl, hq, hd, hb2⟩
  generalize hdd : i * 10 ^ q = d at *
  obtain ⟨m, v, hm1, hmn, hiv, hv, -⟩ := fw_trim n i hn.pos hn.2.2
  have hnq : IsNd d (n + q) := by rw [← hdd]; exact hn.shift q
  have hdv : d = v * 10 ^ (n + q - m) := by
    rw [← hdd, hiv, Nat.mul_assoc, ← Nat.pow_add]
    congr 2; omega
  have hn18 : n + q ≤ 18 := by
    rcases Nat.lt_or_ge 18 (n + q) with h' | h'
    · have := Nat.pow_le_pow_right (n := 10) (by decide) (show 18 ≤ n + q - 1 by omega)
      have := hnq.2.1
      have e : (10 : Nat) ^ 18 = 1000000000000000000 := by decide
      omega
    · exact h'
  have hFB : FB w w.heap.size (n + q) d (n + q) d w2 := by
    refine ⟨Nat.le_refl _, by simp, (hbN.alloc (Nat.le_refl _) _).trans (hb2.mono (by simp)), fun j hj => ⟨⟨.int .u8 0, ?_⟩, ?_⟩, fun j h1 h2 => by omega⟩
    · rw [hb2.cell (p := ⟨w.heap.size, j, none⟩) (by simp)]
      exact (World.cell?_alloc_at _ _ w.heap.size j rfl).trans (zeros32 j (by omega))
    · rw [hb2.frozen (p := ⟨w.heap.size, j, none⟩) (by simp)]
      exact World.frozen?_alloc_at _ _ w.heap.size j rfl
  have hdlt : d < 10 ^ (n + q) := hnq.2.2
  have hnd := Lib.hid (fun W (hW : FB w w.heap.size (n + q) d (n + q) d W) => c_numDigits' d (n + q) hnq hd W (hP.keep hW.2.2.1))
  have hsd := Lib.hid (fun W (hW : FB w w.heap.size (n + q) d (n + q) d W) => c_setDigits w.heap.size d (n + q) m v (-(q : Int)) (by omega) (by omega) (by omega) hdlt (by omega) hm1 (by omega) hdv hv w W hW)
  have hS0 : FB w w.heap.size (n + q) d (n + q) d w2.drew := hFB.draw
  replace hdd := Lib.hid hdd
  replace hiv := Lib.hid hiv
  replace hdv := Lib.hid hdv
  clear hnq hdlt hFB hb2
  go_wp2_with fail
  go_region_held3 (fun y => FB w w.heap.size (n + q) d (n + q) d y) (first | assumption | exact FB.back (by assumption)) (first | (go_at_call 78; refine (hnd.out _ (by assumption)).mono ?_; rintro e y' ⟨rfl, rfl⟩) | (go_at_call 77; refine (hsd.out _ (by assumption)).mono ?_; rintro e y' ⟨rfl, hfb⟩))
  rename_i y' _ hfb hzz
  have hbb := hfb.2.2.1
  have hown : y'.ownsRow B 5 1 v0 0 (b8 []) := own_below' h.out hbb
  have hbuf : Buf y' y' B w.heap.size v0 [] := by
    refine ⟨hown, fun e => ?_, Below.refl _ _, rfl, ?_⟩
    · have := (h.out.lt _ e).2
      omega
    · exact lt_of_cell (hfb.cell 0 (by omega))
  have hn10 : n ≤ 10 := by
    rcases Nat.lt_or_ge 10 n with h' | h'
    · have := Nat.pow_le_pow_right (n := 10) (by decide) (show 10 ≤ n - 1 by omega)
      have h2 := hn.2.1
      have h3 : i < 2 ^ 32 := Nat.lt_of_lt_of_le hi'.out (Nat.pow_le_pow_right (by decide) hk2)
      have e : (10 : Nat) ^ 10 = 10000000000 := by decide
      have e' : (2 : Nat) ^ 32 = 4294967296 := by decide
      omega
    · exact h'
  have hcell : ∀ (j u : Nat), (dg m v)[j]? = some u → y'.cell? ⟨w.heap.size, j, none⟩ = some (.int .u8 (u : Int)) := fun j u hj => FB.dg (n := n + q) (by omega) (by rw [← hdv.out]; exact hfb) j u hj
  have hE0 := c_efmt w.heap.size B m v (n - 1) v0 (by omega) hm1 (by omega) y' (Nat.le_trans hB hbb.size) hbuf hcell
  have f1 : ((n - 1 : Nat) : Int) + 1 = (n : Int) + (q : Int) + -(q : Int) := by have := hn.1; omega
  rw [f1] at hE0
  have hE := Lib.hid hE0
  have f2 : max ((m : Int) - 1) 0 = (m : Int) - 1 := by omega
  clear hE0 f1 hbuf hcell hzz hown
  replace hfb := Lib.hid hfb
  go_wp2_with (go_at_call 74; refine hE.out.mono ?_; rintro e w3 ⟨v', rfl, hb3⟩)
  go_ret
  exact ⟨v', m, v, rfl, hm1, hmn, hiv.out, hv, hb3.1, (hbb.mono hB).trans hb3.2.2.1⟩
end Go.Proofs.YtbodfdmmfaampaaGreatDoor

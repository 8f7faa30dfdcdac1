/-
  Contracts: The contract of the program's sticky: the float nearest to digits to any base (printed by gen_XVS.py). The contract of the program's exact, at digits to any base: the nearest float. Plain: decimal texts in their parts; what Read, Literal and Whole answer. The contract of the program's Read, at any text (printed by gen_XVV.py).
-/
import Derived.Test.YtbakbikilbaafaaGreatDoorS15
import Derived.Test.YtbakbikilbaafaaGreatDoorS14
namespace Go.Proofs.YtbakbikilbaafaaGreatDoor
open Go.RowKit F64 Ieee
set_option linter.unusedVariables false
set_option maxHeartbeats 4000000
set_option maxRecDepth 100000

theorem shl_ex {t : Nat} (ht0 : 0 < t) (ht : t < B64) : ∃ s : Nat, s ≤ 63 ∧ Lib.bitLen t = 64 - s ∧ 9223372036854775808 ≤ t * 2 ^ s ∧ t * 2 ^ s + 2 ^ s ≤ 18446744073709551616 ∧ 0 < 2 ^ s := by
  obtain ⟨b0, b1, b2, b3⟩ := bl_d ht0 ht
  refine ⟨64 - Lib.bitLen t, by omega, by omega, ?_, ?_, Nat.two_pow_pos _⟩
  · have h := Nat.mul_le_mul_right (2 ^ (64 - Lib.bitLen t)) b2
    rw [← Nat.pow_add, show Lib.bitLen t - 1 + (64 - Lib.bitLen t) = 63 by omega] at h
    exact h
  · have h := Nat.mul_le_mul_right (2 ^ (64 - Lib.bitLen t)) (show t + 1 ≤ 2 ^ Lib.bitLen t from b3)
    rw [← Nat.pow_add, show Lib.bitLen t + (64 - Lib.bitLen t) = 64 by omega, Nat.add_mul, Nat.one_mul] at h
    exact h
theorem top_one {t s : Nat} (hs : s ≤ 63) (h1 : 9223372036854775808 ≤ t * 2 ^ s) (h2 : t * 2 ^ s + 2 ^ s ≤ 18446744073709551616) (h3 : 0 < 2 ^ s) :
    wEK (1085 - (s : Int)) (rnd (t * 2 ^ s)) = nN (valW [t]) := by
  have h := nN_64 (N := t) (m := t * 2 ^ s) (R := 0) (s := s) (k := 0) (by simp) (by decide) h1 (by omega) (by omega)
  have e : valW [t] = t := by simp [valW]
  rw [e, ← h]
  unfold stk
  rw [if_pos rfl]
  congr 1
theorem top_two {lo : List Nat} {u t s : Nat} (hs : s ≤ 63) (h1 : 9223372036854775808 ≤ t * 2 ^ s) (h2 : t * 2 ^ s + 2 ^ s ≤ 18446744073709551616) (hu : u < B64) (hlo : ∀ x ∈ lo, x < B64) :
    u / 2 ^ (64 - s) < 2 ^ s ∧ (∀ q, q = (if orL lo (u * 2 ^ s % B64) = 0 then t * 2 ^ s + u / 2 ^ (64 - s) else (t * 2 ^ s + u / 2 ^ (64 - s)) ||| 1) → 9223372036854775808 ≤ q ∧ q < 18446744073709551616 ∧ wEK (1085 + ((64 * (lo.length + 1) : Nat) : Int) - (s : Int)) (rnd q) = nN (valW (lo ++ [u, t]))) := by
  have ht : t * 2 ^ s < B64 := by have := Nat.two_pow_pos s; unfold B64; omega
  obtain ⟨a1, a2, a3⟩ := two_words hlo hu hs ht
  refine ⟨a3, fun q hq => ?_⟩
  have hq2 : q = stk (t * 2 ^ s + u / 2 ^ (64 - s)) (u * 2 ^ s % B64 * B64 ^ lo.length + valW lo * 2 ^ s) := by
    rw [hq]
    unfold stk
    have e : (orL lo (u * 2 ^ s % B64) = 0) ↔ (u * 2 ^ s % B64 * B64 ^ lo.length + valW lo * 2 ^ s = 0) := by
      rw [orL_zero]
      have p1 : 0 < B64 ^ lo.length := Nat.pow_pos (by decide)
      have p2 : 0 < 2 ^ s := Nat.two_pow_pos s
      constructor
      · rintro ⟨r1, r2⟩; rw [r1, r2]; simp
      · intro h
        have m1 : u * 2 ^ s % B64 * B64 ^ lo.length = 0 := by omega
        have m2 : valW lo * 2 ^ s = 0 := by omega
        rcases Nat.mul_eq_zero.1 m1 with g | g
        · rcases Nat.mul_eq_zero.1 m2 with g2 | g2
          · exact ⟨g, g2⟩
          · omega
        · omega
    by_cases h : orL lo (u * 2 ^ s % B64) = 0
    · rw [if_pos h, if_pos (e.1 h)]
    · rw [if_neg h, if_neg (fun g => h (e.2 g))]
  have hm2 : t * 2 ^ s + u / 2 ^ (64 - s) < 18446744073709551616 := by omega
  have hm1 : 9223372036854775808 ≤ t * 2 ^ s + u / 2 ^ (64 - s) := Nat.le_trans h1 (Nat.le_add_right _ _)
  obtain ⟨s1, s2⟩ := stk_le (t * 2 ^ s + u / 2 ^ (64 - s)) (u * 2 ^ s % B64 * B64 ^ lo.length + valW lo * 2 ^ s)
  rw [← hq2] at s1 s2
  have h := nN_64 a1 a2 hm1 hm2 (by omega)
  rw [← hq2] at h
  refine ⟨Nat.le_trans hm1 s1, ?_, h⟩
  generalize t * 2 ^ s + u / 2 ^ (64 - s) = m at *
  omega
theorem shl_u64 (t s : Nat) (h : t * 2 ^ s < 18446744073709551616) : IntKind.u64.wrap ((t : Int) * 2 ^ s) = ((t * 2 ^ s : Nat) : Int) := by
  have e : (t : Int) * 2 ^ s = ((t * 2 ^ s : Nat) : Int) := by rw [Int.natCast_mul, Int.natCast_pow]; rfl
  rw [e]
  generalize t * 2 ^ s = y at *
  rw [IntKind.wrap_u64]
  omega
theorem shl_m64 (t s : Nat) : IntKind.u64.wrap ((t : Int) * 2 ^ s) = ((t * 2 ^ s % 18446744073709551616 : Nat) : Int) := by
  have e : (t : Int) * 2 ^ s = ((t * 2 ^ s : Nat) : Int) := by rw [Int.natCast_mul, Int.natCast_pow]; rfl
  rw [e]
  generalize t * 2 ^ s = y at *
  rw [IntKind.wrap_u64]
  omega
theorem or_top (t s b : Nat) (h : t * 2 ^ s + 2 ^ s ≤ 18446744073709551616) (hb : b < 2 ^ s) : bits BinOp.or IntKind.u64 ((t * 2 ^ s : Nat) : Int) (b : Int) = ((t * 2 ^ s + b : Nat) : Int) := by
  rw [bits_or_u64_nat _ _ (by omega) (by omega)]
  congr 1
  rw [Nat.mul_comm t (2 ^ s)]
  exact (Nat.two_pow_add_eq_or_of_lt hb t).symm
theorem or_one64 (m : Nat) (h : m < 18446744073709551616) : bits BinOp.or IntKind.u64 (m : Int) 1 = ((m ||| 1 : Nat) : Int) := by
  have := bits_or_u64_nat m 1 h (by decide)
  exact this
theorem or_lt64 {a b : Nat} (ha : a < 18446744073709551616) (hb : b < 18446744073709551616) : a ||| b < 18446744073709551616 := Nat.or_lt_two_pow (n := 64) (by omega) (by omega)
theorem orL_lt : ∀ (l : List Nat) (a : Nat), a < 18446744073709551616 → (∀ x ∈ l, x < B64) → orL l a < 18446744073709551616
  | [], a, h, _ => h
  | x :: l, a, h, hl => orL_lt l (a ||| x) (or_lt64 h (hl x (List.mem_cons_self ..))) (fun y hy => hl y (List.mem_cons_of_mem _ hy))
theorem words_form (W : List Nat) : W = [] ∨ (∃ t, W = [t]) ∨ ∃ lo u t, W = lo ++ [u, t] := by
  rcases List.eq_nil_or_concat W with h | ⟨A, t, h⟩
  · exact .inl h
  · rcases List.eq_nil_or_concat A with g | ⟨lo, u, g⟩
    · subst g; exact .inr (.inl ⟨t, by simpa using h⟩)
    · subst g; exact .inr (.inr ⟨lo, u, t, by simpa using h⟩)
/-- rounded, then Ldexp -/
theorem c_rl (q : Nat) (k : Int) (h1 : 9223372036854775808 ≤ q) (h2 : q < 18446744073709551616) (hk1 : -1085 ≤ k) (hk2 : k ≤ 1000000) :
    ∃ R0 : Nat, (∀ W, Calls Tryz.prog 111 #[.int .u64 (q : Int)] W fun e w' => e = .returned (.float .f64 R0) ∧ W = w') ∧ (∀ W, Calls Tryz.prog 110 #[.float .f64 R0, .int .i64 k] W fun e w' => e = .returned (.float .f64 (wEK (1085 + k) (rnd q))) ∧ W = w') := by
  obtain ⟨rk1, rk2⟩ := rnd_le h1 h2
  have hw85 : wEK 1085 (rnd q) = 1085 * 4503599627370496 + rnd q := by
    unfold wEK
    rw [show (1085 : Int).toNat = 1085 from rfl, if_pos (by omega)]
  refine ⟨_, fun W => c_drounded q h1 h2 W, fun W => ?_⟩
  have := c_LdexpG 1085 (rnd q) k rk1 rk2 (by omega) hk2 (by decide) W
  rw [hw85]
  rw [show k + ((1085 : Nat) : Int) = 1085 + k by omega] at this
  exact this
theorem c_dsticky (L : List Nat) (base : Nat) (hb : 2 ≤ base) (hb2 : base ≤ 36) (hL : ∀ c ∈ L, c < 256 ∧ wth c < base) (hl : L.length ≤ 10000) (w : World) :
    Calls Tryz.prog 76 #[.string (u8sG L), .int .i64 (base : Int)] w fun r w' => r = .returned (.float .f64 (nN (numB base L))) ∧ Below w.heap.size w w' := by
  have hval := Lib.hid (valW_stk base L)
  have hlast := Lib.hid (stkW_last (base := base) (l := L) (by omega) hb2 (fun c hc => (hL c hc).2))
  have hltW := Lib.hid (stkW_lt (base := base) (l := L) (by omega) hb2 (fun c hc => (hL c hc).2) L.length)
  rw [List.take_length] at hltW
  have hlenW := Lib.hid (stkW_len base L)
  generalize hV : nN (numB base L) = V at *
  replace hV := Lib.hid hV
  obtain ⟨i0, hi0, hz0, hz1, hz2⟩ := info_parts infoU64
  have hsz : (u8sG L).size = L.length := uG_size L
  have hget := Lib.hid (fun j c (h1 : L[j]? = some c) (h2 : c < 256) h3 => uG_get L j c h1 h2 h3)
  have hwl := Lib.hid (stkW_lt (base := base) (l := L) (by omega) hb2 (fun c hc => (hL c hc).2))
  have hst := Lib.hid (stkW_snoc base L)
  have hwlen := Lib.hid (fun k => stkW_len base (L.take k))
  have hW := Lib.hid (fun (c : Nat) (hc : c < 256) W => c_dworth c hc W)
  have hM := Lib.hid (fun x (hx : x < 18446744073709551616) W => d_Mul64 x base hx (by omega) W)
  have hA := r_Add64
  have hLc := Lib.hid hL
  have hszl : (u8sG L).size ≤ 10000000 := by omega
  replace hsz := Lib.hid hsz
  generalize u8sG L = S at *
  clear hL
  go_enter Tryz.func76, Tryz.ntmps76
  go_wp2
  go_loopw [5, 19] (fun v5 v19 wr => ∃ j : Nat, j ≤ L.length ∧ v19 = .int .i64 (j : Int) ∧ wr.ownsRow w.heap.size 102 1 v5 (stkW base (L.take j)).length (u64s (stkW base (L.take j))) ∧ Below w.heap.size w wr) (fun _ v19 _ => L.length - (intOf v19).toNat)
  case atStart => exact ⟨0, Nat.zero_le _, rfl, World.ownsRow_nil _ _ _ _, Below.refl _ _⟩
  case round =>
    obtain ⟨j, hj, rfl, hown, hbel⟩ := hrel
    by_cases hjl : j < L.length
    · obtain ⟨c, hc⟩ : ∃ c, L[j]? = some c := ⟨L[j], List.getElem?_eq_getElem hjl⟩
      obtain ⟨hc1, hc2⟩ := hLc.out c (List.mem_of_getElem? hc)
      have hjs : j < S.size := by have := hsz.out; omega
      have hg := hget.out j c hc hc1 hjs
      have hjI : (j : Int) < (S.size : Int) := by omega
      have hWc := Lib.hid (fun W => hW.out c hc1 W)
      have hs := Lib.hid (hst.out j c hc)
      have hlt := Lib.hid (hwl.out j)
      have hwn := hwlen.out j
      rw [List.length_take] at hwn
      generalize stkW base (L.take j) = ws at *
      generalize wth c = d at *
      have hwn2 : ws.length ≤ 10000000 := by omega
      replace hwn := Lib.hid hwn
      have hIn : ∀ k, (inW base ws d k).length = ws.length ∨ ws.length < k := fun k => by
        rcases Nat.lt_or_ge ws.length k with h | h
        · exact .inr h
        · exact .inl (inW_len base ws d k h)
      have hIg := Lib.hid (inW_get base ws d)
      have hIs := Lib.hid (inW_set base ws d)
      have hMs := Lib.hid (fun k x (h : ws[k]? = some x) => mulA_snoc base ws k x d h)
      have hMc := Lib.hid (fun k => mulA_carry base (by omega) (ws.take k) d hc2 (fun x hx => hlt.out x (List.mem_of_mem_take hx)))
      have hstep : Hid (stepW base ws d = if (mulA base (ws.take ws.length) d).2 = 0 then inW base ws d ws.length else inW base ws d ws.length ++ [(mulA base (ws.take ws.length) d).2]) := by
        show _ = _
        unfold stepW inW
        rw [List.take_length, List.drop_length, List.append_nil]
      have hI0 : inW base ws d 0 = ws := by unfold inW; simp [mulA]
      have hM0 : (mulA base (ws.take 0) d).2 = d := by simp [mulA]
      obtain ⟨p, cap, rfl⟩ : ∃ p cap, u5 = .slice p ws.length cap := by
        rcases hown.2 with ⟨rfl, h0⟩ | ⟨g, cap, cur, rfl, _⟩
        · exact ⟨none, 0, by rw [h0]⟩
        · exact ⟨_, _, rfl⟩
      rw [← hI0] at hown
      replace hI0 := Lib.hid hI0
      replace hM0 := Lib.hid hM0
      replace hIn := Lib.hid hIn
      have hown := Lib.hid hown
      replace hbel := Lib.hid hbel
      clear hc hc1
      go_wp2_with (go_at_call 46; refine (hWc.out _).mono ?_; rintro e w' ⟨rfl, rfl⟩)
      go_loopw [7, 29] (fun v7 v29 wi => ∃ k : Nat, k ≤ ws.length ∧ v29 = .int .i64 (k : Int) ∧ v7 = .int .u64 ((mulA base (ws.take k) d).2 : Int) ∧ wi.ownsRow w.heap.size 102 1 (.slice p ws.length cap) ws.length (u64s (inW base ws d k)) ∧ Below w.heap.size w wi) (fun _ v29 _ => ws.length - (intOf v29).toNat)
      case atStart => exact ⟨0, Nat.zero_le _, rfl, by rw [hM0.out], by rw [hI0.out] at hown ⊢; exact hown.out, hbel.out⟩
      case round =>
        obtain ⟨k, hk, rfl, rfl, hown, hbel⟩ := hrel
        by_cases hkl : k < ws.length
        · obtain ⟨x, hx⟩ : ∃ x, ws[k]? = some x := ⟨ws[k], List.getElem?_eq_getElem hkl⟩
          have hxB : x < 18446744073709551616 := hlt.out x (List.mem_of_getElem? hx)
          have hset := Lib.hid (hIs.out k x hx)
          have hms := Lib.hid (hMs.out k x hx)
          have hmc := hMc.out k
          have hIgk := hIg.out k hkl
          rw [hx] at hIgk
          obtain ⟨g, cap2, e1, hr⟩ := hown.form (by omega)
          injection e1 with e1 _ e2
          subst e1 e2
          have hcell := World.ownsRow.cells hown (g := g) rfl k (.int .u64 (x : Int)) (by simp [u64s, hIgk])
          rw [add_zero_addr] at hcell
          have hfz := World.ownsRow.frozenAt hown k
          obtain ⟨hown2, hgr⟩ := World.ownsRow.stored hown k (.int .u64 (((x * base + (mulA base (ws.take k) d).2) % B64 : Nat) : Int))
          rw [u64s_set, hset.out] at hown2
          have hbel2 : Below w.heap.size w (wr.setCell ⟨g, k, none⟩ (.int .u64 (((x * base + (mulA base (ws.take k) d).2) % B64 : Nat) : Int))) := hbel.grown hgr hbel.size (own_base hown)
          have hms2 : (mulA base (ws.take (k + 1)) d).2 = (x * base + (mulA base (ws.take k) d).2) / B64 := by rw [hms.out]
          rw [show B64 = 18446744073709551616 from rfl] at hms2 hown2 hbel2
          have hMx := Lib.hid (fun W => hM.out x hxB W)
          generalize (mulA base (ws.take k) d).2 = cr at *
          have hAx := Lib.hid (hA (x * base % 18446744073709551616) cr)
          have hyb : x * base ≤ 18446744073709551615 * 36 := Nat.mul_le_mul (by omega) hb2
          have q0 : (x * base % 18446744073709551616 + cr) % 18446744073709551616 = (x * base + cr) % 18446744073709551616 := by omega
          have q1 : x * base / 18446744073709551616 + (x * base % 18446744073709551616 + cr) / 18446744073709551616 = (x * base + cr) / 18446744073709551616 := by omega
          have q2 : x * base / 18446744073709551616 + (x * base % 18446744073709551616 + cr) / 18446744073709551616 < 100 := by omega
          rw [← q0] at hown2 hbel2
          rw [← q1] at hms2
          generalize x * base / 18446744073709551616 = y1 at *
          generalize x * base % 18446744073709551616 = y0 at *
          generalize (y0 + cr) % 18446744073709551616 = z0 at *
          generalize (y0 + cr) / 18446744073709551616 = z1 at *
          have hAx := hAx.out
          have hkI : (k : Int) < (ws.length : Int) := by omega
          replace hown2 := Lib.hid hown2
          replace hms2 := Lib.hid hms2
          clear q0 q1 hyb hown hgr hms hset hx hIgk hxB hmc hA hr
          go_wp2_with (go_at_call 107; refine (hMx.out _).mono ?_; rintro e w' ⟨rfl, rfl⟩)
          exact ⟨⟨k + 1, by omega, by go_num, by rw [hms2.out, Int.natCast_add], hown2.out, hbel2⟩, by simp [intOf]; omega⟩
        · obtain rfl : k = ws.length := by omega
          have hst2 := hs.out.trans hstep.out
          have hcr := hMc.out ws.length
          clear hstep hs
          have hkI : ¬ ((ws.length : Nat) : Int) < (ws.length : Int) := by omega
          have hlen := inW_len base ws d ws.length (Nat.le_refl _)
          generalize (mulA base (ws.take ws.length) d).2 = cr at *
          generalize inW base ws d ws.length = vs at *
          clear hIg hIs hMs hMc hA hI0 hM0 hIn
          by_cases h0 : cr = 0
          · rw [if_pos h0] at hst2
            subst h0
            rw [← hlen, ← hst2] at hown
            rw [← hlen, ← hst2]
            replace hown := Lib.hid hown
            clear hst2 hlen
            have hkI2 : ¬ ((stkW base (L.take (j + 1))).length : Int) < ((stkW base (L.take (j + 1))).length : Int) := by omega
            go_wp2_with fail
            go_roundw
            case rel => exact ⟨j + 1, by omega, by go_num, hown.out, hbel⟩
            case measure => simp [intOf]; omega
          · rw [if_neg h0] at hst2
            have hcr0 : 0 < cr := by omega
            have hcB : u64s vs ++ [.int .u64 (cr : Int)] = u64s (stkW base (L.take (j + 1))) := by rw [hst2]; simp [u64s]
            have hsl : (stkW base (L.take (j + 1))).length = ws.length + 1 := by rw [hst2]; simp [hlen]
            replace hcB := Lib.hid hcB
            replace hsl := Lib.hid hsl
            clear hst2 h0 hlen
            go_wp2_with (at_builtin; refine wpList_append_lies _ (by rfl) _ _ _ (by rfl) w.heap.size 102 i0 _ 1 8 Tryz.underlying121 hi0 hz0 hz1 hz2 rfl (by omega) (.slice p ws.length cap) ws.length (u64s vs) (by rfl) (hown.alloc _) ⟨wr.heap.size, 0, none⟩ 1 1 [.int .u64 (cr : Int)] (by rfl) (by rfl) (World.news_of_block (cs := #[.int .u64 (cr : Int)]) (t := 102) (fr := (0, 0)) (by exact heap_alloc_new wr _)) (by simp [Value.oneCell']) (by omega) (by unfold maxLen; omega) (by omega) (by have := hbel.size; simp; omega) (wr.heap.size + 1) (by simp) ?_; intro gg cap2 w2 hown2 hgrow hat hlt2)
            have hown3 : w2.ownsRow w.heap.size 102 1 (.slice (some ⟨gg, 0, none⟩) (ws.length + 1) cap2) (stkW base (L.take (j + 1))).length (u64s (stkW base (L.take (j + 1)))) := by
              rw [← hcB.out, hsl.out]; exact hown2
            have hbel2 : Below w.heap.size w w2 := (hbel.alloc hbel.size _).grown hgrow (by have := hbel.size; simp; omega) (own_base hown)
            clear hown2 hgrow
            go_roundw
            case rel => exact ⟨j + 1, by omega, by go_num, hown3, hbel2⟩
            case measure => simp [intOf]; omega
    · obtain rfl : j = L.length := by omega
      rw [List.take_length] at hown
      have hjI : ¬ (L.length : Int) < (S.size : Int) := by have := hsz.out; omega
      have hvalW := Lib.hid hval.out
      clear hM hW hLc hst hwlen hwl hget hsz
      generalize stkW base L = W at *
      rcases words_form W with rfl | ⟨t, rfl⟩ | ⟨lo, u, t, rfl⟩
      · have hr : Hid (V = 0) := by
          show _ = _
          rw [← hV.out, ← hvalW.out]; exact nN_zero
        obtain ⟨p, cap, rfl⟩ : ∃ p cap, u5 = .slice p 0 cap := by
          rcases hown.2 with ⟨rfl, h0⟩ | ⟨g, cap, cur, rfl, _⟩
          · exact ⟨none, 0, rfl⟩
          · exact ⟨_, _, rfl⟩
        clear hval hvalW hV hown hlast hltW hlenW
        go_wp2_with fail
        go_ret
        exact ⟨by rw [hr.out]; rfl, hbel⟩
      · have ht0 : 0 < t := Nat.pos_of_ne_zero (hlast.out t rfl)
        have htB : t < B64 := hltW.out t (by simp)
        obtain ⟨s, hs, hbl, hv1, hv2, hs0⟩ := shl_ex ht0 htB
        have hvB : t < 18446744073709551616 := htB
        have hLZ := Lib.hid (fun W => s_LZ64 (t : Int) W (by omega) (by omega))
        rw [Int.toNat_natCast, hbl, show (64 : Int) - ((64 - s : Nat) : Int) = (s : Int) by omega] at hLZ
        obtain ⟨R0, hR1, hR2⟩ := c_rl (t * 2 ^ s) (-(s : Int)) hv1 (by omega) (by omega) (by omega)
        have hr := top_one hs hv1 hv2 hs0
        rw [hvalW.out, hV.out] at hr
        rw [show (1085 : Int) + -(s : Int) = 1085 - (s : Int) by omega, hr] at hR2
        have hshl := shl_u64 t s (by omega)
        replace hR1 := Lib.hid hR1
        replace hR2 := Lib.hid hR2
        have n0 : ((t * 2 ^ s : Nat) : Int) ≠ 0 := by omega
        generalize t * 2 ^ s = mm at *
        obtain ⟨g, cap, rfl, hr2⟩ := hown.form (by simp)
        have hcell := World.ownsRow.cells hown (g := g) rfl 0 (.int .u64 (t : Int)) rfl
        rw [add_zero_addr] at hcell
        clear hval hvalW hV hown hlast hltW hlenW hr hr2 hbl n0
        go_wp2_with (go_at_call 109; refine (hLZ.out _).mono ?_; rintro e w' ⟨rfl, rfl⟩)
        go_loop [15, 16] (fun v15 v16 => v15 = .int .u64 0 ∧ v16 = .int .i64 0) (fun _ _ => 0)
        case atStart => exact ⟨rfl, rfl⟩
        case round =>
          obtain ⟨rfl, rfl⟩ := hrel
          go_wp2_with (first | (go_at_call 111; refine (hR1.out _).mono ?_; rintro e w'' ⟨rfl, rfl⟩) | (go_at_call 110; refine (hR2.out _).mono ?_; rintro e w'' ⟨rfl, rfl⟩))
          go_ret
          exact ⟨rfl, hbel⟩
      · have ht0 : 0 < t := Nat.pos_of_ne_zero (hlast.out t (by simp))
        have htB : t < B64 := hltW.out t (by simp)
        have huB : u < B64 := hltW.out u (by simp)
        have hlo : ∀ x ∈ lo, x < B64 := fun x hx => hltW.out x (List.mem_append_left _ hx)
        obtain ⟨s, hs, hbl, hv1, hv2, hs0⟩ := shl_ex ht0 htB
        have hvB : t < 18446744073709551616 := htB
        have huB2 : u < 18446744073709551616 := huB
        have hLZ := Lib.hid (fun W => s_LZ64 (t : Int) W (by omega) (by omega))
        rw [Int.toNat_natCast, hbl, show (64 : Int) - ((64 - s : Nat) : Int) = (s : Int) by omega] at hLZ
        obtain ⟨hq0, hq⟩ := top_two hs hv1 hv2 huB hlo
        rw [hvalW.out, hV.out] at hq
        have hlen2 : lo.length ≤ 10000 := by have := hlenW.out; simp at this; omega
        have hshl := shl_u64 t s (by omega)
        have hshm := shl_m64 u s
        have hort := or_top t s (u / 2 ^ (64 - s)) hv2 hq0
        obtain ⟨g, cap, rfl, hr2⟩ := hown.form (by simp)
        have hcells := World.ownsRow.cells hown (g := g) rfl
        have hct := hcells (lo.length + 1) (.int .u64 (t : Int)) (by simp [u64s])
        have hcu := hcells lo.length (.int .u64 (u : Int)) (by simp [u64s])
        have hck := Lib.hid (fun (k x : Nat) (h : lo[k]? = some x) => (add_zero_addr g k ▸ hcells k (.int .u64 (x : Int)) (by rw [u64s, List.getElem?_map, List.getElem?_append_left (List.getElem?_eq_some_iff.1 h).1, h]; rfl) : wr.cell? ⟨g, k, none⟩ = some (.int .u64 (x : Int))))
        have hol := Lib.hid (fun k => orL_lt (lo.take k) (u * 2 ^ s % B64) (Nat.mod_lt _ (by decide)) (fun x hx => hlo x (List.mem_of_mem_take hx)))
        have hot := Lib.hid (fun (k x : Nat) (h : lo[k]? = some x) => orL_take (a := u * 2 ^ s % B64) h)
        have hoe : Hid (orL (lo.take lo.length) (u * 2 ^ s % B64) = orL lo (u * 2 ^ s % B64)) := by show _ = _; rw [List.take_length]
        have ho0 : Hid (orL (lo.take 0) (u * 2 ^ s % B64) = u * 2 ^ s % B64) := rfl
        have hloB := Lib.hid hlo
        have hsh : (u : Int) / 2 ^ (64 - s) = ((u / 2 ^ (64 - s) : Nat) : Int) := by rw [Int.natCast_ediv, Int.natCast_pow]; rfl
        have hs64 : (64 : Int) - (s : Int) = ((64 - s : Nat) : Int) := by omega
        have hlenc : (lo ++ [u, t]).length = lo.length + 2 := by simp
        rw [hlenc] at hown ⊢
        have htop : (lo.length : Int) + 2 - 1 = (lo.length : Int) + 1 := by omega
        have htop2 : (lo.length : Int) + 1 - 1 = (lo.length : Int) := by omega
        have htn : ((lo.length : Int) + 1).toNat = lo.length + 1 := by omega
        have htg : (0 : Int) < (lo.length : Int) + 1 := by omega
        have htl : (lo.length : Int) + 1 < (lo.length : Int) + 2 := by omega
        have htl0 : (lo.length : Int) < (lo.length : Int) + 2 := by omega
        have htl1 : (0 : Int) ≤ (lo.length : Int) + 1 := by omega
        rw [add_zero_addr] at hct hcu
        have hu0 : Hid (s = 0 → u * 2 ^ s % B64 = u ∧ u / 2 ^ (64 - s) = 0) := fun h => by
          subst h
          exact ⟨by rw [Nat.pow_zero, Nat.mul_one]; exact Nat.mod_eq_of_lt huB, Nat.div_eq_of_lt huB⟩
        have hm1 : t * 2 ^ s + u / 2 ^ (64 - s) < 18446744073709551616 := by omega
        have hoo := or_one64 _ hm1
        have hB64 : B64 = 18446744073709551616 := rfl
        have hts : (t : Int) * 2 ^ s = ((t * 2 ^ s : Nat) : Int) := by rw [Int.natCast_mul, Int.natCast_pow]; rfl
        rw [← hts] at hort
        clear hts
        generalize hz : 64 - s = z at *
        have hz64 : z ≤ 64 := by omega
        rw [← hsh] at hort
        clear hz hsh
        replace hq := Lib.hid hq
        have h14 : Hid ((t : Int) * 2 ^ s + (u : Int) / 2 ^ z = ((t * 2 ^ s + u / 2 ^ z : Nat) : Int)) := by
          show _ = _
          rw [Int.natCast_add, Int.natCast_mul, Int.natCast_pow, Int.natCast_ediv, Int.natCast_pow]; rfl
        have h15 : Hid ((u : Int) * 2 ^ s % 18446744073709551616 = ((u * 2 ^ s % B64 : Nat) : Int)) := by
          show _ = _
          rw [Int.natCast_emod, Int.natCast_mul, Int.natCast_pow]; rfl
        clear hval hvalW hV hown hlast hltW hlenW hr2 hbl hcells hlo hlenc
        generalize hMM : t * 2 ^ s + u / 2 ^ z = M at *
        generalize hr0 : u * 2 ^ s % B64 = r0 at *
        by_cases hsp : 0 < s
        · clear hu0
          have hspI : (0 : Int) < (s : Int) := by omega
          go_wp2_with (go_at_call 109; refine (hLZ.out _).mono ?_; rintro e w' ⟨rfl, rfl⟩)
          rw [h15.out]
          clear hct hcu hshl hshm hort
          go_loop [15, 16] (fun v15 v16 => ∃ k : Nat, k ≤ lo.length ∧ v15 = .int .u64 (orL (lo.take k) r0 : Int) ∧ v16 = .int .i64 (k : Int)) (fun _ v16 => lo.length - (intOf v16).toNat)
          case atStart => exact ⟨0, Nat.zero_le _, by rw [ho0.out], rfl⟩
          case round =>
            obtain ⟨k, hk, rfl, rfl⟩ := hrel
            by_cases hkl : k < lo.length
            · obtain ⟨x, hx⟩ : ∃ x, lo[k]? = some x := ⟨lo[k], List.getElem?_eq_getElem hkl⟩
              have hxB : x < 18446744073709551616 := hloB.out x (List.mem_of_getElem? hx)
              have hc1 := hck.out k x hx
              have hok := hol.out k
              have hor := bits_or_u64_nat _ _ hok hxB
              have ho1 := hot.out k x hx
              rw [← ho1] at hor
              replace ho1 := Lib.hid ho1
              have hkI : (k : Int) < (lo.length : Int) := by omega
              have hkI2 : (k : Int) < (lo.length : Int) + 2 := by omega
              generalize orL (lo.take k) r0 = o1 at *
              generalize hq1 : orL (lo.take (k + 1)) r0 = o2 at *
              replace hq1 := Lib.hid hq1
              clear hx
              go_wp2_with fail
              exact ⟨⟨k + 1, by omega, by rw [hq1.out], by go_num⟩, by simp [intOf]; omega⟩
            · obtain rfl : k = lo.length := by omega
              have hkI : ¬ (lo.length : Int) < (lo.length : Int) := by omega
              have hok := hol.out lo.length
              rw [hoe.out] at hok
              rw [hoe.out]
              clear hck hot hoe ho0 hol hloB
              generalize orL lo r0 = oo at *
              by_cases hz0 : oo = 0
              · have hq2 := hq.out M (by rw [if_pos hz0])
                obtain ⟨R0, hR1, hR2⟩ := c_rl M (64 * ((lo.length : Int) + 1) - (s : Int)) hq2.1 hq2.2.1 (by omega) (by omega)
                have hr := hq2.2.2
                rw [show (1085 : Int) + ((64 * (lo.length + 1) : Nat) : Int) - (s : Int) = 1085 + (64 * ((lo.length : Int) + 1) - (s : Int)) by omega] at hr
                rw [hr] at hR2
                replace hR1 := Lib.hid hR1
                replace hR2 := Lib.hid hR2
                subst hz0
                clear hq hr hq2 hoo
                go_wp2_with (first | (go_at_call 111; refine (hR1.out _).mono ?_; rintro e w'' ⟨rfl, rfl⟩) | (go_at_call 110; refine (hR2.out _).mono ?_; rintro e w'' ⟨rfl, rfl⟩))
                go_ret
                exact ⟨rfl, hbel⟩
              · have n1 : ((oo : Int) != 0) = true := by simp; omega
                have hq2 := hq.out (M ||| 1) (by rw [if_neg hz0])
                obtain ⟨R0, hR1, hR2⟩ := c_rl (M ||| 1) (64 * ((lo.length : Int) + 1) - (s : Int)) hq2.1 hq2.2.1 (by omega) (by omega)
                have hr := hq2.2.2
                rw [show (1085 : Int) + ((64 * (lo.length + 1) : Nat) : Int) - (s : Int) = 1085 + (64 * ((lo.length : Int) + 1) - (s : Int)) by omega] at hr
                rw [hr] at hR2
                replace hR1 := Lib.hid hR1
                replace hR2 := Lib.hid hR2
                generalize M ||| 1 = M1 at *
                clear hq hr hq2 hz0
                go_wp2_with (first | (go_at_call 111; refine (hR1.out _).mono ?_; rintro e w'' ⟨rfl, rfl⟩) | (go_at_call 110; refine (hR2.out _).mono ?_; rintro e w'' ⟨rfl, rfl⟩))
                go_ret
                exact ⟨rfl, hbel⟩
        · obtain rfl : s = 0 := by omega
          obtain ⟨hu1, hu2⟩ := hu0.out rfl
          rw [hu2, Nat.add_zero, Nat.pow_zero, Nat.mul_one] at hMM
          have e14 : Hid ((t : Int) = (M : Int)) := by show _ = _; rw [hMM]
          have e15 : Hid ((u : Int) = (r0 : Int)) := by show _ = _; rw [hu1]
          clear hu0 hu1 hu2 hMM hr0
          go_wp2_with (go_at_call 109; refine (hLZ.out _).mono ?_; rintro e w' ⟨rfl, rfl⟩)
          rw [e14.out, e15.out]
          clear hct hcu hshl hshm hort
          go_loop [15, 16] (fun v15 v16 => ∃ k : Nat, k ≤ lo.length ∧ v15 = .int .u64 (orL (lo.take k) r0 : Int) ∧ v16 = .int .i64 (k : Int)) (fun _ v16 => lo.length - (intOf v16).toNat)
          case atStart => exact ⟨0, Nat.zero_le _, by rw [ho0.out], rfl⟩
          case round =>
            obtain ⟨k, hk, rfl, rfl⟩ := hrel
            by_cases hkl : k < lo.length
            · obtain ⟨x, hx⟩ : ∃ x, lo[k]? = some x := ⟨lo[k], List.getElem?_eq_getElem hkl⟩
              have hxB : x < 18446744073709551616 := hloB.out x (List.mem_of_getElem? hx)
              have hc1 := hck.out k x hx
              have hok := hol.out k
              have hor := bits_or_u64_nat _ _ hok hxB
              have ho1 := hot.out k x hx
              rw [← ho1] at hor
              replace ho1 := Lib.hid ho1
              have hkI : (k : Int) < (lo.length : Int) := by omega
              have hkI2 : (k : Int) < (lo.length : Int) + 2 := by omega
              generalize orL (lo.take k) r0 = o1 at *
              generalize hq1 : orL (lo.take (k + 1)) r0 = o2 at *
              replace hq1 := Lib.hid hq1
              clear hx
              go_wp2_with fail
              exact ⟨⟨k + 1, by omega, by rw [hq1.out], by go_num⟩, by simp [intOf]; omega⟩
            · obtain rfl : k = lo.length := by omega
              have hkI : ¬ (lo.length : Int) < (lo.length : Int) := by omega
              have hok := hol.out lo.length
              rw [hoe.out] at hok
              rw [hoe.out]
              clear hck hot hoe ho0 hol hloB
              generalize orL lo r0 = oo at *
              by_cases hz0 : oo = 0
              · have hq2 := hq.out M (by rw [if_pos hz0])
                obtain ⟨R0, hR1, hR2⟩ := c_rl M (64 * ((lo.length : Int) + 1) - ((0 : Nat) : Int)) hq2.1 hq2.2.1 (by omega) (by omega)
                have hr := hq2.2.2
                rw [show (1085 : Int) + ((64 * (lo.length + 1) : Nat) : Int) - ((0 : Nat) : Int) = 1085 + (64 * ((lo.length : Int) + 1) - ((0 : Nat) : Int)) by omega] at hr
                rw [hr] at hR2
                replace hR1 := Lib.hid hR1
                replace hR2 := Lib.hid hR2
                subst hz0
                clear hq hr hq2 hoo
                go_wp2_with (first | (go_at_call 111; refine (hR1.out _).mono ?_; rintro e w'' ⟨rfl, rfl⟩) | (go_at_call 110; refine (hR2.out _).mono ?_; rintro e w'' ⟨rfl, rfl⟩))
                go_ret
                exact ⟨rfl, hbel⟩
              · have n1 : ((oo : Int) != 0) = true := by simp; omega
                have hq2 := hq.out (M ||| 1) (by rw [if_neg hz0])
                obtain ⟨R0, hR1, hR2⟩ := c_rl (M ||| 1) (64 * ((lo.length : Int) + 1) - ((0 : Nat) : Int)) hq2.1 hq2.2.1 (by omega) (by omega)
                have hr := hq2.2.2
                rw [show (1085 : Int) + ((64 * (lo.length + 1) : Nat) : Int) - ((0 : Nat) : Int) = 1085 + (64 * ((lo.length : Int) + 1) - ((0 : Nat) : Int)) by omega] at hr
                rw [hr] at hR2
                replace hR1 := Lib.hid hR1
                replace hR2 := Lib.hid hR2
                generalize M ||| 1 = M1 at *
                clear hq hr hq2 hz0
                go_wp2_with (first | (go_at_call 111; refine (hR1.out _).mono ?_; rintro e w'' ⟨rfl, rfl⟩) | (go_at_call 110; refine (hR2.out _).mono ?_; rintro e w'' ⟨rfl, rfl⟩))
                go_ret
                exact ⟨rfl, hbel⟩
end Go.Proofs.YtbakbikilbaafaaGreatDoor
namespace Go.Proofs.YtbakbikilbaafaaGreatDoor
open Go.RowKit F64 Ieee
set_option linter.unusedVariables false
set_option maxHeartbeats 4000000
set_option maxRecDepth 100000

theorem wth_dig {c : Nat} (h : 48 ≤ c ∧ c ≤ 57) : wth c = c - 48 := by unfold wth; rw [if_pos h]
theorem dig_of_wth {c : Nat} (hc : c < 256) (h : wth c < 10) : 48 ≤ c ∧ c ≤ 57 := by
  unfold wth at h
  split at h
  · assumption
  · split at h <;> omega
theorem c_dexactB (L : List Nat) (base : Nat) (hb : 2 ≤ base) (hb2 : base ≤ 36) (h10 : base ≠ 10) (hL : ∀ c ∈ L, c < 256 ∧ wth c < base) (hl : L.length ≤ 10000) (w : World) :
    Calls Tryz.prog 40 #[.string (u8sG L), .int .i64 (base : Int)] w fun r w' => r = .returned (.float .f64 (nN (numB base L))) ∧ Below w.heap.size w w' :=
  c_dexactS _ base _ h10 hb2 w (c_dsticky L base hb hb2 hL hl w)
end Go.Proofs.YtbakbikilbaafaaGreatDoor
namespace Go.Proofs.YtbakbikilbaafaaGreatDoor
open Go.RowKit F64 Ieee
set_option linter.unusedVariables false
set_option maxHeartbeats 4000000
set_option maxRecDepth 100000

/-- with a sign -/
def sgW (neg : Bool) (v : Nat) : Nat := if neg then v + 9223372036854775808 else v
theorem mul_sg (neg : Bool) {v : Nat} (h : v ≤ 9218868437227405312) : double.mul (oneB neg) v = some (sgW neg v) := by
  rcases Nat.eq_or_lt_of_le h with h | h
  · subst h
    cases neg <;> decide +kernel
  · cases neg with
    | false => exact mul_one h
    | true =>
      have := mul_exact (x := 13830554455654793216) (y := v) (r := v) (by decide +kernel) (fin_small h) h (by
        rw [show rung 13830554455654793216 = 4607182418800017408 by decide +kernel, rung_small (by omega), V_one, Nat.mul_comm])
      show double.mul 13830554455654793216 v = some (v + 9223372036854775808)
      rw [this, show sgn 13830554455654793216 = true by decide +kernel, sgn_small (by omega)]
      show some (9223372036854775808 + v) = some (v + 9223372036854775808)
      rw [Nat.add_comm]
theorem nv_le (d : Nat) (p : Int) : nv d p ≤ 9218868437227405312 := by
  unfold nv nearV
  split
  · rename_i h; exact (Classical.choose_spec h).le
  · decide
theorem fltV_le (ws ps : List Nat) (neg : Bool) (es : List Nat) : fltV ws ps neg es ≤ 9218868437227405312 := by
  rw [fltV_eq]
  split
  · decide
  · split
    · decide
    · split
      · decide
      · exact nv_le _ _
/-- a sign -/
def ngL (L : List Nat) : Bool := decide (L.head? = some 45)
theorem sgnL_1 (L : List Nat) : (sgnL L).1 = oneB (ngL L) := by
  cases L with
  | nil => rfl
  | cons c M =>
    rw [show sgnL (c :: M) = if c = 45 then (13830554455654793216, M) else if c = 43 then (4607182418800017408, M) else (4607182418800017408, c :: M) from rfl]
    unfold ngL oneB
    by_cases h : c = 45
    · subst h; simp
    · rw [if_neg h]
      simp only [List.head?_cons, Option.some.injEq, h, decide_false, Bool.false_eq_true, if_false]
      split <;> rfl
def Dg (l : List Nat) : Prop := ∀ c ∈ l, 48 ≤ c ∧ c ≤ 57
theorem runL_nil (n : Nat) : runL n [] = 0 := rfl
theorem runL_ncons {n c : Nat} {l : List Nat} (h : ¬ wth c < n) : runL n (c :: l) = 0 := by
  unfold runL; rw [List.takeWhile_cons]; simp [h]
theorem runL_app {n : Nat} : ∀ {ws r : List Nat}, (∀ c ∈ ws, wth c < n) → runL n (ws ++ r) = ws.length + runL n r
  | [], r, _ => by simp
  | c :: ws, r, h => by
    have ih := runL_app (r := r) (fun x hx => h x (List.mem_cons_of_mem c hx))
    unfold runL at ih ⊢
    rw [List.cons_append, List.takeWhile_cons]
    simp only [h c (List.mem_cons_self ..), decide_true, if_true, List.length_cons]
    omega
theorem run_mem {n : Nat} {l : List Nat} : ∀ c ∈ l.take (runL n l), wth c < n := by
  intro c hc
  obtain ⟨i, hi⟩ := List.mem_iff_getElem?.1 hc
  rw [List.getElem?_take] at hi
  split at hi
  · rename_i h; exact runL_lt n l i c hi h
  · cases hi
theorem Dg.wth {l : List Nat} (h : Dg l) : ∀ c ∈ l, wth c < 10 := fun c hc => by
  have := h c hc
  rw [wth_dig this]; omega
theorem run_dg {l : List Nat} (h : ∀ c ∈ l, c < 256) : Dg (l.take (runL 10 l)) := fun c hc => dig_of_wth (h c (List.mem_of_mem_take hc)) (run_mem c hc)
/-- a decimal text and its value -/
def DcT (T : List Nat) (v : Nat) : Prop := ∃ ws ps pt, Dg ws ∧ Dg ps ∧ (pt = false → ps = []) ∧ (ws ≠ [] ∨ ps ≠ []) ∧
  ((T = mantL ws ps pt ∧ v = fltV ws ps false []) ∨ ∃ e sg es neg, (e = 101 ∨ e = 69) ∧ (sg = [] ∧ neg = false ∨ sg = [43] ∧ neg = false ∨ sg = [45] ∧ neg = true) ∧ es ≠ [] ∧ Dg es ∧ T = mantL ws ps pt ++ e :: (sg ++ es) ∧ v = fltV ws ps neg es)
theorem or32_101 (c : Nat) (hc : c < 256) (h : c ||| 32 = 101) : c = 101 ∨ c = 69 := by
  have all : ∀ c : Fin 256, c.val ||| 32 = 101 → c.val = 101 ∨ c.val = 69 := by decide +kernel
  exact all ⟨c, hc⟩ h
theorem getD_some {L : List Nat} {i c : Nat} (h : L.getD i 0 = c) (hc : c ≠ 0) : L[i]? = some c := by
  rw [List.getD_eq_getElem?_getD] at h
  cases hx : L[i]? with
  | none => rw [hx] at h; exact absurd h.symm hc
  | some x => rw [hx] at h; simp at h; rw [h]
theorem take_one {L : List Nat} {i c : Nat} (h : L[i]? = some c) (k : Nat) : L.take (i + (1 + k)) = L.take i ++ c :: (L.drop (i + 1)).take k := by
  have hi := (List.getElem?_eq_some_iff.1 h).1
  have e : L.drop i = c :: L.drop (i + 1) := by
    rw [List.drop_eq_getElem_cons hi, (List.getElem?_eq_some_iff.1 h).2]
  rw [List.take_add, e, Nat.add_comm 1 k]
  rfl
theorem decE_form {L : List Nat} (h256 : ∀ c ∈ L, c < 256) (n : Nat) : decE L n = n ∨ ∃ e sg es neg, (e = 101 ∨ e = 69) ∧ (sg = [] ∧ neg = false ∨ sg = [43] ∧ neg = false ∨ sg = [45] ∧ neg = true) ∧ es ≠ [] ∧ Dg es ∧ L.take (decE L n) = L.take n ++ e :: (sg ++ es) := by
  unfold decE
  by_cases h1 : L.getD n 0 ||| 32 = 101
  · rw [if_pos h1]
    by_cases h2 : 0 < runL 10 (L.drop (decM L n))
    · rw [if_pos h2]
      right
      have hn0 : L.getD n 0 ≠ 0 := fun h => by rw [h] at h1; revert h1; decide
      have hn := getD_some rfl hn0
      have he := or32_101 _ (h256 _ (List.mem_of_getElem? hn)) h1
      have hdg : Dg ((L.drop (decM L n)).take (runL 10 (L.drop (decM L n)))) := run_dg (fun c hc => h256 c (List.mem_of_mem_drop hc))
      have hne : (L.drop (decM L n)).take (runL 10 (L.drop (decM L n))) ≠ [] := fun h => by
        have hl := congrArg List.length h
        rw [List.length_take] at hl
        have := runL_le 10 (L.drop (decM L n))
        simp only [List.length_nil] at hl
        omega
      by_cases h3 : L.getD (n + 1) 0 = 43 ∨ L.getD (n + 1) 0 = 45
      · have hM : decM L n = n + 2 := by unfold decM; rw [if_pos h3]
        rw [hM] at h2 hdg hne ⊢
        have hn1 := getD_some (L := L) (i := n + 1) rfl (by omega)
        refine ⟨L.getD n 0, [L.getD (n + 1) 0], _, decide (L.getD (n + 1) 0 = 45), he, ?_, hne, hdg, ?_⟩
        · rcases h3 with h | h <;> rw [h] <;> simp
        · rw [show n + 2 + runL 10 (L.drop (n + 2)) = n + (1 + (1 + runL 10 (L.drop (n + 2)))) by omega, take_one hn]
          congr 2
          have := take_one (L := L.drop (n + 1)) (i := 0) (by rw [List.getElem?_drop]; exact hn1) (runL 10 (L.drop (n + 2)))
          rw [Nat.zero_add, List.drop_drop] at this
          simpa using this
      · have hM : decM L n = n + 1 := by unfold decM; rw [if_neg h3]
        rw [hM] at h2 hdg hne ⊢
        refine ⟨L.getD n 0, [], _, false, he, .inl ⟨rfl, rfl⟩, hne, hdg, ?_⟩
        rw [show n + 1 + runL 10 (L.drop (n + 1)) = n + (1 + runL 10 (L.drop (n + 1))) by omega, take_one hn]
        rfl
    · rw [if_neg h2]; exact .inl rfl
  · rw [if_neg h1]; exact .inl rfl
theorem dec_form {L : List Nat} (h256 : ∀ c ∈ L, c < 256) (h : 0 < decN L) : ∃ v, DcT (L.take (decN L)) v := by
  have key : ∀ ws ps pt n, Dg ws → Dg ps → (pt = false → ps = []) → (ws ≠ [] ∨ ps ≠ []) → L.take n = mantL ws ps pt → ∃ v, DcT (L.take (decE L n)) v := by
    intro ws ps pt n h1 h2 h3 h4 h5
    rcases decE_form h256 n with h6 | ⟨e, sg, es, neg, g1, g2, g3, g4, g5⟩
    · rw [h6]; exact ⟨_, ws, ps, pt, h1, h2, h3, h4, .inl ⟨h5, rfl⟩⟩
    · exact ⟨_, ws, ps, pt, h1, h2, h3, h4, .inr ⟨e, sg, es, neg, g1, g2, g3, g4, by rw [g5, h5], rfl⟩⟩
  have hw := run_dg h256
  have hlen := runL_le 10 L
  unfold decN at h ⊢
  by_cases h1 : L.getD (runL 10 L) 0 = 46
  · rw [if_pos h1] at h ⊢
    by_cases h2 : runL 10 L + runL 10 (L.drop (runL 10 L + 1)) = 0
    · rw [if_pos h2] at h; omega
    · rw [if_neg h2] at h ⊢
      have hp : Dg ((L.drop (runL 10 L + 1)).take (runL 10 (L.drop (runL 10 L + 1)))) := run_dg (fun c hc => h256 c (List.mem_of_mem_drop hc))
      refine key _ _ true _ hw hp (fun h => by cases h) ?_ ?_
      · by_cases h3 : runL 10 L = 0
        · right
          intro h4
          have hl := congrArg List.length h4
          rw [List.length_take] at hl
          have := runL_le 10 (L.drop (runL 10 L + 1))
          simp only [List.length_nil] at hl
          omega
        · left
          intro h4
          have hl := congrArg List.length h4
          rw [List.length_take] at hl
          simp only [List.length_nil] at hl
          omega
      · rw [Nat.add_assoc, take_one (getD_some h1 (by decide))]
        rfl
  · rw [if_neg h1] at h ⊢
    by_cases h2 : runL 10 L = 0
    · rw [if_pos h2] at h; omega
    · rw [if_neg h2] at h ⊢
      refine key _ [] false _ hw (fun c hc => by cases hc) (fun _ => rfl) ?_ ?_
      · left
        intro h4
        have hl := congrArg List.length h4
        rw [List.length_take] at hl
        simp only [List.length_nil] at hl
        omega
      · unfold mantL; simp
/-- and a decimal text is one to its end -/
theorem decE_end {A X : List Nat} {e : Nat} {sg es : List Nat} {neg : Bool} (he : e = 101 ∨ e = 69) (hsg : sg = [] ∧ neg = false ∨ sg = [43] ∧ neg = false ∨ sg = [45] ∧ neg = true) (hne : es ≠ []) (hes : Dg es) (hX : X = A ++ e :: (sg ++ es)) : decE X A.length = X.length := by
  have hX0 : X.getD A.length 0 = e := by rw [hX, List.getD_eq_getElem?_getD, List.getElem?_append_right (Nat.le_refl _)]; simp
  have hX1 : X.getD (A.length + 1) 0 = (sg ++ es).getD 0 0 := by
    rw [hX, List.getD_eq_getElem?_getD, List.getElem?_append_right (by omega), show A.length + 1 - A.length = 1 by omega]; simp
  have hd1 : X.drop (A.length + 1) = sg ++ es := by
    rw [hX, List.drop_append, show A.length + 1 - A.length = 1 by omega, List.drop_of_length_le (by omega)]; rfl
  have hlen : X.length = A.length + 1 + sg.length + es.length := by rw [hX]; simp; omega
  have hel : 0 < es.length := List.length_pos_iff.2 hne
  have hr : runL 10 es = es.length := by
    have := runL_app (r := []) hes.wth
    rwa [List.append_nil, runL_nil, Nat.add_zero] at this
  obtain ⟨c, cs, rfl⟩ : ∃ c cs, es = c :: cs := by
    cases es with
    | nil => exact absurd rfl hne
    | cons c cs => exact ⟨c, cs, rfl⟩
  have hc := hes c (List.mem_cons_self ..)
  have h1 : X.getD A.length 0 ||| 32 = 101 := by rw [hX0]; rcases he with rfl | rfl <;> decide
  unfold decE
  rw [if_pos h1]
  rcases hsg with ⟨rfl, -⟩ | ⟨rfl, -⟩ | ⟨rfl, -⟩
  · have hM : decM X A.length = A.length + 1 := by
      unfold decM
      rw [hX1, if_neg]
      simp only [List.nil_append, List.getD_cons_zero]; omega
    rw [hM, hd1, List.nil_append, hr, if_pos hel, hlen]; simp
  · have hM : decM X A.length = A.length + 2 := by
      unfold decM
      rw [hX1, if_pos]
      simp
    have hd2 : X.drop (A.length + 2) = c :: cs := by
      rw [show A.length + 2 = A.length + 1 + 1 by omega, ← List.drop_drop, hd1]; rfl
    rw [hM, hd2, hr, if_pos hel, hlen]; simp <;> omega
  · have hM : decM X A.length = A.length + 2 := by
      unfold decM
      rw [hX1, if_pos]
      simp
    have hd2 : X.drop (A.length + 2) = c :: cs := by
      rw [show A.length + 2 = A.length + 1 + 1 by omega, ← List.drop_drop, hd1]; rfl
    rw [hM, hd2, hr, if_pos hel, hlen]; simp <;> omega
theorem decE_none {X : List Nat} : decE X X.length = X.length := by
  unfold decE
  have : X.getD X.length 0 = 0 := by rw [List.getD_eq_getElem?_getD]; simp
  rw [this, if_neg (by decide)]
theorem dec_end {T : List Nat} {v : Nat} (h : DcT T v) : decN T = T.length := by
  obtain ⟨ws, ps, pt, hw, hp, hpt, hne, hT⟩ := h
  -- what stands behind the mantissa
  obtain ⟨Y, hTY, hY, hE⟩ : ∃ Y, T = mantL ws ps pt ++ Y ∧ (∀ c, Y[0]? = some c → ¬ wth c < 10 ∧ c ≠ 46) ∧ decE T (mantL ws ps pt).length = T.length := by
    rcases hT with ⟨rfl, -⟩ | ⟨e, sg, es, neg, he, hsg, hen, hes, hX, -⟩
    · exact ⟨[], by simp, fun c hc => by simp at hc, decE_none⟩
    · refine ⟨e :: (sg ++ es), hX, fun c hc => ?_, decE_end he hsg hen hes hX⟩
      simp at hc
      subst hc
      rcases he with rfl | rfl <;> decide
  have hrY : runL 10 Y = 0 := by
    cases Y with
    | nil => rfl
    | cons c Y => exact runL_ncons (hY c rfl).1
  unfold decN
  cases pt with
  | true =>
    have hTe : T = ws ++ (46 :: (ps ++ Y)) := by rw [hTY]; unfold mantL; simp
    have h1 : runL 10 T = ws.length := by
      rw [hTe, runL_app hw.wth, runL_ncons (by decide)]; rfl
    have h2 : T.getD ws.length 0 = 46 := by rw [hTe, List.getD_eq_getElem?_getD, List.getElem?_append_right (Nat.le_refl _)]; simp
    have h3 : T.drop (ws.length + 1) = ps ++ Y := by
      rw [hTe, List.drop_append, show ws.length + 1 - ws.length = 1 by omega, List.drop_of_length_le (by omega)]; rfl
    have h4 : runL 10 (T.drop (ws.length + 1)) = ps.length := by rw [h3, runL_app hp.wth, hrY]; rfl
    rw [h1, if_pos h2, h4]
    have hpos : ¬ ws.length + ps.length = 0 := by
      intro h
      rcases hne with h5 | h5
      · exact h5 (List.length_eq_zero_iff.1 (by omega))
      · exact h5 (List.length_eq_zero_iff.1 (by omega))
    rw [if_neg hpos]
    have hm : (mantL ws ps true).length = ws.length + 1 + ps.length := by unfold mantL; simp; omega
    rw [hm] at hE
    exact hE
  | false =>
    have hps := hpt rfl
    subst hps
    have hm : mantL ws [] false = ws := by unfold mantL; simp
    rw [hm] at hTY hE
    have h1 : runL 10 T = ws.length := by rw [hTY, runL_app hw.wth, hrY]; rfl
    have h2 : T.getD ws.length 0 ≠ 46 := by
      rw [hTY, List.getD_eq_getElem?_getD, List.getElem?_append_right (Nat.le_refl _), Nat.sub_self]
      cases Y with
      | nil => simp
      | cons c Y => exact (hY c rfl).2
    rw [h1, if_neg h2]
    have hpos : ¬ ws.length = 0 := by
      intro h
      rcases hne with h5 | h5
      · exact h5 (List.length_eq_zero_iff.1 (by omega))
      · exact h5 rfl
    rw [if_neg hpos]
    exact hE
theorem DcT.le {T : List Nat} {v : Nat} (h : DcT T v) : v ≤ 9218868437227405312 := by
  obtain ⟨ws, ps, pt, hw, hp, hpt, hne, ⟨-, rfl⟩ | ⟨e, sg, es, neg, -, -, -, -, -, rfl⟩⟩ := h <;> exact fltV_le _ _ _ _
/-- the program's float of it -/
theorem c_dfloat {T : List Nat} {v : Nat} (h : DcT T v) (hl : T.length ≤ 80000) (w : World) (hL : LibW w) :
    Calls Tryz.prog 45 #[.string (u8sG T)] w fun r w' => r = .returned (.float .f64 v) ∧ Below w.heap.size w w' := by
  obtain ⟨ws, ps, pt, hw, hp, hpt, hne, ⟨rfl, rfl⟩ | ⟨e, sg, es, neg, he, hsg, hen, hes, rfl, rfl⟩⟩ := h
  · exact c_dfloat0 ws ps pt hw hp hpt hl w hL
  · refine c_dfloatE ws ps pt e sg es neg hw hp hpt he ?_ hes ?_ hl w hL
    · rcases hsg with ⟨rfl, -⟩ | ⟨rfl, -⟩ | ⟨rfl, -⟩ <;> simp
    · obtain ⟨c, cs, rfl⟩ : ∃ c cs, es = c :: cs := by
        cases es with
        | nil => exact absurd rfl hen
        | cons c cs => exact ⟨c, cs, rfl⟩
      have hc := hes c (List.mem_cons_self ..)
      rcases hsg with ⟨rfl, rfl⟩ | ⟨rfl, rfl⟩ | ⟨rfl, rfl⟩
      · show sgnL (c :: cs) = _
        rw [show sgnL (c :: cs) = if c = 45 then (13830554455654793216, cs) else if c = 43 then (4607182418800017408, cs) else (4607182418800017408, c :: cs) from rfl, if_neg (by omega), if_neg (by omega)]; rfl
      · rfl
      · rfl
end Go.Proofs.YtbakbikilbaafaaGreatDoor
namespace Go.Proofs.YtbakbikilbaafaaGreatDoor
open Go.RowKit F64 Ieee
set_option linter.unusedVariables false
set_option maxHeartbeats 4000000
set_option maxRecDepth 100000

def nanW : Nat := 9221120237041090561
def infT : List Nat := [73, 110, 102, 105, 110, 105, 116, 121]
/-- what a text's bytes are read as -/
inductive ReadR : List Nat → Nat → Prop
  | nil : ReadR [] 0
  | pre {L : List Nat} {base : Nat} (hp : preL L = base) (hb : 0 < base) (hrun : runL base (L.drop 2) = L.length - 2) (hl : 2 < L.length) : ReadR L (nN (numB base (L.drop 2)))
  | preN {L : List Nat} {base : Nat} (hp : preL L = base) (hb : 0 < base) (h : ¬ (0 < runL base (L.drop 2) ∧ runL base (L.drop 2) = L.length - 2)) : ReadR L nanW
  | inf {L : List Nat} (h0 : L ≠ []) (hp : preL L = 0) (hi : (sgnL L).2 = infT) : ReadR L (sgW (ngL L) 9218868437227405312)
  | dec {L : List Nat} {v : Nat} (h0 : L ≠ []) (hp : preL L = 0) (hi : (sgnL L).2 ≠ infT) (hd : DcT (sgnL L).2 v) : ReadR L (sgW (ngL L) v)
  | nan {L : List Nat} (h0 : L ≠ []) (hp : preL L = 0) (hi : (sgnL L).2 ≠ infT) (h : ¬ (0 < decN (sgnL L).2 ∧ decN (sgnL L).2 = (sgnL L).2.length)) : ReadR L nanW
theorem sgnL_mem {L : List Nat} : ∀ c ∈ (sgnL L).2, c ∈ L := by
  cases L with
  | nil => intro c hc; exact hc
  | cons c M =>
    rw [show sgnL (c :: M) = if c = 45 then (13830554455654793216, M) else if c = 43 then (4607182418800017408, M) else (4607182418800017408, c :: M) from rfl]
    intro x hx
    split at hx
    · exact List.mem_cons_of_mem _ hx
    · split at hx
      · exact List.mem_cons_of_mem _ hx
      · exact hx
theorem sgnL_len (L : List Nat) : (sgnL L).2.length ≤ L.length := by
  cases L with
  | nil => exact Nat.le_refl _
  | cons c M =>
    rw [show sgnL (c :: M) = if c = 45 then (13830554455654793216, M) else if c = 43 then (4607182418800017408, M) else (4607182418800017408, c :: M) from rfl]
    split
    · simp
    · split <;> simp
theorem c_mInfN (w : World) :
    Calls Tryz.prog 44 #[.int .i64 (-1)] w fun r w' => r = .returned (.float .f64 18442240474082181120) ∧ w = w' := by
  have r55 := r55G
  go_enter Tryz.func44, Tryz.ntmps44
  go_wp2
  go_ret
  exact ⟨rfl, rfl⟩
theorem c_mInfS (neg : Bool) (w : World) : Calls Tryz.prog 44 #[.int .i64 (sgI neg)] w fun r w' => r = .returned (.float .f64 (sgW neg 9218868437227405312)) ∧ w = w' := by
  cases neg
  · exact c_mInf w
  · exact c_mInfN w
theorem preL_le (L : List Nat) : preL L = 0 ∨ preL L = 16 ∨ preL L = 8 ∨ preL L = 2 := by
  unfold preL
  split
  · split
    · simp
    · split
      · simp
      · split <;> simp
  · simp
theorem u_empty (L : List Nat) : (u8sG L).toList.isEmpty = decide (L = []) ∧ ((u8sG L).toList == []) = decide (L = []) := by
  rw [ByteArray.toList_eq, uG_data]
  cases L <;> simp
theorem map_ofNat_inj : ∀ {a b : List Nat}, (∀ c ∈ a, c < 256) → (∀ c ∈ b, c < 256) → a.map UInt8.ofNat = b.map UInt8.ofNat → a = b
  | [], [], _, _, _ => rfl
  | [], _ :: _, _, _, h => by simp at h
  | _ :: _, [], _, _, h => by simp at h
  | x :: a, y :: b, ha, hb, h => by
    simp only [List.map_cons, List.cons.injEq] at h
    have hx := ha x (List.mem_cons_self ..)
    have hy := hb y (List.mem_cons_self ..)
    have e : x = y := by have := congrArg UInt8.toNat h.1; simp at this; omega
    rw [e, map_ofNat_inj (fun c hc => ha c (List.mem_cons_of_mem _ hc)) (fun c hc => hb c (List.mem_cons_of_mem _ hc)) h.2]
theorem u_inf (T : List Nat) (h : ∀ c ∈ T, c < 256) : ((u8sG T).toList == [73, 110, 102, 105, 110, 105, 116, 121]) = decide (T = infT) := by
  rw [ByteArray.toList_eq, uG_data]
  have e : ([73, 110, 102, 105, 110, 105, 116, 121] : List UInt8) = infT.map UInt8.ofNat := rfl
  rw [e]
  by_cases hT : T = infT
  · subst hT; simp
  · rw [decide_eq_false hT, beq_eq_false_iff_ne]
    exact fun g => hT (map_ofNat_inj h (by decide) g)
theorem c_dRead_nil (s : ByteArray) (k t : Nat) (L : List Nat) (base v : Nat) (hs : s.size ≤ 1099511627776) (hF : FrA (blkS s) (s.size / 2) k) (hT : BkA (blkS s) k (s.size / 2) t)
    (hLe : plL (unitsN (s.extract (2 * k) (2 * t)) ((s.extract (2 * k) (2 * t)).size / 2)) = L) (hL : ∀ c ∈ L, c < 256) (hl : L.length ≤ 10000) (hL0 : L = []) (w : World) (hW : LibW w) :
    Calls Tryz.prog 16 #[.string s] w fun r w' => r = .returned (.float .f64 0) ∧ Below w.heap.size w w' := by
  have hTr := Lib.hid (fun W => c_dTrim s k t hs hF hT W)
  have hsz2 : (s.extract (2 * k) (2 * t)).size ≤ 1099511627776 := by rw [ByteArray.size_extract]; omega
  have hPl := Lib.hid (fun W => c_dplain (s.extract (2 * k) (2 * t)) hsz2 W)
  rw [hLe] at hPl
  have hLk := Lib.hid (fun W (hb : Below w.heap.size w W) => hW.keep hb)
  obtain ⟨hem, hem2⟩ := u_empty L
  have hsz : (u8sG L).size = L.length := uG_size L
  replace hem := hem.trans (decide_eq_true hL0)
  replace hem2 := hem2.trans (decide_eq_true hL0)
  clear hF hT hLe hL hl hsz hsz2 hL0 hW
  generalize u8sG L = S at *
  generalize s.extract (2 * k) (2 * t) = T at *
  go_enter Tryz.func16, Tryz.ntmps16
  go_wp2_with fail
  refine (hTr.out _).mono ?_
  rintro e w1 ⟨rfl, q1, rfl⟩
  go_wp2_with fail
  refine (hPl.out _).mono ?_
  rintro e w2 ⟨rfl, hb2'⟩
  have hbA : Below w.heap.size w w2 := (below_drewN (Below.refl _ w) q1).trans hb2'
  clear hb2'
  go_wp2_with fail
  go_ret
  exact ⟨rfl, hbA⟩
theorem c_dRead_pre (s : ByteArray) (k t : Nat) (L : List Nat) (base v : Nat) (hs : s.size ≤ 1099511627776) (hF : FrA (blkS s) (s.size / 2) k) (hT : BkA (blkS s) k (s.size / 2) t)
    (hLe : plL (unitsN (s.extract (2 * k) (2 * t)) ((s.extract (2 * k) (2 * t)).size / 2)) = L) (hL : ∀ c ∈ L, c < 256) (hl : L.length ≤ 10000) (hpre : preL L = base) (hb : 0 < base) (hrun : runL base (L.drop 2) = L.length - 2) (hl2 : 2 < L.length) (w : World) (hW : LibW w) :
    Calls Tryz.prog 16 #[.string s] w fun r w' => r = .returned (.float .f64 (nN (numB base (L.drop 2)))) ∧ Below w.heap.size w w' := by
  have hTr := Lib.hid (fun W => c_dTrim s k t hs hF hT W)
  have hsz2 : (s.extract (2 * k) (2 * t)).size ≤ 1099511627776 := by rw [ByteArray.size_extract]; omega
  have hPl := Lib.hid (fun W => c_dplain (s.extract (2 * k) (2 * t)) hsz2 W)
  rw [hLe] at hPl
  have hLk := Lib.hid (fun W (hb : Below w.heap.size w W) => hW.keep hb)
  obtain ⟨hem, hem2⟩ := u_empty L
  have hsz : (u8sG L).size = L.length := uG_size L
  have h2 : 2 ≤ L.length := by
    rcases Nat.lt_or_ge L.length 2 with h | h
    · exfalso
      have : preL L = 0 := by unfold preL; rw [if_neg (by omega)]
      omega
    · exact h
  have h0 : L ≠ [] := fun h => by rw [h] at h2; simp at h2
  replace hem := hem.trans (decide_eq_false h0)
  replace hem2 := hem2.trans (decide_eq_false h0)
  have hPr := Lib.hid (fun W => c_dprefix L hL (by omega) W)
  have hbase := preL_le L
  rw [hpre] at hPr hbase
  have hDo := Lib.hid (fun W => c_ddigitsOf (base : Int) W)
  have hRu := Lib.hid (fun b W h => c_drun L hL 2 base b (by omega) (by omega) W h)
  have hrl := runL_le base (L.drop 2)
  rw [List.length_drop] at hrl
  have hs3 : 2 ≤ (u8sG L).size := by omega
  have hs4 : (2 : Int) ≤ ((u8sG L).size : Int) := by omega
  have hs5 : (u8sG L).size ≤ 10000 := by omega
  have hs0 : (0 : Int) < ((u8sG L).size : Int) := by omega
  have hbI : (0 : Int) < (base : Int) := by omega
  have hex : (u8sG L).extract 2 (u8sG L).size = u8sG (L.drop 2) := by
    have h := uG_extract (L.take 2) (L.drop 2) L.length 2 (by rw [List.take_append_drop]) (by rw [List.length_take]; omega)
    rw [List.take_append_drop] at h
    rw [uG_size]; exact h
  have hX := Lib.hid (fun W => c_dexactB (L.drop 2) base (by omega) (by omega) (by omega) (fun c hc => ⟨hL c (List.mem_of_mem_drop hc), by
    have : (L.drop 2).take (runL base (L.drop 2)) = L.drop 2 := List.take_of_length_le (by rw [hrun, List.length_drop]; exact Nat.le_refl _)
    rw [← this] at hc
    exact run_mem c hc⟩) (by rw [List.length_drop]; omega) W)
  rw [hrun] at hRu
  have hRu : Hid (∀ b W, W.cell? ⟨b, 0, none⟩ = some (.int .i64 (base : Int)) → Calls Tryz.prog 38 #[.string (u8sG L), .int .i64 2, DigF b] W fun r w' => r = .returned (.int .i64 ((L.length - 2 : Nat) : Int)) ∧ Below W.heap.size W w') := hRu
  rw [show ((L.length - 2 : Nat) : Int) = (L.length : Int) - 2 by omega, ← hsz] at hRu
  have hs6 : (0 : Int) < ((u8sG L).size : Int) - 2 := by omega
  generalize hV : nN (numB base (L.drop 2)) = V at *
  clear hV hrl hrun
  generalize u8sG (L.drop 2) = D at *
  clear hF hT hLe hL hl hpre hsz hsz2 hb h2 h0 hbase hW hl2
  generalize u8sG L = S at *
  generalize s.extract (2 * k) (2 * t) = T at *
  go_enter Tryz.func16, Tryz.ntmps16
  go_wp2_with fail
  refine (hTr.out _).mono ?_
  rintro e w1 ⟨rfl, q1, rfl⟩
  go_wp2_with fail
  refine (hPl.out _).mono ?_
  rintro e w2 ⟨rfl, hb2'⟩
  have hbA : Below w.heap.size w w2 := (below_drewN (Below.refl _ w) q1).trans hb2'
  clear hb2'
  go_wp2_with fail
  refine (hPr.out _).mono ?_
  rintro e w3 ⟨rfl, hb3⟩
  have hbB : Below w.heap.size w w3 := hbA.trans (hb3.mono hbA.size)
  clear hb3 hbA
  go_wp2_with fail
  refine (hDo.out _).mono ?_
  rintro e w4 ⟨rfl, hc4, hb4⟩
  have hbC : Below w.heap.size w w4 := hbB.trans (hb4.mono hbB.size)
  have hRu4 := Lib.hid (hRu.out _ _ hc4)
  clear hb4 hbB hc4
  go_wp2_with fail
  refine hRu4.out.mono ?_
  rintro e w5 ⟨rfl, hb5⟩
  have hbD : Below w.heap.size w w5 := hbC.trans (hb5.mono hbC.size)
  clear hb5 hbC
  go_wp2_with fail
  refine (hX.out _).mono ?_
  rintro e w6 ⟨rfl, hb6⟩
  have hbE : Below w.heap.size w w6 := hbD.trans (hb6.mono hbD.size)
  go_wp2_with fail
  go_ret
  exact ⟨rfl, hbE⟩
theorem c_dRead_preZ (s : ByteArray) (k t : Nat) (L : List Nat) (base v : Nat) (hs : s.size ≤ 1099511627776) (hF : FrA (blkS s) (s.size / 2) k) (hT : BkA (blkS s) k (s.size / 2) t)
    (hLe : plL (unitsN (s.extract (2 * k) (2 * t)) ((s.extract (2 * k) (2 * t)).size / 2)) = L) (hL : ∀ c ∈ L, c < 256) (hl : L.length ≤ 10000) (hpre : preL L = base) (hb : 0 < base) (hrun : runL base (L.drop 2) = 0) (w : World) (hW : LibW w) :
    Calls Tryz.prog 16 #[.string s] w fun r w' => r = .returned (.float .f64 nanW) ∧ Below w.heap.size w w' := by
  have hTr := Lib.hid (fun W => c_dTrim s k t hs hF hT W)
  have hsz2 : (s.extract (2 * k) (2 * t)).size ≤ 1099511627776 := by rw [ByteArray.size_extract]; omega
  have hPl := Lib.hid (fun W => c_dplain (s.extract (2 * k) (2 * t)) hsz2 W)
  rw [hLe] at hPl
  have hLk := Lib.hid (fun W (hb : Below w.heap.size w W) => hW.keep hb)
  obtain ⟨hem, hem2⟩ := u_empty L
  have hsz : (u8sG L).size = L.length := uG_size L
  have h2 : 2 ≤ L.length := by
    rcases Nat.lt_or_ge L.length 2 with h | h
    · exfalso
      have : preL L = 0 := by unfold preL; rw [if_neg (by omega)]
      omega
    · exact h
  have h0 : L ≠ [] := fun h => by rw [h] at h2; simp at h2
  replace hem := hem.trans (decide_eq_false h0)
  replace hem2 := hem2.trans (decide_eq_false h0)
  have hPr := Lib.hid (fun W => c_dprefix L hL (by omega) W)
  have hbase := preL_le L
  rw [hpre] at hPr hbase
  have hDo := Lib.hid (fun W => c_ddigitsOf (base : Int) W)
  have hRu := Lib.hid (fun b W h => c_drun L hL 2 base b (by omega) (by omega) W h)
  have hrl := runL_le base (L.drop 2)
  rw [List.length_drop] at hrl
  have hs3 : 2 ≤ (u8sG L).size := by omega
  have hs4 : (2 : Int) ≤ ((u8sG L).size : Int) := by omega
  have hs5 : (u8sG L).size ≤ 10000 := by omega
  have hs0 : (0 : Int) < ((u8sG L).size : Int) := by omega
  have hbI : (0 : Int) < (base : Int) := by omega
  rw [hrun] at hRu
  clear hrl hrun
  clear hF hT hLe hL hl hpre hsz hsz2 hb h2 h0 hbase hW
  generalize u8sG L = S at *
  generalize s.extract (2 * k) (2 * t) = T at *
  go_enter Tryz.func16, Tryz.ntmps16
  go_wp2_with fail
  refine (hTr.out _).mono ?_
  rintro e w1 ⟨rfl, q1, rfl⟩
  go_wp2_with fail
  refine (hPl.out _).mono ?_
  rintro e w2 ⟨rfl, hb2'⟩
  have hbA : Below w.heap.size w w2 := (below_drewN (Below.refl _ w) q1).trans hb2'
  clear hb2'
  go_wp2_with fail
  refine (hPr.out _).mono ?_
  rintro e w3 ⟨rfl, hb3⟩
  have hbB : Below w.heap.size w w3 := hbA.trans (hb3.mono hbA.size)
  clear hb3 hbA
  go_wp2_with fail
  refine (hDo.out _).mono ?_
  rintro e w4 ⟨rfl, hc4, hb4⟩
  have hbC : Below w.heap.size w w4 := hbB.trans (hb4.mono hbB.size)
  have hRu4 := Lib.hid (hRu.out _ _ hc4)
  clear hb4 hbB hc4
  go_wp2_with fail
  refine hRu4.out.mono ?_
  rintro e w5 ⟨rfl, hb5⟩
  have hbD : Below w.heap.size w w5 := hbC.trans (hb5.mono hbC.size)
  clear hb5 hbC
  go_wp2_with (go_at_call 41; refine (c_mNaN _).mono ?_; rintro e w' ⟨rfl, rfl⟩)
  go_ret
  exact ⟨rfl, hbD⟩
theorem c_dRead_preN (s : ByteArray) (k t : Nat) (L : List Nat) (base v : Nat) (hs : s.size ≤ 1099511627776) (hF : FrA (blkS s) (s.size / 2) k) (hT : BkA (blkS s) k (s.size / 2) t)
    (hLe : plL (unitsN (s.extract (2 * k) (2 * t)) ((s.extract (2 * k) (2 * t)).size / 2)) = L) (hL : ∀ c ∈ L, c < 256) (hl : L.length ≤ 10000) (hpre : preL L = base) (hb : 0 < base) (hrun0 : 0 < runL base (L.drop 2)) (hrun : ¬ runL base (L.drop 2) = L.length - 2) (w : World) (hW : LibW w) :
    Calls Tryz.prog 16 #[.string s] w fun r w' => r = .returned (.float .f64 nanW) ∧ Below w.heap.size w w' := by
  have hTr := Lib.hid (fun W => c_dTrim s k t hs hF hT W)
  have hsz2 : (s.extract (2 * k) (2 * t)).size ≤ 1099511627776 := by rw [ByteArray.size_extract]; omega
  have hPl := Lib.hid (fun W => c_dplain (s.extract (2 * k) (2 * t)) hsz2 W)
  rw [hLe] at hPl
  have hLk := Lib.hid (fun W (hb : Below w.heap.size w W) => hW.keep hb)
  obtain ⟨hem, hem2⟩ := u_empty L
  have hsz : (u8sG L).size = L.length := uG_size L
  have h2 : 2 ≤ L.length := by
    rcases Nat.lt_or_ge L.length 2 with h | h
    · exfalso
      have : preL L = 0 := by unfold preL; rw [if_neg (by omega)]
      omega
    · exact h
  have h0 : L ≠ [] := fun h => by rw [h] at h2; simp at h2
  replace hem := hem.trans (decide_eq_false h0)
  replace hem2 := hem2.trans (decide_eq_false h0)
  have hPr := Lib.hid (fun W => c_dprefix L hL (by omega) W)
  have hbase := preL_le L
  rw [hpre] at hPr hbase
  have hDo := Lib.hid (fun W => c_ddigitsOf (base : Int) W)
  have hRu := Lib.hid (fun b W h => c_drun L hL 2 base b (by omega) (by omega) W h)
  have hrl := runL_le base (L.drop 2)
  rw [List.length_drop] at hrl
  have hs3 : 2 ≤ (u8sG L).size := by omega
  have hs4 : (2 : Int) ≤ ((u8sG L).size : Int) := by omega
  have hs5 : (u8sG L).size ≤ 10000 := by omega
  have hs0 : (0 : Int) < ((u8sG L).size : Int) := by omega
  have hbI : (0 : Int) < (base : Int) := by omega
  have n1 : ((runL base (L.drop 2) : Int) == ((u8sG L).size : Int) - 2) = false := beq_eq_false_iff_ne.2 (by omega)
  have n0 : (0 : Int) < (runL base (L.drop 2) : Int) := by omega
  generalize runL base (L.drop 2) = R at *
  clear hrl hrun hrun0
  clear hF hT hLe hL hl hpre hsz hsz2 hb h2 h0 hbase hW
  generalize u8sG L = S at *
  generalize s.extract (2 * k) (2 * t) = T at *
  go_enter Tryz.func16, Tryz.ntmps16
  go_wp2_with fail
  refine (hTr.out _).mono ?_
  rintro e w1 ⟨rfl, q1, rfl⟩
  go_wp2_with fail
  refine (hPl.out _).mono ?_
  rintro e w2 ⟨rfl, hb2'⟩
  have hbA : Below w.heap.size w w2 := (below_drewN (Below.refl _ w) q1).trans hb2'
  clear hb2'
  go_wp2_with fail
  refine (hPr.out _).mono ?_
  rintro e w3 ⟨rfl, hb3⟩
  have hbB : Below w.heap.size w w3 := hbA.trans (hb3.mono hbA.size)
  clear hb3 hbA
  go_wp2_with fail
  refine (hDo.out _).mono ?_
  rintro e w4 ⟨rfl, hc4, hb4⟩
  have hbC : Below w.heap.size w w4 := hbB.trans (hb4.mono hbB.size)
  have hRu4 := Lib.hid (hRu.out _ _ hc4)
  clear hb4 hbB hc4
  go_wp2_with fail
  refine hRu4.out.mono ?_
  rintro e w5 ⟨rfl, hb5⟩
  have hbD : Below w.heap.size w w5 := hbC.trans (hb5.mono hbC.size)
  clear hb5 hbC
  go_wp2_with (go_at_call 41; refine (c_mNaN _).mono ?_; rintro e w' ⟨rfl, rfl⟩)
  go_ret
  exact ⟨rfl, hbD⟩
theorem c_dRead_inf (s : ByteArray) (k t : Nat) (L : List Nat) (base v : Nat) (hs : s.size ≤ 1099511627776) (hF : FrA (blkS s) (s.size / 2) k) (hT : BkA (blkS s) k (s.size / 2) t)
    (hLe : plL (unitsN (s.extract (2 * k) (2 * t)) ((s.extract (2 * k) (2 * t)).size / 2)) = L) (hL : ∀ c ∈ L, c < 256) (hl : L.length ≤ 10000) (h0 : L ≠ []) (hpre : preL L = 0) (hi : (sgnL L).2 = infT) (w : World) (hW : LibW w) :
    Calls Tryz.prog 16 #[.string s] w fun r w' => r = .returned (.float .f64 (sgW (ngL L) 9218868437227405312)) ∧ Below w.heap.size w w' := by
  have hTr := Lib.hid (fun W => c_dTrim s k t hs hF hT W)
  have hsz2 : (s.extract (2 * k) (2 * t)).size ≤ 1099511627776 := by rw [ByteArray.size_extract]; omega
  have hPl := Lib.hid (fun W => c_dplain (s.extract (2 * k) (2 * t)) hsz2 W)
  rw [hLe] at hPl
  have hLk := Lib.hid (fun W (hb : Below w.heap.size w W) => hW.keep hb)
  obtain ⟨hem, hem2⟩ := u_empty L
  have hsz : (u8sG L).size = L.length := uG_size L
  replace hem := hem.trans (decide_eq_false h0)
  replace hem2 := hem2.trans (decide_eq_false h0)
  have hPr := Lib.hid (fun W => c_dprefix L hL (by omega) W)
  rw [hpre] at hPr
  have hPr : Hid (∀ W, Calls Tryz.prog 37 #[.string (u8sG L)] W fun r w' => r = .returned (.int .i64 0) ∧ Below W.heap.size W w') := hPr
  have hSg := Lib.hid (fun W => c_dsigned L hL (by omega) W)
  rw [sgnL_1] at hSg
  have hTm := fun c hc => hL c (sgnL_mem (L := L) c hc)
  have hTl := sgnL_len L
  have hDe := Lib.hid (fun W => c_ddecimal (sgnL L).2 hTm (by omega) W)
  have hqi := u_inf (sgnL L).2 hTm
  have hcv := cvt_sg (ngL L)
  have hTz : (u8sG (sgnL L).2).size = (sgnL L).2.length := uG_size _
  have hT5 : (u8sG (sgnL L).2).size ≤ 10000 := by omega
  replace hqi := hqi.trans (decide_eq_true hi)
  have hIn := Lib.hid (fun W => c_mInfS (ngL L) W)
  generalize decN (sgnL L).2 = n at *
  clear hF hT hLe hL hl hpre hsz hsz2 h0 hi hTm hTl hTz hW
  generalize u8sG (sgnL L).2 = D at *
  generalize ngL L = ng at *
  generalize u8sG L = S at *
  generalize s.extract (2 * k) (2 * t) = T at *
  go_enter Tryz.func16, Tryz.ntmps16
  go_wp2_with fail
  refine (hTr.out _).mono ?_
  rintro e w1 ⟨rfl, q1, rfl⟩
  go_wp2_with fail
  refine (hPl.out _).mono ?_
  rintro e w2 ⟨rfl, hb2'⟩
  have hbA : Below w.heap.size w w2 := (below_drewN (Below.refl _ w) q1).trans hb2'
  clear hb2'
  go_wp2_with fail
  refine (hPr.out _).mono ?_
  rintro e w3 ⟨rfl, hb3⟩
  have hbB : Below w.heap.size w w3 := hbA.trans (hb3.mono hbA.size)
  clear hb3 hbA
  go_wp2_with fail
  refine (hSg.out _).mono ?_
  rintro e w4 ⟨rfl, q4, rfl⟩
  have hbC := below_drewN hbB q4
  generalize w3.drewN q4 = w5 at *
  clear hbB
  go_wp2_with fail
  refine (hDe.out _).mono ?_
  rintro e w6 ⟨rfl, hb6⟩
  have hbD : Below w.heap.size w w6 := hbC.trans (hb6.mono hbC.size)
  clear hb6 hbC
  go_wp2_with (go_at_call 44; refine (hIn.out _).mono ?_; rintro e w' ⟨rfl, rfl⟩)
  go_ret
  exact ⟨rfl, hbD⟩
theorem c_dRead_dec (s : ByteArray) (k t : Nat) (L : List Nat) (base v : Nat) (hs : s.size ≤ 1099511627776) (hF : FrA (blkS s) (s.size / 2) k) (hT : BkA (blkS s) k (s.size / 2) t)
    (hLe : plL (unitsN (s.extract (2 * k) (2 * t)) ((s.extract (2 * k) (2 * t)).size / 2)) = L) (hL : ∀ c ∈ L, c < 256) (hl : L.length ≤ 10000) (h0 : L ≠ []) (hpre : preL L = 0) (hi : (sgnL L).2 ≠ infT) (hd : DcT (sgnL L).2 v) (w : World) (hW : LibW w) :
    Calls Tryz.prog 16 #[.string s] w fun r w' => r = .returned (.float .f64 (sgW (ngL L) v)) ∧ Below w.heap.size w w' := by
  have hTr := Lib.hid (fun W => c_dTrim s k t hs hF hT W)
  have hsz2 : (s.extract (2 * k) (2 * t)).size ≤ 1099511627776 := by rw [ByteArray.size_extract]; omega
  have hPl := Lib.hid (fun W => c_dplain (s.extract (2 * k) (2 * t)) hsz2 W)
  rw [hLe] at hPl
  have hLk := Lib.hid (fun W (hb : Below w.heap.size w W) => hW.keep hb)
  obtain ⟨hem, hem2⟩ := u_empty L
  have hsz : (u8sG L).size = L.length := uG_size L
  replace hem := hem.trans (decide_eq_false h0)
  replace hem2 := hem2.trans (decide_eq_false h0)
  have hPr := Lib.hid (fun W => c_dprefix L hL (by omega) W)
  rw [hpre] at hPr
  have hPr : Hid (∀ W, Calls Tryz.prog 37 #[.string (u8sG L)] W fun r w' => r = .returned (.int .i64 0) ∧ Below W.heap.size W w') := hPr
  have hSg := Lib.hid (fun W => c_dsigned L hL (by omega) W)
  rw [sgnL_1] at hSg
  have hTm := fun c hc => hL c (sgnL_mem (L := L) c hc)
  have hTl := sgnL_len L
  have hDe := Lib.hid (fun W => c_ddecimal (sgnL L).2 hTm (by omega) W)
  have hqi := u_inf (sgnL L).2 hTm
  have hcv := cvt_sg (ngL L)
  have hTz : (u8sG (sgnL L).2).size = (sgnL L).2.length := uG_size _
  have hT5 : (u8sG (sgnL L).2).size ≤ 10000 := by omega
  replace hqi := hqi.trans (decide_eq_false hi)
  have hFl := Lib.hid (fun W hW => c_dfloat hd (by omega) W hW)
  have hm := fun w => run_float_arith (P := Tryz.prog) w .mul 22 .f64 (oneB (ngL L)) v (sgW (ngL L) v) (mul_sg (ngL L) hd.le)
  have hn0 : (0 : Int) < ((sgnL L).2.length : Int) := by
    obtain ⟨ws, ps, pt, -, -, h3, h4, h5⟩ := hd
    have h6 : 0 < (mantL ws ps pt).length := by
      unfold mantL
      rcases h4 with h | h
      · have := List.length_pos_iff.2 h; rw [List.length_append]; omega
      · cases pt with
        | false => exact absurd (h3 rfl) h
        | true => simp <;> omega
    rcases h5 with ⟨h, -⟩ | ⟨e, sg, es, neg, -, -, -, -, h, -⟩
    · rw [h]; omega
    · rw [h, List.length_append]; omega
  rw [dec_end hd, ← hTz] at hDe
  rw [← hTz] at hn0
  generalize hV : sgW (ngL L) v = V at *
  clear hV hd
  clear hF hT hLe hL hl hpre hsz hsz2 h0 hi hTm hTl hTz hW
  generalize u8sG (sgnL L).2 = D at *
  generalize ngL L = ng at *
  generalize u8sG L = S at *
  generalize s.extract (2 * k) (2 * t) = T at *
  go_enter Tryz.func16, Tryz.ntmps16
  go_wp2_with fail
  refine (hTr.out _).mono ?_
  rintro e w1 ⟨rfl, q1, rfl⟩
  go_wp2_with fail
  refine (hPl.out _).mono ?_
  rintro e w2 ⟨rfl, hb2'⟩
  have hbA : Below w.heap.size w w2 := (below_drewN (Below.refl _ w) q1).trans hb2'
  clear hb2'
  go_wp2_with fail
  refine (hPr.out _).mono ?_
  rintro e w3 ⟨rfl, hb3⟩
  have hbB : Below w.heap.size w w3 := hbA.trans (hb3.mono hbA.size)
  clear hb3 hbA
  go_wp2_with fail
  refine (hSg.out _).mono ?_
  rintro e w4 ⟨rfl, q4, rfl⟩
  have hbC := below_drewN hbB q4
  generalize w3.drewN q4 = w5 at *
  clear hbB
  go_wp2_with fail
  refine (hDe.out _).mono ?_
  rintro e w6 ⟨rfl, hb6⟩
  have hbD : Below w.heap.size w w6 := hbC.trans (hb6.mono hbC.size)
  clear hb6 hbC
  go_wp2_with fail
  refine (hFl.out _ (hLk.out _ hbD)).mono ?_
  rintro e w7 ⟨rfl, hb7⟩
  have hbE : Below w.heap.size w w7 := hbD.trans (hb7.mono hbD.size)
  go_wp2_with fail
  go_ret
  exact ⟨rfl, hbE⟩
theorem c_dRead_nanZ (s : ByteArray) (k t : Nat) (L : List Nat) (base v : Nat) (hs : s.size ≤ 1099511627776) (hF : FrA (blkS s) (s.size / 2) k) (hT : BkA (blkS s) k (s.size / 2) t)
    (hLe : plL (unitsN (s.extract (2 * k) (2 * t)) ((s.extract (2 * k) (2 * t)).size / 2)) = L) (hL : ∀ c ∈ L, c < 256) (hl : L.length ≤ 10000) (h0 : L ≠ []) (hpre : preL L = 0) (hi : (sgnL L).2 ≠ infT) (hn : decN (sgnL L).2 = 0) (w : World) (hW : LibW w) :
    Calls Tryz.prog 16 #[.string s] w fun r w' => r = .returned (.float .f64 nanW) ∧ Below w.heap.size w w' := by
  have hTr := Lib.hid (fun W => c_dTrim s k t hs hF hT W)
  have hsz2 : (s.extract (2 * k) (2 * t)).size ≤ 1099511627776 := by rw [ByteArray.size_extract]; omega
  have hPl := Lib.hid (fun W => c_dplain (s.extract (2 * k) (2 * t)) hsz2 W)
  rw [hLe] at hPl
  have hLk := Lib.hid (fun W (hb : Below w.heap.size w W) => hW.keep hb)
  obtain ⟨hem, hem2⟩ := u_empty L
  have hsz : (u8sG L).size = L.length := uG_size L
  replace hem := hem.trans (decide_eq_false h0)
  replace hem2 := hem2.trans (decide_eq_false h0)
  have hPr := Lib.hid (fun W => c_dprefix L hL (by omega) W)
  rw [hpre] at hPr
  have hPr : Hid (∀ W, Calls Tryz.prog 37 #[.string (u8sG L)] W fun r w' => r = .returned (.int .i64 0) ∧ Below W.heap.size W w') := hPr
  have hSg := Lib.hid (fun W => c_dsigned L hL (by omega) W)
  rw [sgnL_1] at hSg
  have hTm := fun c hc => hL c (sgnL_mem (L := L) c hc)
  have hTl := sgnL_len L
  have hDe := Lib.hid (fun W => c_ddecimal (sgnL L).2 hTm (by omega) W)
  have hqi := u_inf (sgnL L).2 hTm
  have hcv := cvt_sg (ngL L)
  have hTz : (u8sG (sgnL L).2).size = (sgnL L).2.length := uG_size _
  have hT5 : (u8sG (sgnL L).2).size ≤ 10000 := by omega
  replace hqi := hqi.trans (decide_eq_false hi)
  rw [hn] at hDe
  have hDe : Hid (∀ W, Calls Tryz.prog 43 #[.string (u8sG (sgnL L).2)] W fun r w' => r = .returned (.int .i64 0) ∧ Below W.heap.size W w') := hDe
  clear hn
  clear hF hT hLe hL hl hpre hsz hsz2 h0 hi hTm hTl hTz hW
  generalize u8sG (sgnL L).2 = D at *
  generalize ngL L = ng at *
  generalize u8sG L = S at *
  generalize s.extract (2 * k) (2 * t) = T at *
  go_enter Tryz.func16, Tryz.ntmps16
  go_wp2_with fail
  refine (hTr.out _).mono ?_
  rintro e w1 ⟨rfl, q1, rfl⟩
  go_wp2_with fail
  refine (hPl.out _).mono ?_
  rintro e w2 ⟨rfl, hb2'⟩
  have hbA : Below w.heap.size w w2 := (below_drewN (Below.refl _ w) q1).trans hb2'
  clear hb2'
  go_wp2_with fail
  refine (hPr.out _).mono ?_
  rintro e w3 ⟨rfl, hb3⟩
  have hbB : Below w.heap.size w w3 := hbA.trans (hb3.mono hbA.size)
  clear hb3 hbA
  go_wp2_with fail
  refine (hSg.out _).mono ?_
  rintro e w4 ⟨rfl, q4, rfl⟩
  have hbC := below_drewN hbB q4
  generalize w3.drewN q4 = w5 at *
  clear hbB
  go_wp2_with fail
  refine (hDe.out _).mono ?_
  rintro e w6 ⟨rfl, hb6⟩
  have hbD : Below w.heap.size w w6 := hbC.trans (hb6.mono hbC.size)
  clear hb6 hbC
  go_wp2_with (go_at_call 41; refine (c_mNaN _).mono ?_; rintro e w' ⟨rfl, rfl⟩)
  go_ret
  exact ⟨rfl, hbD⟩
theorem c_dRead_nan (s : ByteArray) (k t : Nat) (L : List Nat) (base v : Nat) (hs : s.size ≤ 1099511627776) (hF : FrA (blkS s) (s.size / 2) k) (hT : BkA (blkS s) k (s.size / 2) t)
    (hLe : plL (unitsN (s.extract (2 * k) (2 * t)) ((s.extract (2 * k) (2 * t)).size / 2)) = L) (hL : ∀ c ∈ L, c < 256) (hl : L.length ≤ 10000) (h0 : L ≠ []) (hpre : preL L = 0) (hi : (sgnL L).2 ≠ infT) (hn0 : 0 < decN (sgnL L).2) (hn : decN (sgnL L).2 ≠ (sgnL L).2.length) (w : World) (hW : LibW w) :
    Calls Tryz.prog 16 #[.string s] w fun r w' => r = .returned (.float .f64 nanW) ∧ Below w.heap.size w w' := by
  have hTr := Lib.hid (fun W => c_dTrim s k t hs hF hT W)
  have hsz2 : (s.extract (2 * k) (2 * t)).size ≤ 1099511627776 := by rw [ByteArray.size_extract]; omega
  have hPl := Lib.hid (fun W => c_dplain (s.extract (2 * k) (2 * t)) hsz2 W)
  rw [hLe] at hPl
  have hLk := Lib.hid (fun W (hb : Below w.heap.size w W) => hW.keep hb)
  obtain ⟨hem, hem2⟩ := u_empty L
  have hsz : (u8sG L).size = L.length := uG_size L
  replace hem := hem.trans (decide_eq_false h0)
  replace hem2 := hem2.trans (decide_eq_false h0)
  have hPr := Lib.hid (fun W => c_dprefix L hL (by omega) W)
  rw [hpre] at hPr
  have hPr : Hid (∀ W, Calls Tryz.prog 37 #[.string (u8sG L)] W fun r w' => r = .returned (.int .i64 0) ∧ Below W.heap.size W w') := hPr
  have hSg := Lib.hid (fun W => c_dsigned L hL (by omega) W)
  rw [sgnL_1] at hSg
  have hTm := fun c hc => hL c (sgnL_mem (L := L) c hc)
  have hTl := sgnL_len L
  have hDe := Lib.hid (fun W => c_ddecimal (sgnL L).2 hTm (by omega) W)
  have hqi := u_inf (sgnL L).2 hTm
  have hcv := cvt_sg (ngL L)
  have hTz : (u8sG (sgnL L).2).size = (sgnL L).2.length := uG_size _
  have hT5 : (u8sG (sgnL L).2).size ≤ 10000 := by omega
  replace hqi := hqi.trans (decide_eq_false hi)
  have n1 : ((decN (sgnL L).2 : Int) == ((u8sG (sgnL L).2).size : Int)) = false := beq_eq_false_iff_ne.2 (by omega)
  have n0 : (0 : Int) < (decN (sgnL L).2 : Int) := by omega
  generalize decN (sgnL L).2 = n at *
  clear hn0 hn
  clear hF hT hLe hL hl hpre hsz hsz2 h0 hi hTm hTl hTz hW
  generalize u8sG (sgnL L).2 = D at *
  generalize ngL L = ng at *
  generalize u8sG L = S at *
  generalize s.extract (2 * k) (2 * t) = T at *
  go_enter Tryz.func16, Tryz.ntmps16
  go_wp2_with fail
  refine (hTr.out _).mono ?_
  rintro e w1 ⟨rfl, q1, rfl⟩
  go_wp2_with fail
  refine (hPl.out _).mono ?_
  rintro e w2 ⟨rfl, hb2'⟩
  have hbA : Below w.heap.size w w2 := (below_drewN (Below.refl _ w) q1).trans hb2'
  clear hb2'
  go_wp2_with fail
  refine (hPr.out _).mono ?_
  rintro e w3 ⟨rfl, hb3⟩
  have hbB : Below w.heap.size w w3 := hbA.trans (hb3.mono hbA.size)
  clear hb3 hbA
  go_wp2_with fail
  refine (hSg.out _).mono ?_
  rintro e w4 ⟨rfl, q4, rfl⟩
  have hbC := below_drewN hbB q4
  generalize w3.drewN q4 = w5 at *
  clear hbB
  go_wp2_with fail
  refine (hDe.out _).mono ?_
  rintro e w6 ⟨rfl, hb6⟩
  have hbD : Below w.heap.size w w6 := hbC.trans (hb6.mono hbC.size)
  clear hb6 hbC
  go_wp2_with (go_at_call 41; refine (c_mNaN _).mono ?_; rintro e w' ⟨rfl, rfl⟩)
  go_ret
  exact ⟨rfl, hbD⟩
theorem c_dReadG (s : ByteArray) (k t : Nat) (L : List Nat) (r : Nat) (hs : s.size ≤ 1099511627776) (hF : FrA (blkS s) (s.size / 2) k) (hT : BkA (blkS s) k (s.size / 2) t)
    (hLe : plL (unitsN (s.extract (2 * k) (2 * t)) ((s.extract (2 * k) (2 * t)).size / 2)) = L) (hL : ∀ c ∈ L, c < 256) (hl : L.length ≤ 10000) (hR : ReadR L r) (w : World) (hW : LibW w) :
    Calls Tryz.prog 16 #[.string s] w fun e w' => e = .returned (.float .f64 r) ∧ Below w.heap.size w w' := by
  cases hR with
  | nil => exact c_dRead_nil s k t [] 0 0 hs hF hT hLe hL hl rfl w hW
  | pre hp hb hrun hl2 => exact c_dRead_pre s k t L _ 0 hs hF hT hLe hL hl hp hb hrun hl2 w hW
  | preN hp hb h =>
    rename_i base
    rcases Nat.eq_zero_or_pos (runL base (L.drop 2)) with h1 | h1
    · exact c_dRead_preZ s k t L base 0 hs hF hT hLe hL hl hp hb h1 w hW
    · exact c_dRead_preN s k t L base 0 hs hF hT hLe hL hl hp hb h1 (fun h2 => h ⟨h1, h2⟩) w hW
  | inf h0 hp hi => exact c_dRead_inf s k t L 0 0 hs hF hT hLe hL hl h0 hp hi w hW
  | dec h0 hp hi hd => exact c_dRead_dec s k t L 0 _ hs hF hT hLe hL hl h0 hp hi hd w hW
  | nan h0 hp hi h =>
    rcases Nat.eq_zero_or_pos (decN (sgnL L).2) with h1 | h1
    · exact c_dRead_nanZ s k t L 0 0 hs hF hT hLe hL hl h0 hp hi h1 w hW
    · exact c_dRead_nan s k t L 0 0 hs hF hT hLe hL hl h0 hp hi h1 (fun h2 => h ⟨h1, h2⟩) w hW
end Go.Proofs.YtbakbikilbaafaaGreatDoor

/-
  Contracts: The contract of the program's sticky: the loop that reads the digits. Contracts of the reference's front, Make (of a slice of a row) and Trim (printed by gen_XTD.py). Contracts of the program's plain and decimal. Contracts of the program's exact, and its float (given what ParseFloat returns).
-/
import Derived.Test.YtbakbikilbaafaaGreatDoorZ13
import Derived.Laws.IdiomStrings
import Derived.Laws.BytesArg
import Derived.Test.YtbakbikilbaafaaGreatDoorZ10
namespace Go.Proofs.YtbakbikilbaafaaGreatDoor
open Go.RowKit F64 Ieee
set_option linter.unusedVariables false
set_option maxHeartbeats 4000000
set_option maxRecDepth 100000

def u64s (l : List Nat) : List Value := l.map fun n : Nat => .int .u64 (n : Int)
theorem infoU64 : (Tryz.prog.info? 102).map (fun i => (i.zero, i.size, i.bytes)) = some (some (.int .u64 0), 1, 8) := by kernel_rfl
/-- the row within a round -/
def inW (base : Nat) (ws : List Nat) (d k : Nat) : List Nat := (mulA base (ws.take k) d).1 ++ ws.drop k
theorem inW_len (base : Nat) (ws : List Nat) (d k : Nat) (hk : k ≤ ws.length) : (inW base ws d k).length = ws.length := by
  unfold inW; rw [List.length_append, mulA_len, List.length_take, List.length_drop]; omega
theorem inW_get (base : Nat) (ws : List Nat) (d k : Nat) (hk : k < ws.length) : (inW base ws d k)[k]? = ws[k]? := by
  unfold inW
  have hl : (mulA base (ws.take k) d).1.length = k := by rw [mulA_len, List.length_take]; omega
  rw [List.getElem?_append_right (by omega), hl, List.getElem?_drop]; simp
theorem inW_set (base : Nat) (ws : List Nat) (d k x : Nat) (h : ws[k]? = some x) : (inW base ws d k).set k ((x * base + (mulA base (ws.take k) d).2) % B64) = inW base ws d (k + 1) := by
  have hk := (List.getElem?_eq_some_iff.1 h).1
  have hl : (mulA base (ws.take k) d).1.length = k := by rw [mulA_len, List.length_take]; omega
  unfold inW
  have e : ∀ y, (ws.drop k).set 0 y = y :: ws.drop (k + 1) := fun y => by rw [List.drop_eq_getElem_cons hk]; rfl
  rw [mulA_snoc base ws k x d h, List.set_append_right _ _ (by omega), hl, Nat.sub_self, e]
  simp
theorem u64s_set (l : List Nat) (k y : Nat) : (u64s l).set k (.int .u64 (y : Int)) = u64s (l.set k y) := by
  unfold u64s; rw [List.map_set]
theorem stkW_len (base : Nat) (l : List Nat) : (stkW base l).length ≤ l.length := by
  have key : ∀ (l : List Nat) (ws : List Nat), (l.foldl (fun ws c => stepW base ws (wth c)) ws).length ≤ ws.length + l.length := by
    intro l
    induction l with
    | nil => intro ws; simp
    | cons c l ih =>
      intro ws
      simp only [List.foldl_cons, List.length_cons]
      refine Nat.le_trans (ih _) ?_
      have : (stepW base ws (wth c)).length ≤ ws.length + 1 := by
        unfold stepW
        split
        · rw [mulA_len]; omega
        · simp [mulA_len]
      omega
  have := key l []
  simpa [stkW] using this
theorem stepW_lt {base : Nat} (hb : 1 ≤ base) (hb2 : base ≤ 36) {ws : List Nat} {d : Nat} (hd : d < base) (hw : ∀ x ∈ ws, x < B64) : ∀ x ∈ stepW base ws d, x < B64 := by
  have h1 := mulA_lt base ws d
  have h2 := mulA_carry base hb ws d hd hw
  unfold stepW
  split
  · exact h1
  · intro x hx
    rcases List.mem_append.1 hx with h | h
    · exact h1 x h
    · simp at h; subst h; unfold B64; omega
theorem stkW_lt {base : Nat} (hb : 1 ≤ base) (hb2 : base ≤ 36) {l : List Nat} (hl : ∀ c ∈ l, wth c < base) : ∀ k, ∀ x ∈ stkW base (l.take k), x < B64 := by
  intro k
  induction k with
  | zero => simp [stkW]
  | succ k ih =>
    rcases Nat.lt_or_ge k l.length with h | h
    · have hx : l[k]? = some l[k] := List.getElem?_eq_getElem h
      rw [stkW_snoc base l k _ hx]
      exact stepW_lt hb hb2 (hl _ (List.getElem_mem h)) ih
    · rw [List.take_of_length_le (by omega)] at ih ⊢
      exact ih
/-- the digits of a number of one word -/
theorem c_dsticky1 (L : List Nat) (base v s : Nat) (hb : 2 ≤ base) (hb2 : base ≤ 36) (hL : ∀ c ∈ L, c < 256 ∧ wth c < base) (hl : L.length ≤ 10000000) (hv : stkW base L = [v]) (hs : s ≤ 63) (hbl : Lib.bitLen v = 64 - s) (hv1 : 9223372036854775808 ≤ v * 2 ^ s) (hv2 : v * 2 ^ s < 18446744073709551616) (w : World) :
    Calls Tryz.prog 76 #[.string (u8sG L), .int .i64 (base : Int)] w fun r w' => r = .returned (.float .f64 (wEK (1085 - (s : Int)) (rnd (v * 2 ^ s)))) ∧ Below w.heap.size w w' := by
  have hvB : v < 18446744073709551616 := by
    have := stkW_lt (base := base) (l := L) (by omega) hb2 (fun c hc => (hL c hc).2) L.length v (by rw [List.take_length, hv]; simp)
    exact this
  have hLZ := Lib.hid (fun W => s_LZ64 (v : Int) W (by omega) (by omega))
  rw [Int.toNat_natCast, hbl] at hLZ
  have hLZ : Hid (∀ W, Calls Tryz.prog 109 #[.int .u64 (v : Int)] W fun e w' => e = .returned (.int .i64 (s : Int)) ∧ w' = W) := by
    have e : (64 : Int) - ((64 - s : Nat) : Int) = (s : Int) := by omega
    rw [e] at hLZ; exact hLZ
  have hRd := Lib.hid (fun W => c_drounded (v * 2 ^ s) hv1 hv2 W)
  obtain ⟨rk1, rk2⟩ := rnd_le hv1 hv2
  have hshl : IntKind.u64.wrap ((v : Int) * 2 ^ s) = ((v * 2 ^ s : Nat) : Int) := by
    have e : (v : Int) * 2 ^ s = ((v * 2 ^ s : Nat) : Int) := by rw [Int.natCast_mul, Int.natCast_pow]; rfl
    rw [e]
    generalize v * 2 ^ s = y at *
    rw [IntKind.wrap_u64]
    omega
  have hw85 : wEK 1085 (rnd (v * 2 ^ s)) = 1085 * 4503599627370496 + rnd (v * 2 ^ s) := by
    unfold wEK
    rw [show (1085 : Int).toNat = 1085 from rfl, if_pos (by omega)]
  have hLd := Lib.hid (fun W => c_LdexpG 1085 (rnd (v * 2 ^ s)) (-(s : Int)) rk1 rk2 (by omega) (by omega) (by decide) W)
  rw [← hw85, show -(s : Int) + ((1085 : Nat) : Int) = 1085 - (s : Int) by omega] at hLd
  generalize wEK (1085 - (s : Int)) (rnd (v * 2 ^ s)) = RR at *
  generalize wEK 1085 (rnd (v * 2 ^ s)) = R0 at *
  generalize v * 2 ^ s = mm at *
  clear hw85 rk1 rk2 hbl
  obtain ⟨i0, hi0, hz0, hz1, hz2⟩ := info_parts infoU64
  have hsz : (u8sG L).size = L.length := uG_size L
  have hget := Lib.hid (fun j c (h1 : L[j]? = some c) (h2 : c < 256) h3 => uG_get L j c h1 h2 h3)
  have hwl := Lib.hid (stkW_lt (base := base) (l := L) (by omega) hb2 (fun c hc => (hL c hc).2))
  have hst := Lib.hid (stkW_snoc base L)
  have hwlen := Lib.hid (fun k => stkW_len base (L.take k))
  have hW := Lib.hid (fun (c : Nat) (hc : c < 256) W => c_dworth c hc W)
  have hM := Lib.hid (fun x (hx : x < 18446744073709551616) W => d_Mul64 x base hx (by omega) W)
  have hA := r_Add64
  have hLc := Lib.hid hL
  have hszl : (u8sG L).size ≤ 10000000 := by omega
  replace hsz := Lib.hid hsz
  generalize u8sG L = S at *
  clear hL
  go_enter Tryz.func76, Tryz.ntmps76
  go_wp2
  go_loopw [5, 19] (fun v5 v19 wr => ∃ j : Nat, j ≤ L.length ∧ v19 = .int .i64 (j : Int) ∧ wr.ownsRow w.heap.size 102 1 v5 (stkW base (L.take j)).length (u64s (stkW base (L.take j))) ∧ Below w.heap.size w wr) (fun _ v19 _ => L.length - (intOf v19).toNat)
  case atStart => exact ⟨0, Nat.zero_le _, rfl, World.ownsRow_nil _ _ _ _, Below.refl _ _⟩
  case round =>
    obtain ⟨j, hj, rfl, hown, hbel⟩ := hrel
    by_cases hjl : j < L.length
    · obtain ⟨c, hc⟩ : ∃ c, L[j]? = some c := ⟨L[j], List.getElem?_eq_getElem hjl⟩
      obtain ⟨hc1, hc2⟩ := hLc.out c (List.mem_of_getElem? hc)
      have hjs : j < S.size := by have := hsz.out; omega
      have hg := hget.out j c hc hc1 hjs
      have hjI : (j : Int) < (S.size : Int) := by omega
      have hWc := Lib.hid (fun W => hW.out c hc1 W)
      have hs := Lib.hid (hst.out j c hc)
      have hlt := Lib.hid (hwl.out j)
      have hwn := hwlen.out j
      rw [List.length_take] at hwn
      generalize stkW base (L.take j) = ws at *
      generalize wth c = d at *
      have hwn2 : ws.length ≤ 10000000 := by omega
      replace hwn := Lib.hid hwn
      have hIn : ∀ k, (inW base ws d k).length = ws.length ∨ ws.length < k := fun k => by
        rcases Nat.lt_or_ge ws.length k with h | h
        · exact .inr h
        · exact .inl (inW_len base ws d k h)
      have hIg := Lib.hid (inW_get base ws d)
      have hIs := Lib.hid (inW_set base ws d)
      have hMs := Lib.hid (fun k x (h : ws[k]? = some x) => mulA_snoc base ws k x d h)
      have hMc := Lib.hid (fun k => mulA_carry base (by omega) (ws.take k) d hc2 (fun x hx => hlt.out x (List.mem_of_mem_take hx)))
      have hstep : Hid (stepW base ws d = if (mulA base (ws.take ws.length) d).2 = 0 then inW base ws d ws.length else inW base ws d ws.length ++ [(mulA base (ws.take ws.length) d).2]) := by
        show _ = _
        unfold stepW inW
        rw [List.take_length, List.drop_length, List.append_nil]
      have hI0 : inW base ws d 0 = ws := by unfold inW; simp [mulA]
      have hM0 : (mulA base (ws.take 0) d).2 = d := by simp [mulA]
      obtain ⟨p, cap, rfl⟩ : ∃ p cap, u5 = .slice p ws.length cap := by
        rcases hown.2 with ⟨rfl, h0⟩ | ⟨g, cap, cur, rfl, _⟩
        · exact ⟨none, 0, by rw [h0]⟩
        · exact ⟨_, _, rfl⟩
      rw [← hI0] at hown
      replace hI0 := Lib.hid hI0
      replace hM0 := Lib.hid hM0
      replace hIn := Lib.hid hIn
      have hown := Lib.hid hown
      replace hbel := Lib.hid hbel
      clear hc hc1
      go_wp2_with (go_at_call 46; refine (hWc.out _).mono ?_; rintro e w' ⟨rfl, rfl⟩)
      go_loopw [7, 29] (fun v7 v29 wi => ∃ k : Nat, k ≤ ws.length ∧ v29 = .int .i64 (k : Int) ∧ v7 = .int .u64 ((mulA base (ws.take k) d).2 : Int) ∧ wi.ownsRow w.heap.size 102 1 (.slice p ws.length cap) ws.length (u64s (inW base ws d k)) ∧ Below w.heap.size w wi) (fun _ v29 _ => ws.length - (intOf v29).toNat)
      case atStart => exact ⟨0, Nat.zero_le _, rfl, by rw [hM0.out], by rw [hI0.out] at hown ⊢; exact hown.out, hbel.out⟩
      case round =>
        obtain ⟨k, hk, rfl, rfl, hown, hbel⟩ := hrel
        by_cases hkl : k < ws.length
        · obtain ⟨x, hx⟩ : ∃ x, ws[k]? = some x := ⟨ws[k], List.getElem?_eq_getElem hkl⟩
          have hxB : x < 18446744073709551616 := hlt.out x (List.mem_of_getElem? hx)
          have hset := Lib.hid (hIs.out k x hx)
          have hms := Lib.hid (hMs.out k x hx)
          have hmc := hMc.out k
          have hIgk := hIg.out k hkl
          rw [hx] at hIgk
          obtain ⟨g, cap2, e1, hr⟩ := hown.form (by omega)
          injection e1 with e1 _ e2
          subst e1 e2
          have hcell := World.ownsRow.cells hown (g := g) rfl k (.int .u64 (x : Int)) (by simp [u64s, hIgk])
          rw [add_zero_addr] at hcell
          have hfz := World.ownsRow.frozenAt hown k
          obtain ⟨hown2, hgr⟩ := World.ownsRow.stored hown k (.int .u64 (((x * base + (mulA base (ws.take k) d).2) % B64 : Nat) : Int))
          rw [u64s_set, hset.out] at hown2
          have hbel2 : Below w.heap.size w (wr.setCell ⟨g, k, none⟩ (.int .u64 (((x * base + (mulA base (ws.take k) d).2) % B64 : Nat) : Int))) := hbel.grown hgr hbel.size (own_base hown)
          have hms2 : (mulA base (ws.take (k + 1)) d).2 = (x * base + (mulA base (ws.take k) d).2) / B64 := by rw [hms.out]
          rw [show B64 = 18446744073709551616 from rfl] at hms2 hown2 hbel2
          have hMx := Lib.hid (fun W => hM.out x hxB W)
          generalize (mulA base (ws.take k) d).2 = cr at *
          have hAx := Lib.hid (hA (x * base % 18446744073709551616) cr)
          have hyb : x * base ≤ 18446744073709551615 * 36 := Nat.mul_le_mul (by omega) hb2
          have q0 : (x * base % 18446744073709551616 + cr) % 18446744073709551616 = (x * base + cr) % 18446744073709551616 := by omega
          have q1 : x * base / 18446744073709551616 + (x * base % 18446744073709551616 + cr) / 18446744073709551616 = (x * base + cr) / 18446744073709551616 := by omega
          have q2 : x * base / 18446744073709551616 + (x * base % 18446744073709551616 + cr) / 18446744073709551616 < 100 := by omega
          rw [← q0] at hown2 hbel2
          rw [← q1] at hms2
          generalize x * base / 18446744073709551616 = y1 at *
          generalize x * base % 18446744073709551616 = y0 at *
          generalize (y0 + cr) % 18446744073709551616 = z0 at *
          generalize (y0 + cr) / 18446744073709551616 = z1 at *
          have hAx := hAx.out
          have hkI : (k : Int) < (ws.length : Int) := by omega
          replace hown2 := Lib.hid hown2
          replace hms2 := Lib.hid hms2
          clear q0 q1 hyb hown hgr hms hset hx hIgk hxB hmc hA hr
          go_wp2_with (go_at_call 107; refine (hMx.out _).mono ?_; rintro e w' ⟨rfl, rfl⟩)
          exact ⟨⟨k + 1, by omega, by go_num, by rw [hms2.out, Int.natCast_add], hown2.out, hbel2⟩, by simp [intOf]; omega⟩
        · obtain rfl : k = ws.length := by omega
          have hst2 := hs.out.trans hstep.out
          have hcr := hMc.out ws.length
          clear hstep hs
          have hkI : ¬ ((ws.length : Nat) : Int) < (ws.length : Int) := by omega
          have hlen := inW_len base ws d ws.length (Nat.le_refl _)
          generalize (mulA base (ws.take ws.length) d).2 = cr at *
          generalize inW base ws d ws.length = vs at *
          clear hIg hIs hMs hMc hA hI0 hM0 hIn
          by_cases h0 : cr = 0
          · rw [if_pos h0] at hst2
            subst h0
            rw [← hlen, ← hst2] at hown
            rw [← hlen, ← hst2]
            replace hown := Lib.hid hown
            clear hst2 hlen
            have hkI2 : ¬ ((stkW base (L.take (j + 1))).length : Int) < ((stkW base (L.take (j + 1))).length : Int) := by omega
            go_wp2_with fail
            go_roundw
            case rel => exact ⟨j + 1, by omega, by go_num, hown.out, hbel⟩
            case measure => simp [intOf]; omega
          · rw [if_neg h0] at hst2
            have hcr0 : 0 < cr := by omega
            have hcB : u64s vs ++ [.int .u64 (cr : Int)] = u64s (stkW base (L.take (j + 1))) := by rw [hst2]; simp [u64s]
            have hsl : (stkW base (L.take (j + 1))).length = ws.length + 1 := by rw [hst2]; simp [hlen]
            replace hcB := Lib.hid hcB
            replace hsl := Lib.hid hsl
            clear hst2 h0 hlen
            go_wp2_with (at_builtin; refine wpList_append_lies _ (by rfl) _ _ _ (by rfl) w.heap.size 102 i0 _ 1 8 Tryz.underlying121 hi0 hz0 hz1 hz2 rfl (by omega) (.slice p ws.length cap) ws.length (u64s vs) (by rfl) (hown.alloc _) ⟨wr.heap.size, 0, none⟩ 1 1 [.int .u64 (cr : Int)] (by rfl) (by rfl) (World.news_of_block (cs := #[.int .u64 (cr : Int)]) (t := 102) (fr := (0, 0)) (by exact heap_alloc_new wr _)) (by simp [Value.oneCell']) (by omega) (by unfold maxLen; omega) (by omega) (by have := hbel.size; simp; omega) (wr.heap.size + 1) (by simp) ?_; intro gg cap2 w2 hown2 hgrow hat hlt2)
            have hown3 : w2.ownsRow w.heap.size 102 1 (.slice (some ⟨gg, 0, none⟩) (ws.length + 1) cap2) (stkW base (L.take (j + 1))).length (u64s (stkW base (L.take (j + 1)))) := by
              rw [← hcB.out, hsl.out]; exact hown2
            have hbel2 : Below w.heap.size w w2 := (hbel.alloc hbel.size _).grown hgrow (by have := hbel.size; simp; omega) (own_base hown)
            clear hown2 hgrow
            go_roundw
            case rel => exact ⟨j + 1, by omega, by go_num, hown3, hbel2⟩
            case measure => simp [intOf]; omega
    · obtain rfl : j = L.length := by omega
      rw [List.take_length, hv] at hown
      have hjI : ¬ (L.length : Int) < (S.size : Int) := by have := hsz.out; omega
      obtain ⟨g, cap, rfl, hr⟩ := hown.form (by simp)
      have hcell := World.ownsRow.cells hown (g := g) rfl 0 (.int .u64 (v : Int)) rfl
      rw [add_zero_addr] at hcell
      have n0 : ((mm : Int) == 0) = false := beq_eq_false_iff_ne.2 (by omega)
      clear hM hW hLc hst hwlen hwl hget hv hown hr
      go_wp2_with (go_at_call 109; refine (hLZ.out _).mono ?_; rintro e w' ⟨rfl, rfl⟩)
      go_loop [15, 16] (fun v15 v16 => v15 = .int .u64 0 ∧ v16 = .int .i64 0) (fun _ _ => 0)
      case atStart => exact ⟨rfl, rfl⟩
      case round =>
        obtain ⟨rfl, rfl⟩ := hrel
        go_wp2_with (first | (go_at_call 111; refine (hRd.out _).mono ?_; rintro e w'' ⟨rfl, rfl⟩) | (go_at_call 110; refine (hLd.out _).mono ?_; rintro e w'' ⟨rfl, rfl⟩))
        go_ret
        exact ⟨rfl, hbel⟩
end Go.Proofs.YtbakbikilbaafaaGreatDoor
namespace Go.Proofs.YtbakbikilbaafaaGreatDoor
open Go.RowKit Go.Shelf Go.Lib Go.Sort Go.Proofs
set_option linter.unusedVariables false
set_option maxHeartbeats 4000000
set_option maxRecDepth 100000

/-- v reads as units; it may be a slice of a row -/
def RdO (B : Nat) (w : World) (v : Value) (us : List Nat) : Prop :=
  ∃ b c, v = .slice b us.length c ∧ us.length ≤ c ∧ ∀ (j u : Nat), us[j]? = some u → ∃ g o, g < B ∧ b = some ⟨g, o, none⟩ ∧ w.cell? ⟨g, o + j, none⟩ = some (.int .u16 (u : Int))
theorem RdO.keep {B B' : Nat} {w w' : World} {v : Value} {us : List Nat} (h : RdO B w v us) (hb : Below B' w w') (hB : B ≤ B') : RdO B w' v us := by
  obtain ⟨b, c, h1, h0, h2⟩ := h
  refine ⟨b, c, h1, h0, fun j u hu => ?_⟩
  obtain ⟨g, o, k1, k2, k4⟩ := h2 j u hu
  exact ⟨g, o, k1, k2, by rw [hb.cell (p := ⟨g, o + j, none⟩) (by show g < B'; omega)]; exact k4⟩
theorem RdO_own {w : World} {base n : Nat} {e : TypeId} {v : Value} {us : List Nat} (h : w.ownsRow base e 1 v n (u16s us)) : RdO w.heap.size w v us := by
  have hl := h.lt
  have hc := fun g hg => World.ownsRow.cells h (g := g) hg
  have hlen : (u16s us).length = us.length := by simp [u16s]
  rcases h with ⟨hn, ⟨rfl, rfl⟩ | ⟨g, cap, cur, rfl, hb, hh, h1, h2, h3, h4⟩⟩
  · have : us = [] := List.length_eq_zero_iff.1 (by omega)
    subst this
    exact ⟨none, 0, rfl, Nat.le_refl _, fun j u hu => by simp at hu⟩
  · have hn' : n = us.length := by omega
    subst hn'
    refine ⟨_, cap, rfl, h1, ?_⟩
    intro j u hu
    have := hc g rfl j (.int .u16 (u : Int)) (by simp [u16s, hu])
    rw [add_zero_addr] at this
    exact ⟨g, 0, (hl g rfl).2, rfl, by rw [Nat.zero_add]; exact this⟩
theorem sz16 (w : World) : (Go.sizeOf 27).run Tryz.prog w = .ok 1 w := by kernel_rfl
theorem el16 : Tryz.prog.elem 49 = 27 := by kernel_rfl
theorem sl16_from {p : Option Addr} {n c k : Nat} (hk : k ≤ n) (W : World) : (Instr.slice 49 (.slice p n c) (some (.int .i64 (k : Int))) none none).run Tryz.prog W = .ok (.slice (if c = k then p else p.map (fun x => x.add k)) (n - k) (c - k)) W := by
  have h := run_slice_l (P := Tryz.prog) W 49 p n c (by rw [el16]; exact Tryz.underlying49) .i64 (k : Int) (by omega) (by omega)
  rw [h, el16, sz16]
  simp only [Result.andThen, sliced, Int.toNat_natCast, Nat.mul_one]
theorem RdO.drop {B : Nat} {w : World} {p : Option Addr} {n c : Nat} {us : List Nat} (h : RdO B w (.slice p n c) us) (k : Nat) (hk : k ≤ n) : RdO B w (.slice (if c = k then p else p.map (fun x => x.add k)) (n - k) (c - k)) (us.drop k) := by
  obtain ⟨b, d, e1, e2, e3⟩ := h
  injection e1 with e1 e4 e5
  subst e1 e4 e5
  refine ⟨_, _, by rw [List.length_drop], by rw [List.length_drop]; omega, fun j u hu => ?_⟩
  rw [List.getElem?_drop] at hu
  have hj := (List.getElem?_eq_some_iff.1 hu).1
  obtain ⟨g, o, g1, rfl, g2⟩ := e3 (k + j) u hu
  refine ⟨g, o + k, g1, ?_, by rw [show o + k + j = o + (k + j) by omega]; exact g2⟩
  rw [if_neg (by omega)]
  simp [Addr.add]
theorem RdO.take {B : Nat} {w : World} {p : Option Addr} {n c : Nat} {us : List Nat} (h : RdO B w (.slice p n c) us) (k : Nat) (hk : k ≤ n) : RdO B w (.slice p k c) (us.take k) := by
  obtain ⟨b, d, e1, e2, e3⟩ := h
  injection e1 with e1 e4 e5
  subst e1 e4 e5
  have hl : (us.take k).length = k := by rw [List.length_take]; omega
  refine ⟨_, _, by rw [hl], by omega, fun j u hu => ?_⟩
  have hj : j < k := by have := (List.getElem?_eq_some_iff.1 hu).1; omega
  exact e3 j u (by rw [List.getElem?_take, if_pos hj] at hu; exact hu)
theorem RdO.form {B : Nat} {w : World} {v : Value} {us : List Nat} (h : RdO B w v us) : ∃ p c, v = .slice p us.length c := by
  obtain ⟨b, c, h1, _, _⟩ := h
  exact ⟨b, c, h1⟩
theorem c_MakeO (us : List Nat) (v : Value) (hus : ∀ u ∈ us, u < 65536) (hl : us.length ≤ 549755813888) (w : World) (h : RdO w.heap.size w v us) :
    Calls Tryz.prog 35 #[v] w fun e w' => e = .returned (.string (textU us)) ∧ Below w.heap.size w w' := by
  obtain ⟨i0, hi0, hz0, hz1, hz2⟩ := info_parts infoU8
  obtain ⟨p, c, rfl, hlc, hcell⟩ := h
  have hget : ∀ k, k < us.length → ∃ u g o, us[k]? = some u ∧ u < 65536 ∧ p = some ⟨g, o, none⟩ ∧ ∀ y, Below w.heap.size w y → y.cell? ⟨g, o + k, none⟩ = some (.int .u16 (u : Int)) := by
    intro k hk
    have hx : us[k]? = some us[k] := List.getElem?_eq_getElem hk
    obtain ⟨g, o, g1, g2, g4⟩ := hcell k us[k] hx
    refine ⟨us[k], g, o, hx, hus _ (List.getElem_mem hk), g2, fun y hy => ?_⟩
    rw [hy.cell (p := ⟨g, o + k, none⟩) (by exact g1)]
    exact g4
  have hsn := bytesU_snoc us
  have hbl : ∀ k, (bytesU (us.take k)).length = 2 * (us.take k).length := fun k => bytesU_len _
  have hend : bytesU (us.take us.length) = bytesU us := by rw [List.take_length]
  have h0 : bytesU (us.take 0) = [] := rfl
  unfold textU
  generalize bytesU us = E at *
  generalize hF : (fun k => bytesU (us.take k)) = F at *
  have hF' : ∀ k, bytesU (us.take k) = F k := fun k => by rw [← hF]
  simp only [hF'] at hsn hbl hend h0
  have hFl : ∀ k, k ≤ us.length → (F k).length = 2 * k := fun k hk => by rw [hbl, List.length_take]; omega
  clear hcell hus hlc hF hF' hbl
  generalize us.length = n at *
  replace hget := Lib.hid hget
  replace hsn := Lib.hid hsn
  replace hend := Lib.hid hend
  replace h0 := Lib.hid h0
  replace hFl := Lib.hid hFl
  go_enter Tryz.func35, Tryz.ntmps35
  go_wp2
  go_loopw [3, 8] (fun vb vk wr => ∃ k : Nat, k ≤ n ∧ vk = .int .i64 (k : Int) ∧ wr.ownsRow w.heap.size 5 1 vb (2 * k) (cellsB (F k)) ∧ Below w.heap.size w wr) (fun _ vk _ => n - (RowKit.intOf vk).toNat)
  case atStart => exact ⟨0, by omega, rfl, ⟨by rw [h0.out]; rfl, .inl ⟨rfl, rfl⟩⟩, Below.refl _ _⟩
  case round =>
    obtain ⟨k, hk, rfl, hown, hbel⟩ := hrel
    rcases Nat.lt_or_ge k n with hlt | hge
    · obtain ⟨u, g, o, hu, hu2, rfl, hy⟩ := hget.out k hlt
      have d1 := hy wr hbel
      have hs := Lib.hid (hsn.out k u hu)
      clear hu hy
      have hk2 := Lib.hid (hFl.out k hk)
      have hcB : cellsB (F k) ++ [.int .u8 ((u : Int) / 256), .int .u8 ((u : Int) % 256)] = cellsB (F (k + 1)) := by
        rw [hs.out]
        simp only [cellsB, List.map_append, byteU, List.map_cons, List.map_nil]
        congr 2
        · congr 1
          simp; omega
        · congr 2
          simp
      replace hcB := Lib.hid hcB
      go_wp2_with (at_builtin; refine wpList_append_lies _ (by rfl) _ _ _ (by rfl) w.heap.size 5 i0 _ 1 1 Tryz.underlying90 hi0 hz0 hz1 hz2 rfl (by omega) u3 (2 * k) (cellsB (F k)) (by rfl) (hown.alloc _) ⟨wr.heap.size, 0, none⟩ 2 2 [.int .u8 ((u : Int) / 256), .int .u8 ((u : Int) % 256)] (by rfl) (by rfl) (World.news_of_block (cs := #[.int .u8 ((u : Int) / 256), .int .u8 ((u : Int) % 256)]) (t := 5) (fr := (0, 0)) (by exact heap_alloc_new wr _)) (by simp [Value.oneCell']) (by omega) (by unfold maxLen; omega) (by omega) (by have := hbel.size; simp; omega) (wr.heap.size + 1) (by simp) ?_; intro gg cap w2 hown2 hgrow hat hlt2)
      have hown3 : w2.ownsRow w.heap.size 5 1 (.slice (some ⟨gg, 0, none⟩) (2 * k + 2) cap) (2 * (k + 1)) (cellsB (F (k + 1))) := by
        rw [← hcB.out]; exact hown2
      have hbel2 : Below w.heap.size w w2 := (hbel.alloc hbel.size _).grown hgrow (by have := hbel.size; simp; omega) (own_base hown)
      clear hown2 hgrow
      go_roundw
      case rel => exact ⟨k + 1, by omega, by go_num, hown3, hbel2⟩
      case measure => simp [RowKit.intOf]; omega
    · obtain rfl : k = n := by omega
      have hE := hend.out
      have hkl := hFl.out k hk
      have hcv : (convert 90 24 u3).run Tryz.prog wr = .ok (.string ⟨E.toArray⟩) wr := by
        rw [hE] at hown hkl
        rcases Nat.eq_zero_or_pos k with h1 | h1
        · subst h1
          have hE0 : E = [] := List.length_eq_zero_iff.1 (by omega)
          subst hE0
          rcases hown with ⟨_, ⟨rfl, _⟩ | ⟨g, cap, cur, rfl, _⟩⟩
          · exact run_convert_bytes_nil (P := Tryz.prog) wr 90 5 Tryz.underlying90 Tryz.underlying5 0 0 24 Tryz.underlying24
          · exact run_convert_bytes_back (P := Tryz.prog) wr 90 24 5 ⟨g, 0, none⟩ cap [] Tryz.underlying90 Tryz.underlying5 Tryz.underlying24 (fun j hj => by simp at hj)
        · obtain ⟨g, cap, rfl, _, _⟩ := hown.form (by omega)
          have hc := World.ownsRow.cells hown (g := g) rfl
          rw [← hkl]
          refine run_convert_bytes_back (P := Tryz.prog) wr 90 24 5 ⟨g, 0, none⟩ cap E Tryz.underlying90 Tryz.underlying5 Tryz.underlying24 (fun j hj => hc j _ ?_)
          simp [cellsB, hj]
      clear hown hkl hE
      go_wp2
      go_ret
      exact ⟨rfl, hbel⟩
def blkL (us : List Nat) (i : Nat) : Bool := blkN (us.getD i 0)
theorem c_Rfront (us : List Nat) (v : Value) (k : Nat) (hus : ∀ u ∈ us, u < 65536) (hl : us.length ≤ 549755813888) (hF : FrA (blkL us) us.length k) (w : World) (h : RdO w.heap.size w v us) :
    Calls Tryz.prog 34 #[v] w fun e w' => e = .returned (.int .i64 (k : Int)) ∧ Below w.heap.size w w' := by
  obtain ⟨h1, h2, h3⟩ := hF
  obtain ⟨p, c, rfl, hlc, hcell⟩ := h
  have hget : ∀ k, k < us.length → ∃ u g o, us.getD k 0 = u ∧ u < 65536 ∧ p = some ⟨g, o, none⟩ ∧ ∀ y, Below w.heap.size w y → y.cell? ⟨g, o + k, none⟩ = some (.int .u16 (u : Int)) := by
    intro k hk
    have hx : us[k]? = some us[k] := List.getElem?_eq_getElem hk
    obtain ⟨g, o, g1, g2, g4⟩ := hcell k us[k] hx
    refine ⟨us[k], g, o, by rw [List.getD_eq_getElem?_getD, hx]; rfl, hus _ (List.getElem_mem hk), g2, fun y hy => ?_⟩
    rw [hy.cell (p := ⟨g, o + k, none⟩) (by exact g1)]
    exact g4
  have hB := Lib.hid (fun (u : Nat) (hu : u < 65536) W => c_RBlank u hu W)
  unfold blkL at h2 h3
  clear hcell hus
  replace hget := Lib.hid hget
  replace h2 := Lib.hid h2
  replace h3 := Lib.hid h3
  generalize us.length = n at *
  go_enter Tryz.func34, Tryz.ntmps34
  go_wp2
  go_loopw [3] (fun v3 wr => ∃ j : Nat, j ≤ k ∧ v3 = .int .i64 (j : Int) ∧ Below w.heap.size w wr) (fun v3 _ => k - (RowKit.intOf v3).toNat)
  case atStart => exact ⟨0, Nat.zero_le _, rfl, Below.refl _ _⟩
  case round =>
    obtain ⟨j, hj, rfl, hb⟩ := hrel
    rcases Nat.lt_or_ge j n with hjn | hjn
    · obtain ⟨u, g, o, hu, hu2, rfl, hy⟩ := hget.out j hjn
      have d1 := hy wr hb
      have hBj := Lib.hid (fun W => hB.out u hu2 W)
      rcases Nat.eq_or_lt_of_le hj with e | e
      · subst e
        have hf := h3.out hjn
        rw [hu] at hf
        rw [hf] at hBj
        clear hf hu hy
        go_wp2_with fail
        refine (hBj.out _).mono ?_
        rintro e w1 ⟨rfl, hb1⟩
        have hb2 := hb.trans (hb1.mono hb.size)
        go_wp2_with fail
        go_ret
        exact ⟨rfl, hb2⟩
      · have hf := h2.out j e
        rw [hu] at hf
        rw [hf] at hBj
        clear hf hu hy
        go_wp2_with fail
        refine (hBj.out _).mono ?_
        rintro e w1 ⟨rfl, hb1⟩
        have hb2 := hb.trans (hb1.mono hb.size)
        go_wp2_with fail
        exact ⟨⟨j + 1, by omega, by go_num, hb2⟩, by simp [RowKit.intOf]; omega⟩
    · obtain rfl : j = k := by omega
      go_wp2_with fail
      go_ret
      exact ⟨rfl, hb⟩
theorem sl16_to {p : Option Addr} {n c k : Nat} (hk : k ≤ c) (W : World) : (Instr.slice 49 (.slice p n c) none (some (.int .i64 (k : Int))) none).run Tryz.prog W = .ok (.slice p k c) W := by
  have h := run_slice_h (P := Tryz.prog) W 49 p n c (by rw [el16]; exact Tryz.underlying49) .i64 (k : Int) (by omega) (by omega)
  rw [h, el16, sz16]
  simp only [Result.andThen, sliced, Int.toNat_natCast, Nat.zero_mul, Nat.sub_zero]
  congr 2
  split
  · rfl
  · cases p with
    | none => rfl
    | some a => simp [Addr.add]
theorem unitsN_get (s : ByteArray) (n i : Nat) (h : i < n) : (unitsN s n)[i]? = some (unitAt s i) := by
  induction n with
  | zero => omega
  | succ n ih =>
    unfold unitsN
    rcases Nat.lt_or_ge i n with h1 | h1
    · rw [List.getElem?_append_left (by rw [unitsN_len]; exact h1)]; exact ih h1
    · obtain rfl : i = n := by omega
      rw [List.getElem?_append_right (by rw [unitsN_len]; exact Nat.le_refl _), unitsN_len]; simp
theorem unitsN_mem (s : ByteArray) (n : Nat) : ∀ u ∈ unitsN s n, u < 65536 := fun u hu => by
  obtain ⟨i, hi⟩ := List.mem_iff_getElem?.1 hu
  have hl := (List.getElem?_eq_some_iff.1 hi).1
  rw [unitsN_len] at hl
  rw [unitsN_get s n i hl] at hi
  injection hi with hi
  rw [← hi]; exact unitAt_lt s i
theorem byteU_unit (s : ByteArray) (k : Nat) (h : 2 * k + 1 < s.size) : byteU (unitAt s k) = [s.data.toList[2 * k]'(by simpa using (by omega : 2 * k < s.size)), s.data.toList[2 * k + 1]'(by simpa using h)] := by
  have h1 : 2 * k < s.data.toList.length := by simpa using (by omega : 2 * k < s.size)
  have h2 : 2 * k + 1 < s.data.toList.length := by simpa using h
  have e1 : ub s (2 * k) = s.data.toList[2 * k].toNat := by unfold ub; rw [List.getD_eq_getElem?_getD, List.getElem?_eq_getElem h1]; rfl
  have e2 : ub s (2 * k + 1) = s.data.toList[2 * k + 1].toNat := by unfold ub; rw [List.getD_eq_getElem?_getD, List.getElem?_eq_getElem h2]; rfl
  have b1 := s.data.toList[2 * k].toNat_lt
  have b2 := s.data.toList[2 * k + 1].toNat_lt
  unfold byteU unitAt
  rw [e1, e2]
  generalize s.data.toList[2 * k] = x at *
  generalize s.data.toList[2 * k + 1] = y at *
  rw [show (x.toNat * 256 + y.toNat) / 256 = x.toNat by omega, show (x.toNat * 256 + y.toNat) % 256 = y.toNat by omega]
  simp
theorem bytesU_units (s : ByteArray) (k : Nat) (h : k ≤ s.size / 2) : bytesU (unitsN s k) = s.data.toList.take (2 * k) := by
  induction k with
  | zero => rfl
  | succ k ih =>
    have h1 : 2 * k < s.data.toList.length := by simpa using (by omega : 2 * k < s.size)
    have h2 : 2 * k + 1 < s.data.toList.length := by simpa using (by omega : 2 * k + 1 < s.size)
    have e : bytesU (unitsN s (k + 1)) = bytesU (unitsN s k) ++ byteU (unitAt s k) := by rw [show unitsN s (k + 1) = unitsN s k ++ [unitAt s k] from rfl]; unfold bytesU; simp
    rw [e, ih (by omega), byteU_unit s k (by omega), show 2 * (k + 1) = 2 * k + 1 + 1 by omega, List.take_add_one, List.take_add_one, List.getElem?_eq_getElem h1, List.getElem?_eq_getElem h2]
    simp
theorem bytesU_take2 (us : List Nat) (k : Nat) : bytesU (us.take k) = (bytesU us).take (2 * k) := by
  induction us generalizing k with
  | nil => simp [bytesU]
  | cons u us ih =>
    cases k with
    | zero => simp [bytesU]
    | succ k =>
      have e : ∀ l, bytesU (u :: l) = byteU u ++ bytesU l := fun l => by simp [bytesU]
      rw [List.take_succ_cons, e, e, ih]
      unfold byteU
      rw [show 2 * (k + 1) = 2 * k + 1 + 1 by omega]
      simp
theorem bytesU_drop2 (us : List Nat) (k : Nat) : bytesU (us.drop k) = (bytesU us).drop (2 * k) := by
  induction us generalizing k with
  | nil => simp [bytesU]
  | cons u us ih =>
    cases k with
    | zero => simp
    | succ k =>
      have e : ∀ l, bytesU (u :: l) = byteU u ++ bytesU l := fun l => by simp [bytesU]
      rw [List.drop_succ_cons, e, ih]
      unfold byteU
      rw [show 2 * (k + 1) = 2 * k + 1 + 1 by omega]
      simp
theorem text_cut (s : ByteArray) (k t : Nat) (h : t ≤ s.size / 2) : textU (((unitsN s (s.size / 2)).drop k).take (t - k)) = s.extract (2 * k) (2 * t) := by
  unfold textU
  rw [bytesU_take2, bytesU_drop2, bytesU_units s _ (Nat.le_refl _)]
  have : ∀ a b : ByteArray, a.data = b.data → a = b := fun a b h => by cases a; cases b; simp at h; rw [h]
  apply this
  rw [ByteArray.data_extract]
  apply Array.toList_inj.1
  rw [Array.toList_extract, List.toList_toArray, List.extract_eq_take_drop]
  have hl : (s.data.toList).length = s.size := by simp
  rw [List.drop_take, List.take_take]
  congr 1
  omega
theorem c_RTrim (s : ByteArray) (k t : Nat) (hs : s.size ≤ 1099511627776) (hF : FrA (blkS s) (s.size / 2) k) (hT : BkA (blkS s) k (s.size / 2) t) (w : World) :
    Calls Tryz.prog 15 #[.string s] w fun e w' => e = .returned (.string (s.extract (2 * k) (2 * t))) ∧ Below w.heap.size w w' := by
  have hU := Lib.hid (c_UnitsR s hs w)
  have htx := Lib.hid (text_cut s k t hT.le)
  have hg0 := fun i (h : i < s.size / 2) => unitsN_get s (s.size / 2) i h
  have hm0 := unitsN_mem s (s.size / 2)
  have hl0 := unitsN_len s (s.size / 2)
  obtain ⟨f1, f2, f3⟩ := hF
  obtain ⟨h1, h2, h3, h4⟩ := hT
  have hD : ∀ i, i < s.size / 2 → blkS s i = blkL (unitsN s (s.size / 2)) i := fun i hi => by
    unfold blkS blkL
    rw [List.getD_eq_getElem?_getD, hg0 i hi]; rfl
  have hF : FrA (blkL (unitsN s (s.size / 2))) (unitsN s (s.size / 2)).length k := by
    rw [hl0]
    exact ⟨f1, fun i hi => by rw [← hD i (by omega)]; exact f2 i hi, fun h => by rw [← hD k h]; exact f3 h⟩
  have h3 : ∀ i, t ≤ i → i < s.size / 2 → blkL (unitsN s (s.size / 2)) i = true := fun i a b => by rw [← hD i b]; exact h3 i a b
  have h4 : k < t → blkL (unitsN s (s.size / 2)) (t - 1) = false := fun h => by rw [← hD _ (by omega)]; exact h4 h
  clear hD hg0
  have hN : s.size / 2 ≤ 549755813888 := by omega
  generalize s.extract (2 * k) (2 * t) = R at *
  generalize unitsN s (s.size / 2) = us at *
  generalize s.size / 2 = n at *
  have hFr := Lib.hid (fun v W h => c_Rfront us v k hm0 (by omega) hF W h)
  have hMk := Lib.hid (fun v W h => c_MakeO ((us.drop k).take (t - k)) v (fun u hu => hm0 u (List.mem_of_mem_drop (List.mem_of_mem_take hu))) (by simp; omega) W h)
  rw [htx.out] at hMk
  have hB := Lib.hid (fun (u : Nat) (hu : u < 65536) W => c_RBlank u hu W)
  unfold blkL at h3 h4
  replace h3 := Lib.hid h3
  replace h4 := Lib.hid h4
  replace hm0 := Lib.hid hm0
  replace hl0 := Lib.hid hl0
  clear hF htx f2 f3
  go_enter Tryz.func15, Tryz.ntmps15
  go_wp2_with fail
  refine hU.out.mono ?_
  rintro e w1 ⟨v, rfl, hown, hb1⟩
  have hR := RdO_own hown
  obtain ⟨p, c, rfl⟩ := hR.form
  rw [hl0.out] at hR ⊢
  clear hown
  have hFr1 := Lib.hid (hFr.out _ _ hR)
  have hs1 := fun W => sl16_from (p := p) (n := n) (c := c) f1 W
  have hR1 := hR.drop k f1
  replace hR := Lib.hid hR
  generalize (if c = k then p else p.map (fun x => x.add k)) = q at *
  generalize c - k = c2 at *
  go_wp2_with fail
  refine hFr1.out.mono ?_
  rintro e w2 ⟨rfl, hb2⟩
  have hR2 := hR1.keep hb2 (Nat.le_refl _)
  have hb3 : Below w.heap.size w w2 := hb1.trans (hb2.mono hb1.size)
  have hB2 := hb2.size
  clear hR1
  have hget : ∀ i, i < n - k → ∃ u g o, us.getD (k + i) 0 = u ∧ u < 65536 ∧ q = some ⟨g, o, none⟩ ∧ ∀ y, Below w2.heap.size w2 y → y.cell? ⟨g, o + i, none⟩ = some (.int .u16 (u : Int)) := by
    intro i hi
    obtain ⟨b, d, e1, e2, e3⟩ := hR2
    injection e1 with e1 e4 e5
    subst e1 e5
    have hki : k + i < us.length := by rw [hl0.out]; omega
    have hx : us[k + i]? = some us[k + i] := List.getElem?_eq_getElem hki
    obtain ⟨g, o, g1, g2, g4⟩ := e3 i us[k + i] (by rw [List.getElem?_drop]; exact hx)
    refine ⟨us[k + i], g, o, by rw [List.getD_eq_getElem?_getD, hx]; rfl, hm0.out _ (List.getElem_mem hki), g2, fun y hy => ?_⟩
    rw [hy.cell (p := ⟨g, o + i, none⟩) (by show g < w2.heap.size; omega)]
    exact g4
  have hNc : n - k ≤ c2 := by
    obtain ⟨b, d, e1, e2, e3⟩ := hR2
    injection e1 with e1 e4 e5
    subst e5
    rw [List.length_drop, hl0.out] at e2
    exact e2
  have hRT := Lib.hid (hR2.take (t - k) (by omega))
  have hwid : ∀ y, Below w2.heap.size w2 y → RdO y.heap.size y (.slice q (t - k) c2) ((us.drop k).take (t - k)) := fun y hy => by
    obtain ⟨b, d, e1, e0, e2⟩ := hRT.out.keep hy hB2
    refine ⟨b, d, e1, e0, fun j u hu => ?_⟩
    obtain ⟨g, o, k1, k2, k4⟩ := e2 j u hu
    exact ⟨g, o, by have := hy.size; omega, k2, k4⟩
  have hMk2 := Lib.hid (fun y hy => hMk.out _ y (hwid y hy))
  clear hwid hRT hR2 hMk
  replace hget := Lib.hid hget
  have hNn : n - k ≤ 549755813888 := by omega
  generalize hN' : n - k = N at *
  generalize hT' : t - k = T at *
  have hTN : T ≤ N := by omega
  have h3' : ∀ i, T ≤ i → i < N → blkN (us.getD (k + i) 0) = true := fun i a b => h3.out (k + i) (by omega) (by omega)
  have h4' : 0 < T → blkN (us.getD (k + (T - 1)) 0) = false := fun h => by
    have := h4.out (by omega)
    rw [show t - 1 = k + (T - 1) by omega] at this
    exact this
  clear h1 h2 h3 h4 f1
  replace h3' := Lib.hid h3'
  replace h4' := Lib.hid h4'
  have hsl := fun (m : Nat) (h : m ≤ c2) n W => sl16_to (p := q) (n := n) h W
  replace hsl := Lib.hid hsl
  replace hN' := Lib.hid hN'
  replace hT' := Lib.hid hT'
  go_wp2_with fail
  go_loopw [3] (fun v3 wr => ∃ m : Nat, T ≤ m ∧ m ≤ N ∧ v3 = .slice q m c2 ∧ Below w2.heap.size w2 wr) (fun v3 _ => (match v3 with | .slice _ m _ => m | _ => 0))
  case atStart => exact ⟨N, hTN, Nat.le_refl _, rfl, Below.refl _ _⟩
  case round =>
    obtain ⟨m, htm, hmN, rfl, hb⟩ := hrel
    rcases Nat.eq_zero_or_pos m with hm0' | hm0'
    · subst hm0'
      obtain rfl : T = 0 := by omega
      have hM := Lib.hid (hMk2.out wr hb)
      go_wp2_with fail
      refine hM.out.mono ?_
      rintro e w5 ⟨rfl, hb5⟩
      have hb6 := (hb3.trans (hb.mono hb3.size)).trans (hb5.mono (by have := hb.size; have := hb3.size; omega))
      go_wp2_with fail
      go_ret
      exact ⟨rfl, hb6⟩
    · obtain ⟨u, g, o, hu, hu2, rfl, hy⟩ := hget.out (m - 1) (by omega)
      have d1 := hy wr hb
      have hBj := Lib.hid (fun W => hB.out u hu2 W)
      have hmc : m ≤ c2 := by omega
      have hmI : (0 : Int) < (m : Int) := by omega
      have e9 : ((m : Int) - 1).toNat = m - 1 := by omega
      have hm63 : m ≤ 549755813888 := by omega
      have e8 : (0 : Int) ≤ (m : Int) - 1 := by omega
      have e7 : (m : Int) - 1 < (m : Int) := by omega
      rcases Nat.eq_or_lt_of_le htm with e | e
      · subst e
        have hf := h4'.out hm0'
        rw [hu] at hf
        rw [hf] at hBj
        clear hf hu hy hget hsl hmN hTN
        go_wp2_with fail
        refine (hBj.out _).mono ?_
        rintro e w4 ⟨rfl, hb4⟩
        have hb5 := hb.trans (hb4.mono hb.size)
        have hM := Lib.hid (hMk2.out w4 hb5)
        go_wp2_with fail
        refine hM.out.mono ?_
        rintro e w5 ⟨rfl, hb6⟩
        have hb7 := (hb3.trans (hb5.mono hb3.size)).trans (hb6.mono (by have := hb5.size; have := hb3.size; omega))
        go_wp2_with fail
        go_ret
        exact ⟨rfl, hb7⟩
      · have hf := h3'.out (m - 1) (by omega) (by omega)
        rw [hu] at hf
        rw [hf] at hBj
        have hs2 : ∀ W, (Instr.slice 49 (.slice (some ⟨g, o, none⟩) m c2) none (some (.int .i64 ((m : Int) - 1))) none).run Tryz.prog W = .ok (.slice (some ⟨g, o, none⟩) (m - 1) c2) W := fun W => by
          have := hsl.out (m - 1) (by omega) m W
          rw [show ((m - 1 : Nat) : Int) = (m : Int) - 1 by omega] at this
          exact this
        clear hf hu hy hget hsl
        go_wp2_with fail
        refine (hBj.out _).mono ?_
        rintro e w4 ⟨rfl, hb4⟩
        have hb5 := hb.trans (hb4.mono hb.size)
        go_wp2_with fail
        exact ⟨⟨m - 1, by omega, by omega, rfl, hb5⟩, by simp; omega⟩
end Go.Proofs.YtbakbikilbaafaaGreatDoor
namespace Go.Proofs.YtbakbikilbaafaaGreatDoor
open Go.RowKit F64 Ieee
set_option linter.unusedVariables false
set_option maxHeartbeats 4000000
set_option maxRecDepth 100000

/-- units as bytes -/
def plL (us : List Nat) : List Nat := us.map fun u => min u 127
theorem plL_take (us : List Nat) (k u : Nat) (h : us[k]? = some u) : Lib.byteCells ((plL (us.take (k + 1))).map UInt8.ofNat) = Lib.byteCells ((plL (us.take k)).map UInt8.ofNat) ++ [.int .u8 ((min u 127 : Nat) : Int)] := by
  rw [List.take_add_one, h]
  unfold plL
  simp only [Option.toList, List.map_append, List.map_cons, List.map_nil]
  rw [Lib.byteCells_append]
  congr 1
  unfold Lib.byteCells
  simp
  omega
theorem c_dplain (s : ByteArray) (hs : s.size ≤ 1099511627776) (w : World) :
    Calls Tryz.prog 36 #[.string s] w fun e w' => e = .returned (.string (u8sG (plL (unitsN s (s.size / 2))))) ∧ Below w.heap.size w w' := by
  have hU := Lib.hid (fun W => c_Units s hs W)
  have hm0 := Lib.hid (unitsN_mem s (s.size / 2))
  have hl0 := Lib.hid (unitsN_len s (s.size / 2))
  have hN : s.size / 2 ≤ 549755813888 := by omega
  have hst := Lib.hid (plL_take (unitsN s (s.size / 2)))
  have hend : Hid (u8sG (plL (unitsN s (s.size / 2))) = ⟨((plL ((unitsN s (s.size / 2)).take (s.size / 2))).map UInt8.ofNat).toArray⟩) := by
    show _ = _
    rw [List.take_of_length_le (by rw [hl0.out]; exact Nat.le_refl _)]; rfl
  have hbl : Hid (∀ k, (Lib.byteCells ((plL ((unitsN s (s.size / 2)).take k)).map UInt8.ofNat)).length ≤ 549755813888) := fun k => by
    rw [Lib.byteCells_length]
    unfold plL
    simp
    have := hl0.out
    omega
  generalize u8sG (plL (unitsN s (s.size / 2))) = R at *
  generalize unitsN s (s.size / 2) = us at *
  generalize s.size / 2 = n at *
  have hW := Lib.hid (fun bs c W h hl hB => Any.Builder_WriteByte_k lays167 bextra w.heap.size w.heap.size bs c W h hl hB)
  have hS := Lib.hid (fun l W h hB => Any.Builder_String_any_k lays169 bextra w.heap.size w.heap.size l W h hB)
  have hfr := Lib.hid (Lib.IsBuilderF.of (Lib.fresh_isBuilder 93 5 w))
  have hW0 : Hid (Below w.heap.size w (w.alloc (.cells #[.pointer none, .slice none 0 0] 93))) := (Below.refl _ w).alloc (Nat.le_refl _) _
  have hsz0 : (w.alloc (.cells #[.pointer none, .slice none 0 0] 93)).heap.size = w.heap.size + 1 := by simp
  replace hsz0 := Lib.hid hsz0
  go_enter Tryz.func36, Tryz.ntmps36
  go_wp2_with fail
  refine (hU.out _).mono ?_
  rintro e w2 ⟨v, rfl, hown, hb2⟩
  have hI2 := Lib.hid (builderF_keep hfr.out hb2)
  have hbel2 : Below w.heap.size w w2 := hW0.out.trans (hb2.mono hW0.out.size)
  have hget : ∀ k, k < n → ∃ u g, us[k]? = some u ∧ u < 65536 ∧ (∃ c, v = .slice (some ⟨g, 0, none⟩) n c ∧ n ≤ c) ∧ ∀ y, Lib.OthersKept 5 (some w.heap.size) w2 y → y.cell? ⟨g, k, none⟩ = some (.int .u16 (u : Int)) := by
    intro k hk
    have hku : k < us.length := by rw [hl0.out]; exact hk
    have hx : us[k]? = some us[k] := List.getElem?_eq_getElem hku
    have hc := fun g hg => World.ownsRow.cells hown (g := g) hg
    have hlen : (u16s us).length = us.length := by simp [u16s]
    rcases hown with ⟨hn, ⟨rfl, rfl⟩ | ⟨g, cap, cur, rfl, hbg, hh, h1, h2, h3, h4⟩⟩
    · omega
    · refine ⟨us[k], g, hx, hm0.out _ (List.getElem_mem hku), ⟨cap, rfl, by omega⟩, fun y hy => ?_⟩
      have h6 := hc g rfl k (.int .u16 (us[k] : Int)) (by simp [u16s, hx])
      rw [add_zero_addr] at h6
      have h7 := hy g _ hh (by have := hsz0.out; simp; omega) (fun c fz he => by cases he)
      rw [cell_of_row y _ _ _ _ _ h7, ← cell_of_row w2 _ _ _ _ _ hh]
      exact h6
  obtain ⟨p, c, rfl⟩ : ∃ p c, v = .slice p n c := by
    obtain ⟨p, c, h⟩ := (RdO_own hown).form
    rw [hl0.out] at h
    exact ⟨p, c, h⟩
  replace hget := Lib.hid hget
  have hB2 := hbel2.size
  clear hown hb2
  go_wp2_with fail
  go_loopw [5, 9] (fun v5 v9 wr => ∃ k : Nat, k ≤ n ∧ v9 = .int .i64 (k : Int) ∧ Lib.IsBuilderF 93 5 w.heap.size w.heap.size (Lib.byteCells ((plL (us.take k)).map UInt8.ofNat)) wr ∧ Below w.heap.size w wr ∧ Lib.OthersKept 5 (some w.heap.size) w2 wr) (fun _ v9 _ => n - (intOf v9).toNat)
  case atStart => exact ⟨0, Nat.zero_le _, rfl, hI2.out, hbel2, Lib.OthersKept.refl _ _ _⟩
  case round =>
    obtain ⟨k, hk, rfl, hI, hb, ho⟩ := hrel
    rcases Nat.lt_or_ge k n with hkn | hkn
    · obtain ⟨u, g, hu, hu2, ⟨c1, e1, hc1⟩, hy⟩ := hget.out k hkn
      injection e1 with e1 _ e2
      subst e1 e2
      have d1 := hy wr ho
      have hs2 := Lib.hid (hst.out k u hu)
      have hlb := hbl.out k
      have hWk := Lib.hid (hW.out _ ((min u 127 : Nat) : Int) wr hI (by omega) hb.size)
      have hmin : min (u : Int) 127 = ((min u 127 : Nat) : Int) := by omega
      have hm8 : min u 127 ≤ 127 := Nat.min_le_right _ _
      clear hu hy hlb hI
      generalize hmu : min u 127 = mu at *
      clear hmu
      go_wp2_with fail
      refine hWk.out.mono ?_
      rintro e w3 ⟨rfl, h1, b1, k1⟩
      have hb3 := hb.trans (b1.mono (Nat.le_refl _))
      have ho3 := ho.trans k1
      go_wp2_with fail
      go_roundw
      case rel => exact ⟨k + 1, by omega, by go_num, by rw [hs2.out]; exact .inr h1, hb3, ho3⟩
      case measure => simp [intOf]; omega
    · obtain rfl : k = n := by omega
      have hSk := Lib.hid (hS.out _ wr hI hb.size)
      rw [← hend.out] at hSk
      clear hI
      go_wp2_with fail
      refine hSk.out.mono ?_
      rintro e w3 ⟨rfl, _, b1, _⟩
      go_wp2_with fail
      go_ret
      exact ⟨rfl, hb.trans b1⟩
/-- digits, a point, digits; an exponent -/
def decM (L : List Nat) (n : Nat) : Nat := if L.getD (n + 1) 0 = 43 ∨ L.getD (n + 1) 0 = 45 then n + 2 else n + 1
def decE (L : List Nat) (n : Nat) : Nat := if L.getD n 0 ||| 32 = 101 then (if 0 < runL 10 (L.drop (decM L n)) then decM L n + runL 10 (L.drop (decM L n)) else n) else n
def decN (L : List Nat) : Nat :=
  if L.getD (runL 10 L) 0 = 46 then (if runL 10 L + runL 10 (L.drop (runL 10 L + 1)) = 0 then 0 else decE L (runL 10 L + 1 + runL 10 (L.drop (runL 10 L + 1))))
  else if runL 10 L = 0 then 0 else decE L (runL 10 L)
theorem getD_lt {L : List Nat} {i c : Nat} (h : L.getD i 0 = c) (hi : i < L.length) : L[i]? = some c := by
  rw [List.getD_eq_getElem?_getD, List.getElem?_eq_getElem hi] at h
  rw [List.getElem?_eq_getElem hi]
  simpa using h
theorem getD_ge {L : List Nat} {i : Nat} (hi : L.length ≤ i) : L.getD i 0 = 0 := by
  rw [List.getD_eq_getElem?_getD, List.getElem?_eq_none hi]; rfl
theorem c_ddecimal (L : List Nat) (hL : ∀ c ∈ L, c < 256) (hl : L.length ≤ 10000000) (w : World) :
    Calls Tryz.prog 43 #[.string (u8sG L)] w fun r w' => r = .returned (.int .i64 (decN L : Int)) ∧ Below w.heap.size w w' := by
  have hsz : (u8sG L).size = L.length := uG_size L
  have hD := Lib.hid (c_ddigitsOf 10 w)
  have hRun := Lib.hid (fun at_ (hat : at_ ≤ L.length) W (h : W.cell? ⟨w.heap.size, 0, none⟩ = some (.int .i64 ((10 : Nat) : Int))) => c_drun L hL at_ 10 w.heap.size hat hl W h)
  have hget := Lib.hid (fun i c (h : L.getD i 0 = c) (hi : i < L.length) (h3 : i < (u8sG L).size) => uG_get L i c (getD_lt h hi) (hL _ (List.mem_of_getElem? (getD_lt h hi))) h3)
  have hc256 := Lib.hid (fun i (hi : i < L.length) => hL (L.getD i 0) (List.mem_of_getElem? (getD_lt rfl hi)))
  have hdef : Hid (decN L = if L.getD (runL 10 L) 0 = 46 then (if runL 10 L + runL 10 (L.drop (runL 10 L + 1)) = 0 then 0 else decE L (runL 10 L + 1 + runL 10 (L.drop (runL 10 L + 1)))) else if runL 10 L = 0 then 0 else decE L (runL 10 L)) := rfl
  have hdE : Hid (∀ n, decE L n = if L.getD n 0 ||| 32 = 101 then (if 0 < runL 10 (L.drop (decM L n)) then decM L n + runL 10 (L.drop (decM L n)) else n) else n) := fun n => rfl
  have hdM : Hid (∀ n, decM L n = if L.getD (n + 1) 0 = 43 ∨ L.getD (n + 1) 0 = 45 then n + 2 else n + 1) := fun n => rfl
  have hle := Lib.hid (fun at_ (hat : at_ ≤ L.length) => (show at_ + runL 10 (L.drop at_) ≤ L.length by have := runL_le 10 (L.drop at_); rw [List.length_drop] at this; omega))
  have hge0 := Lib.hid (fun i (hi : L.length ≤ i) => getD_ge (L := L) hi)
  have hdn := Lib.hid (fun i (hi : L.length ≤ i) => (show runL 10 (L.drop i) = 0 by rw [List.drop_eq_nil_of_le hi]; rfl))
  have hal := hle.out 0 (Nat.zero_le _)
  have hR0 := Lib.hid (fun W h => hRun.out 0 (Nat.zero_le _) W h)
  rw [List.drop_zero] at hal hR0
  have hszl : (u8sG L).size ≤ 10000000 := by omega
  replace hsz := Lib.hid hsz
  generalize u8sG L = S at *
  generalize hN : decN L = N at *
  replace hN := Lib.hid hN
  clear hL
  generalize runL 10 L = a at *
  have hR0 : Hid (∀ W, W.cell? ⟨w.heap.size, 0, none⟩ = some (.int .i64 10) → Calls Tryz.prog 38 #[.string S, .int .i64 0, DigF w.heap.size] W fun r w' => r = .returned (.int .i64 (a : Int)) ∧ Below W.heap.size W w') := hR0
  go_enter Tryz.func43, Tryz.ntmps43
  go_wp2_with fail
  refine hD.out.mono ?_
  rintro e w1 ⟨rfl, hcell, hb1⟩
  have hlt1 := lt_ofC hcell
  have hcellK := Lib.hid (fun W (hb : Below w1.heap.size w1 W) => (hb.cell (p := ⟨w.heap.size, 0, none⟩) hlt1).trans hcell)
  have hcell := Lib.hid hcell
  have hlt1 := Lib.hid hlt1
  go_wp2_with fail
  refine (hR0.out _ hcell.out).mono ?_
  rintro e w2 ⟨rfl, hb2⟩
  clear hR0
  have hsN := hsz.out
  have hb12 : Below w.heap.size w w2 := hb1.trans (hb2.mono hb1.size)
  by_cases hdot : L.getD a 0 = 46
  · have hd0 := hdef.out
    rw [if_pos hdot] at hd0
    have hal2 : a < L.length := by
      rcases Nat.lt_or_ge a L.length with h | h
      · exact h
      · rw [hge0.out a h] at hdot; omega
    have hlS0 : a < S.size := by omega
    have hg0 := hget.out a 46 hdot hal2 hlS0
    have hlI0 : (a : Int) < (S.size : Int) := by omega
    have hbl2 := hle.out (a + 1) (by omega)
    have hR1 : Hid (∀ W, W.cell? ⟨w.heap.size, 0, none⟩ = some (.int .i64 10) → Calls Tryz.prog 38 #[.string S, .int .i64 ((a : Int) + 1), DigF w.heap.size] W fun r w' => r = .returned (.int .i64 (runL 10 (L.drop (a + 1)) : Int)) ∧ Below W.heap.size W w') := fun W h => hRun.out (a + 1) (by omega) W h
    generalize runL 10 (L.drop (a + 1)) = b at *
    have hcK1 := Lib.hid (hcellK.out _ hb2)
    obtain ⟨n, hn⟩ : ∃ n, a + 1 + b = n := ⟨_, rfl⟩
    rw [hn] at hd0 hbl2
    have hnI : (a : Int) + (1 + (b : Int)) = (n : Int) := by omega
    clear hdot hn
    replace hsN := Lib.hid hsN
    go_wp2_with fail
    refine (hR1.out _ hcK1.out).mono ?_
    rintro e w3 ⟨rfl, hb3⟩
    have hb23 : Below w1.heap.size w1 w3 := hb2.trans (hb3.mono hb2.size)
    have hb13 : Below w.heap.size w w3 := hb12.trans (hb3.mono hb12.size)
    clear hb1 hb2 hb3 hb12 hR1
    have hsN := hsN.out
    by_cases hz : a + b = 0
    · rw [if_pos hz] at hd0
      have hfin := Lib.hid hd0
      have hq : ((a : Int) + (b : Int) == 0) = true := by simp; omega
      clear hsN hd0 hz
      go_wp2_with fail
      go_ret
      exact ⟨by rw [hfin.out]; rfl, hb13⟩
    · rw [if_neg hz] at hd0
      have hq : ((a : Int) + (b : Int) == 0) = false := beq_eq_false_iff_ne.2 (by omega)
      have hnd := Lib.hid hd0
      clear hd0 hz
      have hsE := hdE.out n
      by_cases hend : n < L.length
      · have hc2 := hc256.out n hend
        have hlS : n < S.size := by omega
        have hg := hget.out n _ rfl hend hlS
        have hor := or8 _ hc2
        have hlI : (n : Int) < (S.size : Int) := by omega
        have hsM := hdM.out n
        by_cases hE : L.getD n 0 ||| 32 = 101
        · rw [if_pos hE] at hsE
          rw [hE] at hor
          generalize L.getD n 0 = c at *
          have hor : bits BinOp.or IntKind.u8 (c : Int) 32 = 101 := hor
          clear hE
          by_cases hend2 : n + 1 < L.length
          · have hc3 := hc256.out (n + 1) hend2
            have hlS2 : n + 1 < S.size := by omega
            have hg2 := hget.out (n + 1) _ rfl hend2 hlS2
            have hlI2 : (n : Int) + 1 < (S.size : Int) := by omega
            have hnI2 : ((n : Int) + 1).toNat = n + 1 := by omega
            by_cases h43 : L.getD (n + 1) 0 = 43
            · rw [if_pos (Or.inl h43)] at hsM
              rw [hsM] at hsE
              rw [h43] at hg2 hc3
              clear h43
              have hkk := hle.out (n + 2) (by omega)
              have hRk : Hid (∀ W, W.cell? ⟨w.heap.size, 0, none⟩ = some (.int .i64 10) → Calls Tryz.prog 38 #[.string S, .int .i64 ((n : Int) + 1 + 1), DigF w.heap.size] W fun r w' => r = .returned (.int .i64 (runL 10 (L.drop (n + 2)) : Int)) ∧ Below W.heap.size W w') := fun W h => hRun.out (n + 2) (by omega) W h
              generalize runL 10 (L.drop (n + 2)) = k at *
              have hcK := Lib.hid (hcellK.out _ hb23)
              by_cases hk : 0 < k
              · rw [if_pos hk] at hsE
                have hfin := Lib.hid (hnd.out.trans hsE)
                clear hsE hsM hc2 hc3 hend hend2 hsN
                go_wp2_with fail
                refine (hRk.out _ hcK.out).mono ?_
                rintro e w9 ⟨rfl, hb9⟩
                have hbz := (hb13).trans (hb9.mono (hb13).size)
                go_wp2_with fail
                go_ret
                exact ⟨by rw [hfin.out]; rfl, hbz⟩
              · rw [if_neg hk] at hsE
                obtain rfl : k = 0 := by omega
                have hfin := Lib.hid (hnd.out.trans hsE)
                clear hsE hsM hc2 hc3 hend hend2 hsN hk
                go_wp2_with fail
                refine (hRk.out _ hcK.out).mono ?_
                rintro e w9 ⟨rfl, hb9⟩
                have hbz := (hb13).trans (hb9.mono (hb13).size)
                go_wp2_with fail
                go_ret
                exact ⟨by rw [hfin.out]; rfl, hbz⟩
            by_cases h45 : L.getD (n + 1) 0 = 45
            · rw [if_pos (Or.inr h45)] at hsM
              rw [hsM] at hsE
              rw [h45] at hg2 hc3
              clear h45 h43
              have hkk := hle.out (n + 2) (by omega)
              have hRk : Hid (∀ W, W.cell? ⟨w.heap.size, 0, none⟩ = some (.int .i64 10) → Calls Tryz.prog 38 #[.string S, .int .i64 ((n : Int) + 1 + 1), DigF w.heap.size] W fun r w' => r = .returned (.int .i64 (runL 10 (L.drop (n + 2)) : Int)) ∧ Below W.heap.size W w') := fun W h => hRun.out (n + 2) (by omega) W h
              generalize runL 10 (L.drop (n + 2)) = k at *
              have hcK := Lib.hid (hcellK.out _ hb23)
              by_cases hk : 0 < k
              · rw [if_pos hk] at hsE
                have hfin := Lib.hid (hnd.out.trans hsE)
                clear hsE hsM hc2 hc3 hend hend2 hsN
                go_wp2_with fail
                refine (hRk.out _ hcK.out).mono ?_
                rintro e w9 ⟨rfl, hb9⟩
                have hbz := (hb13).trans (hb9.mono (hb13).size)
                go_wp2_with fail
                go_ret
                exact ⟨by rw [hfin.out]; rfl, hbz⟩
              · rw [if_neg hk] at hsE
                obtain rfl : k = 0 := by omega
                have hfin := Lib.hid (hnd.out.trans hsE)
                clear hsE hsM hc2 hc3 hend hend2 hsN hk
                go_wp2_with fail
                refine (hRk.out _ hcK.out).mono ?_
                rintro e w9 ⟨rfl, hb9⟩
                have hbz := (hb13).trans (hb9.mono (hb13).size)
                go_wp2_with fail
                go_ret
                exact ⟨by rw [hfin.out]; rfl, hbz⟩
            rw [if_neg (by omega)] at hsM
            rw [hsM] at hsE
            generalize L.getD (n + 1) 0 = d at *
            have n43 : ((d : Int) == 43) = false := beq_eq_false_iff_ne.2 (by omega)
            have n45 : ((d : Int) == 45) = false := beq_eq_false_iff_ne.2 (by omega)
            clear h43 h45
            have hkk := hle.out (n + 1) (by omega)
            have hRk : Hid (∀ W, W.cell? ⟨w.heap.size, 0, none⟩ = some (.int .i64 10) → Calls Tryz.prog 38 #[.string S, .int .i64 ((n : Int) + 1), DigF w.heap.size] W fun r w' => r = .returned (.int .i64 (runL 10 (L.drop (n + 1)) : Int)) ∧ Below W.heap.size W w') := fun W h => hRun.out (n + 1) (by omega) W h
            generalize runL 10 (L.drop (n + 1)) = k at *
            have hcK := Lib.hid (hcellK.out _ hb23)
            by_cases hk : 0 < k
            · rw [if_pos hk] at hsE
              have hfin := Lib.hid (hnd.out.trans hsE)
              clear hsE hsM hc2 hc3 hend hend2 hsN
              go_wp2_with fail
              refine (hRk.out _ hcK.out).mono ?_
              rintro e w9 ⟨rfl, hb9⟩
              have hbz := (hb13).trans (hb9.mono (hb13).size)
              go_wp2_with fail
              go_ret
              exact ⟨by rw [hfin.out]; rfl, hbz⟩
            · rw [if_neg hk] at hsE
              obtain rfl : k = 0 := by omega
              have hfin := Lib.hid (hnd.out.trans hsE)
              clear hsE hsM hc2 hc3 hend hend2 hsN hk
              go_wp2_with fail
              refine (hRk.out _ hcK.out).mono ?_
              rintro e w9 ⟨rfl, hb9⟩
              have hbz := (hb13).trans (hb9.mono (hb13).size)
              go_wp2_with fail
              go_ret
              exact ⟨by rw [hfin.out]; rfl, hbz⟩
          · have hz0 := hge0.out (n + 1) (by omega)
            rw [hz0, if_neg (by decide)] at hsM
            rw [hsM, hdn.out (n + 1) (by omega), if_neg (by decide)] at hsE
            have hlI2 : ¬ (n : Int) + 1 < (S.size : Int) := by omega
            have hfin := Lib.hid (hnd.out.trans hsE)
            have hRk : Hid (∀ W, W.cell? ⟨w.heap.size, 0, none⟩ = some (.int .i64 10) → Calls Tryz.prog 38 #[.string S, .int .i64 ((n : Int) + 1), DigF w.heap.size] W fun r w' => r = .returned (.int .i64 0) ∧ Below W.heap.size W w') := fun W h => by
              have := hRun.out (n + 1) (by omega) W h
              rw [hdn.out (n + 1) (by omega)] at this
              exact this
            have hcK := Lib.hid (hcellK.out _ hb23)
            clear hsE hsM hc2 hend hend2 hz0 hsN
            go_wp2_with fail
            refine (hRk.out _ hcK.out).mono ?_
            rintro e w9 ⟨rfl, hb9⟩
            have hbz := (hb13).trans (hb9.mono (hb13).size)
            go_wp2_with fail
            go_ret
            exact ⟨by rw [hfin.out]; rfl, hbz⟩
        · rw [if_neg hE] at hsE
          have hob : L.getD n 0 ||| 32 < 256 := Nat.or_lt_two_pow (n := 8) hc2 (by decide)
          have hfin := Lib.hid (hnd.out.trans hsE)
          generalize L.getD n 0 = c at *
          generalize c ||| 32 = o at *
          have n101 : ((o : Int) == 101) = false := beq_eq_false_iff_ne.2 (by omega)
          have hbz := hb13
          clear hsE hsM hc2 hend hE hsN
          go_wp2_with fail
          go_ret
          exact ⟨by rw [hfin.out]; rfl, hbz⟩
      · rw [hge0.out n (by omega), if_neg (by decide)] at hsE
        have hlI : ¬ (n : Int) < (S.size : Int) := by omega
        have hfin := Lib.hid (hnd.out.trans hsE)
        have hbz := hb13
        clear hsE hend hsN
        go_wp2_with fail
        go_ret
        exact ⟨by rw [hfin.out]; rfl, hbz⟩
  · have hd0 := hdef.out
    rw [if_neg hdot] at hd0
    by_cases hend : a < L.length
    · have hlS0 : a < S.size := by omega
      have hg0 := hget.out a _ rfl hend hlS0
      have hlI0 : (a : Int) < (S.size : Int) := by omega
      have n46 : ((L.getD a 0 : Int) == 46) = false := beq_eq_false_iff_ne.2 (by omega)
      clear hdot
      by_cases hz : a = 0
      · rw [if_pos hz] at hd0
        have hfin := Lib.hid hd0
        generalize L.getD a 0 = c at *
        subst hz
        clear hsN hd0
        go_wp2_with fail
        go_ret
        exact ⟨by rw [hfin.out]; rfl, hb12⟩
      · rw [if_neg hz] at hd0
        have hq : ((a : Int) == 0) = false := beq_eq_false_iff_ne.2 (by omega)
        have hnd := Lib.hid hd0
        clear hd0 hz
        have hsE := hdE.out a
        have hc2 := hc256.out a hend
        have hlS : a < S.size := by omega
        have hg := hget.out a _ rfl hend hlS
        have hor := or8 _ hc2
        have hlI : (a : Int) < (S.size : Int) := by omega
        have hsM := hdM.out a
        by_cases hE : L.getD a 0 ||| 32 = 101
        · rw [if_pos hE] at hsE
          rw [hE] at hor
          generalize L.getD a 0 = c at *
          have hor : bits BinOp.or IntKind.u8 (c : Int) 32 = 101 := hor
          clear hE
          by_cases hend2 : a + 1 < L.length
          · have hc3 := hc256.out (a + 1) hend2
            have hlS2 : a + 1 < S.size := by omega
            have hg2 := hget.out (a + 1) _ rfl hend2 hlS2
            have hlI2 : (a : Int) + 1 < (S.size : Int) := by omega
            have hnI2 : ((a : Int) + 1).toNat = a + 1 := by omega
            by_cases h43 : L.getD (a + 1) 0 = 43
            · rw [if_pos (Or.inl h43)] at hsM
              rw [hsM] at hsE
              rw [h43] at hg2 hc3
              clear h43
              have hkk := hle.out (a + 2) (by omega)
              have hRk : Hid (∀ W, W.cell? ⟨w.heap.size, 0, none⟩ = some (.int .i64 10) → Calls Tryz.prog 38 #[.string S, .int .i64 ((a : Int) + 1 + 1), DigF w.heap.size] W fun r w' => r = .returned (.int .i64 (runL 10 (L.drop (a + 2)) : Int)) ∧ Below W.heap.size W w') := fun W h => hRun.out (a + 2) (by omega) W h
              generalize runL 10 (L.drop (a + 2)) = k at *
              have hcK := Lib.hid (hcellK.out _ hb2)
              by_cases hk : 0 < k
              · rw [if_pos hk] at hsE
                have hfin := Lib.hid (hnd.out.trans hsE)
                clear hsE hsM hc2 hc3 hend hend2 hsN
                go_wp2_with fail
                refine (hRk.out _ hcK.out).mono ?_
                rintro e w9 ⟨rfl, hb9⟩
                have hbz := (hb12).trans (hb9.mono (hb12).size)
                go_wp2_with fail
                go_ret
                exact ⟨by rw [hfin.out]; rfl, hbz⟩
              · rw [if_neg hk] at hsE
                obtain rfl : k = 0 := by omega
                have hfin := Lib.hid (hnd.out.trans hsE)
                clear hsE hsM hc2 hc3 hend hend2 hsN hk
                go_wp2_with fail
                refine (hRk.out _ hcK.out).mono ?_
                rintro e w9 ⟨rfl, hb9⟩
                have hbz := (hb12).trans (hb9.mono (hb12).size)
                go_wp2_with fail
                go_ret
                exact ⟨by rw [hfin.out]; rfl, hbz⟩
            by_cases h45 : L.getD (a + 1) 0 = 45
            · rw [if_pos (Or.inr h45)] at hsM
              rw [hsM] at hsE
              rw [h45] at hg2 hc3
              clear h45 h43
              have hkk := hle.out (a + 2) (by omega)
              have hRk : Hid (∀ W, W.cell? ⟨w.heap.size, 0, none⟩ = some (.int .i64 10) → Calls Tryz.prog 38 #[.string S, .int .i64 ((a : Int) + 1 + 1), DigF w.heap.size] W fun r w' => r = .returned (.int .i64 (runL 10 (L.drop (a + 2)) : Int)) ∧ Below W.heap.size W w') := fun W h => hRun.out (a + 2) (by omega) W h
              generalize runL 10 (L.drop (a + 2)) = k at *
              have hcK := Lib.hid (hcellK.out _ hb2)
              by_cases hk : 0 < k
              · rw [if_pos hk] at hsE
                have hfin := Lib.hid (hnd.out.trans hsE)
                clear hsE hsM hc2 hc3 hend hend2 hsN
                go_wp2_with fail
                refine (hRk.out _ hcK.out).mono ?_
                rintro e w9 ⟨rfl, hb9⟩
                have hbz := (hb12).trans (hb9.mono (hb12).size)
                go_wp2_with fail
                go_ret
                exact ⟨by rw [hfin.out]; rfl, hbz⟩
              · rw [if_neg hk] at hsE
                obtain rfl : k = 0 := by omega
                have hfin := Lib.hid (hnd.out.trans hsE)
                clear hsE hsM hc2 hc3 hend hend2 hsN hk
                go_wp2_with fail
                refine (hRk.out _ hcK.out).mono ?_
                rintro e w9 ⟨rfl, hb9⟩
                have hbz := (hb12).trans (hb9.mono (hb12).size)
                go_wp2_with fail
                go_ret
                exact ⟨by rw [hfin.out]; rfl, hbz⟩
            rw [if_neg (by omega)] at hsM
            rw [hsM] at hsE
            generalize L.getD (a + 1) 0 = d at *
            have n43 : ((d : Int) == 43) = false := beq_eq_false_iff_ne.2 (by omega)
            have n45 : ((d : Int) == 45) = false := beq_eq_false_iff_ne.2 (by omega)
            clear h43 h45
            have hkk := hle.out (a + 1) (by omega)
            have hRk : Hid (∀ W, W.cell? ⟨w.heap.size, 0, none⟩ = some (.int .i64 10) → Calls Tryz.prog 38 #[.string S, .int .i64 ((a : Int) + 1), DigF w.heap.size] W fun r w' => r = .returned (.int .i64 (runL 10 (L.drop (a + 1)) : Int)) ∧ Below W.heap.size W w') := fun W h => hRun.out (a + 1) (by omega) W h
            generalize runL 10 (L.drop (a + 1)) = k at *
            have hcK := Lib.hid (hcellK.out _ hb2)
            by_cases hk : 0 < k
            · rw [if_pos hk] at hsE
              have hfin := Lib.hid (hnd.out.trans hsE)
              clear hsE hsM hc2 hc3 hend hend2 hsN
              go_wp2_with fail
              refine (hRk.out _ hcK.out).mono ?_
              rintro e w9 ⟨rfl, hb9⟩
              have hbz := (hb12).trans (hb9.mono (hb12).size)
              go_wp2_with fail
              go_ret
              exact ⟨by rw [hfin.out]; rfl, hbz⟩
            · rw [if_neg hk] at hsE
              obtain rfl : k = 0 := by omega
              have hfin := Lib.hid (hnd.out.trans hsE)
              clear hsE hsM hc2 hc3 hend hend2 hsN hk
              go_wp2_with fail
              refine (hRk.out _ hcK.out).mono ?_
              rintro e w9 ⟨rfl, hb9⟩
              have hbz := (hb12).trans (hb9.mono (hb12).size)
              go_wp2_with fail
              go_ret
              exact ⟨by rw [hfin.out]; rfl, hbz⟩
          · have hz0 := hge0.out (a + 1) (by omega)
            rw [hz0, if_neg (by decide)] at hsM
            rw [hsM, hdn.out (a + 1) (by omega), if_neg (by decide)] at hsE
            have hlI2 : ¬ (a : Int) + 1 < (S.size : Int) := by omega
            have hfin := Lib.hid (hnd.out.trans hsE)
            have hRk : Hid (∀ W, W.cell? ⟨w.heap.size, 0, none⟩ = some (.int .i64 10) → Calls Tryz.prog 38 #[.string S, .int .i64 ((a : Int) + 1), DigF w.heap.size] W fun r w' => r = .returned (.int .i64 0) ∧ Below W.heap.size W w') := fun W h => by
              have := hRun.out (a + 1) (by omega) W h
              rw [hdn.out (a + 1) (by omega)] at this
              exact this
            have hcK := Lib.hid (hcellK.out _ hb2)
            clear hsE hsM hc2 hend hend2 hz0 hsN
            go_wp2_with fail
            refine (hRk.out _ hcK.out).mono ?_
            rintro e w9 ⟨rfl, hb9⟩
            have hbz := (hb12).trans (hb9.mono (hb12).size)
            go_wp2_with fail
            go_ret
            exact ⟨by rw [hfin.out]; rfl, hbz⟩
        · rw [if_neg hE] at hsE
          have hob : L.getD a 0 ||| 32 < 256 := Nat.or_lt_two_pow (n := 8) hc2 (by decide)
          have hfin := Lib.hid (hnd.out.trans hsE)
          generalize L.getD a 0 = c at *
          generalize c ||| 32 = o at *
          have n101 : ((o : Int) == 101) = false := beq_eq_false_iff_ne.2 (by omega)
          have hbz := hb12
          clear hsE hsM hc2 hend hE hsN
          go_wp2_with fail
          go_ret
          exact ⟨by rw [hfin.out]; rfl, hbz⟩
    · have hlI0 : ¬ (a : Int) < (S.size : Int) := by omega
      have hz0 := hge0.out a (by omega)
      have hsE := hdE.out a
      rw [hz0, if_neg (by decide)] at hsE
      rw [hsE] at hd0
      have hd1 : N = a := by
        rw [hd0]; split
        · omega
        · rfl
      have hfin := Lib.hid hd1
      clear hd0 hd1 hsE hz0 hdot hend hsN
      by_cases hz : a = 0
      · subst hz
        go_wp2_with fail
        go_ret
        exact ⟨by rw [hfin.out]; rfl, hb12⟩
      · have hq : ((a : Int) == 0) = false := beq_eq_false_iff_ne.2 (by omega)
        clear hz
        go_wp2_with fail
        go_ret
        exact ⟨by rw [hfin.out]; rfl, hb12⟩
end Go.Proofs.YtbakbikilbaafaaGreatDoor
namespace Go.Proofs.YtbakbikilbaafaaGreatDoor
open Go.RowKit F64 Ieee
set_option linter.unusedVariables false
set_option maxHeartbeats 4000000
set_option maxRecDepth 100000

theorem c_dexact10 (S : ByteArray) (v : Nat) (w : World) (hP : Calls Tryz.prog 75 #[.string S, .int .i64 64] w fun r w' => PfR v r ∧ Below w.heap.size w w') :
    Calls Tryz.prog 40 #[.string S, .int .i64 10] w fun r w' => r = .returned (.float .f64 v) ∧ Below w.heap.size w w' := by
  replace hP := Lib.hid hP
  go_enter Tryz.func40, Tryz.ntmps40
  go_wp2_with fail
  refine hP.out.mono ?_
  rintro e w1 ⟨⟨er, rfl⟩, hb⟩
  go_wp2_with fail
  go_ret
  exact ⟨rfl, hb⟩
theorem c_dexactS (S : ByteArray) (base v : Nat) (hb : base ≠ 10) (hb2 : base ≤ 36) (w : World) (hP : Calls Tryz.prog 76 #[.string S, .int .i64 (base : Int)] w fun r w' => r = .returned (.float .f64 v) ∧ Below w.heap.size w w') :
    Calls Tryz.prog 40 #[.string S, .int .i64 (base : Int)] w fun r w' => r = .returned (.float .f64 v) ∧ Below w.heap.size w w' := by
  replace hP := Lib.hid hP
  have n1 : ((base : Int) == 10) = false := beq_eq_false_iff_ne.2 (by omega)
  clear hb
  go_enter Tryz.func40, Tryz.ntmps40
  go_wp2_with fail
  refine hP.out.mono ?_
  rintro e w1 ⟨rfl, hb⟩
  go_wp2_with fail
  go_ret
  exact ⟨rfl, hb⟩
/-- a text of 0x, 0o, 0b and digits is read -/
theorem c_dReadH (s : ByteArray) (k t : Nat) (L : List Nat) (base v : Nat) (hs : s.size ≤ 1099511627776) (hF : FrA (blkS s) (s.size / 2) k) (hT : BkA (blkS s) k (s.size / 2) t)
    (hLe : plL (unitsN (s.extract (2 * k) (2 * t)) ((s.extract (2 * k) (2 * t)).size / 2)) = L) (hL : ∀ c ∈ L, c < 256) (hl : L.length ≤ 10000000) (hpre : preL L = base) (hb : 0 < base) (hb2 : base ≤ 16) (hrun : runL base (L.drop 2) = L.length - 2) (hlen : 2 < L.length) (w : World)
    (hX : ∀ W, Below w.heap.size w W → Calls Tryz.prog 40 #[.string (u8sG (L.drop 2)), .int .i64 (base : Int)] W fun r w' => r = .returned (.float .f64 v) ∧ Below W.heap.size W w') :
    Calls Tryz.prog 16 #[.string s] w fun r w' => r = .returned (.float .f64 v) ∧ Below w.heap.size w w' := by
  have hTr := Lib.hid (fun W => c_dTrim s k t hs hF hT W)
  have hsz2 : (s.extract (2 * k) (2 * t)).size ≤ 1099511627776 := by rw [ByteArray.size_extract]; omega
  have hPl := Lib.hid (fun W => c_dplain (s.extract (2 * k) (2 * t)) hsz2 W)
  rw [hLe] at hPl
  have hPr := Lib.hid (fun W => c_dprefix L hL hl W)
  rw [hpre] at hPr
  have hDo := Lib.hid (fun W => c_ddigitsOf (base : Int) W)
  have hRu := Lib.hid (fun b W h => c_drun L hL 2 base b (by omega) hl W h)
  rw [hrun] at hRu
  have hRu : Hid (∀ b W, W.cell? ⟨b, 0, none⟩ = some (.int .i64 (base : Int)) → Calls Tryz.prog 38 #[.string (u8sG L), .int .i64 2, DigF b] W fun r w' => r = .returned (.int .i64 ((L.length - 2 : Nat) : Int)) ∧ Below W.heap.size W w') := hRu
  have hex : (u8sG L).extract 2 (u8sG L).size = u8sG (L.drop 2) := by
    have h := uG_extract (L.take 2) (L.drop 2) L.length 2 (by rw [List.take_append_drop]) (by rw [List.length_take]; omega)
    rw [List.take_append_drop] at h
    rw [uG_size]; exact h
  have hsz : (u8sG L).size = L.length := uG_size L
  have hem : (u8sG L).toList.isEmpty = false := by
    rw [ByteArray.toList_eq, uG_data]
    cases L with
    | nil => simp at hlen
    | cons a l => rfl
  have hne : ((u8sG L).toList == []) = false := by
    rw [ByteArray.toList_eq, uG_data]
    cases L with
    | nil => simp at hlen
    | cons a l => rfl
  rw [show ((L.length - 2 : Nat) : Int) = (L.length : Int) - 2 by omega, ← hsz] at hRu
  have hs3 : 2 < (u8sG L).size := by omega
  have hs4 : (2 : Int) ≤ ((u8sG L).size : Int) := by omega
  have hs5 : (u8sG L).size ≤ 10000000 := by omega
  have hs6 : (0 : Int) < ((u8sG L).size : Int) - 2 := by omega
  have hbI : (0 : Int) < (base : Int) := by omega
  replace hX := Lib.hid hX
  clear hF hT hLe hL hl hpre hrun hlen hsz hsz2 hb
  generalize u8sG (L.drop 2) = D at *
  generalize u8sG L = S at *
  generalize s.extract (2 * k) (2 * t) = T at *
  go_enter Tryz.func16, Tryz.ntmps16
  go_wp2_with fail
  refine (hTr.out _).mono ?_
  rintro e w1 ⟨rfl, q1, rfl⟩
  go_wp2_with fail
  refine (hPl.out _).mono ?_
  rintro e w2 ⟨rfl, hb2'⟩
  have hbA : Below w.heap.size w w2 := (below_drewN (Below.refl _ w) q1).trans hb2'
  clear hb2'
  go_wp2_with fail
  refine (hPr.out _).mono ?_
  rintro e w3 ⟨rfl, hb3⟩
  have hbB : Below w.heap.size w w3 := hbA.trans (hb3.mono hbA.size)
  clear hb3 hbA
  go_wp2_with fail
  refine (hDo.out _).mono ?_
  rintro e w4 ⟨rfl, hc4, hb4⟩
  have hbC : Below w.heap.size w w4 := hbB.trans (hb4.mono hbB.size)
  have hRu4 := Lib.hid (hRu.out _ _ hc4)
  clear hb4 hbB hc4
  go_wp2_with fail
  refine hRu4.out.mono ?_
  rintro e w5 ⟨rfl, hb5⟩
  have hbD : Below w.heap.size w w5 := hbC.trans (hb5.mono hbC.size)
  clear hb5 hbC
  go_wp2_with fail
  refine (hX.out _ hbD).mono ?_
  rintro e w6 ⟨rfl, hb6⟩
  have hbE : Below w.heap.size w w6 := hbD.trans (hb6.mono hbD.size)
  go_wp2_with fail
  go_ret
  exact ⟨rfl, hbE⟩
end Go.Proofs.YtbakbikilbaafaaGreatDoor

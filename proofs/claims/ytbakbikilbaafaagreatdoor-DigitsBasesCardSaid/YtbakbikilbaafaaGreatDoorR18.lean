/-
  Contracts: Contracts of the library's formatBits, FormatInt, FormatUint to a base that is not ten (printed by gen_XVY.py). Contracts of the library's FormatInt and FormatUint to a base that is not ten. The contract of the reference's nearest (printed by gen_XYH.py). The contract of the reference's Literal, at any bytes (printed by gen_XYI.py). The contract of the reference's Read, at any text (printed by gen_XYJ.py).
-/
import Derived.Test.YtbakbikilbaafaaGreatDoorR2
import Derived.Test.YtbakbikilbaafaaGreatDoorR8
import Derived.Laws.Bits64b
import Derived.Laws.IdiomStrings
import Derived.Shelf.Spec.TrailingZeros
import Derived.Test.YtbakbikilbaafaaGreatDoorR7
import Derived.Test.YtbakbikilbaafaaGreatDoorR17
import Derived.Test.YtbakbikilbaafaaGreatDoorR16
namespace Go.Proofs.YtbakbikilbaafaaGreatDoor
open Go.RowKit F64 Ieee
set_option linter.unusedVariables false
set_option maxHeartbeats 4000000
set_option maxRecDepth 100000

/-- whether a number is a power of two -/
def pw2 (b : Nat) : Bool := b &&& (b - 1) == 0
theorem c_isPow (base : Nat) (hb : 2 ≤ base) (hb2 : base ≤ 36) (w : World) : Calls Tryz.prog 155 #[.int .i64 (base : Int)] w fun r w' => r = .returned (.bool (pw2 base)) ∧ w = w' := by
  have h := and_i64G base (base - 1) (by omega) (by omega)
  rw [show ((base - 1 : Nat) : Int) = (base : Int) - 1 by omega] at h
  have e : (((base &&& (base - 1) : Nat) : Int) == 0) = pw2 base := by
    unfold pw2
    cases hx : (base &&& (base - 1) == 0) with
    | true => have := eq_of_beq hx; rw [this]; rfl
    | false =>
      have := ne_of_beq_false hx
      exact beq_eq_false_iff_ne.2 (by omega)
  generalize pw2 base = p at *
  generalize base &&& (base - 1) = x at *
  go_enter Tryz.func155, Tryz.ntmps155
  go_wp2
  go_ret
  exact ⟨rfl, rfl⟩
theorem c_TZ64 (x k idx : Nat) (w : World) (hx0 : ((x : Int) == 0) = false)
    (key : IntKind.u64.wrap (bits BinOp.and IntKind.u64 (x : Int) (IntKind.u64.wrap (-(x : Int))) * 285870213051353865) / 288230376151711744 = (idx : Int))
    (hi : idx < 64) (hk : k < 64) (hcell : w.cell? ⟨11, idx, none⟩ = some (.int .u8 k)) :
    Calls Tryz.prog 179 #[.int .u64 x] w fun e w' => e = .returned (.int .i64 k) ∧ w = w' := by
  go_enter Tryz.func179, Tryz.ntmps179
  go_wp2_with (simp only [key])
  go_ret
  exact ⟨rfl, rfl⟩
theorem tz_tab : ∀ s : Fin 6, Lib.deBruijn64tab[2 ^ s.val * 285870213051353865 % 18446744073709551616 / 288230376151711744]? = some s.val := by decide +kernel
theorem tz_low : ∀ s : Fin 6, 2 ^ s.val &&& (18446744073709551616 - 2 ^ s.val) = 2 ^ s.val := by decide +kernel
theorem tz_idx : ∀ s : Fin 6, 2 ^ s.val * 285870213051353865 % 18446744073709551616 / 288230376151711744 < 64 := by decide +kernel
theorem c_TZ1 (x sh idx : Nat) (hx : 1 ≤ x) (hx2 : x ≤ 32) (hlow : x &&& (18446744073709551616 - x) = x) (hidx : x * 285870213051353865 % 18446744073709551616 / 288230376151711744 = idx) (hi : idx < 64) (hk : sh < 64) (w : World) (hcell : w.cell? ⟨11, idx, none⟩ = some (.int .u8 (sh : Int))) :
    Calls Tryz.prog 156 #[.int .u64 (x : Int)] w fun e w' => e = .returned (.int .i64 (sh : Int)) ∧ w = w' := by
  have key := tz64_key x x (by omega) (by omega) hlow
  rw [hidx] at key
  have hC := Lib.hid (c_TZ64 x sh idx w (beq_eq_false_iff_ne.2 (by omega)) key hi hk hcell)
  clear hcell key hlow hidx hi
  go_enter Tryz.func156, Tryz.ntmps156
  go_wp2_with (go_at_call 179; refine hC.out.mono ?_; rintro e w' ⟨rfl, rfl⟩)
  go_ret
  exact ⟨rfl, rfl⟩
theorem c_TZ (sh : Nat) (h1 : 1 ≤ sh) (h2 : sh ≤ 5) (w : World) (hT : ∀ (i x : Nat), Lib.deBruijn64tab[i]? = some x → w.cell? ⟨11, i, none⟩ = some (.int .u8 (x : Int))) :
    Calls Tryz.prog 156 #[.int .u64 ((2 ^ sh : Nat) : Int)] w fun e w' => e = .returned (.int .i64 (sh : Int)) ∧ w = w' :=
  c_TZ1 (2 ^ sh) sh _ (Nat.two_pow_pos sh) (Nat.pow_le_pow_right (n := 2) (by decide) h2) (tz_low ⟨sh, by omega⟩) rfl (tz_idx ⟨sh, by omega⟩) (by omega) w (hT _ sh (tz_tab ⟨sh, by omega⟩))
/-- a digit's sign -/
def dch (d : Nat) : Nat := if d < 10 then 48 + d else 87 + d
def digS : ByteArray := ⟨#[48, 49, 50, 51, 52, 53, 54, 55, 56, 57, 97, 98, 99, 100, 101, 102, 103, 104, 105, 106, 107, 108, 109, 110, 111, 112, 113, 114, 115, 116, 117, 118, 119, 120, 121, 122]⟩
theorem digS_all : ∀ d : Fin 36, (digS.data[d.val]?).map UInt8.toNat = some (dch d.val) := by decide +kernel
theorem digS_get : ∀ d, d < 36 → ∀ h : d < digS.size, (digS[d]'h).toNat = dch d := by
  intro d hd h
  have := digS_all ⟨d, hd⟩
  have h2 : d < digS.data.size := h
  simp only [Array.getElem?_eq_getElem h2, Option.map_some, Option.some.injEq] at this
  exact this
theorem dch_lt {d : Nat} (h : d < 36) : dch d < 128 := by unfold dch; split <;> omega
/-- how many digits but one a number has -/
def IsLg (base u k : Nat) : Prop := u / base ^ k < base ∧ (k = 0 ∨ base ^ k ≤ u)
theorem lg_ex {base : Nat} (hb : 2 ≤ base) : ∀ u, ∃ k, IsLg base u k := by
  intro u
  induction u using Nat.strongRecOn with
  | ind u ih =>
    by_cases h : u < base
    · exact ⟨0, by rw [Nat.pow_zero, Nat.div_one]; exact h, .inl rfl⟩
    · obtain ⟨k, h1, h2⟩ := ih (u / base) (Nat.div_lt_self (by omega) hb)
      have e : u / base / base ^ k = u / base ^ (k + 1) := by rw [Nat.div_div_eq_div_mul, Nat.pow_succ, Nat.mul_comm base]
      refine ⟨k + 1, by rw [← e]; exact h1, .inr ?_⟩
      rcases h2 with h2 | h2
      · subst h2; rw [Nat.zero_add, Nat.pow_one]; omega
      · rw [Nat.pow_succ]; exact (Nat.le_div_iff_mul_le (by omega)).1 h2
theorem lg_lt {base u k j : Nat} (hb : 2 ≤ base) (h : IsLg base u k) (hj : j < k) : base ≤ u / base ^ j := by
  rcases h.2 with h2 | h2
  · omega
  · rw [Nat.le_div_iff_mul_le (Nat.pow_pos (by omega)), Nat.mul_comm, ← Nat.pow_succ]
    exact Nat.le_trans (Nat.pow_le_pow_right (by omega) hj) h2
theorem lg_64 {base u k : Nat} (hb : 2 ≤ base) (h : IsLg base u k) (hu : u < 18446744073709551616) : k ≤ 63 := by
  rcases h.2 with h2 | h2
  · omega
  · rcases Nat.lt_or_ge 63 k with h3 | h3
    · exfalso
      have a := Nat.pow_le_pow_right (n := 2) (by decide) (show 64 ≤ k from h3)
      have b := Nat.pow_le_pow_left hb k
      have e : (2 : Nat) ^ 64 = 18446744073709551616 := by decide
      omega
    · exact h3
/-- a number's digits -/
def fmtG (base u k : Nat) : List Nat := (List.range (k + 1)).map fun m => dch (u / base ^ (k - m) % base)
theorem fmtG_len (base u k : Nat) : (fmtG base u k).length = k + 1 := by simp [fmtG]
theorem fmtG_get {base u k j : Nat} (h : j < k + 1) : (fmtG base u k)[j]? = some (dch (u / base ^ (k - j) % base)) := by
  simp [fmtG, h]
theorem fmtG_lt {base u k : Nat} (hb : 2 ≤ base) (hb2 : base ≤ 36) : ∀ c ∈ fmtG base u k, c < 128 := by
  intro c hc
  unfold fmtG at hc
  obtain ⟨m, -, rfl⟩ := List.mem_map.1 hc
  have := Nat.mod_lt (u / base ^ (k - m)) (show 0 < base by omega)
  exact dch_lt (by omega)
/-- an array of 65 bytes -/
def ArrF (b : Nat) (D : Nat → Nat) (w : World) : Prop := (∀ x, x < 65 → w.cell? ⟨b, x, none⟩ = some (.int .u8 (D x : Int))) ∧ ∀ x, w.frozen? ⟨b, x, none⟩ = false
theorem ArrF.put {b : Nat} {D : Nat → Nat} {w : World} (h : ArrF b D w) {i : Nat} (hi : i < 65) (v : Nat) : ArrF b (upd D i v) (w.setCell ⟨b, i, none⟩ (.int .u8 (v : Int))) := by
  refine ⟨fun x hx => ?_, fun x => by rw [World.frozen?_setCell]; exact h.2 x⟩
  by_cases e : i = x
  · subst e; rw [upd_same]; exact set_sameG (h.1 i hi)
  · rw [set_otherG e, upd_other D v (Ne.symm e)]; exact h.1 x hx
theorem zc65_0 : (Tryz.zeroCells162).toList = List.replicate 65 (Value.int .u8 0) := by kernel_rfl
theorem ArrF.zero (w : World) : ArrF w.heap.size (fun _ => 0) (w.alloc (.cells Tryz.zeroCells162 162)) := by
  refine ⟨fun x hx => ?_, fun x => World.frozen?_alloc_new _ _ _ _⟩
  rw [World.cell?_alloc_new, ← Array.getElem?_toList, zc65_0, List.getElem?_replicate, if_pos hx]
  rfl
theorem ArrF.text {b : Nat} {D : Nat → Nat} {w : World} (h : ArrF b D w) {i : Nat} {l : List Nat} (hl : i + l.length = 65) (hc : ∀ c ∈ l, c < 256) (hD : ∀ j c, l[j]? = some c → D (i + j) = c) :
    (convert 90 9 (.slice (some ⟨b, i, none⟩) (65 - i) (65 - i))).run Tryz.prog w = .ok (.string (u8sG l)) w := by
  have e : 65 - i = (l.map UInt8.ofNat).length := by rw [List.length_map]; omega
  have := run_convert_bytes_back (P := Tryz.prog) w 90 9 5 ⟨b, i, none⟩ (65 - i) (l.map UInt8.ofNat) Tryz.underlying90 Tryz.underlying5 Tryz.underlying9 (fun j hj => by
    rw [List.length_map] at hj
    rw [Lib.add_plain, h.1 (i + j) (by omega), hD j l[j] (List.getElem?_eq_getElem hj)]
    have := hc l[j] (List.getElem_mem hj)
    congr 2
    simp
    omega)
  rw [← e] at this
  exact this
theorem sl65 (b i : Nat) (hi : i < 65) (W : World) : (Instr.sliceAt 162 (.pointer (some ⟨b, 0, none⟩)) (some (.int .i64 (i : Int))) none none).run Tryz.prog W = .ok (.slice (some ⟨b, i, none⟩) (65 - i) (65 - i)) W := by
  have hal : Tryz.prog.arrayLen 162 = 65 := by simp [Program.arrayLen, Tryz.underlying162]
  rw [run_sliceAt_array_l W 162 ⟨b, 0, none⟩ (by simp [Program.arrayLen, Program.elem, Tryz.underlying162]) .i64 (i : Int) (by omega) (by rw [hal]; omega)]
  go_simp
  omega
theorem c_fBp2 (base u k : Nat) (U0 : Int) (sh : Nat) (hs1 : 1 ≤ sh) (hs2 : sh ≤ 5) (hsb : base = 2 ^ sh) (hb : 2 ≤ base) (hb2 : base ≤ 36) (h10 : base ≠ 10) (hpw : pw2 base = true) (hu : u < 18446744073709551616) (hk : IsLg base u k) (hU : U0 = (u : Int)) (w : World) (hT : ∀ (i x : Nat), Lib.deBruijn64tab[i]? = some x → w.cell? ⟨11, i, none⟩ = some (.int .u8 (x : Int))) :
    Calls Tryz.prog 127 #[.slice none 0 0, .int .u64 U0, .int .i64 (base : Int), .bool false, .bool false] w fun r w' => r = .returned (.tuple #[.slice none 0 0, .string (u8sG (fmtG base u k))]) ∧ Below w.heap.size w w' := by
  subst hU
  have hk63 := lg_64 hb hk hu
  have hlt := Lib.hid (fun j => lg_lt (j := j) hb hk)
  have hend := hk.1
  have hIP := Lib.hid (fun W => c_isPow base hb hb2 W)
  rw [hpw] at hIP
  have hdg := Lib.hid digS_get
  have hA0 := Lib.hid (ArrF.zero w)
  have hB0 : Below w.heap.size w (w.alloc (.cells Tryz.zeroCells162 162)) := (Below.refl _ w).alloc (Nat.le_refl _) _
  replace hB0 := Lib.hid hB0
  have hfl := Lib.hid (fmtG_lt (u := u) (k := k) hb hb2)
  have hn2 : ¬ (base : Int) < 2 := by omega
  have hn36 : ¬ (36 : Int) < (base : Int) := by omega
  have hn10 : ((base : Int) == 10) = false := beq_eq_false_iff_ne.2 (by omega)
  have hsl := fun i (hi : i < 65) W => sl65 w.heap.size i hi W
  replace hsl := Lib.hid hsl
  have hmt : ∀ y i, u / base ^ (65 - (i + 1)) = y → u / base ^ (65 - i) = (if i < 65 then y / base else u / base ^ (65 - i)) := by
    intro y i h
    split
    · rw [show 65 - i = 65 - (i + 1) + 1 by omega, Nat.pow_succ, ← Nat.div_div_eq_div_mul, h]
    · rfl
  replace hmt := Lib.hid hmt
  have hTZ := Lib.hid (fun W hT => c_TZ sh hs1 hs2 W hT)
  rw [← hsb] at hTZ
  have hT2 : Hid (∀ (i x : Nat), Lib.deBruijn64tab[i]? = some x → (w.alloc (.cells Tryz.zeroCells162 162)).cell? ⟨11, i, none⟩ = some (.int .u8 (x : Int))) := fun i x hx => (hB0.out.cell (p := ⟨11, i, none⟩) (lt_ofC (hT i x hx))).trans (hT i x hx)
  have hbm : ∀ y : Nat, y < 18446744073709551616 → bits BinOp.and IntKind.u64 (y : Int) ((base : Int) - 1) = ((y % base : Nat) : Int) := fun y hy => by
    have h := bits_and_u64_nat y (base - 1) hy (by omega)
    rw [show ((base - 1 : Nat) : Int) = (base : Int) - 1 by omega] at h
    rw [h, hsb]
    congr 1
    exact Nat.and_two_pow_sub_one_eq_mod y sh
  replace hbm := Lib.hid hbm
  have hbd : ∀ y : Nat, (y : Int) / 2 ^ sh = ((y / base : Nat) : Int) := fun y => by rw [hsb, Int.natCast_ediv, Int.natCast_pow]; rfl
  replace hbd := Lib.hid hbd
  clear hsb
  have hfg : Hid (∀ j c, (fmtG base u k)[j]? = some c → c = dch (u / base ^ (k - j) % base)) := fun j c h => by
    have hj := (List.getElem?_eq_some_iff.1 h).1
    rw [fmtG_len] at hj
    rw [fmtG_get hj] at h
    exact (Option.some.inj h).symm
  have hfn : Hid ((fmtG base u k).length = k + 1) := fmtG_len base u k
  generalize fmtG base u k = FG at *
  clear hT hk hpw
  unfold digS at hdg
  go_enter Tryz.func127, Tryz.ntmps127
  go_wp2_with (first | (go_at_call 155; refine (hIP.out _).mono ?_; rintro e w' ⟨rfl, rfl⟩) | (go_at_call 156; refine (hTZ.out _ hT2.out).mono ?_; rintro e w' ⟨rfl, rfl⟩))
  go_loopw [1, 13] (fun v1 v13 wr => ∃ (i : Nat) (D : Nat → Nat), 65 - k ≤ i ∧ i ≤ 65 ∧ v13 = .int .i64 (i : Int) ∧ v1 = .int .u64 ((u / base ^ (65 - i) : Nat) : Int) ∧ ArrF w.heap.size D wr ∧ (∀ x, i ≤ x → x < 65 → D x = dch (u / base ^ (64 - x) % base)) ∧ Below w.heap.size w wr) (fun _ v13 _ => (intOf v13).toNat)
  case atStart => exact ⟨65, _, by omega, Nat.le_refl _, rfl, by simp, hA0.out, fun x h1 h2 => by omega, hB0.out⟩
  case round =>
    obtain ⟨i, D, hi1, hi2, rfl, rfl, hA, hD, hbel⟩ := hrel
    obtain ⟨m, rfl⟩ : ∃ m, i = m + 1 := ⟨i - 1, by omega⟩
    have hmm := Lib.hid (hmt.out _ m rfl)
    have hy64 : u / base ^ (65 - (m + 1)) < 18446744073709551616 := Nat.lt_of_le_of_lt (Nat.div_le_self _ _) hu
    have hx64 : 64 - m = 65 - (m + 1) := by omega
    have hltm := hlt.out (65 - (m + 1))
    have hcm := hA.1 m (by omega)
    have hfm := hA.2 m
    have hkm : Hid (m + 1 = 65 - k → u / base ^ (65 - (m + 1)) < base) := fun h => by rw [h, show 65 - (65 - k) = k by omega]; exact hend
    have hDn : Hid (∀ v, v = dch (u / base ^ (65 - (m + 1)) % base) → ∀ x, m ≤ x → x < 65 → upd D m v x = dch (u / base ^ (64 - x) % base)) := fun v hv x h1 h2 => by
      by_cases e : x = m
      · subst e; rw [upd_same, hx64]; exact hv
      · rw [upd_other D v e]; exact hD x (by omega) h2
    have hDk : Hid (∀ x, 65 - k ≤ x → m + 1 ≤ x → x < 65 → D x = dch (u / base ^ (64 - x) % base)) := fun x _ h1 h2 => hD x h1 h2
    have hAp := Lib.hid (fun v => hA.put (i := m) (by omega) v)
    have hbp : ∀ v, Below w.heap.size w (wr.setCell ⟨w.heap.size, m, none⟩ v) := fun v => hbel.setCell (Nat.le_refl _) v
    replace hbp := Lib.hid hbp
    replace hA := Lib.hid hA
    clear hD hx64
    generalize u / base ^ (65 - (m + 1)) = y at *
    have hyr : y % base < base := Nat.mod_lt _ (by omega)
    have hdgy := hdg.out (y % base) (by omega)
    by_cases hge : base ≤ y
    · have hgeI : (base : Int) ≤ (y : Int) := by omega
      have hbmy := hbm.out y hy64
      have hbdy := hbd.out y
      have hm65 : m < 65 := by omega
      rw [if_pos hm65] at hmm
      have hm1 : 65 - k ≤ m := by
        rcases Nat.lt_or_ge m (65 - k) with h | h
        · exfalso; have := hkm.out (by omega); omega
        · exact h
      have hAn := Lib.hid (hAp.out (dch (y % base)))
      have hbn := Lib.hid (hbp.out (.int .u8 (dch (y % base) : Int)))
      have hDnn := Lib.hid (hDn.out _ rfl)
      have hmI : (0 : Int) ≤ (m : Int) := by omega
      clear hkm hltm hAp hbp hDn hDk hA hlt hend
      have hr36 : y % base < 36 := by omega
      have hq64 : y / base < 18446744073709551616 := Nat.lt_of_le_of_lt (Nat.div_le_self _ _) hy64
      generalize y % base = r at *
      generalize dch r = dr at *
      generalize y / base = q at *
      go_wp2_with fail
      go_roundw
      case rel => exact ⟨m, _, hm1, by omega, rfl, by rw [hmm.out], hAn.out, hDnn.out, hbn.out⟩
      case measure => simp [intOf]
    · have hgeI : ¬ (base : Int) ≤ (y : Int) := by omega
      have hmk : m + 1 = 65 - k := by
        rcases Nat.lt_or_ge (65 - (m + 1)) k with h | h
        · exact absurd (hltm h) hge
        · omega
      obtain rfl : k = 64 - m := by omega
      have hm65 : m < 65 := by omega
      rw [Nat.mod_eq_of_lt (by omega : y < base)] at hDn hdgy
      have hy36 : y < 36 := by omega
      have hAn := Lib.hid (hAp.out (dch y))
      have hbn := Lib.hid (hbp.out (.int .u8 (dch y : Int)))
      have hDnn := Lib.hid (hDn.out _ rfl)
      have hFD : Hid (∀ j c, FG[j]? = some c → upd D m (dch y) (m + j) = c) := fun j c h => by
        have hj := (List.getElem?_eq_some_iff.1 h).1
        rw [hfn.out] at hj
        rw [hDnn.out (m + j) (by omega) (by omega), hfg.out j c h, show 64 - (m + j) = 64 - m - j by omega]
      have hcFG := Lib.hid (fun c hc => Nat.lt_of_lt_of_le (hfl.out c hc) (by decide : 128 ≤ 256))
      have hcv := ArrF.text (i := m) hAn.out (l := FG) (by rw [hfn.out]; omega) hcFG.out hFD.out
      have hsm := hsl.out m hm65
      clear hkm hltm hAp hbp hDn hDk hA hlt hend hmm hi1 hi2 hmk hdg hfl hfg hfn hFD hcFG hDnn hAn hsl hmt
      generalize hSG : u8sG FG = SG at *
      replace hSG := Lib.hid hSG
      generalize dch y = dr at *
      go_wp2_with fail
      go_ret2
      exact ⟨by rw [hSG.out]; rfl, hbn.out⟩
theorem c_fBpx (base u k : Nat) (U0 : Int) (hb : 2 ≤ base) (hb2 : base ≤ 36) (h10 : base ≠ 10) (hpw : pw2 base = false) (hu : u < 18446744073709551616) (hk : IsLg base u k) (hU : U0 = (u : Int)) (w : World) (hT : ∀ (i x : Nat), Lib.deBruijn64tab[i]? = some x → w.cell? ⟨11, i, none⟩ = some (.int .u8 (x : Int))) :
    Calls Tryz.prog 127 #[.slice none 0 0, .int .u64 U0, .int .i64 (base : Int), .bool false, .bool false] w fun r w' => r = .returned (.tuple #[.slice none 0 0, .string (u8sG (fmtG base u k))]) ∧ Below w.heap.size w w' := by
  subst hU
  have hk63 := lg_64 hb hk hu
  have hlt := Lib.hid (fun j => lg_lt (j := j) hb hk)
  have hend := hk.1
  have hIP := Lib.hid (fun W => c_isPow base hb hb2 W)
  rw [hpw] at hIP
  have hdg := Lib.hid digS_get
  have hA0 := Lib.hid (ArrF.zero w)
  have hB0 : Below w.heap.size w (w.alloc (.cells Tryz.zeroCells162 162)) := (Below.refl _ w).alloc (Nat.le_refl _) _
  replace hB0 := Lib.hid hB0
  have hfl := Lib.hid (fmtG_lt (u := u) (k := k) hb hb2)
  have hn2 : ¬ (base : Int) < 2 := by omega
  have hn36 : ¬ (36 : Int) < (base : Int) := by omega
  have hn10 : ((base : Int) == 10) = false := beq_eq_false_iff_ne.2 (by omega)
  have hsl := fun i (hi : i < 65) W => sl65 w.heap.size i hi W
  replace hsl := Lib.hid hsl
  have hmt : ∀ y i, u / base ^ (65 - (i + 1)) = y → u / base ^ (65 - i) = (if i < 65 then y / base else u / base ^ (65 - i)) := by
    intro y i h
    split
    · rw [show 65 - i = 65 - (i + 1) + 1 by omega, Nat.pow_succ, ← Nat.div_div_eq_div_mul, h]
    · rfl
  replace hmt := Lib.hid hmt
  have hfg : Hid (∀ j c, (fmtG base u k)[j]? = some c → c = dch (u / base ^ (k - j) % base)) := fun j c h => by
    have hj := (List.getElem?_eq_some_iff.1 h).1
    rw [fmtG_len] at hj
    rw [fmtG_get hj] at h
    exact (Option.some.inj h).symm
  have hfn : Hid ((fmtG base u k).length = k + 1) := fmtG_len base u k
  generalize fmtG base u k = FG at *
  clear hT hk hpw
  unfold digS at hdg
  go_enter Tryz.func127, Tryz.ntmps127
  go_wp2_with (go_at_call 155; refine (hIP.out _).mono ?_; rintro e w' ⟨rfl, rfl⟩)
  go_loopw [1, 13] (fun v1 v13 wr => ∃ (i : Nat) (D : Nat → Nat), 65 - k ≤ i ∧ i ≤ 65 ∧ v13 = .int .i64 (i : Int) ∧ v1 = .int .u64 ((u / base ^ (65 - i) : Nat) : Int) ∧ ArrF w.heap.size D wr ∧ (∀ x, i ≤ x → x < 65 → D x = dch (u / base ^ (64 - x) % base)) ∧ Below w.heap.size w wr) (fun _ v13 _ => (intOf v13).toNat)
  case atStart => exact ⟨65, _, by omega, Nat.le_refl _, rfl, by simp, hA0.out, fun x h1 h2 => by omega, hB0.out⟩
  case round =>
    obtain ⟨i, D, hi1, hi2, rfl, rfl, hA, hD, hbel⟩ := hrel
    obtain ⟨m, rfl⟩ : ∃ m, i = m + 1 := ⟨i - 1, by omega⟩
    have hmm := Lib.hid (hmt.out _ m rfl)
    have hy64 : u / base ^ (65 - (m + 1)) < 18446744073709551616 := Nat.lt_of_le_of_lt (Nat.div_le_self _ _) hu
    have hx64 : 64 - m = 65 - (m + 1) := by omega
    have hltm := hlt.out (65 - (m + 1))
    have hcm := hA.1 m (by omega)
    have hfm := hA.2 m
    have hkm : Hid (m + 1 = 65 - k → u / base ^ (65 - (m + 1)) < base) := fun h => by rw [h, show 65 - (65 - k) = k by omega]; exact hend
    have hDn : Hid (∀ v, v = dch (u / base ^ (65 - (m + 1)) % base) → ∀ x, m ≤ x → x < 65 → upd D m v x = dch (u / base ^ (64 - x) % base)) := fun v hv x h1 h2 => by
      by_cases e : x = m
      · subst e; rw [upd_same, hx64]; exact hv
      · rw [upd_other D v e]; exact hD x (by omega) h2
    have hDk : Hid (∀ x, 65 - k ≤ x → m + 1 ≤ x → x < 65 → D x = dch (u / base ^ (64 - x) % base)) := fun x _ h1 h2 => hD x h1 h2
    have hAp := Lib.hid (fun v => hA.put (i := m) (by omega) v)
    have hbp : ∀ v, Below w.heap.size w (wr.setCell ⟨w.heap.size, m, none⟩ v) := fun v => hbel.setCell (Nat.le_refl _) v
    replace hbp := Lib.hid hbp
    replace hA := Lib.hid hA
    clear hD hx64
    generalize u / base ^ (65 - (m + 1)) = y at *
    have hyr : y % base < base := Nat.mod_lt _ (by omega)
    have hdgy := hdg.out (y % base) (by omega)
    by_cases hge : base ≤ y
    · have hgeI : (base : Int) ≤ (y : Int) := by omega
      have hq1 : (y : Int).tdiv (base : Int) = ((y / base : Nat) : Int) := rfl
      have hdm := Nat.div_add_mod y base
      have hq2 : (y : Int) - ((y / base : Nat) : Int) * (base : Int) = ((y % base : Nat) : Int) := by
        rw [← Int.natCast_mul, Nat.mul_comm]; omega
      have hq3 : 0 ≤ ((y / base : Nat) : Int) * (base : Int) ∧ ((y / base : Nat) : Int) * (base : Int) ≤ (y : Int) := by
        rw [← Int.natCast_mul, Nat.mul_comm]; omega
      obtain ⟨hq4, hq5⟩ := hq3
      clear hdm
      have hm65 : m < 65 := by omega
      rw [if_pos hm65] at hmm
      have hm1 : 65 - k ≤ m := by
        rcases Nat.lt_or_ge m (65 - k) with h | h
        · exfalso; have := hkm.out (by omega); omega
        · exact h
      have hAn := Lib.hid (hAp.out (dch (y % base)))
      have hbn := Lib.hid (hbp.out (.int .u8 (dch (y % base) : Int)))
      have hDnn := Lib.hid (hDn.out _ rfl)
      have hmI : (0 : Int) ≤ (m : Int) := by omega
      clear hkm hltm hAp hbp hDn hDk hA hlt hend
      have hr36 : y % base < 36 := by omega
      have hq64 : y / base < 18446744073709551616 := Nat.lt_of_le_of_lt (Nat.div_le_self _ _) hy64
      generalize y % base = r at *
      generalize dch r = dr at *
      generalize y / base = q at *
      go_wp2_with fail
      go_roundw
      case rel => exact ⟨m, _, hm1, by omega, rfl, by rw [hmm.out], hAn.out, hDnn.out, hbn.out⟩
      case measure => simp [intOf]
    · have hgeI : ¬ (base : Int) ≤ (y : Int) := by omega
      have hmk : m + 1 = 65 - k := by
        rcases Nat.lt_or_ge (65 - (m + 1)) k with h | h
        · exact absurd (hltm h) hge
        · omega
      obtain rfl : k = 64 - m := by omega
      have hm65 : m < 65 := by omega
      rw [Nat.mod_eq_of_lt (by omega : y < base)] at hDn hdgy
      have hy36 : y < 36 := by omega
      have hAn := Lib.hid (hAp.out (dch y))
      have hbn := Lib.hid (hbp.out (.int .u8 (dch y : Int)))
      have hDnn := Lib.hid (hDn.out _ rfl)
      have hFD : Hid (∀ j c, FG[j]? = some c → upd D m (dch y) (m + j) = c) := fun j c h => by
        have hj := (List.getElem?_eq_some_iff.1 h).1
        rw [hfn.out] at hj
        rw [hDnn.out (m + j) (by omega) (by omega), hfg.out j c h, show 64 - (m + j) = 64 - m - j by omega]
      have hcFG := Lib.hid (fun c hc => Nat.lt_of_lt_of_le (hfl.out c hc) (by decide : 128 ≤ 256))
      have hcv := ArrF.text (i := m) hAn.out (l := FG) (by rw [hfn.out]; omega) hcFG.out hFD.out
      have hsm := hsl.out m hm65
      clear hkm hltm hAp hbp hDn hDk hA hlt hend hmm hi1 hi2 hmk hdg hfl hfg hfn hFD hcFG hDnn hAn hsl hmt
      generalize hSG : u8sG FG = SG at *
      replace hSG := Lib.hid hSG
      generalize dch y = dr at *
      go_wp2_with fail
      go_ret2
      exact ⟨by rw [hSG.out]; rfl, hbn.out⟩
theorem c_fBn2 (base u k : Nat) (U0 : Int) (sh : Nat) (hs1 : 1 ≤ sh) (hs2 : sh ≤ 5) (hsb : base = 2 ^ sh) (hb : 2 ≤ base) (hb2 : base ≤ 36) (h10 : base ≠ 10) (hpw : pw2 base = true) (hu : u < 18446744073709551616) (hk : IsLg base u k) (hU : IntKind.u64.wrap (-U0) = (u : Int) ∧ 0 ≤ U0 ∧ U0 ≤ 18446744073709551615) (w : World) (hT : ∀ (i x : Nat), Lib.deBruijn64tab[i]? = some x → w.cell? ⟨11, i, none⟩ = some (.int .u8 (x : Int))) :
    Calls Tryz.prog 127 #[.slice none 0 0, .int .u64 U0, .int .i64 (base : Int), .bool true, .bool false] w fun r w' => r = .returned (.tuple #[.slice none 0 0, .string (u8sG (45 :: fmtG base u k))]) ∧ Below w.heap.size w w' := by
  obtain ⟨hU, hU1, hU2⟩ := hU
  have hk63 := lg_64 hb hk hu
  have hlt := Lib.hid (fun j => lg_lt (j := j) hb hk)
  have hend := hk.1
  have hIP := Lib.hid (fun W => c_isPow base hb hb2 W)
  rw [hpw] at hIP
  have hdg := Lib.hid digS_get
  have hA0 := Lib.hid (ArrF.zero w)
  have hB0 : Below w.heap.size w (w.alloc (.cells Tryz.zeroCells162 162)) := (Below.refl _ w).alloc (Nat.le_refl _) _
  replace hB0 := Lib.hid hB0
  have hfl := Lib.hid (fmtG_lt (u := u) (k := k) hb hb2)
  have hn2 : ¬ (base : Int) < 2 := by omega
  have hn36 : ¬ (36 : Int) < (base : Int) := by omega
  have hn10 : ((base : Int) == 10) = false := beq_eq_false_iff_ne.2 (by omega)
  have hsl := fun i (hi : i < 65) W => sl65 w.heap.size i hi W
  replace hsl := Lib.hid hsl
  have hmt : ∀ y i, u / base ^ (65 - (i + 1)) = y → u / base ^ (65 - i) = (if i < 65 then y / base else u / base ^ (65 - i)) := by
    intro y i h
    split
    · rw [show 65 - i = 65 - (i + 1) + 1 by omega, Nat.pow_succ, ← Nat.div_div_eq_div_mul, h]
    · rfl
  replace hmt := Lib.hid hmt
  have hTZ := Lib.hid (fun W hT => c_TZ sh hs1 hs2 W hT)
  rw [← hsb] at hTZ
  have hT2 : Hid (∀ (i x : Nat), Lib.deBruijn64tab[i]? = some x → (w.alloc (.cells Tryz.zeroCells162 162)).cell? ⟨11, i, none⟩ = some (.int .u8 (x : Int))) := fun i x hx => (hB0.out.cell (p := ⟨11, i, none⟩) (lt_ofC (hT i x hx))).trans (hT i x hx)
  have hbm : ∀ y : Nat, y < 18446744073709551616 → bits BinOp.and IntKind.u64 (y : Int) ((base : Int) - 1) = ((y % base : Nat) : Int) := fun y hy => by
    have h := bits_and_u64_nat y (base - 1) hy (by omega)
    rw [show ((base - 1 : Nat) : Int) = (base : Int) - 1 by omega] at h
    rw [h, hsb]
    congr 1
    exact Nat.and_two_pow_sub_one_eq_mod y sh
  replace hbm := Lib.hid hbm
  have hbd : ∀ y : Nat, (y : Int) / 2 ^ sh = ((y / base : Nat) : Int) := fun y => by rw [hsb, Int.natCast_ediv, Int.natCast_pow]; rfl
  replace hbd := Lib.hid hbd
  clear hsb
  have hfg : Hid (∀ j c, (fmtG base u k)[j]? = some c → c = dch (u / base ^ (k - j) % base)) := fun j c h => by
    have hj := (List.getElem?_eq_some_iff.1 h).1
    rw [fmtG_len] at hj
    rw [fmtG_get hj] at h
    exact (Option.some.inj h).symm
  have hfn : Hid ((fmtG base u k).length = k + 1) := fmtG_len base u k
  generalize fmtG base u k = FG at *
  clear hT hk hpw
  unfold digS at hdg
  go_enter Tryz.func127, Tryz.ntmps127
  go_wp2_with (first | (go_at_call 155; refine (hIP.out _).mono ?_; rintro e w' ⟨rfl, rfl⟩) | (go_at_call 156; refine (hTZ.out _ hT2.out).mono ?_; rintro e w' ⟨rfl, rfl⟩))
  go_loopw [1, 13] (fun v1 v13 wr => ∃ (i : Nat) (D : Nat → Nat), 65 - k ≤ i ∧ i ≤ 65 ∧ v13 = .int .i64 (i : Int) ∧ v1 = .int .u64 ((u / base ^ (65 - i) : Nat) : Int) ∧ ArrF w.heap.size D wr ∧ (∀ x, i ≤ x → x < 65 → D x = dch (u / base ^ (64 - x) % base)) ∧ Below w.heap.size w wr) (fun _ v13 _ => (intOf v13).toNat)
  case atStart => exact ⟨65, _, by omega, Nat.le_refl _, rfl, by simp, hA0.out, fun x h1 h2 => by omega, hB0.out⟩
  case round =>
    obtain ⟨i, D, hi1, hi2, rfl, rfl, hA, hD, hbel⟩ := hrel
    obtain ⟨m, rfl⟩ : ∃ m, i = m + 1 := ⟨i - 1, by omega⟩
    have hmm := Lib.hid (hmt.out _ m rfl)
    have hy64 : u / base ^ (65 - (m + 1)) < 18446744073709551616 := Nat.lt_of_le_of_lt (Nat.div_le_self _ _) hu
    have hx64 : 64 - m = 65 - (m + 1) := by omega
    have hltm := hlt.out (65 - (m + 1))
    have hcm := hA.1 m (by omega)
    have hfm := hA.2 m
    have hkm : Hid (m + 1 = 65 - k → u / base ^ (65 - (m + 1)) < base) := fun h => by rw [h, show 65 - (65 - k) = k by omega]; exact hend
    have hDn : Hid (∀ v, v = dch (u / base ^ (65 - (m + 1)) % base) → ∀ x, m ≤ x → x < 65 → upd D m v x = dch (u / base ^ (64 - x) % base)) := fun v hv x h1 h2 => by
      by_cases e : x = m
      · subst e; rw [upd_same, hx64]; exact hv
      · rw [upd_other D v e]; exact hD x (by omega) h2
    have hDk : Hid (∀ x, 65 - k ≤ x → m + 1 ≤ x → x < 65 → D x = dch (u / base ^ (64 - x) % base)) := fun x _ h1 h2 => hD x h1 h2
    have hAp := Lib.hid (fun v => hA.put (i := m) (by omega) v)
    have hbp : ∀ v, Below w.heap.size w (wr.setCell ⟨w.heap.size, m, none⟩ v) := fun v => hbel.setCell (Nat.le_refl _) v
    replace hbp := Lib.hid hbp
    replace hA := Lib.hid hA
    clear hD hx64
    generalize u / base ^ (65 - (m + 1)) = y at *
    have hyr : y % base < base := Nat.mod_lt _ (by omega)
    have hdgy := hdg.out (y % base) (by omega)
    by_cases hge : base ≤ y
    · have hgeI : (base : Int) ≤ (y : Int) := by omega
      have hbmy := hbm.out y hy64
      have hbdy := hbd.out y
      have hm65 : m < 65 := by omega
      rw [if_pos hm65] at hmm
      have hm1 : 65 - k ≤ m := by
        rcases Nat.lt_or_ge m (65 - k) with h | h
        · exfalso; have := hkm.out (by omega); omega
        · exact h
      have hAn := Lib.hid (hAp.out (dch (y % base)))
      have hbn := Lib.hid (hbp.out (.int .u8 (dch (y % base) : Int)))
      have hDnn := Lib.hid (hDn.out _ rfl)
      have hmI : (0 : Int) ≤ (m : Int) := by omega
      clear hkm hltm hAp hbp hDn hDk hA hlt hend
      have hr36 : y % base < 36 := by omega
      have hq64 : y / base < 18446744073709551616 := Nat.lt_of_le_of_lt (Nat.div_le_self _ _) hy64
      generalize y % base = r at *
      generalize dch r = dr at *
      generalize y / base = q at *
      go_wp2_with fail
      go_roundw
      case rel => exact ⟨m, _, hm1, by omega, rfl, by rw [hmm.out], hAn.out, hDnn.out, hbn.out⟩
      case measure => simp [intOf]
    · have hgeI : ¬ (base : Int) ≤ (y : Int) := by omega
      have hmk : m + 1 = 65 - k := by
        rcases Nat.lt_or_ge (65 - (m + 1)) k with h | h
        · exact absurd (hltm h) hge
        · omega
      obtain rfl : k = 64 - m := by omega
      have hm65 : m < 65 := by omega
      rw [Nat.mod_eq_of_lt (by omega : y < base)] at hDn hdgy
      have hy36 : y < 36 := by omega
      have hAn := Lib.hid (hAp.out (dch y))
      have hbn := Lib.hid (hbp.out (.int .u8 (dch y : Int)))
      have hDnn := Lib.hid (hDn.out _ rfl)
      have hFD : Hid (∀ j c, FG[j]? = some c → upd D m (dch y) (m + j) = c) := fun j c h => by
        have hj := (List.getElem?_eq_some_iff.1 h).1
        rw [hfn.out] at hj
        rw [hDnn.out (m + j) (by omega) (by omega), hfg.out j c h, show 64 - (m + j) = 64 - m - j by omega]
      have hcFG := Lib.hid (fun c hc => Nat.lt_of_lt_of_le (hfl.out c hc) (by decide : 128 ≤ 256))
      have hm1 : 1 ≤ m := by omega
      obtain ⟨p, rfl⟩ : ∃ p, m = p + 1 := ⟨m - 1, by omega⟩
      have hcp := hAn.out.1 p (by omega)
      have hfp := hAn.out.2 p
      have hAq := Lib.hid (hAn.out.put (i := p) (by omega) 45)
      have hbq := Lib.hid (hbn.out.setCell (p := ⟨w.heap.size, p, none⟩) (Nat.le_refl _) (.int .u8 ((45 : Nat) : Int)))
      have hFE : Hid (∀ j c, (45 :: FG)[j]? = some c → upd (upd D (p + 1) (dch y)) p 45 (p + j) = c) := fun j c h => by
        cases j with
        | zero => simp at h; subst h; exact upd_same _ _ _
        | succ j =>
          rw [List.getElem?_cons_succ] at h
          rw [upd_other _ _ (by omega), show p + (j + 1) = p + 1 + j by omega]
          exact hFD.out j c h
      have hcFE : Hid (∀ c ∈ 45 :: FG, c < 256) := fun c hc => by
        rcases List.mem_cons.1 hc with rfl | hc
        · decide
        · exact hcFG.out c hc
      have hcv := ArrF.text (i := p) hAq.out (l := 45 :: FG) (by rw [List.length_cons, hfn.out]; omega) hcFE.out hFE.out
      rw [show ((45 : Nat) : Int) = 45 from rfl] at hcv hbq
      have hsm := hsl.out p (by omega)
      clear hkm hltm hAp hbp hDn hDk hA hlt hend hmm hi1 hi2 hmk hdg hfl hfg hfn hFD hcFG hDnn hAn hsl hmt hAq hFE hcFE hbn
      generalize hSG : u8sG (45 :: FG) = SG at *
      replace hSG := Lib.hid hSG
      generalize dch y = dr at *
      go_wp2_with fail
      go_ret2
      exact ⟨by rw [hSG.out]; rfl, hbq.out⟩
theorem c_fBnx (base u k : Nat) (U0 : Int) (hb : 2 ≤ base) (hb2 : base ≤ 36) (h10 : base ≠ 10) (hpw : pw2 base = false) (hu : u < 18446744073709551616) (hk : IsLg base u k) (hU : IntKind.u64.wrap (-U0) = (u : Int) ∧ 0 ≤ U0 ∧ U0 ≤ 18446744073709551615) (w : World) (hT : ∀ (i x : Nat), Lib.deBruijn64tab[i]? = some x → w.cell? ⟨11, i, none⟩ = some (.int .u8 (x : Int))) :
    Calls Tryz.prog 127 #[.slice none 0 0, .int .u64 U0, .int .i64 (base : Int), .bool true, .bool false] w fun r w' => r = .returned (.tuple #[.slice none 0 0, .string (u8sG (45 :: fmtG base u k))]) ∧ Below w.heap.size w w' := by
  obtain ⟨hU, hU1, hU2⟩ := hU
  have hk63 := lg_64 hb hk hu
  have hlt := Lib.hid (fun j => lg_lt (j := j) hb hk)
  have hend := hk.1
  have hIP := Lib.hid (fun W => c_isPow base hb hb2 W)
  rw [hpw] at hIP
  have hdg := Lib.hid digS_get
  have hA0 := Lib.hid (ArrF.zero w)
  have hB0 : Below w.heap.size w (w.alloc (.cells Tryz.zeroCells162 162)) := (Below.refl _ w).alloc (Nat.le_refl _) _
  replace hB0 := Lib.hid hB0
  have hfl := Lib.hid (fmtG_lt (u := u) (k := k) hb hb2)
  have hn2 : ¬ (base : Int) < 2 := by omega
  have hn36 : ¬ (36 : Int) < (base : Int) := by omega
  have hn10 : ((base : Int) == 10) = false := beq_eq_false_iff_ne.2 (by omega)
  have hsl := fun i (hi : i < 65) W => sl65 w.heap.size i hi W
  replace hsl := Lib.hid hsl
  have hmt : ∀ y i, u / base ^ (65 - (i + 1)) = y → u / base ^ (65 - i) = (if i < 65 then y / base else u / base ^ (65 - i)) := by
    intro y i h
    split
    · rw [show 65 - i = 65 - (i + 1) + 1 by omega, Nat.pow_succ, ← Nat.div_div_eq_div_mul, h]
    · rfl
  replace hmt := Lib.hid hmt
  have hfg : Hid (∀ j c, (fmtG base u k)[j]? = some c → c = dch (u / base ^ (k - j) % base)) := fun j c h => by
    have hj := (List.getElem?_eq_some_iff.1 h).1
    rw [fmtG_len] at hj
    rw [fmtG_get hj] at h
    exact (Option.some.inj h).symm
  have hfn : Hid ((fmtG base u k).length = k + 1) := fmtG_len base u k
  generalize fmtG base u k = FG at *
  clear hT hk hpw
  unfold digS at hdg
  go_enter Tryz.func127, Tryz.ntmps127
  go_wp2_with (go_at_call 155; refine (hIP.out _).mono ?_; rintro e w' ⟨rfl, rfl⟩)
  go_loopw [1, 13] (fun v1 v13 wr => ∃ (i : Nat) (D : Nat → Nat), 65 - k ≤ i ∧ i ≤ 65 ∧ v13 = .int .i64 (i : Int) ∧ v1 = .int .u64 ((u / base ^ (65 - i) : Nat) : Int) ∧ ArrF w.heap.size D wr ∧ (∀ x, i ≤ x → x < 65 → D x = dch (u / base ^ (64 - x) % base)) ∧ Below w.heap.size w wr) (fun _ v13 _ => (intOf v13).toNat)
  case atStart => exact ⟨65, _, by omega, Nat.le_refl _, rfl, by simp, hA0.out, fun x h1 h2 => by omega, hB0.out⟩
  case round =>
    obtain ⟨i, D, hi1, hi2, rfl, rfl, hA, hD, hbel⟩ := hrel
    obtain ⟨m, rfl⟩ : ∃ m, i = m + 1 := ⟨i - 1, by omega⟩
    have hmm := Lib.hid (hmt.out _ m rfl)
    have hy64 : u / base ^ (65 - (m + 1)) < 18446744073709551616 := Nat.lt_of_le_of_lt (Nat.div_le_self _ _) hu
    have hx64 : 64 - m = 65 - (m + 1) := by omega
    have hltm := hlt.out (65 - (m + 1))
    have hcm := hA.1 m (by omega)
    have hfm := hA.2 m
    have hkm : Hid (m + 1 = 65 - k → u / base ^ (65 - (m + 1)) < base) := fun h => by rw [h, show 65 - (65 - k) = k by omega]; exact hend
    have hDn : Hid (∀ v, v = dch (u / base ^ (65 - (m + 1)) % base) → ∀ x, m ≤ x → x < 65 → upd D m v x = dch (u / base ^ (64 - x) % base)) := fun v hv x h1 h2 => by
      by_cases e : x = m
      · subst e; rw [upd_same, hx64]; exact hv
      · rw [upd_other D v e]; exact hD x (by omega) h2
    have hDk : Hid (∀ x, 65 - k ≤ x → m + 1 ≤ x → x < 65 → D x = dch (u / base ^ (64 - x) % base)) := fun x _ h1 h2 => hD x h1 h2
    have hAp := Lib.hid (fun v => hA.put (i := m) (by omega) v)
    have hbp : ∀ v, Below w.heap.size w (wr.setCell ⟨w.heap.size, m, none⟩ v) := fun v => hbel.setCell (Nat.le_refl _) v
    replace hbp := Lib.hid hbp
    replace hA := Lib.hid hA
    clear hD hx64
    generalize u / base ^ (65 - (m + 1)) = y at *
    have hyr : y % base < base := Nat.mod_lt _ (by omega)
    have hdgy := hdg.out (y % base) (by omega)
    by_cases hge : base ≤ y
    · have hgeI : (base : Int) ≤ (y : Int) := by omega
      have hq1 : (y : Int).tdiv (base : Int) = ((y / base : Nat) : Int) := rfl
      have hdm := Nat.div_add_mod y base
      have hq2 : (y : Int) - ((y / base : Nat) : Int) * (base : Int) = ((y % base : Nat) : Int) := by
        rw [← Int.natCast_mul, Nat.mul_comm]; omega
      have hq3 : 0 ≤ ((y / base : Nat) : Int) * (base : Int) ∧ ((y / base : Nat) : Int) * (base : Int) ≤ (y : Int) := by
        rw [← Int.natCast_mul, Nat.mul_comm]; omega
      obtain ⟨hq4, hq5⟩ := hq3
      clear hdm
      have hm65 : m < 65 := by omega
      rw [if_pos hm65] at hmm
      have hm1 : 65 - k ≤ m := by
        rcases Nat.lt_or_ge m (65 - k) with h | h
        · exfalso; have := hkm.out (by omega); omega
        · exact h
      have hAn := Lib.hid (hAp.out (dch (y % base)))
      have hbn := Lib.hid (hbp.out (.int .u8 (dch (y % base) : Int)))
      have hDnn := Lib.hid (hDn.out _ rfl)
      have hmI : (0 : Int) ≤ (m : Int) := by omega
      clear hkm hltm hAp hbp hDn hDk hA hlt hend
      have hr36 : y % base < 36 := by omega
      have hq64 : y / base < 18446744073709551616 := Nat.lt_of_le_of_lt (Nat.div_le_self _ _) hy64
      generalize y % base = r at *
      generalize dch r = dr at *
      generalize y / base = q at *
      go_wp2_with fail
      go_roundw
      case rel => exact ⟨m, _, hm1, by omega, rfl, by rw [hmm.out], hAn.out, hDnn.out, hbn.out⟩
      case measure => simp [intOf]
    · have hgeI : ¬ (base : Int) ≤ (y : Int) := by omega
      have hmk : m + 1 = 65 - k := by
        rcases Nat.lt_or_ge (65 - (m + 1)) k with h | h
        · exact absurd (hltm h) hge
        · omega
      obtain rfl : k = 64 - m := by omega
      have hm65 : m < 65 := by omega
      rw [Nat.mod_eq_of_lt (by omega : y < base)] at hDn hdgy
      have hy36 : y < 36 := by omega
      have hAn := Lib.hid (hAp.out (dch y))
      have hbn := Lib.hid (hbp.out (.int .u8 (dch y : Int)))
      have hDnn := Lib.hid (hDn.out _ rfl)
      have hFD : Hid (∀ j c, FG[j]? = some c → upd D m (dch y) (m + j) = c) := fun j c h => by
        have hj := (List.getElem?_eq_some_iff.1 h).1
        rw [hfn.out] at hj
        rw [hDnn.out (m + j) (by omega) (by omega), hfg.out j c h, show 64 - (m + j) = 64 - m - j by omega]
      have hcFG := Lib.hid (fun c hc => Nat.lt_of_lt_of_le (hfl.out c hc) (by decide : 128 ≤ 256))
      have hm1 : 1 ≤ m := by omega
      obtain ⟨p, rfl⟩ : ∃ p, m = p + 1 := ⟨m - 1, by omega⟩
      have hcp := hAn.out.1 p (by omega)
      have hfp := hAn.out.2 p
      have hAq := Lib.hid (hAn.out.put (i := p) (by omega) 45)
      have hbq := Lib.hid (hbn.out.setCell (p := ⟨w.heap.size, p, none⟩) (Nat.le_refl _) (.int .u8 ((45 : Nat) : Int)))
      have hFE : Hid (∀ j c, (45 :: FG)[j]? = some c → upd (upd D (p + 1) (dch y)) p 45 (p + j) = c) := fun j c h => by
        cases j with
        | zero => simp at h; subst h; exact upd_same _ _ _
        | succ j =>
          rw [List.getElem?_cons_succ] at h
          rw [upd_other _ _ (by omega), show p + (j + 1) = p + 1 + j by omega]
          exact hFD.out j c h
      have hcFE : Hid (∀ c ∈ 45 :: FG, c < 256) := fun c hc => by
        rcases List.mem_cons.1 hc with rfl | hc
        · decide
        · exact hcFG.out c hc
      have hcv := ArrF.text (i := p) hAq.out (l := 45 :: FG) (by rw [List.length_cons, hfn.out]; omega) hcFE.out hFE.out
      rw [show ((45 : Nat) : Int) = 45 from rfl] at hcv hbq
      have hsm := hsl.out p (by omega)
      clear hkm hltm hAp hbp hDn hDk hA hlt hend hmm hi1 hi2 hmk hdg hfl hfg hfn hFD hcFG hDnn hAn hsl hmt hAq hFE hcFE hbn
      generalize hSG : u8sG (45 :: FG) = SG at *
      replace hSG := Lib.hid hSG
      generalize dch y = dr at *
      go_wp2_with fail
      go_ret2
      exact ⟨by rw [hSG.out]; rfl, hbq.out⟩
end Go.Proofs.YtbakbikilbaafaaGreatDoor
namespace Go.Proofs.YtbakbikilbaafaaGreatDoor
open Go.RowKit F64 Ieee
set_option linter.unusedVariables false
set_option maxHeartbeats 4000000
set_option maxRecDepth 100000

theorem pw2_all : ∀ b : Fin 37, 2 ≤ b.val → pw2 b.val = true → ∃ s : Fin 6, 1 ≤ s.val ∧ b.val = 2 ^ s.val := by decide +kernel
theorem c_fBp (base u k : Nat) (hb : 2 ≤ base) (hb2 : base ≤ 36) (h10 : base ≠ 10) (hu : u < 18446744073709551616) (hk : IsLg base u k) (w : World) (hL : LibW w) :
    Calls Tryz.prog 127 #[.slice none 0 0, .int .u64 (u : Int), .int .i64 (base : Int), .bool false, .bool false] w fun r w' => r = .returned (.tuple #[.slice none 0 0, .string (u8sG (fmtG base u k))]) ∧ Below w.heap.size w w' := by
  cases hp : pw2 base with
  | true =>
    obtain ⟨s, h1, h2⟩ := pw2_all ⟨base, by omega⟩ hb hp
    exact c_fBp2 base u k _ s.val h1 (by omega) h2 hb hb2 h10 hp hu hk rfl w hL.tz
  | false => exact c_fBpx base u k _ hb hb2 h10 hp hu hk rfl w hL.tz
theorem c_fBn (base u k : Nat) (U0 : Int) (hb : 2 ≤ base) (hb2 : base ≤ 36) (h10 : base ≠ 10) (hu : u < 18446744073709551616) (hk : IsLg base u k) (hU : IntKind.u64.wrap (-U0) = (u : Int) ∧ 0 ≤ U0 ∧ U0 ≤ 18446744073709551615) (w : World) (hL : LibW w) :
    Calls Tryz.prog 127 #[.slice none 0 0, .int .u64 U0, .int .i64 (base : Int), .bool true, .bool false] w fun r w' => r = .returned (.tuple #[.slice none 0 0, .string (u8sG (45 :: fmtG base u k))]) ∧ Below w.heap.size w w' := by
  cases hp : pw2 base with
  | true =>
    obtain ⟨s, h1, h2⟩ := pw2_all ⟨base, by omega⟩ hb hp
    exact c_fBn2 base u k _ s.val h1 (by omega) h2 hb hb2 h10 hp hu hk hU w hL.tz
  | false => exact c_fBnx base u k _ hb hb2 h10 hp hu hk hU w hL.tz
theorem c_FUI (base u k : Nat) (hb : 2 ≤ base) (hb2 : base ≤ 36) (h10 : base ≠ 10) (hu : u < 18446744073709551616) (hk : IsLg base u k) (w : World) (hL : LibW w) :
    Calls Tryz.prog 122 #[.int .u64 (u : Int), .int .i64 (base : Int)] w fun r w' => r = .returned (.string (u8sG (fmtG base u k))) ∧ Below w.heap.size w w' := by
  have hC := Lib.hid (c_fBp base u k hb hb2 h10 hu hk w hL)
  have hn10 : ((base : Int) == 10) = false := beq_eq_false_iff_ne.2 (by omega)
  generalize u8sG (fmtG base u k) = S at *
  clear hk
  go_enter Tryz.func122, Tryz.ntmps122
  go_wp2_with fail
  refine hC.out.mono ?_
  rintro e w1 ⟨rfl, hb1⟩
  go_wp2_with fail
  go_ret
  exact ⟨rfl, hb1⟩
theorem c_FormatUint (base u k : Nat) (hb : 2 ≤ base) (hb2 : base ≤ 36) (h10 : base ≠ 10) (hu : u < 18446744073709551616) (hk : IsLg base u k) (w : World) (hL : LibW w) :
    Calls Tryz.prog 84 #[.int .u64 (u : Int), .int .i64 (base : Int)] w fun r w' => r = .returned (.string (u8sG (fmtG base u k))) ∧ Below w.heap.size w w' := by
  have hC := Lib.hid (c_FUI base u k hb hb2 h10 hu hk w hL)
  generalize u8sG (fmtG base u k) = S at *
  clear hk
  go_enter Tryz.func84, Tryz.ntmps84
  go_wp2_with fail
  refine hC.out.mono ?_
  rintro e w1 ⟨rfl, hb1⟩
  go_wp2_with fail
  go_ret
  exact ⟨rfl, hb1⟩
theorem c_FII (base u : Nat) (n : Int) (L : List Nat) (hb : 2 ≤ base) (hb2 : base ≤ 36) (h10 : base ≠ 10) (w : World)
    (hC0 : Calls Tryz.prog 127 #[.slice none 0 0, .int .u64 (IntKind.u64.wrap n), .int .i64 (base : Int), .bool (decide (n < 0)), .bool false] w fun r w' => r = .returned (.tuple #[.slice none 0 0, .string (u8sG L)]) ∧ Below w.heap.size w w') :
    Calls Tryz.prog 88 #[.int .i64 n, .int .i64 (base : Int)] w fun r w' => r = .returned (.string (u8sG L)) ∧ Below w.heap.size w w' := by
  have hn10 : ((base : Int) == 10) = false := beq_eq_false_iff_ne.2 (by omega)
  generalize u8sG L = S at *
  by_cases hn : n < 0
  · rw [decide_eq_true hn] at hC0
    have hC := Lib.hid hC0
    clear hC0
    go_enter Tryz.func88, Tryz.ntmps88
    go_wp2_with fail
    refine hC.out.mono ?_
    rintro e w1 ⟨rfl, hb1⟩
    go_wp2_with fail
    go_ret
    exact ⟨rfl, hb1⟩
  · rw [decide_eq_false hn] at hC0
    have hC := Lib.hid hC0
    clear hC0
    go_enter Tryz.func88, Tryz.ntmps88
    go_wp2_with fail
    refine hC.out.mono ?_
    rintro e w1 ⟨rfl, hb1⟩
    go_wp2_with fail
    go_ret
    exact ⟨rfl, hb1⟩
/-- a whole number to a base: some text -/
theorem c_FormatInt (base : Nat) (n : Int) (hb : 2 ≤ base) (hb2 : base ≤ 36) (h10 : base ≠ 10) (hn1 : -9007199254740992 ≤ n) (hn2 : n ≤ 9007199254740992) :
    ∃ L : List Nat, (∀ c ∈ L, c < 128) ∧ L.length ≤ 70 ∧ ∀ w, LibW w → Calls Tryz.prog 59 #[.int .i64 n, .int .i64 (base : Int)] w fun r w' => r = .returned (.string (u8sG L)) ∧ Below w.heap.size w w' := by
  have wrapper : ∀ (L : List Nat) w, (Calls Tryz.prog 88 #[.int .i64 n, .int .i64 (base : Int)] w fun r w' => r = .returned (.string (u8sG L)) ∧ Below w.heap.size w w') → Calls Tryz.prog 59 #[.int .i64 n, .int .i64 (base : Int)] w fun r w' => r = .returned (.string (u8sG L)) ∧ Below w.heap.size w w' := by
    intro L w h
    have hC := Lib.hid h
    clear h
    generalize u8sG L = S at *
    go_enter Tryz.func59, Tryz.ntmps59
    go_wp2_with fail
    refine hC.out.mono ?_
    rintro e w1 ⟨rfl, hb1⟩
    go_wp2_with fail
    go_ret
    exact ⟨rfl, hb1⟩
  by_cases hn : n < 0
  · obtain ⟨u, rfl⟩ : ∃ u : Nat, n = -(u : Int) := ⟨(-n).toNat, by omega⟩
    obtain ⟨k, hk⟩ := lg_ex hb u
    have hk63 := lg_64 hb hk (by omega)
    refine ⟨45 :: fmtG base u k, ?_, by rw [List.length_cons, fmtG_len]; omega, fun w hL => wrapper _ w (c_FII base u _ _ hb hb2 h10 w ?_)⟩
    · intro c hc
      rcases List.mem_cons.1 hc with rfl | hc
      · decide
      · exact fmtG_lt hb hb2 c hc
    · rw [decide_eq_true hn]
      refine c_fBn base u k _ hb hb2 h10 (by omega) hk ⟨?_, ?_, ?_⟩ w hL
      · rw [IntKind.wrap_u64, IntKind.wrap_u64]; omega
      · rw [IntKind.wrap_u64]; omega
      · rw [IntKind.wrap_u64]; omega
  · obtain ⟨u, rfl⟩ : ∃ u : Nat, n = (u : Int) := ⟨n.toNat, by omega⟩
    obtain ⟨k, hk⟩ := lg_ex hb u
    have hk63 := lg_64 hb hk (by omega)
    refine ⟨fmtG base u k, fmtG_lt hb hb2, by rw [fmtG_len]; omega, fun w hL => wrapper _ w (c_FII base u _ _ hb hb2 h10 w ?_)⟩
    rw [decide_eq_false hn, show IntKind.u64.wrap (u : Int) = (u : Int) by rw [IntKind.wrap_u64]; omega]
    exact c_fBp base u k hb hb2 h10 (by omega) hk w hL
end Go.Proofs.YtbakbikilbaafaaGreatDoor
namespace Go.Proofs.YtbakbikilbaafaaGreatDoor.W3
open Go.RowKit F64 Ieee
set_option linter.unusedVariables false
set_option maxHeartbeats 4000000
set_option maxRecDepth 100000

def B32 : Nat := 4294967296
/-- words times a base plus a carry, and the carry out -/
def mulA (base : Nat) : List Nat → Nat → List Nat × Nat
  | [], c => ([], c)
  | x :: xs, c => ((x * base + c) % B32 :: (mulA base xs ((x * base + c) / B32)).1, (mulA base xs ((x * base + c) / B32)).2)
/-- what words are worth -/
def valW : List Nat → Nat
  | [] => 0
  | x :: xs => x + B32 * valW xs
theorem mulA_len (base : Nat) (ws : List Nat) (c : Nat) : (mulA base ws c).1.length = ws.length := by
  induction ws generalizing c with
  | nil => rfl
  | cons x xs ih => simp [mulA, ih]
theorem mulA_val (base : Nat) (ws : List Nat) (c : Nat) : valW (mulA base ws c).1 + B32 ^ ws.length * (mulA base ws c).2 = valW ws * base + c := by
  induction ws generalizing c with
  | nil => simp [mulA, valW]
  | cons x xs ih =>
    have h := ih ((x * base + c) / B32)
    simp only [mulA, valW, List.length_cons]
    have hd := Nat.div_add_mod (x * base + c) B32
    generalize (x * base + c) / B32 = q at *
    generalize (x * base + c) % B32 = r at *
    rw [Nat.pow_succ, Nat.add_mul, Nat.mul_assoc B32 (valW xs) base]
    have e : B32 ^ xs.length * B32 * (mulA base xs q).2 = B32 * (B32 ^ xs.length * (mulA base xs q).2) := by rw [Nat.mul_comm (B32 ^ xs.length) B32, Nat.mul_assoc]
    rw [e]
    have := congrArg (B32 * ·) h
    simp only [Nat.mul_add] at this
    omega
theorem mulA_lt (base : Nat) (ws : List Nat) (c : Nat) : ∀ x ∈ (mulA base ws c).1, x < B32 := by
  induction ws generalizing c with
  | nil => simp [mulA]
  | cons x xs ih =>
    intro y hy
    simp only [mulA, List.mem_cons] at hy
    rcases hy with rfl | hy
    · exact Nat.mod_lt _ (by decide)
    · exact ih _ y hy
theorem mulA_carry (base : Nat) (hb : 1 ≤ base) (ws : List Nat) (c : Nat) (hc : c < base) (hw : ∀ x ∈ ws, x < B32) : (mulA base ws c).2 < base := by
  induction ws generalizing c with
  | nil => exact hc
  | cons x xs ih =>
    simp only [mulA]
    refine ih _ ?_ (fun y hy => hw y (List.mem_cons_of_mem _ hy))
    have hx := hw x (List.mem_cons_self ..)
    rw [Nat.div_lt_iff_lt_mul (by decide)]
    have : x * base ≤ (B32 - 1) * base := Nat.mul_le_mul_right _ (by omega)
    rw [Nat.sub_mul] at this
    have h2 : 1 * base ≤ B32 * base := Nat.mul_le_mul_right _ (by decide)
    rw [Nat.mul_comm base B32]
    omega
theorem mulA_snoc (base : Nat) (ws : List Nat) (k x c : Nat) (h : ws[k]? = some x) : mulA base (ws.take (k + 1)) c = ((mulA base (ws.take k) c).1 ++ [(x * base + (mulA base (ws.take k) c).2) % B32], (x * base + (mulA base (ws.take k) c).2) / B32) := by
  induction ws generalizing c k with
  | nil => simp at h
  | cons y ys ih =>
    cases k with
    | zero => simp at h; subst h; simp [mulA]
    | succ k =>
      simp only [List.take_succ_cons, mulA]
      rw [ih k _ (by simpa using h)]
      simp
/-- a word more if something is carried out -/
def stepW (base : Nat) (ws : List Nat) (d : Nat) : List Nat := if (mulA base ws d).2 = 0 then (mulA base ws d).1 else (mulA base ws d).1 ++ [(mulA base ws d).2]
theorem valW_app (a b : List Nat) : valW (a ++ b) = valW a + B32 ^ a.length * valW b := by
  induction a with
  | nil => simp [valW]
  | cons x xs ih => simp only [List.cons_append, valW, ih, List.length_cons, Nat.pow_succ, Nat.mul_add, Nat.add_assoc]; rw [Nat.mul_comm (B32 ^ xs.length) B32, Nat.mul_assoc]
theorem stepW_val (base : Nat) (ws : List Nat) (d : Nat) : valW (stepW base ws d) = valW ws * base + d := by
  have h := mulA_val base ws d
  unfold stepW
  split
  · rename_i h0; rw [h0, Nat.mul_zero] at h; exact h
  · rw [valW_app, mulA_len]; simp only [valW, Nat.mul_zero, Nat.add_zero]; exact h
/-- the words of digits -/
def stkW (base : Nat) (l : List Nat) : List Nat := l.foldl (fun ws c => stepW base ws (wth c)) []
theorem stkW_snoc (base : Nat) (l : List Nat) (k c : Nat) (h : l[k]? = some c) : stkW base (l.take (k + 1)) = stepW base (stkW base (l.take k)) (wth c) := by
  unfold stkW
  rw [List.take_add_one, h, List.foldl_append]; rfl
/-- the row within a round -/
def inW (base : Nat) (ws : List Nat) (d k : Nat) : List Nat := (mulA base (ws.take k) d).1 ++ ws.drop k
theorem inW_len (base : Nat) (ws : List Nat) (d k : Nat) (hk : k ≤ ws.length) : (inW base ws d k).length = ws.length := by
  unfold inW; rw [List.length_append, mulA_len, List.length_take, List.length_drop]; omega
theorem inW_get (base : Nat) (ws : List Nat) (d k : Nat) (hk : k < ws.length) : (inW base ws d k)[k]? = ws[k]? := by
  unfold inW
  have hl : (mulA base (ws.take k) d).1.length = k := by rw [mulA_len, List.length_take]; omega
  rw [List.getElem?_append_right (by omega), hl, List.getElem?_drop]; simp
theorem inW_set (base : Nat) (ws : List Nat) (d k x : Nat) (h : ws[k]? = some x) : (inW base ws d k).set k ((x * base + (mulA base (ws.take k) d).2) % B32) = inW base ws d (k + 1) := by
  have hk := (List.getElem?_eq_some_iff.1 h).1
  have hl : (mulA base (ws.take k) d).1.length = k := by rw [mulA_len, List.length_take]; omega
  unfold inW
  have e : ∀ y, (ws.drop k).set 0 y = y :: ws.drop (k + 1) := fun y => by rw [List.drop_eq_getElem_cons hk]; rfl
  rw [mulA_snoc base ws k x d h, List.set_append_right _ _ (by omega), hl, Nat.sub_self, e]
  simp
theorem stkW_len (base : Nat) (l : List Nat) : (stkW base l).length ≤ l.length := by
  have key : ∀ (l : List Nat) (ws : List Nat), (l.foldl (fun ws c => stepW base ws (wth c)) ws).length ≤ ws.length + l.length := by
    intro l
    induction l with
    | nil => intro ws; simp
    | cons c l ih =>
      intro ws
      simp only [List.foldl_cons, List.length_cons]
      refine Nat.le_trans (ih _) ?_
      have : (stepW base ws (wth c)).length ≤ ws.length + 1 := by
        unfold stepW
        split
        · rw [mulA_len]; omega
        · simp [mulA_len]
      omega
  have := key l []
  simpa [stkW] using this
theorem stepW_lt {base : Nat} (hb : 1 ≤ base) (hb2 : base ≤ 36) {ws : List Nat} {d : Nat} (hd : d < base) (hw : ∀ x ∈ ws, x < B32) : ∀ x ∈ stepW base ws d, x < B32 := by
  have h1 := mulA_lt base ws d
  have h2 := mulA_carry base hb ws d hd hw
  unfold stepW
  split
  · exact h1
  · intro x hx
    rcases List.mem_append.1 hx with h | h
    · exact h1 x h
    · simp at h; subst h; unfold B32; omega
theorem stkW_lt {base : Nat} (hb : 1 ≤ base) (hb2 : base ≤ 36) {l : List Nat} (hl : ∀ c ∈ l, wth c < base) : ∀ k, ∀ x ∈ stkW base (l.take k), x < B32 := by
  intro k
  induction k with
  | zero => simp [stkW]
  | succ k ih =>
    rcases Nat.lt_or_ge k l.length with h | h
    · have hx : l[k]? = some l[k] := List.getElem?_eq_getElem h
      rw [stkW_snoc base l k _ hx]
      exact stepW_lt hb hb2 (hl _ (List.getElem_mem h)) ih
    · rw [List.take_of_length_le (by omega)] at ih ⊢
      exact ih
theorem valW_stk (base : Nat) (l : List Nat) : valW (stkW base l) = numB base l := by
  have key : ∀ (l ws : List Nat) (n : Nat), valW ws = n → valW (l.foldl (fun ws c => stepW base ws (wth c)) ws) = l.foldl (fun n c => n * base + wth c) n := by
    intro l
    induction l with
    | nil => intro ws n h; exact h
    | cons c l ih =>
      intro ws n h
      simp only [List.foldl_cons]
      exact ih _ _ (by rw [stepW_val, h])
  exact key l [] 0 rfl
def u32s (l : List Nat) : List Value := l.map fun n : Nat => .int .u32 (n : Int)
theorem u32s_set (l : List Nat) (k y : Nat) : (u32s l).set k (.int .u32 (y : Int)) = u32s (l.set k y) := by
  unfold u32s; rw [List.map_set]
theorem infoU32 : (Tryz.prog.info? 110).map (fun i => (i.zero, i.size, i.bytes)) = some (some (.int .u32 0), 1, 4) := by kernel_rfl
theorem numB_app (b : Nat) (l m : List Nat) : numB b (l ++ m) = numB b l * b ^ m.length + numB b m := by
  have key : ∀ (m : List Nat) (n : Nat), m.foldl (fun n c => n * b + wth c) n = n * b ^ m.length + m.foldl (fun n c => n * b + wth c) 0 := by
    intro m
    induction m with
    | nil => intro n; simp
    | cons c m ih =>
      intro n
      simp only [List.foldl_cons, List.length_cons]
      rw [ih (n * b + wth c), ih (0 * b + wth c), Nat.pow_succ, Nat.add_mul, Nat.zero_mul, Nat.zero_add, Nat.mul_comm (b ^ m.length) b, Nat.mul_assoc, Nat.add_assoc]
  unfold numB
  rw [List.foldl_append]
  exact key m _
theorem wth_dch {d : Nat} (h : d < 36) : wth (dch d) = d := by
  have all : ∀ d : Fin 36, wth (dch d.val) = d.val := by decide +kernel
  exact all ⟨d, h⟩
theorem fmtG_succ (b u k : Nat) : fmtG b u (k + 1) = fmtG b (u / b) k ++ [dch (u % b)] := by
  unfold fmtG
  rw [List.range_succ, List.map_append]
  congr 1
  · apply List.map_congr_left
    intro m hm
    have := List.mem_range.1 hm
    rw [show k + 1 - m = k - m + 1 by omega, Nat.pow_succ, Nat.mul_comm, ← Nat.div_div_eq_div_mul]
  · simp
theorem numB_fmt {b : Nat} (hb : 2 ≤ b) (hb2 : b ≤ 36) : ∀ (k u : Nat), numB b (fmtG b u k) = u % b ^ (k + 1)
  | 0, u => by
    have hm := Nat.mod_lt u (show 0 < b by omega)
    simp [fmtG, numB, wth_dch (show u % b < 36 by omega)]
  | k + 1, u => by
    have hm := Nat.mod_lt u (show 0 < b by omega)
    rw [fmtG_succ, numB_app, numB_fmt hb hb2 k]
    simp only [List.length_singleton, Nat.pow_one]
    rw [show numB b [dch (u % b)] = u % b by simp [numB, wth_dch (show u % b < 36 by omega)]]
    rw [Nat.pow_succ b (k + 1), Nat.mul_comm (b ^ (k + 1)) b, Nat.mod_mul, Nat.mul_comm]
    omega
/-- a word's eight digits -/
def hx8 (x : Nat) : List Nat := (fmtG 16 (x + 4294967296) 8).drop 1
theorem hx8_len (x : Nat) : (hx8 x).length = 8 := by unfold hx8; rw [List.length_drop, fmtG_len]
theorem lg_8 {x : Nat} (h : x < 4294967296) : IsLg 16 (x + 4294967296) 8 := by
  have e : (16 : Nat) ^ 8 = 4294967296 := by decide
  unfold IsLg
  rw [e]
  exact ⟨by omega, .inr (by omega)⟩
theorem hx8_val {x : Nat} (h : x < 4294967296) : numB 16 (hx8 x) = x := by
  have h1 := numB_fmt (b := 16) (by decide) (by decide) 8 (x + 4294967296)
  have e8 : (16 : Nat) ^ 8 = 4294967296 := by decide
  have e9 : (16 : Nat) ^ (8 + 1) = 68719476736 := by decide
  have hd : fmtG 16 (x + 4294967296) 8 = dch 1 :: hx8 x := by
    have hg := fmtG_get (base := 16) (u := x + 4294967296) (k := 8) (j := 0) (by decide)
    rw [Nat.sub_zero, e8, show (x + 4294967296) / 4294967296 % 16 = 1 by omega] at hg
    unfold hx8
    generalize fmtG 16 (x + 4294967296) 8 = l at *
    cases l with
    | nil => simp at hg
    | cons a l => simp at hg; rw [hg]; rfl
  rw [hd, show dch 1 :: hx8 x = [dch 1] ++ hx8 x from rfl, numB_app, hx8_len, e8, e9] at h1
  have e1 : numB 16 [dch 1] = 1 := by decide +kernel
  rw [e1] at h1
  omega
theorem hx8_hx (x : Nat) : ∀ c ∈ hx8 x, IsHx c := by
  intro c hc
  unfold hx8 at hc
  have hc := List.mem_of_mem_drop hc
  unfold fmtG at hc
  obtain ⟨m, -, rfl⟩ := List.mem_map.1 hc
  have := Nat.mod_lt ((x + 4294967296) / 16 ^ (8 - m)) (show 0 < 16 by decide)
  have all : ∀ d : Fin 16, (48 ≤ dch d.val ∧ dch d.val ≤ 57 ∨ 97 ≤ dch d.val ∧ dch d.val ≤ 102) := by decide +kernel
  exact all ⟨_, this⟩
/-- words as digits, the uppermost first -/
def hexs (ws : List Nat) : List Nat := ws.reverse.flatMap hx8
theorem hexs_cons (x : Nat) (ws : List Nat) : hexs (x :: ws) = hexs ws ++ hx8 x := by simp [hexs]
theorem hexs_len : ∀ ws : List Nat, (hexs ws).length = 8 * ws.length
  | [] => rfl
  | x :: ws => by rw [hexs_cons, List.length_append, hexs_len ws, hx8_len, List.length_cons]; omega
theorem hexs_val : ∀ ws : List Nat, (∀ x ∈ ws, x < B32) → numB 16 (hexs ws) = valW ws
  | [], _ => rfl
  | x :: ws, h => by
    rw [hexs_cons, numB_app, hexs_val ws (fun y hy => h y (List.mem_cons_of_mem _ hy)), hx8_len, hx8_val (h x (List.mem_cons_self ..))]
    simp only [valW]
    unfold B32
    rw [show (16 : Nat) ^ 8 = 4294967296 by decide]
    omega
theorem hexs_hx : ∀ ws : List Nat, ∀ c ∈ hexs ws, IsHx c
  | [], c, hc => by simp [hexs] at hc
  | x :: ws, c, hc => by
    rw [hexs_cons] at hc
    rcases List.mem_append.1 hc with h | h
    · exact hexs_hx ws c h
    · exact hx8_hx x c h
theorem hexs_drop {ws : List Nat} {m x : Nat} (h : ws[m]? = some x) : hexs (ws.drop m) = hexs (ws.drop (m + 1)) ++ hx8 x := by
  have hm := (List.getElem?_eq_some_iff.1 h).1
  rw [List.drop_eq_getElem_cons hm, (List.getElem?_eq_some_iff.1 h).2, hexs_cons]
/-- the digits of a number to any base: the nearest float -/
theorem c_Rnearest (L : List Nat) (base : Nat) (hb : 2 ≤ base) (hb2 : base ≤ 36) (hL : ∀ c ∈ L, c < 256 ∧ wth c < base) (hl : L.length ≤ 8000) (w : World) (hLw : LibW w) :
    Calls Tryz.prog 52 #[.string (u8sG L), .int .i64 (base : Int)] w fun r w' => r = .returned (.float .f64 (nN (numB base L))) ∧ Below w.heap.size w w' := by
  obtain ⟨i0, hi0, hz0, hz1, hz2⟩ := info_parts infoU32
  have hval := Lib.hid (valW_stk base L)
  have hltW := Lib.hid (stkW_lt (base := base) (l := L) (by omega) hb2 (fun c hc => (hL c hc).2) L.length)
  rw [List.take_length] at hltW
  have hlenW := Lib.hid (stkW_len base L)
  generalize hV : nN (numB base L) = V at *
  replace hV := Lib.hid hV
  have hsz : (u8sG L).size = L.length := uG_size L
  have hget := Lib.hid (fun j c (h1 : L[j]? = some c) (h2 : c < 256) h3 => uG_get L j c h1 h2 h3)
  have hwl := Lib.hid (stkW_lt (base := base) (l := L) (by omega) hb2 (fun c hc => (hL c hc).2))
  have hst := Lib.hid (stkW_snoc base L)
  have hwlen := Lib.hid (fun k => stkW_len base (L.take k))
  have hW := Lib.hid (fun (c : Nat) (hc : c < 256) W => c_Rdigit c hc W)
  have hLc := Lib.hid hL
  have hLk := Lib.hid (fun W (hb : Below w.heap.size w W) => hLw.keep hb)
  have hFU := Lib.hid (fun (x : Nat) (hx : x < 4294967296) W hW => c_FormatUint 16 (x + 4294967296) 8 (by decide) (by decide) (by decide) (by omega) (lg_8 hx) W hW)
  have hszl : (u8sG L).size ≤ 8000 := by omega
  replace hsz := Lib.hid hsz
  replace hLw := Lib.hid hLw
  generalize u8sG L = S at *
  clear hL
  go_enter Tryz.func52, Tryz.ntmps52
  go_wp2
  go_loopw [5, 6] (fun v5 v6 wr => ∃ j : Nat, j ≤ L.length ∧ v6 = .int .i64 (j : Int) ∧ wr.ownsRow w.heap.size 110 1 v5 (stkW base (L.take j)).length (u32s (stkW base (L.take j))) ∧ Below w.heap.size w wr) (fun _ v6 _ => L.length - (intOf v6).toNat)
  case atStart => exact ⟨0, Nat.zero_le _, rfl, World.ownsRow_nil _ _ _ _, Below.refl _ _⟩
  case round =>
    obtain ⟨j, hj, rfl, hown, hbel⟩ := hrel
    by_cases hjl : j < L.length
    · obtain ⟨c, hc⟩ : ∃ c, L[j]? = some c := ⟨L[j], List.getElem?_eq_getElem hjl⟩
      obtain ⟨hc1, hc2⟩ := hLc.out c (List.mem_of_getElem? hc)
      have hjs : j < S.size := by have := hsz.out; omega
      have hg := hget.out j c hc hc1 hjs
      have hjI : (j : Int) < (S.size : Int) := by omega
      have hWc := Lib.hid (fun W => hW.out c hc1 W)
      have hs := Lib.hid (hst.out j c hc)
      have hlt := Lib.hid (hwl.out j)
      have hwn := hwlen.out j
      rw [List.length_take] at hwn
      generalize stkW base (L.take j) = ws at *
      generalize wth c = d at *
      have hwn2 : ws.length ≤ 8000 := by omega
      replace hwn := Lib.hid hwn
      have hIn : ∀ k, (inW base ws d k).length = ws.length ∨ ws.length < k := fun k => by
        rcases Nat.lt_or_ge ws.length k with h | h
        · exact .inr h
        · exact .inl (inW_len base ws d k h)
      have hIg := Lib.hid (inW_get base ws d)
      have hIs := Lib.hid (inW_set base ws d)
      have hMs := Lib.hid (fun k x (h : ws[k]? = some x) => mulA_snoc base ws k x d h)
      have hMc := Lib.hid (fun k => mulA_carry base (by omega) (ws.take k) d hc2 (fun x hx => hlt.out x (List.mem_of_mem_take hx)))
      have hstep : Hid (stepW base ws d = if (mulA base (ws.take ws.length) d).2 = 0 then inW base ws d ws.length else inW base ws d ws.length ++ [(mulA base (ws.take ws.length) d).2]) := by
        show _ = _
        unfold stepW inW
        rw [List.take_length, List.drop_length, List.append_nil]
      have hI0 : inW base ws d 0 = ws := by unfold inW; simp [mulA]
      have hM0 : (mulA base (ws.take 0) d).2 = d := by simp [mulA]
      obtain ⟨p, cap, rfl⟩ : ∃ p cap, u5 = .slice p ws.length cap := by
        rcases hown.2 with ⟨rfl, h0⟩ | ⟨g, cap, cur, rfl, _⟩
        · exact ⟨none, 0, by rw [h0]⟩
        · exact ⟨_, _, rfl⟩
      rw [← hI0] at hown
      replace hI0 := Lib.hid hI0
      replace hM0 := Lib.hid hM0
      replace hIn := Lib.hid hIn
      have hown := Lib.hid hown
      replace hbel := Lib.hid hbel
      have hd36 : d < 36 := by omega
      clear hc hc1
      go_wp2_with (go_at_call 55; refine (hWc.out _).mono ?_; rintro e w' ⟨rfl, rfl⟩)
      go_loopw [7, 8, 9, 28] (fun v7 v8 v9 v28 wi => ∃ k : Nat, k ≤ ws.length ∧ v28 = .int .i64 (k : Int) ∧ v7 = .int .u64 ((mulA base (ws.take k) d).2 : Int) ∧ wi.ownsRow w.heap.size 110 1 (.slice p ws.length cap) ws.length (u32s (inW base ws d k)) ∧ Below w.heap.size w wi) (fun _ _ _ v28 _ => ws.length - (intOf v28).toNat)
      case atStart => exact ⟨0, Nat.zero_le _, rfl, by rw [hM0.out], by rw [hI0.out] at hown ⊢; exact hown.out, hbel.out⟩
      case round =>
        obtain ⟨k, hk, rfl, rfl, hown, hbel⟩ := hrel
        by_cases hkl : k < ws.length
        · obtain ⟨x, hx⟩ : ∃ x, ws[k]? = some x := ⟨ws[k], List.getElem?_eq_getElem hkl⟩
          have hxB : x < 4294967296 := hlt.out x (List.mem_of_getElem? hx)
          have hset := Lib.hid (hIs.out k x hx)
          have hms := Lib.hid (hMs.out k x hx)
          have hmc := hMc.out k
          have hIgk := hIg.out k hkl
          rw [hx] at hIgk
          obtain ⟨g, cap2, e1, hr⟩ := hown.form (by omega)
          injection e1 with e1 _ e2
          subst e1 e2
          have hcell := World.ownsRow.cells hown (g := g) rfl k (.int .u32 (x : Int)) (by simp [u32s, hIgk])
          rw [add_zero_addr] at hcell
          have hfz := World.ownsRow.frozenAt hown k
          obtain ⟨hown2, hgr⟩ := World.ownsRow.stored hown k (.int .u32 (((x * base + (mulA base (ws.take k) d).2) % B32 : Nat) : Int))
          rw [u32s_set, hset.out] at hown2
          have hbel2 : Below w.heap.size w (wr.setCell ⟨g, k, none⟩ (.int .u32 (((x * base + (mulA base (ws.take k) d).2) % B32 : Nat) : Int))) := hbel.grown hgr hbel.size (own_base hown)
          have hms2 : (mulA base (ws.take (k + 1)) d).2 = (x * base + (mulA base (ws.take k) d).2) / B32 := by rw [hms.out]
          rw [show B32 = 4294967296 from rfl] at hms2 hown2 hbel2
          generalize (mulA base (ws.take k) d).2 = cr at *
          have hyb : x * base ≤ 4294967295 * 36 := Nat.mul_le_mul (by omega) hb2
          have hprod : (x : Int) * (base : Int) + (cr : Int) = ((x * base + cr : Nat) : Int) := by rw [Int.natCast_add, Int.natCast_mul]
          have hpb : 0 ≤ (x : Int) * (base : Int) ∧ (x : Int) * (base : Int) ≤ 4294967295 * 36 := by rw [← Int.natCast_mul]; omega
          obtain ⟨hp1, hp2⟩ := hpb
          have hw32 : IntKind.u32.wrap ((x : Int) * (base : Int) + (cr : Int)) = (((x * base + cr) % 4294967296 : Nat) : Int) := by rw [hprod]; rw [wrap_u32']; omega
          have hdv : ((x : Int) * (base : Int) + (cr : Int)) / 4294967296 = (((x * base + cr) / 4294967296 : Nat) : Int) := by rw [hprod]; omega
          have hcr : cr < 36 := by omega
          generalize (x * base + cr) % 4294967296 = z0 at *
          generalize (x * base + cr) / 4294967296 = z1 at *
          have hkI : (k : Int) < (ws.length : Int) := by omega
          replace hown2 := Lib.hid hown2
          replace hms2 := Lib.hid hms2
          clear hprod hyb hown hgr hms hset hx hIgk hmc hr
          go_wp2_with fail
          exact ⟨⟨k + 1, by omega, by go_num, by rw [hms2.out], hown2.out, hbel2⟩, by simp [intOf]; omega⟩
        · obtain rfl : k = ws.length := by omega
          have hst2 := hs.out.trans hstep.out
          have hcr := hMc.out ws.length
          clear hstep hs
          have hkI : ¬ ((ws.length : Nat) : Int) < (ws.length : Int) := by omega
          have hlen := inW_len base ws d ws.length (Nat.le_refl _)
          generalize (mulA base (ws.take ws.length) d).2 = cr at *
          generalize inW base ws d ws.length = vs at *
          clear hIg hIs hMs hMc hI0 hM0 hIn
          by_cases h0 : cr = 0
          · rw [if_pos h0] at hst2
            subst h0
            rw [← hlen, ← hst2] at hown
            rw [← hlen, ← hst2]
            replace hown := Lib.hid hown
            clear hst2 hlen
            have hkI2 : ¬ ((stkW base (L.take (j + 1))).length : Int) < ((stkW base (L.take (j + 1))).length : Int) := by omega
            go_wp2_with fail
            go_roundw
            case rel => exact ⟨j + 1, by omega, by go_num, hown.out, hbel⟩
            case measure => simp [intOf]; omega
          · rw [if_neg h0] at hst2
            have hcr0 : 0 < cr := by omega
            have hcB : u32s vs ++ [.int .u32 (cr : Int)] = u32s (stkW base (L.take (j + 1))) := by rw [hst2]; simp [u32s]
            have hsl : (stkW base (L.take (j + 1))).length = ws.length + 1 := by rw [hst2]; simp [hlen]
            replace hcB := Lib.hid hcB
            replace hsl := Lib.hid hsl
            clear hst2 h0 hlen
            go_wp2_with (at_builtin; refine wpList_append_lies _ (by rfl) _ _ _ (by rfl) w.heap.size 110 i0 _ 1 4 Tryz.underlying109 hi0 hz0 hz1 hz2 rfl (by omega) (.slice p ws.length cap) ws.length (u32s vs) (by rfl) (hown.alloc _) ⟨wr.heap.size, 0, none⟩ 1 1 [.int .u32 (cr : Int)] (by rfl) (by rfl) (World.news_of_block (cs := #[.int .u32 (cr : Int)]) (t := 110) (fr := (0, 0)) (by exact heap_alloc_new wr _)) (by simp [Value.oneCell']) (by omega) (by unfold maxLen; omega) (by omega) (by have := hbel.size; simp; omega) (wr.heap.size + 1) (by simp) ?_; intro gg cap2 w2 hown2 hgrow hat hlt2)
            have hown3 : w2.ownsRow w.heap.size 110 1 (.slice (some ⟨gg, 0, none⟩) (ws.length + 1) cap2) (stkW base (L.take (j + 1))).length (u32s (stkW base (L.take (j + 1)))) := by
              rw [← hcB.out, hsl.out]; exact hown2
            have hbel2 : Below w.heap.size w w2 := (hbel.alloc hbel.size _).grown hgrow (by have := hbel.size; simp; omega) (own_base hown)
            clear hown2 hgrow
            go_roundw
            case rel => exact ⟨j + 1, by omega, by go_num, hown3, hbel2⟩
            case measure => simp [intOf]; omega
    · obtain rfl : j = L.length := by omega
      rw [List.take_length] at hown
      have hjI : ¬ (L.length : Int) < (S.size : Int) := by have := hsz.out; omega
      have hvalW := Lib.hid hval.out
      have hlW : (stkW base L).length ≤ 8000 := by have := hlenW.out; omega
      clear hW hLc hst hwlen hwl hget hsz hval hlenW
      generalize stkW base L = W at *
      have hPF := Lib.hid (fun y hy => c_PFhex (48 :: hexs W) (fun c hc => by
        rcases List.mem_cons.1 hc with rfl | hc
        · exact .inl (by decide)
        · exact hexs_hx W c hc) (by simp) (by rw [List.length_cons, hexs_len]; omega) y hy)
      have hN : Hid (numB 16 (48 :: hexs W) = numB base L) := by
        show _ = _
        rw [show 48 :: hexs W = [48] ++ hexs W from rfl, numB_app, hexs_val W (fun x hx => hltW.out x hx), show numB 16 [48] = 0 by decide +kernel, Nat.zero_mul, Nat.zero_add]
        exact hvalW.out
      rw [hN.out, hV.out] at hPF
      have htx : Hid (u8sG (48 :: 120 :: 48 :: hexs W) ++ ⟨#[112, 48]⟩ = u8sG (48 :: 120 :: (48 :: hexs W ++ [112, 48]))) := by
        show _ = _
        rw [show (⟨#[112, 48]⟩ : ByteArray) = u8sG [112, 48] from rfl, uG_app]; rfl
      have hst3 : Hid (∀ (m x : Nat), W[m]? = some x → u8sG (48 :: 120 :: 48 :: hexs (W.drop (m + 1))) ++ u8sG (hx8 x) = u8sG (48 :: 120 :: 48 :: hexs (W.drop m))) := fun m x h => by
        rw [uG_app, hexs_drop h]; rfl
      have hex3 : Hid (∀ x, (u8sG (fmtG 16 (x + 4294967296) 8)).extract 1 (u8sG (fmtG 16 (x + 4294967296) 8)).size = u8sG (hx8 x) ∧ (u8sG (fmtG 16 (x + 4294967296) 8)).size = 9) := fun x => by
        have hs : (u8sG (fmtG 16 (x + 4294967296) 8)).size = 9 := by rw [uG_size, fmtG_len]
        refine ⟨?_, hs⟩
        rw [hs, uG_ext, List.take_of_length_le (by rw [fmtG_len]; decide)]
        rfl
      have hsx : Hid (∀ m, (u8sG (48 :: 120 :: 48 :: hexs (W.drop m))).size ≤ 64003) := fun m => by
        rw [uG_size]; simp only [List.length_cons, hexs_len, List.length_drop]; omega
      have hs8 : Hid (∀ x, (u8sG (hx8 x)).size = 8) := fun x => by rw [uG_size, hx8_len]
      have hd0 : Hid (u8sG (48 :: 120 :: 48 :: hexs (W.drop 0)) = u8sG (48 :: 120 :: 48 :: hexs W)) := rfl
      have hdn : Hid (u8sG (48 :: 120 :: 48 :: hexs (W.drop W.length)) = ⟨#[48, 120, 48]⟩) := by
        show _ = _; rw [List.drop_length]; rfl
      have hgw : Hid (∀ m, m < W.length → ∃ x, W[m]? = some x ∧ x < 4294967296) := fun m hm => ⟨W[m], List.getElem?_eq_getElem hm, hltW.out _ (List.getElem_mem hm)⟩
      obtain ⟨p, cap, rfl⟩ : ∃ p cap, u5 = .slice p W.length cap := by
        rcases hown.2 with ⟨rfl, h0⟩ | ⟨g, cap, cur, rfl, _⟩
        · exact ⟨none, 0, by rw [h0]⟩
        · exact ⟨_, _, rfl⟩
      clear hvalW hN hltW hV
      generalize hFN : (fun m => u8sG (48 :: 120 :: 48 :: hexs (W.drop m))) = FN at *
      have hFz : ∀ m, u8sG (48 :: 120 :: 48 :: hexs (W.drop m)) = FN m := fun m => by rw [← hFN]
      simp only [hFz] at hst3 hsx hd0 hdn
      have hownK := fun y (h : Below wr.heap.size wr y) => own_belowG hown h
      replace hownK := Lib.hid hownK
      have hcW : Hid (∀ (m x : Nat), W[m]? = some x → ∀ y, Below wr.heap.size wr y → ∃ g, p = some ⟨g, 0, none⟩ ∧ y.cell? ⟨g, m, none⟩ = some (.int .u32 (x : Int))) := fun m x h y hy => by
        have hm := (List.getElem?_eq_some_iff.1 h).1
        have ho := hownK.out y hy
        obtain ⟨g, cap2, e1, hr⟩ := ho.form (by omega)
        injection e1 with e1 _ e2
        subst e1
        have hc := World.ownsRow.cells ho (g := g) rfl m (.int .u32 (x : Int)) (by simp [u32s, h])
        rw [add_zero_addr] at hc
        exact ⟨g, rfl, hc⟩
      have hbw := Lib.hid (fun y (h : Below wr.heap.size wr y) => hbel.trans (h.mono hbel.size))
      generalize W.length = n at *
      clear hFN hFz hown hownK
      go_wp2_with fail
      clear hjI
      obtain ⟨W0, rfl⟩ : ∃ W, W = wr := ⟨_, rfl⟩
      go_loopw [10, 11, 12] (fun v10 v11 v12 wx => ∃ j : Nat, j ≤ n ∧ v11 = .int .i64 ((j : Int) - 1) ∧ v10 = .string (FN j) ∧ Below W0.heap.size W0 wx) (fun _ v11 _ _ => (intOf v11 + 1).toNat)
      case atStart => exact ⟨n, Nat.le_refl _, rfl, by rw [hdn.out], Below.refl _ _⟩
      case round =>
        obtain ⟨j, hj, rfl, rfl, hb1⟩ := hrel
        rcases Nat.eq_zero_or_pos j with h0 | h0
        · subst h0
          have hP := Lib.hid (hPF.out wr (hLk.out _ (hbw.out _ hb1)))
          rw [hd0.out]
          have hz := hsx.out 0
          rw [hd0.out] at hz
          rw [show u8sG (48 :: 120 :: (48 :: hexs W ++ [112, 48])) = u8sG (48 :: 120 :: 48 :: hexs W) ++ ⟨#[112, 48]⟩ from htx.out.symm] at hP
          generalize u8sG (48 :: 120 :: 48 :: hexs W) = TX at *
          have hbZ := Lib.hid (hbw.out _ hb1)
          clear hcW hgw hst3 hsx hd0 hdn hPF htx hex3 hs8 hb1
          go_wp2_with fail
          refine hP.out.mono ?_
          rintro e w8 ⟨⟨er, rfl⟩, hb8⟩
          have hb9 := hbZ.out.trans (hb8.mono hbZ.out.size)
          go_wp2_with fail
          go_ret
          exact ⟨rfl, hb9⟩
        · obtain ⟨m, rfl⟩ : ∃ m, j = m + 1 := ⟨j - 1, by omega⟩
          obtain ⟨x, hx, hx32⟩ := hgw.out m (by omega)
          obtain ⟨g, rfl, hcx⟩ := hcW.out m x hx wr hb1
          have hF := Lib.hid (hFU.out x hx32 wr (hLk.out _ (hbw.out _ hb1)))
          have hsum : ((x + 4294967296 : Nat) : Int) = (x : Int) + 4294967296 := by omega
          rw [hsum] at hF
          obtain ⟨hx1, hx2⟩ := hex3.out x
          have hs := Lib.hid (hst3.out m x hx)
          have hz := hsx.out (m + 1)
          have h8 := hs8.out x
          have hmn : m < n := by omega
          have hmnI : (m : Int) < (n : Int) := by omega
          have hmm : ((m + 1 : Nat) : Int) - 1 = (m : Int) := by omega
          rw [hx2] at hx1
          have h9 : (1 : Int) ≤ ((u8sG (fmtG 16 (x + 4294967296) 8)).size : Int) := by omega
          have h9n : (u8sG (fmtG 16 (x + 4294967296) 8)).size = 9 := hx2
          generalize hFm : FN m = f0 at *
          generalize hFm1 : FN (m + 1) = f1 at *
          generalize u8sG (hx8 x) = T8 at *
          generalize u8sG (fmtG 16 (x + 4294967296) 8) = T9 at *
          replace hFm := Lib.hid hFm
          rw [hmm]
          clear hcW hgw hst3 hsx hd0 hdn hPF htx hex3 hs8 hx hsum h0 hx2 hmm
          have hbZ := Lib.hid hb1
          go_wp2_with fail
          refine hF.out.mono ?_
          rintro e w8 ⟨rfl, hb8⟩
          have hb9 := hbZ.out.trans (hb8.mono hbZ.out.size)
          clear hb8 hb1
          go_wp2_with fail
          go_roundw
          case rel => exact ⟨m, by omega, by go_num, by rw [hFm.out, ← hs.out], hb9⟩
          case measure => simp [intOf]
end Go.Proofs.YtbakbikilbaafaaGreatDoor.W3
namespace Go.Proofs.YtbakbikilbaafaaGreatDoor
open Go.RowKit F64 Ieee
set_option linter.unusedVariables false
set_option maxHeartbeats 4000000
set_option maxRecDepth 100000

/-- bytes above 126 as 127 -/
def mnL (l : List Nat) : List Nat := l.map fun c => min c 127
theorem mn_as (us : List Nat) : mnL (asL us) = plL us := by
  unfold mnL asL plL
  rw [List.map_map]
  apply List.map_congr_left
  intro u _
  simp only [Function.comp, asU]
  split
  · omega
  · rfl
theorem mn_getD (l : List Nat) (i : Nat) : (mnL l).getD i 0 = min (l.getD i 0) 127 := by
  unfold mnL
  rw [List.getD_eq_getElem?_getD, List.getD_eq_getElem?_getD, List.getElem?_map]
  cases l[i]? <;> simp
theorem mn_len (l : List Nat) : (mnL l).length = l.length := by simp [mnL]
theorem mn_drop (l : List Nat) (i : Nat) : mnL (l.drop i) = (mnL l).drop i := by simp [mnL, List.map_drop]
theorem wth_min {c : Nat} (hc : c < 256) : wth (min c 127) = wth c := by
  have all : ∀ c : Fin 256, wth (min c.val 127) = wth c.val := by decide +kernel
  exact all ⟨c, hc⟩
theorem min_or {c : Nat} (hc : c < 256) : ((min c 127) ||| 32 = 120 ↔ c ||| 32 = 120) ∧ ((min c 127) ||| 32 = 111 ↔ c ||| 32 = 111) ∧ ((min c 127) ||| 32 = 98 ↔ c ||| 32 = 98) ∧ ((min c 127) ||| 32 = 101 ↔ c ||| 32 = 101) ∧ (min c 127 = 48 ↔ c = 48) ∧ (min c 127 = 46 ↔ c = 46) ∧ (min c 127 = 43 ↔ c = 43) ∧ (min c 127 = 45 ↔ c = 45) := by
  have all : ∀ c : Fin 256, ((min c.val 127) ||| 32 = 120 ↔ c.val ||| 32 = 120) ∧ ((min c.val 127) ||| 32 = 111 ↔ c.val ||| 32 = 111) ∧ ((min c.val 127) ||| 32 = 98 ↔ c.val ||| 32 = 98) ∧ ((min c.val 127) ||| 32 = 101 ↔ c.val ||| 32 = 101) ∧ (min c.val 127 = 48 ↔ c.val = 48) ∧ (min c.val 127 = 46 ↔ c.val = 46) ∧ (min c.val 127 = 43 ↔ c.val = 43) ∧ (min c.val 127 = 45 ↔ c.val = 45) := by decide +kernel
  exact all ⟨c, hc⟩
theorem getD_256 {l : List Nat} (h : ∀ c ∈ l, c < 256) (i : Nat) : l.getD i 0 < 256 := by
  rw [List.getD_eq_getElem?_getD]
  cases hx : l[i]? with
  | none => decide
  | some c => exact h c (List.mem_of_getElem? hx)
theorem mn_pre {l : List Nat} (h : ∀ c ∈ l, c < 256) : preL (mnL l) = preL l := by
  unfold preL
  rw [mn_getD, mn_getD, mn_len]
  obtain ⟨-, -, -, -, a5, -⟩ := min_or (getD_256 h 0)
  obtain ⟨a1, a2, a3, -⟩ := min_or (getD_256 h 1)
  simp only [a5, a1, a2, a3]
theorem mn_run (n : Nat) : ∀ {l : List Nat}, (∀ c ∈ l, c < 256) → runL n (mnL l) = runL n l
  | [], _ => rfl
  | c :: l, h => by
    have ih := mn_run n (fun x hx => h x (List.mem_cons_of_mem c hx))
    unfold runL mnL at ih ⊢
    rw [List.map_cons, List.takeWhile_cons, List.takeWhile_cons, wth_min (h c (List.mem_cons_self ..))]
    split
    · simp only [List.length_cons]; rw [ih]
    · rfl
theorem mn_id : ∀ {l : List Nat}, (∀ c ∈ mnL l, c < 127) → mnL l = l
  | [], _ => rfl
  | c :: l, h => by
    have ih := mn_id (l := l) (fun x hx => h x (List.mem_cons_of_mem _ hx))
    have hc : min c 127 < 127 := h _ (List.mem_cons_self ..)
    show min c 127 :: mnL l = c :: l
    rw [ih, show min c 127 = c by omega]
theorem mn_sgn {l : List Nat} (h : ∀ c ∈ l, c < 256) : (sgnL (mnL l)).2 = mnL (sgnL l).2 ∧ ngL (mnL l) = ngL l := by
  cases l with
  | nil => exact ⟨rfl, rfl⟩
  | cons c M =>
    obtain ⟨-, -, -, -, -, -, a7, a8⟩ := min_or (h c (List.mem_cons_self ..))
    have e : mnL (c :: M) = min c 127 :: mnL M := rfl
    rw [e]
    constructor
    · rw [show sgnL (min c 127 :: mnL M) = if min c 127 = 45 then (13830554455654793216, mnL M) else if min c 127 = 43 then (4607182418800017408, mnL M) else (4607182418800017408, min c 127 :: mnL M) from rfl,
        show sgnL (c :: M) = if c = 45 then (13830554455654793216, M) else if c = 43 then (4607182418800017408, M) else (4607182418800017408, c :: M) from rfl]
      simp only [a7, a8]
      split
      · rfl
      · split
        · rfl
        · exact e.symm
    · unfold ngL
      simp only [List.head?_cons, Option.some.injEq, a8]
theorem run_lt127 {base : Nat} {l : List Nat} (hb : base ≤ 36) (h : ∀ c ∈ l, c < 256) (hl : ∀ c ∈ l, wth c < base) : ∀ c ∈ l, c < 127 := by
  intro c hc
  have all : ∀ c : Fin 256, wth c.val < 36 → c.val < 127 := by decide +kernel
  exact all ⟨c, h c hc⟩ (by have := hl c hc; show wth c < 36; omega)
theorem sgn_cases {L : List Nat} (h : L ≠ []) : (∃ D, L = 43 :: D ∧ (sgnL L).2 = D ∧ ngL L = false) ∨ (∃ D, L = 45 :: D ∧ (sgnL L).2 = D ∧ ngL L = true) ∨ ∃ c M, L = c :: M ∧ c ≠ 43 ∧ c ≠ 45 ∧ (sgnL L).2 = L ∧ ngL L = false := by
  cases L with
  | nil => exact absurd rfl h
  | cons c M =>
    by_cases h1 : c = 43
    · subst h1; exact .inl ⟨M, rfl, rfl, rfl⟩
    · by_cases h2 : c = 45
      · subst h2; exact .inr (.inl ⟨M, rfl, rfl, rfl⟩)
      · refine .inr (.inr ⟨c, M, rfl, h1, h2, ?_, ?_⟩)
        · rw [show sgnL (c :: M) = if c = 45 then (13830554455654793216, M) else if c = 43 then (4607182418800017408, M) else (4607182418800017408, c :: M) from rfl, if_neg h2, if_neg h1]
        · unfold ngL; simp [h2]
end Go.Proofs.YtbakbikilbaafaaGreatDoor

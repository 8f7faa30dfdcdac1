/-
  Contracts: The contract of the reference's nearest (printed by gen_XYH.py). The contract of the reference's Literal, at any bytes (printed by gen_XYI.py). The contract of the reference's Read, at any text (printed by gen_XYJ.py). The contract of DigitsShow. The contract of DigitsBlanks. The contracts of DigitsReads and DigitsLiterals.
-/
import Derived.Test.YtbakbikilbaafaaGreatDoorQ19
import Derived.Test.YtbakbikilbaafaaGreatDoorQ17
import Derived.Test.YtbakbikilbaafaaGreatDoorQ18
import Derived.Test.YtbakbikilbaafaaGreatDoorQ14
namespace Go.Proofs.YtbakbikilbaafaaGreatDoor.W3
open Go.RowKit F64 Ieee
set_option linter.unusedVariables false
set_option maxHeartbeats 4000000
set_option maxRecDepth 100000

def B32 : Nat := 4294967296
/-- words times a base plus a carry, and the carry out -/
def mulA (base : Nat) : List Nat → Nat → List Nat × Nat
  | [], c => ([], c)
  | x :: xs, c => ((x * base + c) % B32 :: (mulA base xs ((x * base + c) / B32)).1, (mulA base xs ((x * base + c) / B32)).2)
/-- what words are worth -/
def valW : List Nat → Nat
  | [] => 0
  | x :: xs => x + B32 * valW xs
theorem mulA_len (base : Nat) (ws : List Nat) (c : Nat) : (mulA base ws c).1.length = ws.length := by
  induction ws generalizing c with
  | nil => rfl
  | cons x xs ih => simp [mulA, ih]
theorem mulA_val (base : Nat) (ws : List Nat) (c : Nat) : valW (mulA base ws c).1 + B32 ^ ws.length * (mulA base ws c).2 = valW ws * base + c := by
  induction ws generalizing c with
  | nil => simp [mulA, valW]
  | cons x xs ih =>
    have h := ih ((x * base + c) / B32)
    simp only [mulA, valW, List.length_cons]
    have hd := Nat.div_add_mod (x * base + c) B32
    generalize (x * base + c) / B32 = q at *
    generalize (x * base + c) % B32 = r at *
    rw [Nat.pow_succ, Nat.add_mul, Nat.mul_assoc B32 (valW xs) base]
    have e : B32 ^ xs.length * B32 * (mulA base xs q).2 = B32 * (B32 ^ xs.length * (mulA base xs q).2) := by rw [Nat.mul_comm (B32 ^ xs.length) B32, Nat.mul_assoc]
    rw [e]
    have := congrArg (B32 * ·) h
    simp only [Nat.mul_add] at this
    omega
theorem mulA_lt (base : Nat) (ws : List Nat) (c : Nat) : ∀ x ∈ (mulA base ws c).1, x < B32 := by
  induction ws generalizing c with
  | nil => simp [mulA]
  | cons x xs ih =>
    intro y hy
    simp only [mulA, List.mem_cons] at hy
    rcases hy with rfl | hy
    · exact Nat.mod_lt _ (by decide)
    · exact ih _ y hy
theorem mulA_carry (base : Nat) (hb : 1 ≤ base) (ws : List Nat) (c : Nat) (hc : c < base) (hw : ∀ x ∈ ws, x < B32) : (mulA base ws c).2 < base := by
  induction ws generalizing c with
  | nil => exact hc
  | cons x xs ih =>
    simp only [mulA]
    refine ih _ ?_ (fun y hy => hw y (List.mem_cons_of_mem _ hy))
    have hx := hw x (List.mem_cons_self ..)
    rw [Nat.div_lt_iff_lt_mul (by decide)]
    have : x * base ≤ (B32 - 1) * base := Nat.mul_le_mul_right _ (by omega)
    rw [Nat.sub_mul] at this
    have h2 : 1 * base ≤ B32 * base := Nat.mul_le_mul_right _ (by decide)
    rw [Nat.mul_comm base B32]
    omega
theorem mulA_snoc (base : Nat) (ws : List Nat) (k x c : Nat) (h : ws[k]? = some x) : mulA base (ws.take (k + 1)) c = ((mulA base (ws.take k) c).1 ++ [(x * base + (mulA base (ws.take k) c).2) % B32], (x * base + (mulA base (ws.take k) c).2) / B32) := by
  induction ws generalizing c k with
  | nil => simp at h
  | cons y ys ih =>
    cases k with
    | zero => simp at h; subst h; simp [mulA]
    | succ k =>
      simp only [List.take_succ_cons, mulA]
      rw [ih k _ (by simpa using h)]
      simp
/-- a word more if something is carried out -/
def stepW (base : Nat) (ws : List Nat) (d : Nat) : List Nat := if (mulA base ws d).2 = 0 then (mulA base ws d).1 else (mulA base ws d).1 ++ [(mulA base ws d).2]
theorem valW_app (a b : List Nat) : valW (a ++ b) = valW a + B32 ^ a.length * valW b := by
  induction a with
  | nil => simp [valW]
  | cons x xs ih => simp only [List.cons_append, valW, ih, List.length_cons, Nat.pow_succ, Nat.mul_add, Nat.add_assoc]; rw [Nat.mul_comm (B32 ^ xs.length) B32, Nat.mul_assoc]
theorem stepW_val (base : Nat) (ws : List Nat) (d : Nat) : valW (stepW base ws d) = valW ws * base + d := by
  have h := mulA_val base ws d
  unfold stepW
  split
  · rename_i h0; rw [h0, Nat.mul_zero] at h; exact h
  · rw [valW_app, mulA_len]; simp only [valW, Nat.mul_zero, Nat.add_zero]; exact h
/-- the words of digits -/
def stkW (base : Nat) (l : List Nat) : List Nat := l.foldl (fun ws c => stepW base ws (wth c)) []
theorem stkW_snoc (base : Nat) (l : List Nat) (k c : Nat) (h : l[k]? = some c) : stkW base (l.take (k + 1)) = stepW base (stkW base (l.take k)) (wth c) := by
  unfold stkW
  rw [List.take_add_one, h, List.foldl_append]; rfl
/-- the row within a round -/
def inW (base : Nat) (ws : List Nat) (d k : Nat) : List Nat := (mulA base (ws.take k) d).1 ++ ws.drop k
theorem inW_len (base : Nat) (ws : List Nat) (d k : Nat) (hk : k ≤ ws.length) : (inW base ws d k).length = ws.length := by
  unfold inW; rw [List.length_append, mulA_len, List.length_take, List.length_drop]; omega
theorem inW_get (base : Nat) (ws : List Nat) (d k : Nat) (hk : k < ws.length) : (inW base ws d k)[k]? = ws[k]? := by
  unfold inW
  have hl : (mulA base (ws.take k) d).1.length = k := by rw [mulA_len, List.length_take]; omega
  rw [List.getElem?_append_right (by omega), hl, List.getElem?_drop]; simp
theorem inW_set (base : Nat) (ws : List Nat) (d k x : Nat) (h : ws[k]? = some x) : (inW base ws d k).set k ((x * base + (mulA base (ws.take k) d).2) % B32) = inW base ws d (k + 1) := by
  have hk := (List.getElem?_eq_some_iff.1 h).1
  have hl : (mulA base (ws.take k) d).1.length = k := by rw [mulA_len, List.length_take]; omega
  unfold inW
  have e : ∀ y, (ws.drop k).set 0 y = y :: ws.drop (k + 1) := fun y => by rw [List.drop_eq_getElem_cons hk]; rfl
  rw [mulA_snoc base ws k x d h, List.set_append_right _ _ (by omega), hl, Nat.sub_self, e]
  simp
theorem stkW_len (base : Nat) (l : List Nat) : (stkW base l).length ≤ l.length := by
  have key : ∀ (l : List Nat) (ws : List Nat), (l.foldl (fun ws c => stepW base ws (wth c)) ws).length ≤ ws.length + l.length := by
    intro l
    induction l with
    | nil => intro ws; simp
    | cons c l ih =>
      intro ws
      simp only [List.foldl_cons, List.length_cons]
      refine Nat.le_trans (ih _) ?_
      have : (stepW base ws (wth c)).length ≤ ws.length + 1 := by
        unfold stepW
        split
        · rw [mulA_len]; omega
        · simp [mulA_len]
      omega
  have := key l []
  simpa [stkW] using this
theorem stepW_lt {base : Nat} (hb : 1 ≤ base) (hb2 : base ≤ 36) {ws : List Nat} {d : Nat} (hd : d < base) (hw : ∀ x ∈ ws, x < B32) : ∀ x ∈ stepW base ws d, x < B32 := by
  have h1 := mulA_lt base ws d
  have h2 := mulA_carry base hb ws d hd hw
  unfold stepW
  split
  · exact h1
  · intro x hx
    rcases List.mem_append.1 hx with h | h
    · exact h1 x h
    · simp at h; subst h; unfold B32; omega
theorem stkW_lt {base : Nat} (hb : 1 ≤ base) (hb2 : base ≤ 36) {l : List Nat} (hl : ∀ c ∈ l, wth c < base) : ∀ k, ∀ x ∈ stkW base (l.take k), x < B32 := by
  intro k
  induction k with
  | zero => simp [stkW]
  | succ k ih =>
    rcases Nat.lt_or_ge k l.length with h | h
    · have hx : l[k]? = some l[k] := List.getElem?_eq_getElem h
      rw [stkW_snoc base l k _ hx]
      exact stepW_lt hb hb2 (hl _ (List.getElem_mem h)) ih
    · rw [List.take_of_length_le (by omega)] at ih ⊢
      exact ih
theorem valW_stk (base : Nat) (l : List Nat) : valW (stkW base l) = numB base l := by
  have key : ∀ (l ws : List Nat) (n : Nat), valW ws = n → valW (l.foldl (fun ws c => stepW base ws (wth c)) ws) = l.foldl (fun n c => n * base + wth c) n := by
    intro l
    induction l with
    | nil => intro ws n h; exact h
    | cons c l ih =>
      intro ws n h
      simp only [List.foldl_cons]
      exact ih _ _ (by rw [stepW_val, h])
  exact key l [] 0 rfl
def u32s (l : List Nat) : List Value := l.map fun n : Nat => .int .u32 (n : Int)
theorem u32s_set (l : List Nat) (k y : Nat) : (u32s l).set k (.int .u32 (y : Int)) = u32s (l.set k y) := by
  unfold u32s; rw [List.map_set]
theorem infoU32 : (Tryz.prog.info? 110).map (fun i => (i.zero, i.size, i.bytes)) = some (some (.int .u32 0), 1, 4) := by kernel_rfl
theorem numB_app (b : Nat) (l m : List Nat) : numB b (l ++ m) = numB b l * b ^ m.length + numB b m := by
  have key : ∀ (m : List Nat) (n : Nat), m.foldl (fun n c => n * b + wth c) n = n * b ^ m.length + m.foldl (fun n c => n * b + wth c) 0 := by
    intro m
    induction m with
    | nil => intro n; simp
    | cons c m ih =>
      intro n
      simp only [List.foldl_cons, List.length_cons]
      rw [ih (n * b + wth c), ih (0 * b + wth c), Nat.pow_succ, Nat.add_mul, Nat.zero_mul, Nat.zero_add, Nat.mul_comm (b ^ m.length) b, Nat.mul_assoc, Nat.add_assoc]
  unfold numB
  rw [List.foldl_append]
  exact key m _
theorem wth_dch {d : Nat} (h : d < 36) : wth (dch d) = d := by
  have all : ∀ d : Fin 36, wth (dch d.val) = d.val := by decide +kernel
  exact all ⟨d, h⟩
theorem fmtG_succ (b u k : Nat) : fmtG b u (k + 1) = fmtG b (u / b) k ++ [dch (u % b)] := by
  unfold fmtG
  rw [List.range_succ, List.map_append]
  congr 1
  · apply List.map_congr_left
    intro m hm
    have := List.mem_range.1 hm
    rw [show k + 1 - m = k - m + 1 by omega, Nat.pow_succ, Nat.mul_comm, ← Nat.div_div_eq_div_mul]
  · simp
theorem numB_fmt {b : Nat} (hb : 2 ≤ b) (hb2 : b ≤ 36) : ∀ (k u : Nat), numB b (fmtG b u k) = u % b ^ (k + 1)
  | 0, u => by
    have hm := Nat.mod_lt u (show 0 < b by omega)
    simp [fmtG, numB, wth_dch (show u % b < 36 by omega)]
  | k + 1, u => by
    have hm := Nat.mod_lt u (show 0 < b by omega)
    rw [fmtG_succ, numB_app, numB_fmt hb hb2 k]
    simp only [List.length_singleton, Nat.pow_one]
    rw [show numB b [dch (u % b)] = u % b by simp [numB, wth_dch (show u % b < 36 by omega)]]
    rw [Nat.pow_succ b (k + 1), Nat.mul_comm (b ^ (k + 1)) b, Nat.mod_mul, Nat.mul_comm]
    omega
/-- a word's eight digits -/
def hx8 (x : Nat) : List Nat := (fmtG 16 (x + 4294967296) 8).drop 1
theorem hx8_len (x : Nat) : (hx8 x).length = 8 := by unfold hx8; rw [List.length_drop, fmtG_len]
theorem lg_8 {x : Nat} (h : x < 4294967296) : IsLg 16 (x + 4294967296) 8 := by
  have e : (16 : Nat) ^ 8 = 4294967296 := by decide
  unfold IsLg
  rw [e]
  exact ⟨by omega, .inr (by omega)⟩
theorem hx8_val {x : Nat} (h : x < 4294967296) : numB 16 (hx8 x) = x := by
  have h1 := numB_fmt (b := 16) (by decide) (by decide) 8 (x + 4294967296)
  have e8 : (16 : Nat) ^ 8 = 4294967296 := by decide
  have e9 : (16 : Nat) ^ (8 + 1) = 68719476736 := by decide
  have hd : fmtG 16 (x + 4294967296) 8 = dch 1 :: hx8 x := by
    have hg := fmtG_get (base := 16) (u := x + 4294967296) (k := 8) (j := 0) (by decide)
    rw [Nat.sub_zero, e8, show (x + 4294967296) / 4294967296 % 16 = 1 by omega] at hg
    unfold hx8
    generalize fmtG 16 (x + 4294967296) 8 = l at *
    cases l with
    | nil => simp at hg
    | cons a l => simp at hg; rw [hg]; rfl
  rw [hd, show dch 1 :: hx8 x = [dch 1] ++ hx8 x from rfl, numB_app, hx8_len, e8, e9] at h1
  have e1 : numB 16 [dch 1] = 1 := by decide +kernel
  rw [e1] at h1
  omega
theorem hx8_hx (x : Nat) : ∀ c ∈ hx8 x, IsHx c := by
  intro c hc
  unfold hx8 at hc
  have hc := List.mem_of_mem_drop hc
  unfold fmtG at hc
  obtain ⟨m, -, rfl⟩ := List.mem_map.1 hc
  have := Nat.mod_lt ((x + 4294967296) / 16 ^ (8 - m)) (show 0 < 16 by decide)
  have all : ∀ d : Fin 16, (48 ≤ dch d.val ∧ dch d.val ≤ 57 ∨ 97 ≤ dch d.val ∧ dch d.val ≤ 102) := by decide +kernel
  exact all ⟨_, this⟩
/-- words as digits, the uppermost first -/
def hexs (ws : List Nat) : List Nat := ws.reverse.flatMap hx8
theorem hexs_cons (x : Nat) (ws : List Nat) : hexs (x :: ws) = hexs ws ++ hx8 x := by simp [hexs]
theorem hexs_len : ∀ ws : List Nat, (hexs ws).length = 8 * ws.length
  | [] => rfl
  | x :: ws => by rw [hexs_cons, List.length_append, hexs_len ws, hx8_len, List.length_cons]; omega
theorem hexs_val : ∀ ws : List Nat, (∀ x ∈ ws, x < B32) → numB 16 (hexs ws) = valW ws
  | [], _ => rfl
  | x :: ws, h => by
    rw [hexs_cons, numB_app, hexs_val ws (fun y hy => h y (List.mem_cons_of_mem _ hy)), hx8_len, hx8_val (h x (List.mem_cons_self ..))]
    simp only [valW]
    unfold B32
    rw [show (16 : Nat) ^ 8 = 4294967296 by decide]
    omega
theorem hexs_hx : ∀ ws : List Nat, ∀ c ∈ hexs ws, IsHx c
  | [], c, hc => by simp [hexs] at hc
  | x :: ws, c, hc => by
    rw [hexs_cons] at hc
    rcases List.mem_append.1 hc with h | h
    · exact hexs_hx ws c h
    · exact hx8_hx x c h
theorem hexs_drop {ws : List Nat} {m x : Nat} (h : ws[m]? = some x) : hexs (ws.drop m) = hexs (ws.drop (m + 1)) ++ hx8 x := by
  have hm := (List.getElem?_eq_some_iff.1 h).1
  rw [List.drop_eq_getElem_cons hm, (List.getElem?_eq_some_iff.1 h).2, hexs_cons]
/-- the digits of a number to any base: the nearest float -/
theorem c_Rnearest (L : List Nat) (base : Nat) (hb : 2 ≤ base) (hb2 : base ≤ 36) (hL : ∀ c ∈ L, c < 256 ∧ wth c < base) (hl : L.length ≤ 8000) (w : World) (hLw : LibW w) :
    Calls Tryz.prog 52 #[.string (u8sG L), .int .i64 (base : Int)] w fun r w' => r = .returned (.float .f64 (nN (numB base L))) ∧ Below w.heap.size w w' := by
  obtain ⟨i0, hi0, hz0, hz1, hz2⟩ := info_parts infoU32
  have hval := Lib.hid (valW_stk base L)
  have hltW := Lib.hid (stkW_lt (base := base) (l := L) (by omega) hb2 (fun c hc => (hL c hc).2) L.length)
  rw [List.take_length] at hltW
  have hlenW := Lib.hid (stkW_len base L)
  generalize hV : nN (numB base L) = V at *
  replace hV := Lib.hid hV
  have hsz : (u8sG L).size = L.length := uG_size L
  have hget := Lib.hid (fun j c (h1 : L[j]? = some c) (h2 : c < 256) h3 => uG_get L j c h1 h2 h3)
  have hwl := Lib.hid (stkW_lt (base := base) (l := L) (by omega) hb2 (fun c hc => (hL c hc).2))
  have hst := Lib.hid (stkW_snoc base L)
  have hwlen := Lib.hid (fun k => stkW_len base (L.take k))
  have hW := Lib.hid (fun (c : Nat) (hc : c < 256) W => c_Rdigit c hc W)
  have hLc := Lib.hid hL
  have hLk := Lib.hid (fun W (hb : Below w.heap.size w W) => hLw.keep hb)
  have hFU := Lib.hid (fun (x : Nat) (hx : x < 4294967296) W hW => c_FormatUint 16 (x + 4294967296) 8 (by decide) (by decide) (by decide) (by omega) (lg_8 hx) W hW)
  have hszl : (u8sG L).size ≤ 8000 := by omega
  replace hsz := Lib.hid hsz
  replace hLw := Lib.hid hLw
  generalize u8sG L = S at *
  clear hL
  go_enter Tryz.func52, Tryz.ntmps52
  go_wp2
  go_loopw [5, 6] (fun v5 v6 wr => ∃ j : Nat, j ≤ L.length ∧ v6 = .int .i64 (j : Int) ∧ wr.ownsRow w.heap.size 110 1 v5 (stkW base (L.take j)).length (u32s (stkW base (L.take j))) ∧ Below w.heap.size w wr) (fun _ v6 _ => L.length - (intOf v6).toNat)
  case atStart => exact ⟨0, Nat.zero_le _, rfl, World.ownsRow_nil _ _ _ _, Below.refl _ _⟩
  case round =>
    obtain ⟨j, hj, rfl, hown, hbel⟩ := hrel
    by_cases hjl : j < L.length
    · obtain ⟨c, hc⟩ : ∃ c, L[j]? = some c := ⟨L[j], List.getElem?_eq_getElem hjl⟩
      obtain ⟨hc1, hc2⟩ := hLc.out c (List.mem_of_getElem? hc)
      have hjs : j < S.size := by have := hsz.out; omega
      have hg := hget.out j c hc hc1 hjs
      have hjI : (j : Int) < (S.size : Int) := by omega
      have hWc := Lib.hid (fun W => hW.out c hc1 W)
      have hs := Lib.hid (hst.out j c hc)
      have hlt := Lib.hid (hwl.out j)
      have hwn := hwlen.out j
      rw [List.length_take] at hwn
      generalize stkW base (L.take j) = ws at *
      generalize wth c = d at *
      have hwn2 : ws.length ≤ 8000 := by omega
      replace hwn := Lib.hid hwn
      have hIn : ∀ k, (inW base ws d k).length = ws.length ∨ ws.length < k := fun k => by
        rcases Nat.lt_or_ge ws.length k with h | h
        · exact .inr h
        · exact .inl (inW_len base ws d k h)
      have hIg := Lib.hid (inW_get base ws d)
      have hIs := Lib.hid (inW_set base ws d)
      have hMs := Lib.hid (fun k x (h : ws[k]? = some x) => mulA_snoc base ws k x d h)
      have hMc := Lib.hid (fun k => mulA_carry base (by omega) (ws.take k) d hc2 (fun x hx => hlt.out x (List.mem_of_mem_take hx)))
      have hstep : Hid (stepW base ws d = if (mulA base (ws.take ws.length) d).2 = 0 then inW base ws d ws.length else inW base ws d ws.length ++ [(mulA base (ws.take ws.length) d).2]) := by
        show _ = _
        unfold stepW inW
        rw [List.take_length, List.drop_length, List.append_nil]
      have hI0 : inW base ws d 0 = ws := by unfold inW; simp [mulA]
      have hM0 : (mulA base (ws.take 0) d).2 = d := by simp [mulA]
      obtain ⟨p, cap, rfl⟩ : ∃ p cap, u5 = .slice p ws.length cap := by
        rcases hown.2 with ⟨rfl, h0⟩ | ⟨g, cap, cur, rfl, _⟩
        · exact ⟨none, 0, by rw [h0]⟩
        · exact ⟨_, _, rfl⟩
      rw [← hI0] at hown
      replace hI0 := Lib.hid hI0
      replace hM0 := Lib.hid hM0
      replace hIn := Lib.hid hIn
      have hown := Lib.hid hown
      replace hbel := Lib.hid hbel
      have hd36 : d < 36 := by omega
      clear hc hc1
      go_wp2_with (go_at_call 55; refine (hWc.out _).mono ?_; rintro e w' ⟨rfl, rfl⟩)
      go_loopw [7, 8, 9, 28] (fun v7 v8 v9 v28 wi => ∃ k : Nat, k ≤ ws.length ∧ v28 = .int .i64 (k : Int) ∧ v7 = .int .u64 ((mulA base (ws.take k) d).2 : Int) ∧ wi.ownsRow w.heap.size 110 1 (.slice p ws.length cap) ws.length (u32s (inW base ws d k)) ∧ Below w.heap.size w wi) (fun _ _ _ v28 _ => ws.length - (intOf v28).toNat)
      case atStart => exact ⟨0, Nat.zero_le _, rfl, by rw [hM0.out], by rw [hI0.out] at hown ⊢; exact hown.out, hbel.out⟩
      case round =>
        obtain ⟨k, hk, rfl, rfl, hown, hbel⟩ := hrel
        by_cases hkl : k < ws.length
        · obtain ⟨x, hx⟩ : ∃ x, ws[k]? = some x := ⟨ws[k], List.getElem?_eq_getElem hkl⟩
          have hxB : x < 4294967296 := hlt.out x (List.mem_of_getElem? hx)
          have hset := Lib.hid (hIs.out k x hx)
          have hms := Lib.hid (hMs.out k x hx)
          have hmc := hMc.out k
          have hIgk := hIg.out k hkl
          rw [hx] at hIgk
          obtain ⟨g, cap2, e1, hr⟩ := hown.form (by omega)
          injection e1 with e1 _ e2
          subst e1 e2
          have hcell := World.ownsRow.cells hown (g := g) rfl k (.int .u32 (x : Int)) (by simp [u32s, hIgk])
          rw [add_zero_addr] at hcell
          have hfz := World.ownsRow.frozenAt hown k
          obtain ⟨hown2, hgr⟩ := World.ownsRow.stored hown k (.int .u32 (((x * base + (mulA base (ws.take k) d).2) % B32 : Nat) : Int))
          rw [u32s_set, hset.out] at hown2
          have hbel2 : Below w.heap.size w (wr.setCell ⟨g, k, none⟩ (.int .u32 (((x * base + (mulA base (ws.take k) d).2) % B32 : Nat) : Int))) := hbel.grown hgr hbel.size (own_base hown)
          have hms2 : (mulA base (ws.take (k + 1)) d).2 = (x * base + (mulA base (ws.take k) d).2) / B32 := by rw [hms.out]
          rw [show B32 = 4294967296 from rfl] at hms2 hown2 hbel2
          generalize (mulA base (ws.take k) d).2 = cr at *
          have hyb : x * base ≤ 4294967295 * 36 := Nat.mul_le_mul (by omega) hb2
          have hprod : (x : Int) * (base : Int) + (cr : Int) = ((x * base + cr : Nat) : Int) := by rw [Int.natCast_add, Int.natCast_mul]
          have hpb : 0 ≤ (x : Int) * (base : Int) ∧ (x : Int) * (base : Int) ≤ 4294967295 * 36 := by rw [← Int.natCast_mul]; omega
          obtain ⟨hp1, hp2⟩ := hpb
          have hw32 : IntKind.u32.wrap ((x : Int) * (base : Int) + (cr : Int)) = (((x * base + cr) % 4294967296 : Nat) : Int) := by rw [hprod]; rw [wrap_u32']; omega
          have hdv : ((x : Int) * (base : Int) + (cr : Int)) / 4294967296 = (((x * base + cr) / 4294967296 : Nat) : Int) := by rw [hprod]; omega
          have hcr : cr < 36 := by omega
          generalize (x * base + cr) % 4294967296 = z0 at *
          generalize (x * base + cr) / 4294967296 = z1 at *
          have hkI : (k : Int) < (ws.length : Int) := by omega
          replace hown2 := Lib.hid hown2
          replace hms2 := Lib.hid hms2
          clear hprod hyb hown hgr hms hset hx hIgk hmc hr
          go_wp2_with fail
          exact ⟨⟨k + 1, by omega, by go_num, by rw [hms2.out], hown2.out, hbel2⟩, by simp [intOf]; omega⟩
        · obtain rfl : k = ws.length := by omega
          have hst2 := hs.out.trans hstep.out
          have hcr := hMc.out ws.length
          clear hstep hs
          have hkI : ¬ ((ws.length : Nat) : Int) < (ws.length : Int) := by omega
          have hlen := inW_len base ws d ws.length (Nat.le_refl _)
          generalize (mulA base (ws.take ws.length) d).2 = cr at *
          generalize inW base ws d ws.length = vs at *
          clear hIg hIs hMs hMc hI0 hM0 hIn
          by_cases h0 : cr = 0
          · rw [if_pos h0] at hst2
            subst h0
            rw [← hlen, ← hst2] at hown
            rw [← hlen, ← hst2]
            replace hown := Lib.hid hown
            clear hst2 hlen
            have hkI2 : ¬ ((stkW base (L.take (j + 1))).length : Int) < ((stkW base (L.take (j + 1))).length : Int) := by omega
            go_wp2_with fail
            go_roundw
            case rel => exact ⟨j + 1, by omega, by go_num, hown.out, hbel⟩
            case measure => simp [intOf]; omega
          · rw [if_neg h0] at hst2
            have hcr0 : 0 < cr := by omega
            have hcB : u32s vs ++ [.int .u32 (cr : Int)] = u32s (stkW base (L.take (j + 1))) := by rw [hst2]; simp [u32s]
            have hsl : (stkW base (L.take (j + 1))).length = ws.length + 1 := by rw [hst2]; simp [hlen]
            replace hcB := Lib.hid hcB
            replace hsl := Lib.hid hsl
            clear hst2 h0 hlen
            go_wp2_with (at_builtin; refine wpList_append_lies _ (by rfl) _ _ _ (by rfl) w.heap.size 110 i0 _ 1 4 Tryz.underlying109 hi0 hz0 hz1 hz2 rfl (by omega) (.slice p ws.length cap) ws.length (u32s vs) (by rfl) (hown.alloc _) ⟨wr.heap.size, 0, none⟩ 1 1 [.int .u32 (cr : Int)] (by rfl) (by rfl) (World.news_of_block (cs := #[.int .u32 (cr : Int)]) (t := 110) (fr := (0, 0)) (by exact heap_alloc_new wr _)) (by simp [Value.oneCell']) (by omega) (by unfold maxLen; omega) (by omega) (by have := hbel.size; simp; omega) (wr.heap.size + 1) (by simp) ?_; intro gg cap2 w2 hown2 hgrow hat hlt2)
            have hown3 : w2.ownsRow w.heap.size 110 1 (.slice (some ⟨gg, 0, none⟩) (ws.length + 1) cap2) (stkW base (L.take (j + 1))).length (u32s (stkW base (L.take (j + 1)))) := by
              rw [← hcB.out, hsl.out]; exact hown2
            have hbel2 : Below w.heap.size w w2 := (hbel.alloc hbel.size _).grown hgrow (by have := hbel.size; simp; omega) (own_base hown)
            clear hown2 hgrow
            go_roundw
            case rel => exact ⟨j + 1, by omega, by go_num, hown3, hbel2⟩
            case measure => simp [intOf]; omega
    · obtain rfl : j = L.length := by omega
      rw [List.take_length] at hown
      have hjI : ¬ (L.length : Int) < (S.size : Int) := by have := hsz.out; omega
      have hvalW := Lib.hid hval.out
      have hlW : (stkW base L).length ≤ 8000 := by have := hlenW.out; omega
      clear hW hLc hst hwlen hwl hget hsz hval hlenW
      generalize stkW base L = W at *
      have hPF := Lib.hid (fun y hy => c_PFhex (48 :: hexs W) (fun c hc => by
        rcases List.mem_cons.1 hc with rfl | hc
        · exact .inl (by decide)
        · exact hexs_hx W c hc) (by simp) (by rw [List.length_cons, hexs_len]; omega) y hy)
      have hN : Hid (numB 16 (48 :: hexs W) = numB base L) := by
        show _ = _
        rw [show 48 :: hexs W = [48] ++ hexs W from rfl, numB_app, hexs_val W (fun x hx => hltW.out x hx), show numB 16 [48] = 0 by decide +kernel, Nat.zero_mul, Nat.zero_add]
        exact hvalW.out
      rw [hN.out, hV.out] at hPF
      have htx : Hid (u8sG (48 :: 120 :: 48 :: hexs W) ++ ⟨#[112, 48]⟩ = u8sG (48 :: 120 :: (48 :: hexs W ++ [112, 48]))) := by
        show _ = _
        rw [show (⟨#[112, 48]⟩ : ByteArray) = u8sG [112, 48] from rfl, uG_app]; rfl
      have hst3 : Hid (∀ (m x : Nat), W[m]? = some x → u8sG (48 :: 120 :: 48 :: hexs (W.drop (m + 1))) ++ u8sG (hx8 x) = u8sG (48 :: 120 :: 48 :: hexs (W.drop m))) := fun m x h => by
        rw [uG_app, hexs_drop h]; rfl
      have hex3 : Hid (∀ x, (u8sG (fmtG 16 (x + 4294967296) 8)).extract 1 (u8sG (fmtG 16 (x + 4294967296) 8)).size = u8sG (hx8 x) ∧ (u8sG (fmtG 16 (x + 4294967296) 8)).size = 9) := fun x => by
        have hs : (u8sG (fmtG 16 (x + 4294967296) 8)).size = 9 := by rw [uG_size, fmtG_len]
        refine ⟨?_, hs⟩
        rw [hs, uG_ext, List.take_of_length_le (by rw [fmtG_len]; decide)]
        rfl
      have hsx : Hid (∀ m, (u8sG (48 :: 120 :: 48 :: hexs (W.drop m))).size ≤ 64003) := fun m => by
        rw [uG_size]; simp only [List.length_cons, hexs_len, List.length_drop]; omega
      have hs8 : Hid (∀ x, (u8sG (hx8 x)).size = 8) := fun x => by rw [uG_size, hx8_len]
      have hd0 : Hid (u8sG (48 :: 120 :: 48 :: hexs (W.drop 0)) = u8sG (48 :: 120 :: 48 :: hexs W)) := rfl
      have hdn : Hid (u8sG (48 :: 120 :: 48 :: hexs (W.drop W.length)) = ⟨#[48, 120, 48]⟩) := by
        show _ = _; rw [List.drop_length]; rfl
      have hgw : Hid (∀ m, m < W.length → ∃ x, W[m]? = some x ∧ x < 4294967296) := fun m hm => ⟨W[m], List.getElem?_eq_getElem hm, hltW.out _ (List.getElem_mem hm)⟩
      obtain ⟨p, cap, rfl⟩ : ∃ p cap, u5 = .slice p W.length cap := by
        rcases hown.2 with ⟨rfl, h0⟩ | ⟨g, cap, cur, rfl, _⟩
        · exact ⟨none, 0, by rw [h0]⟩
        · exact ⟨_, _, rfl⟩
      clear hvalW hN hltW hV
      generalize hFN : (fun m => u8sG (48 :: 120 :: 48 :: hexs (W.drop m))) = FN at *
      have hFz : ∀ m, u8sG (48 :: 120 :: 48 :: hexs (W.drop m)) = FN m := fun m => by rw [← hFN]
      simp only [hFz] at hst3 hsx hd0 hdn
      have hownK := fun y (h : Below wr.heap.size wr y) => own_belowG hown h
      replace hownK := Lib.hid hownK
      have hcW : Hid (∀ (m x : Nat), W[m]? = some x → ∀ y, Below wr.heap.size wr y → ∃ g, p = some ⟨g, 0, none⟩ ∧ y.cell? ⟨g, m, none⟩ = some (.int .u32 (x : Int))) := fun m x h y hy => by
        have hm := (List.getElem?_eq_some_iff.1 h).1
        have ho := hownK.out y hy
        obtain ⟨g, cap2, e1, hr⟩ := ho.form (by omega)
        injection e1 with e1 _ e2
        subst e1
        have hc := World.ownsRow.cells ho (g := g) rfl m (.int .u32 (x : Int)) (by simp [u32s, h])
        rw [add_zero_addr] at hc
        exact ⟨g, rfl, hc⟩
      have hbw := Lib.hid (fun y (h : Below wr.heap.size wr y) => hbel.trans (h.mono hbel.size))
      generalize W.length = n at *
      clear hFN hFz hown hownK
      go_wp2_with fail
      clear hjI
      obtain ⟨W0, rfl⟩ : ∃ W, W = wr := ⟨_, rfl⟩
      go_loopw [10, 11, 12] (fun v10 v11 v12 wx => ∃ j : Nat, j ≤ n ∧ v11 = .int .i64 ((j : Int) - 1) ∧ v10 = .string (FN j) ∧ Below W0.heap.size W0 wx) (fun _ v11 _ _ => (intOf v11 + 1).toNat)
      case atStart => exact ⟨n, Nat.le_refl _, rfl, by rw [hdn.out], Below.refl _ _⟩
      case round =>
        obtain ⟨j, hj, rfl, rfl, hb1⟩ := hrel
        rcases Nat.eq_zero_or_pos j with h0 | h0
        · subst h0
          have hP := Lib.hid (hPF.out wr (hLk.out _ (hbw.out _ hb1)))
          rw [hd0.out]
          have hz := hsx.out 0
          rw [hd0.out] at hz
          rw [show u8sG (48 :: 120 :: (48 :: hexs W ++ [112, 48])) = u8sG (48 :: 120 :: 48 :: hexs W) ++ ⟨#[112, 48]⟩ from htx.out.symm] at hP
          generalize u8sG (48 :: 120 :: 48 :: hexs W) = TX at *
          have hbZ := Lib.hid (hbw.out _ hb1)
          clear hcW hgw hst3 hsx hd0 hdn hPF htx hex3 hs8 hb1
          go_wp2_with fail
          refine hP.out.mono ?_
          rintro e w8 ⟨⟨er, rfl⟩, hb8⟩
          have hb9 := hbZ.out.trans (hb8.mono hbZ.out.size)
          go_wp2_with fail
          go_ret
          exact ⟨rfl, hb9⟩
        · obtain ⟨m, rfl⟩ : ∃ m, j = m + 1 := ⟨j - 1, by omega⟩
          obtain ⟨x, hx, hx32⟩ := hgw.out m (by omega)
          obtain ⟨g, rfl, hcx⟩ := hcW.out m x hx wr hb1
          have hF := Lib.hid (hFU.out x hx32 wr (hLk.out _ (hbw.out _ hb1)))
          have hsum : ((x + 4294967296 : Nat) : Int) = (x : Int) + 4294967296 := by omega
          rw [hsum] at hF
          obtain ⟨hx1, hx2⟩ := hex3.out x
          have hs := Lib.hid (hst3.out m x hx)
          have hz := hsx.out (m + 1)
          have h8 := hs8.out x
          have hmn : m < n := by omega
          have hmnI : (m : Int) < (n : Int) := by omega
          have hmm : ((m + 1 : Nat) : Int) - 1 = (m : Int) := by omega
          rw [hx2] at hx1
          have h9 : (1 : Int) ≤ ((u8sG (fmtG 16 (x + 4294967296) 8)).size : Int) := by omega
          have h9n : (u8sG (fmtG 16 (x + 4294967296) 8)).size = 9 := hx2
          generalize hFm : FN m = f0 at *
          generalize hFm1 : FN (m + 1) = f1 at *
          generalize u8sG (hx8 x) = T8 at *
          generalize u8sG (fmtG 16 (x + 4294967296) 8) = T9 at *
          replace hFm := Lib.hid hFm
          rw [hmm]
          clear hcW hgw hst3 hsx hd0 hdn hPF htx hex3 hs8 hx hsum h0 hx2 hmm
          have hbZ := Lib.hid hb1
          go_wp2_with fail
          refine hF.out.mono ?_
          rintro e w8 ⟨rfl, hb8⟩
          have hb9 := hbZ.out.trans (hb8.mono hbZ.out.size)
          clear hb8 hb1
          go_wp2_with fail
          go_roundw
          case rel => exact ⟨m, by omega, by go_num, by rw [hFm.out, ← hs.out], hb9⟩
          case measure => simp [intOf]
end Go.Proofs.YtbakbikilbaafaaGreatDoor.W3
namespace Go.Proofs.YtbakbikilbaafaaGreatDoor
open Go.RowKit F64 Ieee
set_option linter.unusedVariables false
set_option maxHeartbeats 4000000
set_option maxRecDepth 100000

theorem wth_99 {c : Nat} (hc : c < 256) (h : ¬ wth c < 36) : wth c = 99 := by
  have all : ∀ c : Fin 256, wth c.val < 36 ∨ wth c.val = 99 := by decide +kernel
  rcases all ⟨c, hc⟩ with g | g
  · exact absurd g h
  · exact g
theorem c_RLit_preZ (L : List Nat) (base : Nat) (hL : ∀ c ∈ L, c < 256) (hl : L.length ≤ 800) (hpre : preL L = base) (hb : 0 < base) (hk : runL base (L.drop 2) = 0) (w : World) :
    Calls Tryz.prog 21 #[.string (u8sG L)] w fun r w' => r = .returned (.tuple #[.float .f64 0, .int .i64 0, .int .i64 30]) ∧ Below w.heap.size w w' := by
  have h2 : 2 ≤ L.length := by
    rcases Nat.lt_or_ge L.length 2 with h | h
    · exfalso
      have : preL L = 0 := by unfold preL; rw [if_neg (by omega)]
      omega
    · exact h
  have hPr := Lib.hid (fun W => c_Rprefixed L hL (by omega) W)
  rw [hpre] at hPr
  have hRu := Lib.hid (fun W => c_Rrun L hL 2 base (by omega) (by omega) W)
  rw [hk] at hRu
  have hRu : Hid (∀ W, Calls Tryz.prog 51 #[.string (u8sG L), .int .i64 2, .int .i64 (base : Int)] W fun r w' => r = .returned (.int .i64 0) ∧ W = w') := hRu
  have hbI : (0 : Int) < (base : Int) := by omega
  clear hk hL hl hpre hb h2
  generalize u8sG L = S at *
  go_enter Tryz.func21, Tryz.ntmps21
  go_wp2_with fail
  refine (hPr.out _).mono ?_
  rintro e w3 ⟨rfl, rfl⟩
  go_wp2_with fail
  refine (hRu.out _).mono ?_
  rintro e w5 ⟨rfl, rfl⟩
  go_wp2_with fail
  go_ret3
  exact ⟨rfl, Below.refl _ _⟩
theorem c_RLit_pre (L : List Nat) (base k : Nat) (hL : ∀ c ∈ L, c < 256) (hl : L.length ≤ 800) (hpre : preL L = base) (hb : 0 < base) (hk : runL base (L.drop 2) = k) (hk0 : 0 < k) (hEnd : EndC (u8sG L) (2 + k) true) (w : World) (hW : LibW w) :
    Calls Tryz.prog 21 #[.string (u8sG L)] w fun r w' => r = .returned (.tuple #[.float .f64 (nN (numB base ((L.drop 2).take k))), .int .i64 ((2 + k : Nat) : Int), .int .i64 0]) ∧ Below w.heap.size w w' := by
  have h2 : 2 ≤ L.length := by
    rcases Nat.lt_or_ge L.length 2 with h | h
    · exfalso
      have : preL L = 0 := by unfold preL; rw [if_neg (by omega)]
      omega
    · exact h
  have hPr := Lib.hid (fun W => c_Rprefixed L hL (by omega) W)
  have hbase := preL_le L
  rw [hpre] at hPr hbase
  have hRu := Lib.hid (fun W => c_Rrun L hL 2 base (by omega) (by omega) W)
  rw [hk] at hRu
  have hRu : Hid (∀ W, Calls Tryz.prog 51 #[.string (u8sG L), .int .i64 2, .int .i64 (base : Int)] W fun r w' => r = .returned (.int .i64 (k : Int)) ∧ W = w') := hRu
  have hrl := runL_le base (L.drop 2)
  rw [List.length_drop, hk] at hrl
  have hsz : (u8sG L).size = L.length := uG_size L
  have hX := Lib.hid (W3.c_Rnearest ((L.drop 2).take k) base (by omega) (by omega) (fun c hc => ⟨hL c (List.mem_of_mem_drop (List.mem_of_mem_take hc)), by
    rw [← hk] at hc
    exact run_mem c hc⟩) (by rw [List.length_take, List.length_drop]; omega) w hW)
  have hex : (u8sG L).extract 2 (2 + k) = u8sG ((L.drop 2).take k) := by
    rw [uG_ext]; congr 1
    rw [List.drop_take, show 2 + k - 2 = k by omega]
  have hs4 : (2 : Int) + (k : Int) ≤ ((u8sG L).size : Int) := by omega
  have hs5 : (u8sG L).size ≤ 800 := by omega
  have hs6 : 2 + k ≤ (u8sG L).size := by omega
  have hbI : (0 : Int) < (base : Int) := by omega
  have hk1 : ((k : Int) == 0) = false := beq_eq_false_iff_ne.2 (by omega)
  have htn : ((2 : Int) + (k : Int)).toNat = 2 + k := by omega
  have h2k : (2 : Int) ≤ 2 + (k : Int) := by omega
  have h2k0 : (0 : Int) ≤ 2 + (k : Int) := by omega
  generalize hV : nN (numB base ((L.drop 2).take k)) = V at *
  clear hV hrl hk hL hl hpre hsz hb h2 hbase hW hk0
  generalize u8sG ((L.drop 2).take k) = D at *
  generalize u8sG L = S at *
  go_enter Tryz.func21, Tryz.ntmps21
  go_wp2_with fail
  refine (hPr.out _).mono ?_
  rintro e w3 ⟨rfl, rfl⟩
  go_wp2_with fail
  refine (hRu.out _).mono ?_
  rintro e w5 ⟨rfl, rfl⟩
  go_wp2_with fail
  refine hX.out.mono ?_
  rintro e w6 ⟨rfl, hbE⟩
  cases hEnd with
  | e0 hE =>
    have hE1 : ¬ ((2 : Int) + (k : Int)) < (S.size : Int) := by omega
    clear hE
    go_wp2_with fail
    go_ret3
    exact ⟨rfl, hbE⟩
  | e5 hE c hc hc8 h1 h2 h3 h4 =>
    have hE1 : ((2 : Int) + (k : Int)) < (S.size : Int) := by omega
    have hgc := hc hE
    have hWo := Lib.hid (fun W => c_Rdigit c hc8 W)
    rw [wth_99 hc8 h1] at hWo
    have hWo : Hid (∀ W, Calls Tryz.prog 55 #[.int .u8 (c : Int)] W fun r w' => r = .returned (.int .i64 99) ∧ W = w') := hWo
    have hE3 : ((c : Int) == 36) = false := beq_eq_false_iff_ne.2 (by omega)
    have hE4 : ((c : Int) == 95) = false := beq_eq_false_iff_ne.2 (by omega)
    have hE5 : ¬ (128 : Int) ≤ (c : Int) := by omega
    clear h1 h2 h3 h4
    go_wp2_with (go_at_call 55; refine (hWo.out _).mono ?_; rintro e w' ⟨rfl, rfl⟩)
    go_ret3
    exact ⟨rfl, hbE⟩
theorem c_RLit_preB (L : List Nat) (base k : Nat) (hL : ∀ c ∈ L, c < 256) (hl : L.length ≤ 800) (hpre : preL L = base) (hb : 0 < base) (hk : runL base (L.drop 2) = k) (hk0 : 0 < k) (hEnd : EndC (u8sG L) (2 + k) false) (w : World) (hW : LibW w) :
    Calls Tryz.prog 21 #[.string (u8sG L)] w fun r w' => r = .returned (.tuple #[.float .f64 0, .int .i64 0, .int .i64 30]) ∧ Below w.heap.size w w' := by
  have h2 : 2 ≤ L.length := by
    rcases Nat.lt_or_ge L.length 2 with h | h
    · exfalso
      have : preL L = 0 := by unfold preL; rw [if_neg (by omega)]
      omega
    · exact h
  have hPr := Lib.hid (fun W => c_Rprefixed L hL (by omega) W)
  have hbase := preL_le L
  rw [hpre] at hPr hbase
  have hRu := Lib.hid (fun W => c_Rrun L hL 2 base (by omega) (by omega) W)
  rw [hk] at hRu
  have hRu : Hid (∀ W, Calls Tryz.prog 51 #[.string (u8sG L), .int .i64 2, .int .i64 (base : Int)] W fun r w' => r = .returned (.int .i64 (k : Int)) ∧ W = w') := hRu
  have hrl := runL_le base (L.drop 2)
  rw [List.length_drop, hk] at hrl
  have hsz : (u8sG L).size = L.length := uG_size L
  have hX := Lib.hid (W3.c_Rnearest ((L.drop 2).take k) base (by omega) (by omega) (fun c hc => ⟨hL c (List.mem_of_mem_drop (List.mem_of_mem_take hc)), by
    rw [← hk] at hc
    exact run_mem c hc⟩) (by rw [List.length_take, List.length_drop]; omega) w hW)
  have hex : (u8sG L).extract 2 (2 + k) = u8sG ((L.drop 2).take k) := by
    rw [uG_ext]; congr 1
    rw [List.drop_take, show 2 + k - 2 = k by omega]
  have hs4 : (2 : Int) + (k : Int) ≤ ((u8sG L).size : Int) := by omega
  have hs5 : (u8sG L).size ≤ 800 := by omega
  have hs6 : 2 + k ≤ (u8sG L).size := by omega
  have hbI : (0 : Int) < (base : Int) := by omega
  have hk1 : ((k : Int) == 0) = false := beq_eq_false_iff_ne.2 (by omega)
  have htn : ((2 : Int) + (k : Int)).toNat = 2 + k := by omega
  have h2k : (2 : Int) ≤ 2 + (k : Int) := by omega
  have h2k0 : (0 : Int) ≤ 2 + (k : Int) := by omega
  generalize hV : nN (numB base ((L.drop 2).take k)) = V at *
  clear hV hrl hk hL hl hpre hsz hb h2 hbase hW hk0
  generalize u8sG ((L.drop 2).take k) = D at *
  generalize u8sG L = S at *
  go_enter Tryz.func21, Tryz.ntmps21
  go_wp2_with fail
  refine (hPr.out _).mono ?_
  rintro e w3 ⟨rfl, rfl⟩
  go_wp2_with fail
  refine (hRu.out _).mono ?_
  rintro e w5 ⟨rfl, rfl⟩
  go_wp2_with fail
  refine hX.out.mono ?_
  rintro e w6 ⟨rfl, hbE⟩
  cases hEnd with
  | e1 hE c hc hc8 h1 =>
    have hE1 : ((2 : Int) + (k : Int)) < (S.size : Int) := by omega
    have hgc := hc hE
    have hWo := Lib.hid (fun W => c_Rdigit c hc8 W)
    have hE2 : (wth c : Int) < 99 := by omega
    generalize wth c = wc at *
    clear h1
    go_wp2_with (go_at_call 55; refine (hWo.out _).mono ?_; rintro e w' ⟨rfl, rfl⟩)
    go_ret3
    exact ⟨rfl, hbE⟩
  | e2 hE hc =>
    have hE1 : ((2 : Int) + (k : Int)) < (S.size : Int) := by omega
    have hgc := hc hE
    have hWo := Lib.hid (fun W => c_Rdigit 36 (by decide) W)
    rw [wth_36] at hWo
    have hWo : Hid (∀ W, Calls Tryz.prog 55 #[.int .u8 36] W fun r w' => r = .returned (.int .i64 99) ∧ W = w') := hWo
    go_wp2_with (go_at_call 55; refine (hWo.out _).mono ?_; rintro e w' ⟨rfl, rfl⟩)
    go_ret3
    exact ⟨rfl, hbE⟩
  | e3 hE hc =>
    have hE1 : ((2 : Int) + (k : Int)) < (S.size : Int) := by omega
    have hgc := hc hE
    have hWo := Lib.hid (fun W => c_Rdigit 95 (by decide) W)
    rw [wth_95] at hWo
    have hWo : Hid (∀ W, Calls Tryz.prog 55 #[.int .u8 95] W fun r w' => r = .returned (.int .i64 99) ∧ W = w') := hWo
    go_wp2_with (go_at_call 55; refine (hWo.out _).mono ?_; rintro e w' ⟨rfl, rfl⟩)
    go_ret3
    exact ⟨rfl, hbE⟩
  | e4 hE c hc hc8 h1 =>
    have hE1 : ((2 : Int) + (k : Int)) < (S.size : Int) := by omega
    have hgc := hc hE
    have hWo := Lib.hid (fun W => c_Rdigit c hc8 W)
    rw [wth_128 h1 hc8] at hWo
    have hWo : Hid (∀ W, Calls Tryz.prog 55 #[.int .u8 (c : Int)] W fun r w' => r = .returned (.int .i64 99) ∧ W = w') := hWo
    have hE3 : ((c : Int) == 36) = false := beq_eq_false_iff_ne.2 (by omega)
    have hE4 : ((c : Int) == 95) = false := beq_eq_false_iff_ne.2 (by omega)
    have hE5 : (128 : Int) ≤ (c : Int) := by omega
    clear h1
    go_wp2_with (go_at_call 55; refine (hWo.out _).mono ?_; rintro e w' ⟨rfl, rfl⟩)
    go_ret3
    exact ⟨rfl, hbE⟩
theorem c_RLit_none (L : List Nat) (hL : ∀ c ∈ L, c < 256) (hl : L.length ≤ 800) (hpre : preL L = 0) (hn : decN L = 0) (w : World) :
    Calls Tryz.prog 21 #[.string (u8sG L)] w fun r w' => r = .returned (.tuple #[.float .f64 0, .int .i64 0, .int .i64 30]) ∧ Below w.heap.size w w' := by
  have hPr := Lib.hid (fun W => c_Rprefixed L hL (by omega) W)
  rw [hpre] at hPr
  have hPr : Hid (∀ W, Calls Tryz.prog 50 #[.string (u8sG L)] W fun r w' => r = .returned (.int .i64 0) ∧ W = w') := hPr
  have hDe := Lib.hid (fun W => c_Rdecimal L hL (by omega) W)
  rw [hn] at hDe
  have hDe : Hid (∀ W, Calls Tryz.prog 53 #[.string (u8sG L), .int .i64 0] W fun r w' => r = .returned (.int .i64 0) ∧ W = w') := hDe
  clear hL hl hpre hn
  generalize u8sG L = S at *
  go_enter Tryz.func21, Tryz.ntmps21
  go_wp2_with fail
  refine (hPr.out _).mono ?_
  rintro e w3 ⟨rfl, rfl⟩
  go_wp2_with fail
  refine (hDe.out _).mono ?_
  rintro e w4 ⟨rfl, rfl⟩
  go_wp2_with fail
  go_ret3
  exact ⟨rfl, Below.refl _ _⟩
theorem c_RLit_deczB (L : List Nat) (v : Nat) (hL : ∀ c ∈ L, c < 256) (hl : L.length ≤ 800) (hpre : preL L = 0) (h0 : 0 < decN L) (hz : L.getD 0 0 = 48) (hz1 : 1 < decN L) (hz2 : wth (L.getD 1 0) < 10) (w : World) (hW : LibW w) :
    Calls Tryz.prog 21 #[.string (u8sG L)] w fun r w' => r = .returned (.tuple #[.float .f64 0, .int .i64 0, .int .i64 30]) ∧ Below w.heap.size w w' := by
  have hPr := Lib.hid (fun W => c_Rprefixed L hL (by omega) W)
  rw [hpre] at hPr
  have hPr : Hid (∀ W, Calls Tryz.prog 50 #[.string (u8sG L)] W fun r w' => r = .returned (.int .i64 0) ∧ W = w') := hPr
  have hDe := Lib.hid (fun W => c_Rdecimal L hL (by omega) W)
  have hsz : (u8sG L).size = L.length := uG_size L
  have hnl := decN_le L
  have hs0 : 0 < (u8sG L).size := by omega
  have hs0I : (0 : Int) < ((u8sG L).size : Int) := by omega
  have hg0 := uG_get L 0 (L.getD 0 0) (getD_lt rfl (by omega)) (hL _ (List.mem_of_getElem? (getD_lt rfl (by omega)))) hs0
  have hs5 : (u8sG L).size ≤ 800 := by omega
  have hs6 : decN L ≤ (u8sG L).size := by omega
  have hs7 : (decN L : Int) ≤ ((u8sG L).size : Int) := by omega
  have hnI : (0 : Int) < (decN L : Int) := by omega
  have hn0 : ((decN L : Int) == 0) = false := beq_eq_false_iff_ne.2 (by omega)
  rw [hz] at hg0
  have hs1 : 1 < (u8sG L).size := by omega
  have hs1I : (1 : Int) < ((u8sG L).size : Int) := by omega
  have hc1 := hL _ (List.mem_of_getElem? (getD_lt (L := L) (i := 1) rfl (by omega)))
  have hg1 := uG_get L 1 (L.getD 1 0) (getD_lt rfl (by omega)) hc1 hs1
  have hW1 := Lib.hid (fun W => c_Rdigit (L.getD 1 0) hc1 W)
  have hn1 : (1 : Int) < (decN L : Int) := by omega
  have hw1 :  (wth (L.getD 1 0) : Int) < 10 := by omega
  generalize wth (L.getD 1 0) = wc1 at *
  generalize L.getD 1 0 = c1 at *
  clear hz hz1 hz2 hc1
  clear hL hl hpre hsz hnl hW h0
  generalize decN L = n at *
  generalize u8sG L = S at *
  go_enter Tryz.func21, Tryz.ntmps21
  go_wp2_with fail
  refine (hPr.out _).mono ?_
  rintro e w3 ⟨rfl, rfl⟩
  go_wp2_with fail
  refine (hDe.out _).mono ?_
  rintro e w4 ⟨rfl, rfl⟩
  go_wp2_with (go_at_call 55; refine (hW1.out _).mono ?_; rintro e w' ⟨rfl, rfl⟩)
  go_ret3
  exact ⟨rfl, Below.refl _ _⟩
theorem c_RLit_deca (L : List Nat) (v : Nat) (hL : ∀ c ∈ L, c < 256) (hl : L.length ≤ 800) (hpre : preL L = 0) (h0 : 0 < decN L) (hz : L.getD 0 0 ≠ 48) (hd : DcT (L.take (decN L)) v) (hEnd : EndC (u8sG L) (decN L) true) (w : World) (hW : LibW w) :
    Calls Tryz.prog 21 #[.string (u8sG L)] w fun r w' => r = .returned (.tuple #[.float .f64 v, .int .i64 (decN L : Int), .int .i64 0]) ∧ Below w.heap.size w w' := by
  have hPr := Lib.hid (fun W => c_Rprefixed L hL (by omega) W)
  rw [hpre] at hPr
  have hPr : Hid (∀ W, Calls Tryz.prog 50 #[.string (u8sG L)] W fun r w' => r = .returned (.int .i64 0) ∧ W = w') := hPr
  have hDe := Lib.hid (fun W => c_Rdecimal L hL (by omega) W)
  have hsz : (u8sG L).size = L.length := uG_size L
  have hnl := decN_le L
  have hs0 : 0 < (u8sG L).size := by omega
  have hs0I : (0 : Int) < ((u8sG L).size : Int) := by omega
  have hg0 := uG_get L 0 (L.getD 0 0) (getD_lt rfl (by omega)) (hL _ (List.mem_of_getElem? (getD_lt rfl (by omega)))) hs0
  have hs5 : (u8sG L).size ≤ 800 := by omega
  have hs6 : decN L ≤ (u8sG L).size := by omega
  have hs7 : (decN L : Int) ≤ ((u8sG L).size : Int) := by omega
  have hnI : (0 : Int) < (decN L : Int) := by omega
  have hn0 : ((decN L : Int) == 0) = false := beq_eq_false_iff_ne.2 (by omega)
  have hq0 : ((L.getD 0 0 : Int) == 48) = false := beq_eq_false_iff_ne.2 (by omega)
  generalize L.getD 0 0 = c0 at *
  clear hz
  have hFl := Lib.hid (c_Rvalue hd (by rw [List.length_take]; omega) w hW)
  have hex : (u8sG L).extract 0 (decN L) = u8sG (L.take (decN L)) := by rw [uG_ext]; rfl
  generalize u8sG (L.take (decN L)) = D at *
  clear hL hl hpre hsz hnl hW h0 hd
  generalize decN L = n at *
  generalize u8sG L = S at *
  go_enter Tryz.func21, Tryz.ntmps21
  go_wp2_with fail
  refine (hPr.out _).mono ?_
  rintro e w3 ⟨rfl, rfl⟩
  go_wp2_with fail
  refine (hDe.out _).mono ?_
  rintro e w4 ⟨rfl, rfl⟩
  go_wp2_with fail
  refine hFl.out.mono ?_
  rintro e w5 ⟨rfl, hbD⟩
  cases hEnd with
  | e0 hE =>
    have hE1 : ¬ ((n : Int)) < (S.size : Int) := by omega
    clear hE
    go_wp2_with fail
    go_ret3
    exact ⟨rfl, hbD⟩
  | e5 hE c hc hc8 h1 h2 h3 h4 =>
    have hE1 : ((n : Int)) < (S.size : Int) := by omega
    have hgc := hc hE
    have hWo := Lib.hid (fun W => c_Rdigit c hc8 W)
    rw [wth_99 hc8 h1] at hWo
    have hWo : Hid (∀ W, Calls Tryz.prog 55 #[.int .u8 (c : Int)] W fun r w' => r = .returned (.int .i64 99) ∧ W = w') := hWo
    have hE3 : ((c : Int) == 36) = false := beq_eq_false_iff_ne.2 (by omega)
    have hE4 : ((c : Int) == 95) = false := beq_eq_false_iff_ne.2 (by omega)
    have hE5 : ¬ (128 : Int) ≤ (c : Int) := by omega
    clear h1 h2 h3 h4
    go_wp2_with (go_at_call 55; refine (hWo.out _).mono ?_; rintro e w' ⟨rfl, rfl⟩)
    go_ret3
    exact ⟨rfl, hbD⟩
theorem c_RLit_decaB (L : List Nat) (v : Nat) (hL : ∀ c ∈ L, c < 256) (hl : L.length ≤ 800) (hpre : preL L = 0) (h0 : 0 < decN L) (hz : L.getD 0 0 ≠ 48) (hd : DcT (L.take (decN L)) v) (hEnd : EndC (u8sG L) (decN L) false) (w : World) (hW : LibW w) :
    Calls Tryz.prog 21 #[.string (u8sG L)] w fun r w' => r = .returned (.tuple #[.float .f64 0, .int .i64 0, .int .i64 30]) ∧ Below w.heap.size w w' := by
  have hPr := Lib.hid (fun W => c_Rprefixed L hL (by omega) W)
  rw [hpre] at hPr
  have hPr : Hid (∀ W, Calls Tryz.prog 50 #[.string (u8sG L)] W fun r w' => r = .returned (.int .i64 0) ∧ W = w') := hPr
  have hDe := Lib.hid (fun W => c_Rdecimal L hL (by omega) W)
  have hsz : (u8sG L).size = L.length := uG_size L
  have hnl := decN_le L
  have hs0 : 0 < (u8sG L).size := by omega
  have hs0I : (0 : Int) < ((u8sG L).size : Int) := by omega
  have hg0 := uG_get L 0 (L.getD 0 0) (getD_lt rfl (by omega)) (hL _ (List.mem_of_getElem? (getD_lt rfl (by omega)))) hs0
  have hs5 : (u8sG L).size ≤ 800 := by omega
  have hs6 : decN L ≤ (u8sG L).size := by omega
  have hs7 : (decN L : Int) ≤ ((u8sG L).size : Int) := by omega
  have hnI : (0 : Int) < (decN L : Int) := by omega
  have hn0 : ((decN L : Int) == 0) = false := beq_eq_false_iff_ne.2 (by omega)
  have hq0 : ((L.getD 0 0 : Int) == 48) = false := beq_eq_false_iff_ne.2 (by omega)
  generalize L.getD 0 0 = c0 at *
  clear hz
  have hFl := Lib.hid (c_Rvalue hd (by rw [List.length_take]; omega) w hW)
  have hex : (u8sG L).extract 0 (decN L) = u8sG (L.take (decN L)) := by rw [uG_ext]; rfl
  generalize u8sG (L.take (decN L)) = D at *
  clear hL hl hpre hsz hnl hW h0 hd
  generalize decN L = n at *
  generalize u8sG L = S at *
  go_enter Tryz.func21, Tryz.ntmps21
  go_wp2_with fail
  refine (hPr.out _).mono ?_
  rintro e w3 ⟨rfl, rfl⟩
  go_wp2_with fail
  refine (hDe.out _).mono ?_
  rintro e w4 ⟨rfl, rfl⟩
  go_wp2_with fail
  refine hFl.out.mono ?_
  rintro e w5 ⟨rfl, hbD⟩
  cases hEnd with
  | e1 hE c hc hc8 h1 =>
    have hE1 : ((n : Int)) < (S.size : Int) := by omega
    have hgc := hc hE
    have hWo := Lib.hid (fun W => c_Rdigit c hc8 W)
    have hE2 : (wth c : Int) < 99 := by omega
    generalize wth c = wc at *
    clear h1
    go_wp2_with (go_at_call 55; refine (hWo.out _).mono ?_; rintro e w' ⟨rfl, rfl⟩)
    go_ret3
    exact ⟨rfl, hbD⟩
  | e2 hE hc =>
    have hE1 : ((n : Int)) < (S.size : Int) := by omega
    have hgc := hc hE
    have hWo := Lib.hid (fun W => c_Rdigit 36 (by decide) W)
    rw [wth_36] at hWo
    have hWo : Hid (∀ W, Calls Tryz.prog 55 #[.int .u8 36] W fun r w' => r = .returned (.int .i64 99) ∧ W = w') := hWo
    go_wp2_with (go_at_call 55; refine (hWo.out _).mono ?_; rintro e w' ⟨rfl, rfl⟩)
    go_ret3
    exact ⟨rfl, hbD⟩
  | e3 hE hc =>
    have hE1 : ((n : Int)) < (S.size : Int) := by omega
    have hgc := hc hE
    have hWo := Lib.hid (fun W => c_Rdigit 95 (by decide) W)
    rw [wth_95] at hWo
    have hWo : Hid (∀ W, Calls Tryz.prog 55 #[.int .u8 95] W fun r w' => r = .returned (.int .i64 99) ∧ W = w') := hWo
    go_wp2_with (go_at_call 55; refine (hWo.out _).mono ?_; rintro e w' ⟨rfl, rfl⟩)
    go_ret3
    exact ⟨rfl, hbD⟩
  | e4 hE c hc hc8 h1 =>
    have hE1 : ((n : Int)) < (S.size : Int) := by omega
    have hgc := hc hE
    have hWo := Lib.hid (fun W => c_Rdigit c hc8 W)
    rw [wth_128 h1 hc8] at hWo
    have hWo : Hid (∀ W, Calls Tryz.prog 55 #[.int .u8 (c : Int)] W fun r w' => r = .returned (.int .i64 99) ∧ W = w') := hWo
    have hE3 : ((c : Int) == 36) = false := beq_eq_false_iff_ne.2 (by omega)
    have hE4 : ((c : Int) == 95) = false := beq_eq_false_iff_ne.2 (by omega)
    have hE5 : (128 : Int) ≤ (c : Int) := by omega
    clear h1
    go_wp2_with (go_at_call 55; refine (hWo.out _).mono ?_; rintro e w' ⟨rfl, rfl⟩)
    go_ret3
    exact ⟨rfl, hbD⟩
theorem c_RLit_decb (L : List Nat) (v : Nat) (hL : ∀ c ∈ L, c < 256) (hl : L.length ≤ 800) (hpre : preL L = 0) (h0 : 0 < decN L) (hz : L.getD 0 0 = 48) (hz1 : decN L = 1) (hd : DcT (L.take (decN L)) v) (hEnd : EndC (u8sG L) (decN L) true) (w : World) (hW : LibW w) :
    Calls Tryz.prog 21 #[.string (u8sG L)] w fun r w' => r = .returned (.tuple #[.float .f64 v, .int .i64 (decN L : Int), .int .i64 0]) ∧ Below w.heap.size w w' := by
  have hPr := Lib.hid (fun W => c_Rprefixed L hL (by omega) W)
  rw [hpre] at hPr
  have hPr : Hid (∀ W, Calls Tryz.prog 50 #[.string (u8sG L)] W fun r w' => r = .returned (.int .i64 0) ∧ W = w') := hPr
  have hDe := Lib.hid (fun W => c_Rdecimal L hL (by omega) W)
  have hsz : (u8sG L).size = L.length := uG_size L
  have hnl := decN_le L
  have hs0 : 0 < (u8sG L).size := by omega
  have hs0I : (0 : Int) < ((u8sG L).size : Int) := by omega
  have hg0 := uG_get L 0 (L.getD 0 0) (getD_lt rfl (by omega)) (hL _ (List.mem_of_getElem? (getD_lt rfl (by omega)))) hs0
  have hs5 : (u8sG L).size ≤ 800 := by omega
  have hs6 : decN L ≤ (u8sG L).size := by omega
  have hs7 : (decN L : Int) ≤ ((u8sG L).size : Int) := by omega
  have hnI : (0 : Int) < (decN L : Int) := by omega
  have hn0 : ((decN L : Int) == 0) = false := beq_eq_false_iff_ne.2 (by omega)
  rw [hz] at hg0
  rw [hz1] at *
  have hDe : Hid (∀ W, Calls Tryz.prog 53 #[.string (u8sG L), .int .i64 0] W fun r w' => r = .returned (.int .i64 1) ∧ W = w') := hDe
  clear hz hz1
  have hFl := Lib.hid (c_Rvalue hd (by rw [List.length_take]; omega) w hW)
  have hex : (u8sG L).extract 0 (1) = u8sG (L.take (1)) := by rw [uG_ext]; rfl
  generalize u8sG (L.take (1)) = D at *
  clear hL hl hpre hsz hnl hW h0 hd
  generalize u8sG L = S at *
  go_enter Tryz.func21, Tryz.ntmps21
  go_wp2_with fail
  refine (hPr.out _).mono ?_
  rintro e w3 ⟨rfl, rfl⟩
  go_wp2_with fail
  refine (hDe.out _).mono ?_
  rintro e w4 ⟨rfl, rfl⟩
  go_wp2_with fail
  refine hFl.out.mono ?_
  rintro e w5 ⟨rfl, hbD⟩
  cases hEnd with
  | e0 hE =>
    have hE1 : ¬ (((1 : Nat) : Int)) < (S.size : Int) := by omega
    clear hE
    go_wp2_with fail
    go_ret3
    exact ⟨rfl, hbD⟩
  | e5 hE c hc hc8 h1 h2 h3 h4 =>
    have hE1 : (((1 : Nat) : Int)) < (S.size : Int) := by omega
    have hgc := hc hE
    have hWo := Lib.hid (fun W => c_Rdigit c hc8 W)
    rw [wth_99 hc8 h1] at hWo
    have hWo : Hid (∀ W, Calls Tryz.prog 55 #[.int .u8 (c : Int)] W fun r w' => r = .returned (.int .i64 99) ∧ W = w') := hWo
    have hE3 : ((c : Int) == 36) = false := beq_eq_false_iff_ne.2 (by omega)
    have hE4 : ((c : Int) == 95) = false := beq_eq_false_iff_ne.2 (by omega)
    have hE5 : ¬ (128 : Int) ≤ (c : Int) := by omega
    clear h1 h2 h3 h4
    go_wp2_with (go_at_call 55; refine (hWo.out _).mono ?_; rintro e w' ⟨rfl, rfl⟩)
    go_ret3
    exact ⟨rfl, hbD⟩
theorem c_RLit_decbB (L : List Nat) (v : Nat) (hL : ∀ c ∈ L, c < 256) (hl : L.length ≤ 800) (hpre : preL L = 0) (h0 : 0 < decN L) (hz : L.getD 0 0 = 48) (hz1 : decN L = 1) (hd : DcT (L.take (decN L)) v) (hEnd : EndC (u8sG L) (decN L) false) (w : World) (hW : LibW w) :
    Calls Tryz.prog 21 #[.string (u8sG L)] w fun r w' => r = .returned (.tuple #[.float .f64 0, .int .i64 0, .int .i64 30]) ∧ Below w.heap.size w w' := by
  have hPr := Lib.hid (fun W => c_Rprefixed L hL (by omega) W)
  rw [hpre] at hPr
  have hPr : Hid (∀ W, Calls Tryz.prog 50 #[.string (u8sG L)] W fun r w' => r = .returned (.int .i64 0) ∧ W = w') := hPr
  have hDe := Lib.hid (fun W => c_Rdecimal L hL (by omega) W)
  have hsz : (u8sG L).size = L.length := uG_size L
  have hnl := decN_le L
  have hs0 : 0 < (u8sG L).size := by omega
  have hs0I : (0 : Int) < ((u8sG L).size : Int) := by omega
  have hg0 := uG_get L 0 (L.getD 0 0) (getD_lt rfl (by omega)) (hL _ (List.mem_of_getElem? (getD_lt rfl (by omega)))) hs0
  have hs5 : (u8sG L).size ≤ 800 := by omega
  have hs6 : decN L ≤ (u8sG L).size := by omega
  have hs7 : (decN L : Int) ≤ ((u8sG L).size : Int) := by omega
  have hnI : (0 : Int) < (decN L : Int) := by omega
  have hn0 : ((decN L : Int) == 0) = false := beq_eq_false_iff_ne.2 (by omega)
  rw [hz] at hg0
  rw [hz1] at *
  have hDe : Hid (∀ W, Calls Tryz.prog 53 #[.string (u8sG L), .int .i64 0] W fun r w' => r = .returned (.int .i64 1) ∧ W = w') := hDe
  clear hz hz1
  have hFl := Lib.hid (c_Rvalue hd (by rw [List.length_take]; omega) w hW)
  have hex : (u8sG L).extract 0 (1) = u8sG (L.take (1)) := by rw [uG_ext]; rfl
  generalize u8sG (L.take (1)) = D at *
  clear hL hl hpre hsz hnl hW h0 hd
  generalize u8sG L = S at *
  go_enter Tryz.func21, Tryz.ntmps21
  go_wp2_with fail
  refine (hPr.out _).mono ?_
  rintro e w3 ⟨rfl, rfl⟩
  go_wp2_with fail
  refine (hDe.out _).mono ?_
  rintro e w4 ⟨rfl, rfl⟩
  go_wp2_with fail
  refine hFl.out.mono ?_
  rintro e w5 ⟨rfl, hbD⟩
  cases hEnd with
  | e1 hE c hc hc8 h1 =>
    have hE1 : (((1 : Nat) : Int)) < (S.size : Int) := by omega
    have hgc := hc hE
    have hWo := Lib.hid (fun W => c_Rdigit c hc8 W)
    have hE2 : (wth c : Int) < 99 := by omega
    generalize wth c = wc at *
    clear h1
    go_wp2_with (go_at_call 55; refine (hWo.out _).mono ?_; rintro e w' ⟨rfl, rfl⟩)
    go_ret3
    exact ⟨rfl, hbD⟩
  | e2 hE hc =>
    have hE1 : (((1 : Nat) : Int)) < (S.size : Int) := by omega
    have hgc := hc hE
    have hWo := Lib.hid (fun W => c_Rdigit 36 (by decide) W)
    rw [wth_36] at hWo
    have hWo : Hid (∀ W, Calls Tryz.prog 55 #[.int .u8 36] W fun r w' => r = .returned (.int .i64 99) ∧ W = w') := hWo
    go_wp2_with (go_at_call 55; refine (hWo.out _).mono ?_; rintro e w' ⟨rfl, rfl⟩)
    go_ret3
    exact ⟨rfl, hbD⟩
  | e3 hE hc =>
    have hE1 : (((1 : Nat) : Int)) < (S.size : Int) := by omega
    have hgc := hc hE
    have hWo := Lib.hid (fun W => c_Rdigit 95 (by decide) W)
    rw [wth_95] at hWo
    have hWo : Hid (∀ W, Calls Tryz.prog 55 #[.int .u8 95] W fun r w' => r = .returned (.int .i64 99) ∧ W = w') := hWo
    go_wp2_with (go_at_call 55; refine (hWo.out _).mono ?_; rintro e w' ⟨rfl, rfl⟩)
    go_ret3
    exact ⟨rfl, hbD⟩
  | e4 hE c hc hc8 h1 =>
    have hE1 : (((1 : Nat) : Int)) < (S.size : Int) := by omega
    have hgc := hc hE
    have hWo := Lib.hid (fun W => c_Rdigit c hc8 W)
    rw [wth_128 h1 hc8] at hWo
    have hWo : Hid (∀ W, Calls Tryz.prog 55 #[.int .u8 (c : Int)] W fun r w' => r = .returned (.int .i64 99) ∧ W = w') := hWo
    have hE3 : ((c : Int) == 36) = false := beq_eq_false_iff_ne.2 (by omega)
    have hE4 : ((c : Int) == 95) = false := beq_eq_false_iff_ne.2 (by omega)
    have hE5 : (128 : Int) ≤ (c : Int) := by omega
    clear h1
    go_wp2_with (go_at_call 55; refine (hWo.out _).mono ?_; rintro e w' ⟨rfl, rfl⟩)
    go_ret3
    exact ⟨rfl, hbD⟩
theorem c_RLit_decc (L : List Nat) (v : Nat) (hL : ∀ c ∈ L, c < 256) (hl : L.length ≤ 800) (hpre : preL L = 0) (h0 : 0 < decN L) (hz : L.getD 0 0 = 48) (hz1 : 1 < decN L) (hz2 : ¬ wth (L.getD 1 0) < 10) (hd : DcT (L.take (decN L)) v) (hEnd : EndC (u8sG L) (decN L) true) (w : World) (hW : LibW w) :
    Calls Tryz.prog 21 #[.string (u8sG L)] w fun r w' => r = .returned (.tuple #[.float .f64 v, .int .i64 (decN L : Int), .int .i64 0]) ∧ Below w.heap.size w w' := by
  have hPr := Lib.hid (fun W => c_Rprefixed L hL (by omega) W)
  rw [hpre] at hPr
  have hPr : Hid (∀ W, Calls Tryz.prog 50 #[.string (u8sG L)] W fun r w' => r = .returned (.int .i64 0) ∧ W = w') := hPr
  have hDe := Lib.hid (fun W => c_Rdecimal L hL (by omega) W)
  have hsz : (u8sG L).size = L.length := uG_size L
  have hnl := decN_le L
  have hs0 : 0 < (u8sG L).size := by omega
  have hs0I : (0 : Int) < ((u8sG L).size : Int) := by omega
  have hg0 := uG_get L 0 (L.getD 0 0) (getD_lt rfl (by omega)) (hL _ (List.mem_of_getElem? (getD_lt rfl (by omega)))) hs0
  have hs5 : (u8sG L).size ≤ 800 := by omega
  have hs6 : decN L ≤ (u8sG L).size := by omega
  have hs7 : (decN L : Int) ≤ ((u8sG L).size : Int) := by omega
  have hnI : (0 : Int) < (decN L : Int) := by omega
  have hn0 : ((decN L : Int) == 0) = false := beq_eq_false_iff_ne.2 (by omega)
  rw [hz] at hg0
  have hs1 : 1 < (u8sG L).size := by omega
  have hs1I : (1 : Int) < ((u8sG L).size : Int) := by omega
  have hc1 := hL _ (List.mem_of_getElem? (getD_lt (L := L) (i := 1) rfl (by omega)))
  have hg1 := uG_get L 1 (L.getD 1 0) (getD_lt rfl (by omega)) hc1 hs1
  have hW1 := Lib.hid (fun W => c_Rdigit (L.getD 1 0) hc1 W)
  have hn1 : (1 : Int) < (decN L : Int) := by omega
  have hw1 : ¬ (wth (L.getD 1 0) : Int) < 10 := by omega
  generalize wth (L.getD 1 0) = wc1 at *
  generalize L.getD 1 0 = c1 at *
  clear hz hz1 hz2 hc1
  have hFl := Lib.hid (c_Rvalue hd (by rw [List.length_take]; omega) w hW)
  have hex : (u8sG L).extract 0 (decN L) = u8sG (L.take (decN L)) := by rw [uG_ext]; rfl
  generalize u8sG (L.take (decN L)) = D at *
  clear hL hl hpre hsz hnl hW h0 hd
  generalize decN L = n at *
  generalize u8sG L = S at *
  go_enter Tryz.func21, Tryz.ntmps21
  go_wp2_with fail
  refine (hPr.out _).mono ?_
  rintro e w3 ⟨rfl, rfl⟩
  go_wp2_with fail
  refine (hDe.out _).mono ?_
  rintro e w4 ⟨rfl, rfl⟩
  go_wp2_with (go_at_call 55; refine (hW1.out _).mono ?_; rintro e w' ⟨rfl, rfl⟩)
  refine hFl.out.mono ?_
  rintro e w5 ⟨rfl, hbD⟩
  cases hEnd with
  | e0 hE =>
    have hE1 : ¬ ((n : Int)) < (S.size : Int) := by omega
    clear hE
    go_wp2_with fail
    go_ret3
    exact ⟨rfl, hbD⟩
  | e5 hE c hc hc8 h1 h2 h3 h4 =>
    have hE1 : ((n : Int)) < (S.size : Int) := by omega
    have hgc := hc hE
    have hWo := Lib.hid (fun W => c_Rdigit c hc8 W)
    rw [wth_99 hc8 h1] at hWo
    have hWo : Hid (∀ W, Calls Tryz.prog 55 #[.int .u8 (c : Int)] W fun r w' => r = .returned (.int .i64 99) ∧ W = w') := hWo
    have hE3 : ((c : Int) == 36) = false := beq_eq_false_iff_ne.2 (by omega)
    have hE4 : ((c : Int) == 95) = false := beq_eq_false_iff_ne.2 (by omega)
    have hE5 : ¬ (128 : Int) ≤ (c : Int) := by omega
    clear h1 h2 h3 h4
    go_wp2_with (go_at_call 55; refine (hWo.out _).mono ?_; rintro e w' ⟨rfl, rfl⟩)
    go_ret3
    exact ⟨rfl, hbD⟩
theorem c_RLit_deccB (L : List Nat) (v : Nat) (hL : ∀ c ∈ L, c < 256) (hl : L.length ≤ 800) (hpre : preL L = 0) (h0 : 0 < decN L) (hz : L.getD 0 0 = 48) (hz1 : 1 < decN L) (hz2 : ¬ wth (L.getD 1 0) < 10) (hd : DcT (L.take (decN L)) v) (hEnd : EndC (u8sG L) (decN L) false) (w : World) (hW : LibW w) :
    Calls Tryz.prog 21 #[.string (u8sG L)] w fun r w' => r = .returned (.tuple #[.float .f64 0, .int .i64 0, .int .i64 30]) ∧ Below w.heap.size w w' := by
  have hPr := Lib.hid (fun W => c_Rprefixed L hL (by omega) W)
  rw [hpre] at hPr
  have hPr : Hid (∀ W, Calls Tryz.prog 50 #[.string (u8sG L)] W fun r w' => r = .returned (.int .i64 0) ∧ W = w') := hPr
  have hDe := Lib.hid (fun W => c_Rdecimal L hL (by omega) W)
  have hsz : (u8sG L).size = L.length := uG_size L
  have hnl := decN_le L
  have hs0 : 0 < (u8sG L).size := by omega
  have hs0I : (0 : Int) < ((u8sG L).size : Int) := by omega
  have hg0 := uG_get L 0 (L.getD 0 0) (getD_lt rfl (by omega)) (hL _ (List.mem_of_getElem? (getD_lt rfl (by omega)))) hs0
  have hs5 : (u8sG L).size ≤ 800 := by omega
  have hs6 : decN L ≤ (u8sG L).size := by omega
  have hs7 : (decN L : Int) ≤ ((u8sG L).size : Int) := by omega
  have hnI : (0 : Int) < (decN L : Int) := by omega
  have hn0 : ((decN L : Int) == 0) = false := beq_eq_false_iff_ne.2 (by omega)
  rw [hz] at hg0
  have hs1 : 1 < (u8sG L).size := by omega
  have hs1I : (1 : Int) < ((u8sG L).size : Int) := by omega
  have hc1 := hL _ (List.mem_of_getElem? (getD_lt (L := L) (i := 1) rfl (by omega)))
  have hg1 := uG_get L 1 (L.getD 1 0) (getD_lt rfl (by omega)) hc1 hs1
  have hW1 := Lib.hid (fun W => c_Rdigit (L.getD 1 0) hc1 W)
  have hn1 : (1 : Int) < (decN L : Int) := by omega
  have hw1 : ¬ (wth (L.getD 1 0) : Int) < 10 := by omega
  generalize wth (L.getD 1 0) = wc1 at *
  generalize L.getD 1 0 = c1 at *
  clear hz hz1 hz2 hc1
  have hFl := Lib.hid (c_Rvalue hd (by rw [List.length_take]; omega) w hW)
  have hex : (u8sG L).extract 0 (decN L) = u8sG (L.take (decN L)) := by rw [uG_ext]; rfl
  generalize u8sG (L.take (decN L)) = D at *
  clear hL hl hpre hsz hnl hW h0 hd
  generalize decN L = n at *
  generalize u8sG L = S at *
  go_enter Tryz.func21, Tryz.ntmps21
  go_wp2_with fail
  refine (hPr.out _).mono ?_
  rintro e w3 ⟨rfl, rfl⟩
  go_wp2_with fail
  refine (hDe.out _).mono ?_
  rintro e w4 ⟨rfl, rfl⟩
  go_wp2_with (go_at_call 55; refine (hW1.out _).mono ?_; rintro e w' ⟨rfl, rfl⟩)
  refine hFl.out.mono ?_
  rintro e w5 ⟨rfl, hbD⟩
  cases hEnd with
  | e1 hE c hc hc8 h1 =>
    have hE1 : ((n : Int)) < (S.size : Int) := by omega
    have hgc := hc hE
    have hWo := Lib.hid (fun W => c_Rdigit c hc8 W)
    have hE2 : (wth c : Int) < 99 := by omega
    generalize wth c = wc at *
    clear h1
    go_wp2_with (go_at_call 55; refine (hWo.out _).mono ?_; rintro e w' ⟨rfl, rfl⟩)
    go_ret3
    exact ⟨rfl, hbD⟩
  | e2 hE hc =>
    have hE1 : ((n : Int)) < (S.size : Int) := by omega
    have hgc := hc hE
    have hWo := Lib.hid (fun W => c_Rdigit 36 (by decide) W)
    rw [wth_36] at hWo
    have hWo : Hid (∀ W, Calls Tryz.prog 55 #[.int .u8 36] W fun r w' => r = .returned (.int .i64 99) ∧ W = w') := hWo
    go_wp2_with (go_at_call 55; refine (hWo.out _).mono ?_; rintro e w' ⟨rfl, rfl⟩)
    go_ret3
    exact ⟨rfl, hbD⟩
  | e3 hE hc =>
    have hE1 : ((n : Int)) < (S.size : Int) := by omega
    have hgc := hc hE
    have hWo := Lib.hid (fun W => c_Rdigit 95 (by decide) W)
    rw [wth_95] at hWo
    have hWo : Hid (∀ W, Calls Tryz.prog 55 #[.int .u8 95] W fun r w' => r = .returned (.int .i64 99) ∧ W = w') := hWo
    go_wp2_with (go_at_call 55; refine (hWo.out _).mono ?_; rintro e w' ⟨rfl, rfl⟩)
    go_ret3
    exact ⟨rfl, hbD⟩
  | e4 hE c hc hc8 h1 =>
    have hE1 : ((n : Int)) < (S.size : Int) := by omega
    have hgc := hc hE
    have hWo := Lib.hid (fun W => c_Rdigit c hc8 W)
    rw [wth_128 h1 hc8] at hWo
    have hWo : Hid (∀ W, Calls Tryz.prog 55 #[.int .u8 (c : Int)] W fun r w' => r = .returned (.int .i64 99) ∧ W = w') := hWo
    have hE3 : ((c : Int) == 36) = false := beq_eq_false_iff_ne.2 (by omega)
    have hE4 : ((c : Int) == 95) = false := beq_eq_false_iff_ne.2 (by omega)
    have hE5 : (128 : Int) ≤ (c : Int) := by omega
    clear h1
    go_wp2_with (go_at_call 55; refine (hWo.out _).mono ?_; rintro e w' ⟨rfl, rfl⟩)
    go_ret3
    exact ⟨rfl, hbD⟩
theorem c_RLiteralG (L : List Nat) (hL : ∀ c ∈ L, c < 256) (hl : L.length ≤ 800) {x n er : Nat} (h : LitR L x n er) (w : World) (hW : LibW w) :
    Calls Tryz.prog 21 #[.string (u8sG L)] w fun r w' => r = .returned (.tuple #[.float .f64 x, .int .i64 (n : Int), .int .i64 (er : Int)]) ∧ Below w.heap.size w w' := by
  have hrl : ∀ base, runL base (L.drop 2) ≤ L.length - 2 := fun base => by
    have := runL_le base (L.drop 2); rwa [List.length_drop] at this
  have hlen2 : 0 < preL L → 2 ≤ L.length := fun hp => by
    rcases Nat.lt_or_ge L.length 2 with h | h
    · exfalso
      have : preL L = 0 := by unfold preL; rw [if_neg (by omega)]
      omega
    · exact h
  cases h with
  | preZ hp hb hk => exact c_RLit_preZ L _ hL hl hp hb hk w
  | preB hp hb hk h0 h =>
    rename_i base k
    have := hrl base
    have := hlen2 (by omega)
    exact c_RLit_preB L _ _ hL hl hp hb hk h0 (endC_of (endF_of hL (by omega) false h)) w hW
  | pre hp hb hk h0 h =>
    rename_i base k
    have := hrl base
    have := hlen2 (by omega)
    exact c_RLit_pre L _ _ hL hl hp hb hk h0 (endC_of (endF_of hL (by omega) true h)) w hW
  | none hp hn => exact c_RLit_none L hL hl hp hn w
  | zero hp h0 h => exact c_RLit_deczB L 0 hL hl hp h0 h.1 h.2.1 h.2.2 w hW
  | bad hp h0 hz h =>
    obtain ⟨v, hd⟩ := dec_form hL h0
    have hE := endC_of (endF_of hL (decN_le L) false h)
    by_cases h1 : L.getD 0 0 = 48
    · by_cases h2 : decN L = 1
      · exact c_RLit_decbB L v hL hl hp h0 h1 h2 hd hE w hW
      · exact c_RLit_deccB L v hL hl hp h0 h1 (by omega) (fun h3 => hz ⟨h1, by omega, h3⟩) hd hE w hW
    · exact c_RLit_decaB L v hL hl hp h0 h1 hd hE w hW
  | ok hp h0 hz h hd =>
    have hE := endC_of (endF_of hL (decN_le L) true h)
    by_cases h1 : L.getD 0 0 = 48
    · by_cases h2 : decN L = 1
      · exact c_RLit_decb L x hL hl hp h0 h1 h2 hd hE w hW
      · exact c_RLit_decc L x hL hl hp h0 h1 (by omega) (fun h3 => hz ⟨h1, by omega, h3⟩) hd hE w hW
    · exact c_RLit_deca L x hL hl hp h0 h1 hd hE w hW
end Go.Proofs.YtbakbikilbaafaaGreatDoor
namespace Go.Proofs.YtbakbikilbaafaaGreatDoor
open Go.RowKit F64 Ieee
set_option linter.unusedVariables false
set_option maxHeartbeats 4000000
set_option maxRecDepth 100000

/-- is a number equal to itself? -/
def oE (x : Nat) : Bool := (FloatKind.f64.format.order x x == some Ordering.eq)
theorem v_bad (x : Nat) (w : World) : Calls Tryz.prog 120 #[.float .f64 x] w fun e w' => e = .returned (.bool (!oE x)) ∧ w' = w := by
  go_enter Tryz.func120, Tryz.ntmps120
  go_wp2
  go_ret
  exact ⟨rfl, rfl⟩
theorem v_bits (x : Nat) (w : World) : (callFunc 87 #[.float .f64 x]).run Tryz.prog w = .ok (.value (.int .u64 x)) w := by kernel_rfl
attribute [local go_sem] v_bits
theorem v_sign (x : Nat) : ∃ s : Bool, ∀ w : World, Calls Tryz.prog 121 #[.float .f64 x] w fun e w' => e = .returned (.bool s) ∧ w' = w := by
  refine ⟨decide (wrap64 (x : Int) < 0), fun w => ?_⟩
  go_enter Tryz.func121, Tryz.ntmps121
  go_wp2
  go_ret
  exact ⟨rfl, rfl⟩
theorem v_Same2 (x : Nat) (w : World) : Calls Tryz.prog 81 #[.float .f64 x, .float .f64 x, .int .i64 2] w fun e w' => e = .returned (.bool true) ∧ w' = w := by
  obtain ⟨s, hs⟩ := v_sign x
  have hb := v_bad x
  cases he : oE x with
  | true =>
    rw [he] at hb
    have he' : (FloatKind.f64.format.order x x == some Ordering.eq) = true := he
    replace hs := Lib.hid hs
    replace hb := Lib.hid hb
    clear he
    go_enter Tryz.func81, Tryz.ntmps81
    go_wp2_with (first | (go_at_call 120; refine (hb.out _).mono ?_; rintro e w1 ⟨rfl, rfl⟩) | (go_at_call 121; refine (hs.out _).mono ?_; rintro e w1 ⟨rfl, rfl⟩))
    go_ret
    exact ⟨by cases s <;> rfl, rfl⟩
  | false =>
    rw [he] at hb
    have he' : (FloatKind.f64.format.order x x == some Ordering.eq) = false := he
    replace hs := Lib.hid hs
    replace hb := Lib.hid hb
    clear he
    go_enter Tryz.func81, Tryz.ntmps81
    go_wp2_with (first | (go_at_call 120; refine (hb.out _).mono ?_; rintro e w1 ⟨rfl, rfl⟩) | (go_at_call 121; refine (hs.out _).mono ?_; rintro e w1 ⟨rfl, rfl⟩))
    go_ret
    exact ⟨rfl, rfl⟩
theorem c_RSame3 (x : Nat) (w : World) : Calls Tryz.prog 18 #[.float .f64 x, .float .f64 x] w fun e w' => e = .returned (.bool true) ∧ w = w' := by
  have h2 : ∀ W, Calls Tryz.prog 47 #[.float .f64 x, .float .f64 x] W fun e w' => e = .returned (.bool true) ∧ W = w' := fun W => by
    have hS := Lib.hid (fun W => v_Same2 x W)
    go_enter Tryz.func47, Tryz.ntmps47
    go_wp2_with (go_at_call 81; refine (hS.out _).mono ?_; rintro e w1 ⟨rfl, rfl⟩)
    go_ret
    exact ⟨rfl, rfl⟩
  replace h2 := Lib.hid h2
  go_enter Tryz.func18, Tryz.ntmps18
  go_wp2_with (go_at_call 47; refine (h2.out _).mono ?_; rintro e w1 ⟨rfl, rfl⟩)
  go_ret
  exact ⟨rfl, rfl⟩
theorem bytes_uG (s : ByteArray) : ∃ L : List Nat, s = u8sG L ∧ (∀ c ∈ L, c < 256) ∧ L.length = s.size := by
  refine ⟨s.data.toList.map UInt8.toNat, ?_, ?_, by rw [List.length_map, Array.length_toList]; rfl⟩
  · rw [← uG_mk]
  · intro c hc
    obtain ⟨b, -, rfl⟩ := List.mem_map.1 hc
    exact b.toNat_lt
theorem c_LLiterals (s : ByteArray) (w : World) (hL : LibW w) : Calls Tryz.prog 7 #[.string s] w fun e w' => e = .returned (.bool true) ∧ Below w.heap.size w w' := by
  have hA := Lib.hid (c_awake3 w hL)
  by_cases hg : 800 < s.size
  · have hg2 : 800 < (s.size : Int) := by omega
    go_enter Tryz.func7, Tryz.ntmps7
    go_wp2_with fail
    refine hA.out.mono ?_
    rintro e w1 ⟨rfl, b1⟩
    go_wp2_with fail
    go_ret
    exact ⟨rfl, b1⟩
  · have hg2 : ¬ 800 < (s.size : Int) := by omega
    obtain ⟨L, hs, hL256, hlen⟩ := bytes_uG s
    obtain ⟨x, n, er, hR⟩ := litR_ex L hL256
    have h1 := Lib.hid (fun W hW => c_dLiteralG L hL256 (by omega) hR W hW)
    have h2 := Lib.hid (fun W hW => c_RLiteralG L hL256 (by omega) hR W hW)
    rw [← hs] at h1 h2
    have hLk := Lib.hid (fun W (hb : Below w.heap.size w W) => hL.keep hb)
    have hS := Lib.hid (fun W => c_RSame3 x W)
    replace hL := Lib.hid hL
    clear hR hs hL256 hlen
    have hn : ((n : Int) == (n : Int)) = true := by simp
    have he : ((er : Int) == (er : Int)) = true := by simp
    go_enter Tryz.func7, Tryz.ntmps7
    go_wp2_with fail
    refine hA.out.mono ?_
    rintro e w1 ⟨rfl, b1⟩
    go_wp2_with fail
    refine (h1.out _ (hLk.out _ b1)).mono ?_
    rintro e w2 ⟨rfl, b2⟩
    have c2 := b1.trans (b2.mono b1.size)
    clear b1 b2
    go_wp2_with fail
    refine (h2.out _ (hLk.out _ c2)).mono ?_
    rintro e w3 ⟨rfl, b3⟩
    have c3 := c2.trans (b3.mono c2.size)
    clear c2 b3
    go_wp2_with (go_at_call 18; refine (hS.out _).mono ?_; rintro e w' ⟨rfl, rfl⟩)
    go_ret
    exact ⟨rfl, c3⟩
end Go.Proofs.YtbakbikilbaafaaGreatDoor

/-
  Contracts: The contract of the reference's Read, at any text (printed by gen_XYJ.py). The contract of DigitsShow. The contract of DigitsBlanks. The contracts of DigitsReads and DigitsLiterals.
-/
import Derived.Test.YtbakbikilbaafaaGreatDoorP20
import Derived.Test.YtbakbikilbaafaaGreatDoorP14
namespace Go.Proofs.YtbakbikilbaafaaGreatDoor
open Go.RowKit F64 Ieee
set_option linter.unusedVariables false
set_option maxHeartbeats 4000000
set_option maxRecDepth 100000

/-- bytes above 126 as 127 -/
def mnL (l : List Nat) : List Nat := l.map fun c => min c 127
theorem mn_as (us : List Nat) : mnL (asL us) = plL us := by
  unfold mnL asL plL
  rw [List.map_map]
  apply List.map_congr_left
  intro u _
  simp only [Function.comp, asU]
  split
  · omega
  · rfl
theorem mn_getD (l : List Nat) (i : Nat) : (mnL l).getD i 0 = min (l.getD i 0) 127 := by
  unfold mnL
  rw [List.getD_eq_getElem?_getD, List.getD_eq_getElem?_getD, List.getElem?_map]
  cases l[i]? <;> simp
theorem mn_len (l : List Nat) : (mnL l).length = l.length := by simp [mnL]
theorem mn_drop (l : List Nat) (i : Nat) : mnL (l.drop i) = (mnL l).drop i := by simp [mnL, List.map_drop]
theorem wth_min {c : Nat} (hc : c < 256) : wth (min c 127) = wth c := by
  have all : ∀ c : Fin 256, wth (min c.val 127) = wth c.val := by decide +kernel
  exact all ⟨c, hc⟩
theorem min_or {c : Nat} (hc : c < 256) : ((min c 127) ||| 32 = 120 ↔ c ||| 32 = 120) ∧ ((min c 127) ||| 32 = 111 ↔ c ||| 32 = 111) ∧ ((min c 127) ||| 32 = 98 ↔ c ||| 32 = 98) ∧ ((min c 127) ||| 32 = 101 ↔ c ||| 32 = 101) ∧ (min c 127 = 48 ↔ c = 48) ∧ (min c 127 = 46 ↔ c = 46) ∧ (min c 127 = 43 ↔ c = 43) ∧ (min c 127 = 45 ↔ c = 45) := by
  have all : ∀ c : Fin 256, ((min c.val 127) ||| 32 = 120 ↔ c.val ||| 32 = 120) ∧ ((min c.val 127) ||| 32 = 111 ↔ c.val ||| 32 = 111) ∧ ((min c.val 127) ||| 32 = 98 ↔ c.val ||| 32 = 98) ∧ ((min c.val 127) ||| 32 = 101 ↔ c.val ||| 32 = 101) ∧ (min c.val 127 = 48 ↔ c.val = 48) ∧ (min c.val 127 = 46 ↔ c.val = 46) ∧ (min c.val 127 = 43 ↔ c.val = 43) ∧ (min c.val 127 = 45 ↔ c.val = 45) := by decide +kernel
  exact all ⟨c, hc⟩
theorem getD_256 {l : List Nat} (h : ∀ c ∈ l, c < 256) (i : Nat) : l.getD i 0 < 256 := by
  rw [List.getD_eq_getElem?_getD]
  cases hx : l[i]? with
  | none => decide
  | some c => exact h c (List.mem_of_getElem? hx)
theorem mn_pre {l : List Nat} (h : ∀ c ∈ l, c < 256) : preL (mnL l) = preL l := by
  unfold preL
  rw [mn_getD, mn_getD, mn_len]
  obtain ⟨-, -, -, -, a5, -⟩ := min_or (getD_256 h 0)
  obtain ⟨a1, a2, a3, -⟩ := min_or (getD_256 h 1)
  simp only [a5, a1, a2, a3]
theorem mn_run (n : Nat) : ∀ {l : List Nat}, (∀ c ∈ l, c < 256) → runL n (mnL l) = runL n l
  | [], _ => rfl
  | c :: l, h => by
    have ih := mn_run n (fun x hx => h x (List.mem_cons_of_mem c hx))
    unfold runL mnL at ih ⊢
    rw [List.map_cons, List.takeWhile_cons, List.takeWhile_cons, wth_min (h c (List.mem_cons_self ..))]
    split
    · simp only [List.length_cons]; rw [ih]
    · rfl
theorem mn_runD (n i : Nat) {l : List Nat} (h : ∀ c ∈ l, c < 256) : runL n ((mnL l).drop i) = runL n (l.drop i) := by
  rw [← mn_drop]; exact mn_run n (fun c hc => h c (List.mem_of_mem_drop hc))
theorem mn_decM {l : List Nat} (h : ∀ c ∈ l, c < 256) (n : Nat) : decM (mnL l) n = decM l n := by
  unfold decM
  rw [mn_getD]
  obtain ⟨-, -, -, -, -, -, a7, a8⟩ := min_or (getD_256 h (n + 1))
  simp only [a7, a8]
theorem mn_decE {l : List Nat} (h : ∀ c ∈ l, c < 256) (n : Nat) : decE (mnL l) n = decE l n := by
  unfold decE
  rw [mn_getD, mn_decM h, mn_runD 10 _ h]
  obtain ⟨-, -, -, a4, -⟩ := min_or (getD_256 h n)
  simp only [a4]
theorem mn_decN {l : List Nat} (h : ∀ c ∈ l, c < 256) : decN (mnL l) = decN l := by
  unfold decN
  rw [mn_run 10 h, mn_getD, mn_runD 10 _ h, mn_decE h, mn_decE h]
  obtain ⟨-, -, -, -, -, a6, -⟩ := min_or (getD_256 h (runL 10 l))
  simp only [a6]
theorem mn_id : ∀ {l : List Nat}, (∀ c ∈ mnL l, c < 127) → mnL l = l
  | [], _ => rfl
  | c :: l, h => by
    have ih := mn_id (l := l) (fun x hx => h x (List.mem_cons_of_mem _ hx))
    have hc : min c 127 < 127 := h _ (List.mem_cons_self ..)
    show min c 127 :: mnL l = c :: l
    rw [ih, show min c 127 = c by omega]
theorem mn_sgn {l : List Nat} (h : ∀ c ∈ l, c < 256) : (sgnL (mnL l)).2 = mnL (sgnL l).2 ∧ ngL (mnL l) = ngL l := by
  cases l with
  | nil => exact ⟨rfl, rfl⟩
  | cons c M =>
    obtain ⟨-, -, -, -, -, -, a7, a8⟩ := min_or (h c (List.mem_cons_self ..))
    have e : mnL (c :: M) = min c 127 :: mnL M := rfl
    rw [e]
    constructor
    · rw [show sgnL (min c 127 :: mnL M) = if min c 127 = 45 then (13830554455654793216, mnL M) else if min c 127 = 43 then (4607182418800017408, mnL M) else (4607182418800017408, min c 127 :: mnL M) from rfl,
        show sgnL (c :: M) = if c = 45 then (13830554455654793216, M) else if c = 43 then (4607182418800017408, M) else (4607182418800017408, c :: M) from rfl]
      simp only [a7, a8]
      split
      · rfl
      · split
        · rfl
        · exact e.symm
    · unfold ngL
      simp only [List.head?_cons, Option.some.injEq, a8]
theorem dc_mem {T : List Nat} {v : Nat} (h : DcT T v) : ∀ c ∈ T, c < 127 := by
  obtain ⟨ws, ps, pt, hw, hp, hpt, hne, hT⟩ := h
  have hm : ∀ c ∈ mantL ws ps pt, c < 127 := fun c hc => by
    rcases dFv hw hp c hc with h | h <;> omega
  rcases hT with ⟨rfl, -⟩ | ⟨e, sg, es, neg, he, hsg, hen, hes, rfl, -⟩
  · exact hm
  · intro c hc
    rcases List.mem_append.1 hc with hc | hc
    · exact hm c hc
    · rcases List.mem_cons.1 hc with rfl | hc
      · omega
      · rcases List.mem_append.1 hc with hc | hc
        · rcases hsg with ⟨rfl, -⟩ | ⟨rfl, -⟩ | ⟨rfl, -⟩ <;> simp at hc <;> omega
        · have := hes c hc; omega
theorem run_lt127 {base : Nat} {l : List Nat} (hb : base ≤ 36) (h : ∀ c ∈ l, c < 256) (hl : ∀ c ∈ l, wth c < base) : ∀ c ∈ l, c < 127 := by
  intro c hc
  have all : ∀ c : Fin 256, wth c.val < 36 → c.val < 127 := by decide +kernel
  exact all ⟨c, h c hc⟩ (by have := hl c hc; show wth c < 36; omega)
theorem run_all {base : Nat} {l : List Nat} (h : runL base l = l.length) : ∀ c ∈ l, wth c < base := fun c hc => by
  have e : l.take (runL base l) = l := by rw [h, List.take_length]
  rw [← e] at hc
  exact run_mem c hc
theorem mn_read {A : List Nat} {r : Nat} (h256 : ∀ c ∈ A, c < 256) (h : ReadR (mnL A) r) : ReadR A r := by
  have hS := mn_sgn h256
  have h256s : ∀ c ∈ (sgnL A).2, c < 256 := fun c hc => h256 c (sgnL_mem c hc)
  have h256d : ∀ c ∈ A.drop 2, c < 256 := fun c hc => h256 c (List.mem_of_mem_drop hc)
  generalize hM : mnL A = M at h
  have hlen : M.length = A.length := by rw [← hM, mn_len]
  cases h with
  | nil =>
    have : A = [] := List.length_eq_zero_iff.1 (by rw [← hlen]; rfl)
    subst this; exact .nil
  | pre hp hb hrun hl =>
    rename_i base
    subst hM
    have hb2 := preL_le (mnL A)
    rw [hp] at hb2
    rw [mn_pre h256] at hp
    have hall : ∀ c ∈ (mnL A).drop 2, wth c < base := run_all (by rw [hrun, List.length_drop])
    have hid : mnL (A.drop 2) = A.drop 2 := mn_id (by
      rw [mn_drop]
      exact run_lt127 (by omega) (fun c hc => by
        have := List.mem_of_mem_drop hc
        unfold mnL at this
        obtain ⟨x, -, rfl⟩ := List.mem_map.1 this
        omega) hall)
    rw [← mn_drop, hid]
    rw [mn_runD base 2 h256, hlen] at hrun
    rw [hlen] at hl
    exact .pre hp hb hrun hl
  | preN hp hb h =>
    subst hM
    rw [mn_pre h256] at hp
    rw [mn_runD _ 2 h256, hlen] at h
    exact .preN hp hb h
  | inf h0 hp hi =>
    subst hM
    rw [mn_pre h256] at hp
    rw [hS.1] at hi
    rw [hS.2]
    have hid : mnL (sgnL A).2 = (sgnL A).2 := mn_id (by rw [hi]; decide)
    rw [hid] at hi
    exact .inf (fun h => h0 (by rw [h]; rfl)) hp hi
  | dec h0 hp hi hd =>
    subst hM
    rw [mn_pre h256] at hp
    rw [hS.1] at hi hd
    rw [hS.2]
    have hid : mnL (sgnL A).2 = (sgnL A).2 := mn_id (dc_mem hd)
    rw [hid] at hi hd
    exact .dec (fun h => h0 (by rw [h]; rfl)) hp hi hd
  | nan h0 hp hi h =>
    subst hM
    rw [mn_pre h256] at hp
    rw [hS.1] at hi h
    rw [mn_decN h256s, mn_len] at h
    refine .nan (fun h => h0 (by rw [h]; rfl)) hp (fun g => hi ?_) h
    rw [g]; decide
theorem c_RRead_nil (s : ByteArray) (k t : Nat) (L : List Nat) (base v : Nat) (hs : s.size ≤ 1099511627776) (hF : FrA (blkS s) (s.size / 2) k) (hT : BkA (blkS s) k (s.size / 2) t)
    (hLe : asL (unitsN (s.extract (2 * k) (2 * t)) ((s.extract (2 * k) (2 * t)).size / 2)) = L) (hL : ∀ c ∈ L, c < 256) (hl : L.length ≤ 8000) (hL0 : L = []) (w : World) (hW : LibW w) :
    Calls Tryz.prog 20 #[.string s] w fun r w' => r = .returned (.float .f64 0) ∧ Below w.heap.size w w' := by
  have hTr := Lib.hid (fun W => c_RTrim s k t hs hF hT W)
  have hsz2 : (s.extract (2 * k) (2 * t)).size ≤ 1099511627776 := by rw [ByteArray.size_extract]; omega
  have hPl := Lib.hid (fun W => c_Rascii (s.extract (2 * k) (2 * t)) hsz2 W)
  rw [hLe] at hPl
  have hLk := Lib.hid (fun W (hb : Below w.heap.size w W) => hW.keep hb)
  obtain ⟨hem, hem2⟩ := u_empty L
  have hsz : (u8sG L).size = L.length := uG_size L
  replace hem := hem.trans (decide_eq_true hL0)
  replace hem2 := hem2.trans (decide_eq_true hL0)
  clear hF hT hLe hL hl hsz hsz2 hL0 hW
  generalize u8sG L = S at *
  generalize s.extract (2 * k) (2 * t) = T at *
  go_enter Tryz.func20, Tryz.ntmps20
  go_wp2_with fail
  refine (hTr.out _).mono ?_
  rintro e w1 ⟨rfl, hb1⟩
  go_wp2_with fail
  refine (hPl.out _).mono ?_
  rintro e w2 ⟨rfl, hb2'⟩
  have hbA : Below w.heap.size w w2 := hb1.trans (hb2'.mono hb1.size)
  clear hb2' hb1
  go_wp2_with fail
  go_ret
  exact ⟨rfl, hbA⟩
theorem c_RRead_pre (s : ByteArray) (k t : Nat) (L : List Nat) (base v : Nat) (hs : s.size ≤ 1099511627776) (hF : FrA (blkS s) (s.size / 2) k) (hT : BkA (blkS s) k (s.size / 2) t)
    (hLe : asL (unitsN (s.extract (2 * k) (2 * t)) ((s.extract (2 * k) (2 * t)).size / 2)) = L) (hL : ∀ c ∈ L, c < 256) (hl : L.length ≤ 8000) (hpre : preL L = base) (hb : 0 < base) (hrun : runL base (L.drop 2) = L.length - 2) (hl2 : 2 < L.length) (w : World) (hW : LibW w) :
    Calls Tryz.prog 20 #[.string s] w fun r w' => r = .returned (.float .f64 (nN (numB base (L.drop 2)))) ∧ Below w.heap.size w w' := by
  have hTr := Lib.hid (fun W => c_RTrim s k t hs hF hT W)
  have hsz2 : (s.extract (2 * k) (2 * t)).size ≤ 1099511627776 := by rw [ByteArray.size_extract]; omega
  have hPl := Lib.hid (fun W => c_Rascii (s.extract (2 * k) (2 * t)) hsz2 W)
  rw [hLe] at hPl
  have hLk := Lib.hid (fun W (hb : Below w.heap.size w W) => hW.keep hb)
  obtain ⟨hem, hem2⟩ := u_empty L
  have hsz : (u8sG L).size = L.length := uG_size L
  have h2 : 2 ≤ L.length := by
    rcases Nat.lt_or_ge L.length 2 with h | h
    · exfalso
      have : preL L = 0 := by unfold preL; rw [if_neg (by omega)]
      omega
    · exact h
  have h0 : L ≠ [] := fun h => by rw [h] at h2; simp at h2
  replace hem := hem.trans (decide_eq_false h0)
  replace hem2 := hem2.trans (decide_eq_false h0)
  have hPr := Lib.hid (fun W => c_Rprefixed L hL (by omega) W)
  have hbase := preL_le L
  rw [hpre] at hPr hbase
  have hRu := Lib.hid (fun W => c_Rrun L hL 2 base (by omega) (by omega) W)
  have hrl := runL_le base (L.drop 2)
  rw [List.length_drop] at hrl
  have hs3 : 2 ≤ (u8sG L).size := by omega
  have hs4 : (2 : Int) ≤ ((u8sG L).size : Int) := by omega
  have hs5 : (u8sG L).size ≤ 10000 := by omega
  have hs0 : (0 : Int) < ((u8sG L).size : Int) := by omega
  have hbI : (0 : Int) < (base : Int) := by omega
  have hex : (u8sG L).extract 2 (u8sG L).size = u8sG (L.drop 2) := by
    rw [uG_ext, hsz, List.take_length]
  have hX := Lib.hid (fun W hW => W3.c_Rnearest (L.drop 2) base (by omega) (by omega) (fun c hc => ⟨hL c (List.mem_of_mem_drop hc), run_all (by rw [hrun, List.length_drop]) c hc⟩) (by rw [List.length_drop]; omega) W hW)
  rw [hrun] at hRu
  have hRu : Hid (∀ W, Calls Tryz.prog 51 #[.string (u8sG L), .int .i64 2, .int .i64 (base : Int)] W fun r w' => r = .returned (.int .i64 ((L.length - 2 : Nat) : Int)) ∧ W = w') := hRu
  rw [show ((L.length - 2 : Nat) : Int) = (L.length : Int) - 2 by omega, ← hsz] at hRu
  have hs6 : (0 : Int) < ((u8sG L).size : Int) - 2 := by omega
  have hs7 : ((2 : Int) + (((u8sG L).size : Int) - 2) == ((u8sG L).size : Int)) = true := by simp; omega
  generalize hV : nN (numB base (L.drop 2)) = V at *
  clear hV hrl hrun
  generalize u8sG (L.drop 2) = D at *
  clear hF hT hLe hL hl hpre hsz hsz2 hb h2 h0 hbase hW hl2
  generalize u8sG L = S at *
  generalize s.extract (2 * k) (2 * t) = T at *
  go_enter Tryz.func20, Tryz.ntmps20
  go_wp2_with fail
  refine (hTr.out _).mono ?_
  rintro e w1 ⟨rfl, hb1⟩
  go_wp2_with fail
  refine (hPl.out _).mono ?_
  rintro e w2 ⟨rfl, hb2'⟩
  have hbA : Below w.heap.size w w2 := hb1.trans (hb2'.mono hb1.size)
  clear hb2' hb1
  go_wp2_with fail
  refine (hPr.out _).mono ?_
  rintro e w3 ⟨rfl, rfl⟩
  go_wp2_with fail
  refine (hRu.out _).mono ?_
  rintro e w5 ⟨rfl, rfl⟩
  go_wp2_with fail
  refine (hX.out _ (hLk.out _ hbA)).mono ?_
  rintro e w6 ⟨rfl, hb6⟩
  have hbE : Below w.heap.size w w6 := hbA.trans (hb6.mono hbA.size)
  go_wp2_with fail
  go_ret
  exact ⟨rfl, hbE⟩
theorem c_RRead_preZ (s : ByteArray) (k t : Nat) (L : List Nat) (base v : Nat) (hs : s.size ≤ 1099511627776) (hF : FrA (blkS s) (s.size / 2) k) (hT : BkA (blkS s) k (s.size / 2) t)
    (hLe : asL (unitsN (s.extract (2 * k) (2 * t)) ((s.extract (2 * k) (2 * t)).size / 2)) = L) (hL : ∀ c ∈ L, c < 256) (hl : L.length ≤ 8000) (hpre : preL L = base) (hb : 0 < base) (hrun : runL base (L.drop 2) = 0) (w : World) (hW : LibW w) :
    Calls Tryz.prog 20 #[.string s] w fun r w' => r = .returned (.float .f64 nanW) ∧ Below w.heap.size w w' := by
  have hTr := Lib.hid (fun W => c_RTrim s k t hs hF hT W)
  have hsz2 : (s.extract (2 * k) (2 * t)).size ≤ 1099511627776 := by rw [ByteArray.size_extract]; omega
  have hPl := Lib.hid (fun W => c_Rascii (s.extract (2 * k) (2 * t)) hsz2 W)
  rw [hLe] at hPl
  have hLk := Lib.hid (fun W (hb : Below w.heap.size w W) => hW.keep hb)
  obtain ⟨hem, hem2⟩ := u_empty L
  have hsz : (u8sG L).size = L.length := uG_size L
  have h2 : 2 ≤ L.length := by
    rcases Nat.lt_or_ge L.length 2 with h | h
    · exfalso
      have : preL L = 0 := by unfold preL; rw [if_neg (by omega)]
      omega
    · exact h
  have h0 : L ≠ [] := fun h => by rw [h] at h2; simp at h2
  replace hem := hem.trans (decide_eq_false h0)
  replace hem2 := hem2.trans (decide_eq_false h0)
  have hPr := Lib.hid (fun W => c_Rprefixed L hL (by omega) W)
  have hbase := preL_le L
  rw [hpre] at hPr hbase
  have hRu := Lib.hid (fun W => c_Rrun L hL 2 base (by omega) (by omega) W)
  have hrl := runL_le base (L.drop 2)
  rw [List.length_drop] at hrl
  have hs3 : 2 ≤ (u8sG L).size := by omega
  have hs4 : (2 : Int) ≤ ((u8sG L).size : Int) := by omega
  have hs5 : (u8sG L).size ≤ 10000 := by omega
  have hs0 : (0 : Int) < ((u8sG L).size : Int) := by omega
  have hbI : (0 : Int) < (base : Int) := by omega
  rw [hrun] at hRu
  have hRu : Hid (∀ W, Calls Tryz.prog 51 #[.string (u8sG L), .int .i64 2, .int .i64 (base : Int)] W fun r w' => r = .returned (.int .i64 0) ∧ W = w') := hRu
  clear hrl hrun
  clear hF hT hLe hL hl hpre hsz hsz2 hb h2 h0 hbase hW
  generalize u8sG L = S at *
  generalize s.extract (2 * k) (2 * t) = T at *
  go_enter Tryz.func20, Tryz.ntmps20
  go_wp2_with fail
  refine (hTr.out _).mono ?_
  rintro e w1 ⟨rfl, hb1⟩
  go_wp2_with fail
  refine (hPl.out _).mono ?_
  rintro e w2 ⟨rfl, hb2'⟩
  have hbA : Below w.heap.size w w2 := hb1.trans (hb2'.mono hb1.size)
  clear hb2' hb1
  go_wp2_with fail
  refine (hPr.out _).mono ?_
  rintro e w3 ⟨rfl, rfl⟩
  go_wp2_with fail
  refine (hRu.out _).mono ?_
  rintro e w5 ⟨rfl, rfl⟩
  go_wp2_with (go_at_call 41; refine (c_mNaN _).mono ?_; rintro e w' ⟨rfl, rfl⟩)
  go_ret
  exact ⟨rfl, hbA⟩
theorem c_RRead_preN (s : ByteArray) (k t : Nat) (L : List Nat) (base v : Nat) (hs : s.size ≤ 1099511627776) (hF : FrA (blkS s) (s.size / 2) k) (hT : BkA (blkS s) k (s.size / 2) t)
    (hLe : asL (unitsN (s.extract (2 * k) (2 * t)) ((s.extract (2 * k) (2 * t)).size / 2)) = L) (hL : ∀ c ∈ L, c < 256) (hl : L.length ≤ 8000) (hpre : preL L = base) (hb : 0 < base) (hrun0 : 0 < runL base (L.drop 2)) (hrun : ¬ runL base (L.drop 2) = L.length - 2) (w : World) (hW : LibW w) :
    Calls Tryz.prog 20 #[.string s] w fun r w' => r = .returned (.float .f64 nanW) ∧ Below w.heap.size w w' := by
  have hTr := Lib.hid (fun W => c_RTrim s k t hs hF hT W)
  have hsz2 : (s.extract (2 * k) (2 * t)).size ≤ 1099511627776 := by rw [ByteArray.size_extract]; omega
  have hPl := Lib.hid (fun W => c_Rascii (s.extract (2 * k) (2 * t)) hsz2 W)
  rw [hLe] at hPl
  have hLk := Lib.hid (fun W (hb : Below w.heap.size w W) => hW.keep hb)
  obtain ⟨hem, hem2⟩ := u_empty L
  have hsz : (u8sG L).size = L.length := uG_size L
  have h2 : 2 ≤ L.length := by
    rcases Nat.lt_or_ge L.length 2 with h | h
    · exfalso
      have : preL L = 0 := by unfold preL; rw [if_neg (by omega)]
      omega
    · exact h
  have h0 : L ≠ [] := fun h => by rw [h] at h2; simp at h2
  replace hem := hem.trans (decide_eq_false h0)
  replace hem2 := hem2.trans (decide_eq_false h0)
  have hPr := Lib.hid (fun W => c_Rprefixed L hL (by omega) W)
  have hbase := preL_le L
  rw [hpre] at hPr hbase
  have hRu := Lib.hid (fun W => c_Rrun L hL 2 base (by omega) (by omega) W)
  have hrl := runL_le base (L.drop 2)
  rw [List.length_drop] at hrl
  have hs3 : 2 ≤ (u8sG L).size := by omega
  have hs4 : (2 : Int) ≤ ((u8sG L).size : Int) := by omega
  have hs5 : (u8sG L).size ≤ 10000 := by omega
  have hs0 : (0 : Int) < ((u8sG L).size : Int) := by omega
  have hbI : (0 : Int) < (base : Int) := by omega
  have n1 : ((2 : Int) + (runL base (L.drop 2) : Int) == ((u8sG L).size : Int)) = false := beq_eq_false_iff_ne.2 (by omega)
  have n0 : (0 : Int) < (runL base (L.drop 2) : Int) := by omega
  have hrb : runL base (L.drop 2) ≤ 8000 := by omega
  generalize runL base (L.drop 2) = R at *
  clear hrl hrun hrun0
  clear hF hT hLe hL hl hpre hsz hsz2 hb h2 h0 hbase hW
  generalize u8sG L = S at *
  generalize s.extract (2 * k) (2 * t) = T at *
  go_enter Tryz.func20, Tryz.ntmps20
  go_wp2_with fail
  refine (hTr.out _).mono ?_
  rintro e w1 ⟨rfl, hb1⟩
  go_wp2_with fail
  refine (hPl.out _).mono ?_
  rintro e w2 ⟨rfl, hb2'⟩
  have hbA : Below w.heap.size w w2 := hb1.trans (hb2'.mono hb1.size)
  clear hb2' hb1
  go_wp2_with fail
  refine (hPr.out _).mono ?_
  rintro e w3 ⟨rfl, rfl⟩
  go_wp2_with fail
  refine (hRu.out _).mono ?_
  rintro e w5 ⟨rfl, rfl⟩
  go_wp2_with (go_at_call 41; refine (c_mNaN _).mono ?_; rintro e w' ⟨rfl, rfl⟩)
  go_ret
  exact ⟨rfl, hbA⟩
theorem c_RRead_inf_43 (s : ByteArray) (k t : Nat) (L : List Nat) (base v : Nat) (hs : s.size ≤ 1099511627776) (hF : FrA (blkS s) (s.size / 2) k) (hT : BkA (blkS s) k (s.size / 2) t)
    (hLe : asL (unitsN (s.extract (2 * k) (2 * t)) ((s.extract (2 * k) (2 * t)).size / 2)) = L) (hL : ∀ c ∈ L, c < 256) (hl : L.length ≤ 8000) (D M : List Nat) (ng : Bool) (hLM : L = 43 :: D) (hng : ng = false) (hpre : preL L = 0) (hi : D = infT) (w : World) (hW : LibW w) :
    Calls Tryz.prog 20 #[.string s] w fun r w' => r = .returned (.float .f64 (sgW ng 9218868437227405312)) ∧ Below w.heap.size w w' := by
  have hTr := Lib.hid (fun W => c_RTrim s k t hs hF hT W)
  have hsz2 : (s.extract (2 * k) (2 * t)).size ≤ 1099511627776 := by rw [ByteArray.size_extract]; omega
  have hPl := Lib.hid (fun W => c_Rascii (s.extract (2 * k) (2 * t)) hsz2 W)
  rw [hLe] at hPl
  have hLk := Lib.hid (fun W (hb : Below w.heap.size w W) => hW.keep hb)
  obtain ⟨hem, hem2⟩ := u_empty L
  have hsz : (u8sG L).size = L.length := uG_size L
  have h0 : L ≠ [] := by rw [hLM]; simp
  have hlp : 1 ≤ L.length := List.length_pos_iff.2 h0
  replace hem := hem.trans (decide_eq_false h0)
  replace hem2 := hem2.trans (decide_eq_false h0)
  have hPr := Lib.hid (fun W => c_Rprefixed L hL (by omega) W)
  rw [hpre] at hPr
  have hPr : Hid (∀ W, Calls Tryz.prog 50 #[.string (u8sG L)] W fun r w' => r = .returned (.int .i64 0) ∧ W = w') := hPr
  have hs0 : 0 < (u8sG L).size := by omega
  have hs0I : (0 : Int) < ((u8sG L).size : Int) := by omega
  have hs1I : (1 : Int) ≤ ((u8sG L).size : Int) := by omega
  have hs5 : (u8sG L).size ≤ 8000 := by omega
  have hg0 := uG_get L 0 43 (by rw [hLM]; rfl) (by decide) hs0
  have hex : (u8sG L).extract 1 (u8sG L).size = u8sG D := by
    rw [uG_ext, hsz, List.take_length, hLM]; rfl
  have hDm : ∀ c ∈ D, c < 256 := fun c hc => hL c (by rw [hLM]; exact List.mem_cons_of_mem _ hc)
  have hDl : D.length ≤ 8000 := by rw [hLM, List.length_cons] at hl; omega
  have hDe := Lib.hid (fun W => c_Rdecimal D hDm (by omega) W)
  have hqi := u_inf D hDm
  have hTz : (u8sG D).size = D.length := uG_size _
  have hT5 : (u8sG D).size ≤ 8000 := by omega
  replace hqi := hqi.trans (decide_eq_true hi)
  have hm := fun w => run_float_arith (P := Tryz.prog) w .mul 22 .f64 (oneB ng) 9218868437227405312 (sgW ng 9218868437227405312) (mul_sg ng (Nat.le_refl _))
  rw [show oneB ng = 4607182418800017408 by rw [hng]; rfl] at hm
  generalize hV : sgW ng 9218868437227405312 = V at *
  clear hV hDe
  clear hF hT hLe hL hl hpre hsz hsz2 h0 hi hDm hDl hTz hW hlp hng hLM
  replace hex := Lib.hid hex
  generalize u8sG D = DD at *
  generalize u8sG L = S at *
  replace hex := hex.out
  generalize s.extract (2 * k) (2 * t) = T at *
  go_enter Tryz.func20, Tryz.ntmps20
  go_wp2_with fail
  refine (hTr.out _).mono ?_
  rintro e w1 ⟨rfl, hb1⟩
  go_wp2_with fail
  refine (hPl.out _).mono ?_
  rintro e w2 ⟨rfl, hb2'⟩
  have hbA : Below w.heap.size w w2 := hb1.trans (hb2'.mono hb1.size)
  clear hb2' hb1
  go_wp2_with fail
  refine (hPr.out _).mono ?_
  rintro e w3 ⟨rfl, rfl⟩
  go_wp2_with (go_at_call 44; refine (c_mInf _).mono ?_; rintro e w' ⟨rfl, rfl⟩)
  go_ret
  exact ⟨rfl, hbA⟩
theorem c_RRead_inf_45 (s : ByteArray) (k t : Nat) (L : List Nat) (base v : Nat) (hs : s.size ≤ 1099511627776) (hF : FrA (blkS s) (s.size / 2) k) (hT : BkA (blkS s) k (s.size / 2) t)
    (hLe : asL (unitsN (s.extract (2 * k) (2 * t)) ((s.extract (2 * k) (2 * t)).size / 2)) = L) (hL : ∀ c ∈ L, c < 256) (hl : L.length ≤ 8000) (D M : List Nat) (ng : Bool) (hLM : L = 45 :: D) (hng : ng = true) (hpre : preL L = 0) (hi : D = infT) (w : World) (hW : LibW w) :
    Calls Tryz.prog 20 #[.string s] w fun r w' => r = .returned (.float .f64 (sgW ng 9218868437227405312)) ∧ Below w.heap.size w w' := by
  have hTr := Lib.hid (fun W => c_RTrim s k t hs hF hT W)
  have hsz2 : (s.extract (2 * k) (2 * t)).size ≤ 1099511627776 := by rw [ByteArray.size_extract]; omega
  have hPl := Lib.hid (fun W => c_Rascii (s.extract (2 * k) (2 * t)) hsz2 W)
  rw [hLe] at hPl
  have hLk := Lib.hid (fun W (hb : Below w.heap.size w W) => hW.keep hb)
  obtain ⟨hem, hem2⟩ := u_empty L
  have hsz : (u8sG L).size = L.length := uG_size L
  have h0 : L ≠ [] := by rw [hLM]; simp
  have hlp : 1 ≤ L.length := List.length_pos_iff.2 h0
  replace hem := hem.trans (decide_eq_false h0)
  replace hem2 := hem2.trans (decide_eq_false h0)
  have hPr := Lib.hid (fun W => c_Rprefixed L hL (by omega) W)
  rw [hpre] at hPr
  have hPr : Hid (∀ W, Calls Tryz.prog 50 #[.string (u8sG L)] W fun r w' => r = .returned (.int .i64 0) ∧ W = w') := hPr
  have hs0 : 0 < (u8sG L).size := by omega
  have hs0I : (0 : Int) < ((u8sG L).size : Int) := by omega
  have hs1I : (1 : Int) ≤ ((u8sG L).size : Int) := by omega
  have hs5 : (u8sG L).size ≤ 8000 := by omega
  have hg0 := uG_get L 0 45 (by rw [hLM]; rfl) (by decide) hs0
  have hex : (u8sG L).extract 1 (u8sG L).size = u8sG D := by
    rw [uG_ext, hsz, List.take_length, hLM]; rfl
  have hDm : ∀ c ∈ D, c < 256 := fun c hc => hL c (by rw [hLM]; exact List.mem_cons_of_mem _ hc)
  have hDl : D.length ≤ 8000 := by rw [hLM, List.length_cons] at hl; omega
  have hDe := Lib.hid (fun W => c_Rdecimal D hDm (by omega) W)
  have hqi := u_inf D hDm
  have hTz : (u8sG D).size = D.length := uG_size _
  have hT5 : (u8sG D).size ≤ 8000 := by omega
  replace hqi := hqi.trans (decide_eq_true hi)
  have hm := fun w => run_float_arith (P := Tryz.prog) w .mul 22 .f64 (oneB ng) 9218868437227405312 (sgW ng 9218868437227405312) (mul_sg ng (Nat.le_refl _))
  rw [show oneB ng = 13830554455654793216 by rw [hng]; rfl] at hm
  generalize hV : sgW ng 9218868437227405312 = V at *
  clear hV hDe
  clear hF hT hLe hL hl hpre hsz hsz2 h0 hi hDm hDl hTz hW hlp hng hLM
  replace hex := Lib.hid hex
  generalize u8sG D = DD at *
  generalize u8sG L = S at *
  replace hex := hex.out
  generalize s.extract (2 * k) (2 * t) = T at *
  go_enter Tryz.func20, Tryz.ntmps20
  go_wp2_with fail
  refine (hTr.out _).mono ?_
  rintro e w1 ⟨rfl, hb1⟩
  go_wp2_with fail
  refine (hPl.out _).mono ?_
  rintro e w2 ⟨rfl, hb2'⟩
  have hbA : Below w.heap.size w w2 := hb1.trans (hb2'.mono hb1.size)
  clear hb2' hb1
  go_wp2_with fail
  refine (hPr.out _).mono ?_
  rintro e w3 ⟨rfl, rfl⟩
  go_wp2_with (go_at_call 44; refine (c_mInf _).mono ?_; rintro e w' ⟨rfl, rfl⟩)
  go_ret
  exact ⟨rfl, hbA⟩
theorem c_RRead_inf_o (s : ByteArray) (k t : Nat) (L : List Nat) (base v : Nat) (hs : s.size ≤ 1099511627776) (hF : FrA (blkS s) (s.size / 2) k) (hT : BkA (blkS s) k (s.size / 2) t)
    (hLe : asL (unitsN (s.extract (2 * k) (2 * t)) ((s.extract (2 * k) (2 * t)).size / 2)) = L) (hL : ∀ c ∈ L, c < 256) (hl : L.length ≤ 8000) (c0 : Nat) (D M : List Nat) (ng : Bool) (hLM : L = c0 :: M) (hDL : D = L) (h43 : c0 ≠ 43) (h45 : c0 ≠ 45) (hng : ng = false) (hpre : preL L = 0) (hi : D = infT) (w : World) (hW : LibW w) :
    Calls Tryz.prog 20 #[.string s] w fun r w' => r = .returned (.float .f64 (sgW ng 9218868437227405312)) ∧ Below w.heap.size w w' := by
  have hTr := Lib.hid (fun W => c_RTrim s k t hs hF hT W)
  have hsz2 : (s.extract (2 * k) (2 * t)).size ≤ 1099511627776 := by rw [ByteArray.size_extract]; omega
  have hPl := Lib.hid (fun W => c_Rascii (s.extract (2 * k) (2 * t)) hsz2 W)
  rw [hLe] at hPl
  have hLk := Lib.hid (fun W (hb : Below w.heap.size w W) => hW.keep hb)
  obtain ⟨hem, hem2⟩ := u_empty L
  have hsz : (u8sG L).size = L.length := uG_size L
  have h0 : L ≠ [] := by rw [hLM]; simp
  have hlp : 1 ≤ L.length := List.length_pos_iff.2 h0
  replace hem := hem.trans (decide_eq_false h0)
  replace hem2 := hem2.trans (decide_eq_false h0)
  have hPr := Lib.hid (fun W => c_Rprefixed L hL (by omega) W)
  rw [hpre] at hPr
  have hPr : Hid (∀ W, Calls Tryz.prog 50 #[.string (u8sG L)] W fun r w' => r = .returned (.int .i64 0) ∧ W = w') := hPr
  have hs0 : 0 < (u8sG L).size := by omega
  have hs0I : (0 : Int) < ((u8sG L).size : Int) := by omega
  have hs1I : (1 : Int) ≤ ((u8sG L).size : Int) := by omega
  have hs5 : (u8sG L).size ≤ 8000 := by omega
  have hg0 := uG_get L 0 c0 (by rw [hLM]; rfl) (hL c0 (by rw [hLM]; exact List.mem_cons_self ..)) hs0
  have n43 : ((c0 : Int) == 43) = false := beq_eq_false_iff_ne.2 (by omega)
  have n45 : ((c0 : Int) == 45) = false := beq_eq_false_iff_ne.2 (by omega)
  subst hDL
  have hDm := hL
  have hDl := hl
  have hDe := Lib.hid (fun W => c_Rdecimal D hDm (by omega) W)
  have hqi := u_inf D hDm
  have hTz : (u8sG D).size = D.length := uG_size _
  have hT5 : (u8sG D).size ≤ 8000 := by omega
  replace hqi := hqi.trans (decide_eq_true hi)
  have hm := fun w => run_float_arith (P := Tryz.prog) w .mul 22 .f64 (oneB ng) 9218868437227405312 (sgW ng 9218868437227405312) (mul_sg ng (Nat.le_refl _))
  rw [show oneB ng = 4607182418800017408 by rw [hng]; rfl] at hm
  generalize hV : sgW ng 9218868437227405312 = V at *
  clear hV hDe
  clear hF hT hLe hL hl hpre hsz hsz2 h0 hi hDm hDl hTz hW hlp hng hLM h43 h45
  generalize u8sG D = S at *
  generalize s.extract (2 * k) (2 * t) = T at *
  go_enter Tryz.func20, Tryz.ntmps20
  go_wp2_with fail
  refine (hTr.out _).mono ?_
  rintro e w1 ⟨rfl, hb1⟩
  go_wp2_with fail
  refine (hPl.out _).mono ?_
  rintro e w2 ⟨rfl, hb2'⟩
  have hbA : Below w.heap.size w w2 := hb1.trans (hb2'.mono hb1.size)
  clear hb2' hb1
  go_wp2_with fail
  refine (hPr.out _).mono ?_
  rintro e w3 ⟨rfl, rfl⟩
  go_wp2_with (go_at_call 44; refine (c_mInf _).mono ?_; rintro e w' ⟨rfl, rfl⟩)
  go_ret
  exact ⟨rfl, hbA⟩
theorem c_RRead_dec_43 (s : ByteArray) (k t : Nat) (L : List Nat) (base v : Nat) (hs : s.size ≤ 1099511627776) (hF : FrA (blkS s) (s.size / 2) k) (hT : BkA (blkS s) k (s.size / 2) t)
    (hLe : asL (unitsN (s.extract (2 * k) (2 * t)) ((s.extract (2 * k) (2 * t)).size / 2)) = L) (hL : ∀ c ∈ L, c < 256) (hl : L.length ≤ 8000) (D M : List Nat) (ng : Bool) (hLM : L = 43 :: D) (hng : ng = false) (hpre : preL L = 0) (hi : D ≠ infT) (hd : DcT D v) (w : World) (hW : LibW w) :
    Calls Tryz.prog 20 #[.string s] w fun r w' => r = .returned (.float .f64 (sgW ng v)) ∧ Below w.heap.size w w' := by
  have hTr := Lib.hid (fun W => c_RTrim s k t hs hF hT W)
  have hsz2 : (s.extract (2 * k) (2 * t)).size ≤ 1099511627776 := by rw [ByteArray.size_extract]; omega
  have hPl := Lib.hid (fun W => c_Rascii (s.extract (2 * k) (2 * t)) hsz2 W)
  rw [hLe] at hPl
  have hLk := Lib.hid (fun W (hb : Below w.heap.size w W) => hW.keep hb)
  obtain ⟨hem, hem2⟩ := u_empty L
  have hsz : (u8sG L).size = L.length := uG_size L
  have h0 : L ≠ [] := by rw [hLM]; simp
  have hlp : 1 ≤ L.length := List.length_pos_iff.2 h0
  replace hem := hem.trans (decide_eq_false h0)
  replace hem2 := hem2.trans (decide_eq_false h0)
  have hPr := Lib.hid (fun W => c_Rprefixed L hL (by omega) W)
  rw [hpre] at hPr
  have hPr : Hid (∀ W, Calls Tryz.prog 50 #[.string (u8sG L)] W fun r w' => r = .returned (.int .i64 0) ∧ W = w') := hPr
  have hs0 : 0 < (u8sG L).size := by omega
  have hs0I : (0 : Int) < ((u8sG L).size : Int) := by omega
  have hs1I : (1 : Int) ≤ ((u8sG L).size : Int) := by omega
  have hs5 : (u8sG L).size ≤ 8000 := by omega
  have hg0 := uG_get L 0 43 (by rw [hLM]; rfl) (by decide) hs0
  have hex : (u8sG L).extract 1 (u8sG L).size = u8sG D := by
    rw [uG_ext, hsz, List.take_length, hLM]; rfl
  have hDm : ∀ c ∈ D, c < 256 := fun c hc => hL c (by rw [hLM]; exact List.mem_cons_of_mem _ hc)
  have hDl : D.length ≤ 8000 := by rw [hLM, List.length_cons] at hl; omega
  have hDe := Lib.hid (fun W => c_Rdecimal D hDm (by omega) W)
  have hqi := u_inf D hDm
  have hTz : (u8sG D).size = D.length := uG_size _
  have hT5 : (u8sG D).size ≤ 8000 := by omega
  replace hqi := hqi.trans (decide_eq_false hi)
  have hFl := Lib.hid (fun W hW => c_Rvalue hd (by omega) W hW)
  have hm := fun w => run_float_arith (P := Tryz.prog) w .mul 22 .f64 (oneB ng) v (sgW ng v) (mul_sg ng hd.le)
  rw [show oneB ng = 4607182418800017408 by rw [hng]; rfl] at hm
  have hn0 : (0 : Int) < (D.length : Int) := by
    obtain ⟨ws, ps, pt, -, -, h3, h4, h5⟩ := hd
    have h6 : 0 < (mantL ws ps pt).length := by
      unfold mantL
      rcases h4 with h | h
      · have := List.length_pos_iff.2 h; rw [List.length_append]; omega
      · cases pt with
        | false => exact absurd (h3 rfl) h
        | true => simp <;> omega
    rcases h5 with ⟨h, -⟩ | ⟨e, sg, es, neg, -, -, -, -, h, -⟩
    · rw [h]; omega
    · rw [h, List.length_append]; omega
  rw [dec_end hd, ← hTz] at hDe
  rw [← hTz] at hn0
  generalize hV : sgW ng v = V at *
  clear hV hd
  clear hF hT hLe hL hl hpre hsz hsz2 h0 hi hDm hDl hTz hW hlp hng hLM
  replace hex := Lib.hid hex
  generalize u8sG D = DD at *
  generalize u8sG L = S at *
  replace hex := hex.out
  generalize s.extract (2 * k) (2 * t) = T at *
  go_enter Tryz.func20, Tryz.ntmps20
  go_wp2_with fail
  refine (hTr.out _).mono ?_
  rintro e w1 ⟨rfl, hb1⟩
  go_wp2_with fail
  refine (hPl.out _).mono ?_
  rintro e w2 ⟨rfl, hb2'⟩
  have hbA : Below w.heap.size w w2 := hb1.trans (hb2'.mono hb1.size)
  clear hb2' hb1
  go_wp2_with fail
  refine (hPr.out _).mono ?_
  rintro e w3 ⟨rfl, rfl⟩
  go_wp2_with fail
  refine (hDe.out _).mono ?_
  rintro e w6 ⟨rfl, rfl⟩
  go_wp2_with fail
  refine (hFl.out _ (hLk.out _ hbA)).mono ?_
  rintro e w7 ⟨rfl, hb7⟩
  have hbE : Below w.heap.size w w7 := hbA.trans (hb7.mono hbA.size)
  go_wp2_with fail
  go_ret
  exact ⟨rfl, hbE⟩
theorem c_RRead_dec_45 (s : ByteArray) (k t : Nat) (L : List Nat) (base v : Nat) (hs : s.size ≤ 1099511627776) (hF : FrA (blkS s) (s.size / 2) k) (hT : BkA (blkS s) k (s.size / 2) t)
    (hLe : asL (unitsN (s.extract (2 * k) (2 * t)) ((s.extract (2 * k) (2 * t)).size / 2)) = L) (hL : ∀ c ∈ L, c < 256) (hl : L.length ≤ 8000) (D M : List Nat) (ng : Bool) (hLM : L = 45 :: D) (hng : ng = true) (hpre : preL L = 0) (hi : D ≠ infT) (hd : DcT D v) (w : World) (hW : LibW w) :
    Calls Tryz.prog 20 #[.string s] w fun r w' => r = .returned (.float .f64 (sgW ng v)) ∧ Below w.heap.size w w' := by
  have hTr := Lib.hid (fun W => c_RTrim s k t hs hF hT W)
  have hsz2 : (s.extract (2 * k) (2 * t)).size ≤ 1099511627776 := by rw [ByteArray.size_extract]; omega
  have hPl := Lib.hid (fun W => c_Rascii (s.extract (2 * k) (2 * t)) hsz2 W)
  rw [hLe] at hPl
  have hLk := Lib.hid (fun W (hb : Below w.heap.size w W) => hW.keep hb)
  obtain ⟨hem, hem2⟩ := u_empty L
  have hsz : (u8sG L).size = L.length := uG_size L
  have h0 : L ≠ [] := by rw [hLM]; simp
  have hlp : 1 ≤ L.length := List.length_pos_iff.2 h0
  replace hem := hem.trans (decide_eq_false h0)
  replace hem2 := hem2.trans (decide_eq_false h0)
  have hPr := Lib.hid (fun W => c_Rprefixed L hL (by omega) W)
  rw [hpre] at hPr
  have hPr : Hid (∀ W, Calls Tryz.prog 50 #[.string (u8sG L)] W fun r w' => r = .returned (.int .i64 0) ∧ W = w') := hPr
  have hs0 : 0 < (u8sG L).size := by omega
  have hs0I : (0 : Int) < ((u8sG L).size : Int) := by omega
  have hs1I : (1 : Int) ≤ ((u8sG L).size : Int) := by omega
  have hs5 : (u8sG L).size ≤ 8000 := by omega
  have hg0 := uG_get L 0 45 (by rw [hLM]; rfl) (by decide) hs0
  have hex : (u8sG L).extract 1 (u8sG L).size = u8sG D := by
    rw [uG_ext, hsz, List.take_length, hLM]; rfl
  have hDm : ∀ c ∈ D, c < 256 := fun c hc => hL c (by rw [hLM]; exact List.mem_cons_of_mem _ hc)
  have hDl : D.length ≤ 8000 := by rw [hLM, List.length_cons] at hl; omega
  have hDe := Lib.hid (fun W => c_Rdecimal D hDm (by omega) W)
  have hqi := u_inf D hDm
  have hTz : (u8sG D).size = D.length := uG_size _
  have hT5 : (u8sG D).size ≤ 8000 := by omega
  replace hqi := hqi.trans (decide_eq_false hi)
  have hFl := Lib.hid (fun W hW => c_Rvalue hd (by omega) W hW)
  have hm := fun w => run_float_arith (P := Tryz.prog) w .mul 22 .f64 (oneB ng) v (sgW ng v) (mul_sg ng hd.le)
  rw [show oneB ng = 13830554455654793216 by rw [hng]; rfl] at hm
  have hn0 : (0 : Int) < (D.length : Int) := by
    obtain ⟨ws, ps, pt, -, -, h3, h4, h5⟩ := hd
    have h6 : 0 < (mantL ws ps pt).length := by
      unfold mantL
      rcases h4 with h | h
      · have := List.length_pos_iff.2 h; rw [List.length_append]; omega
      · cases pt with
        | false => exact absurd (h3 rfl) h
        | true => simp <;> omega
    rcases h5 with ⟨h, -⟩ | ⟨e, sg, es, neg, -, -, -, -, h, -⟩
    · rw [h]; omega
    · rw [h, List.length_append]; omega
  rw [dec_end hd, ← hTz] at hDe
  rw [← hTz] at hn0
  generalize hV : sgW ng v = V at *
  clear hV hd
  clear hF hT hLe hL hl hpre hsz hsz2 h0 hi hDm hDl hTz hW hlp hng hLM
  replace hex := Lib.hid hex
  generalize u8sG D = DD at *
  generalize u8sG L = S at *
  replace hex := hex.out
  generalize s.extract (2 * k) (2 * t) = T at *
  go_enter Tryz.func20, Tryz.ntmps20
  go_wp2_with fail
  refine (hTr.out _).mono ?_
  rintro e w1 ⟨rfl, hb1⟩
  go_wp2_with fail
  refine (hPl.out _).mono ?_
  rintro e w2 ⟨rfl, hb2'⟩
  have hbA : Below w.heap.size w w2 := hb1.trans (hb2'.mono hb1.size)
  clear hb2' hb1
  go_wp2_with fail
  refine (hPr.out _).mono ?_
  rintro e w3 ⟨rfl, rfl⟩
  go_wp2_with fail
  refine (hDe.out _).mono ?_
  rintro e w6 ⟨rfl, rfl⟩
  go_wp2_with fail
  refine (hFl.out _ (hLk.out _ hbA)).mono ?_
  rintro e w7 ⟨rfl, hb7⟩
  have hbE : Below w.heap.size w w7 := hbA.trans (hb7.mono hbA.size)
  go_wp2_with fail
  go_ret
  exact ⟨rfl, hbE⟩
theorem c_RRead_dec_o (s : ByteArray) (k t : Nat) (L : List Nat) (base v : Nat) (hs : s.size ≤ 1099511627776) (hF : FrA (blkS s) (s.size / 2) k) (hT : BkA (blkS s) k (s.size / 2) t)
    (hLe : asL (unitsN (s.extract (2 * k) (2 * t)) ((s.extract (2 * k) (2 * t)).size / 2)) = L) (hL : ∀ c ∈ L, c < 256) (hl : L.length ≤ 8000) (c0 : Nat) (D M : List Nat) (ng : Bool) (hLM : L = c0 :: M) (hDL : D = L) (h43 : c0 ≠ 43) (h45 : c0 ≠ 45) (hng : ng = false) (hpre : preL L = 0) (hi : D ≠ infT) (hd : DcT D v) (w : World) (hW : LibW w) :
    Calls Tryz.prog 20 #[.string s] w fun r w' => r = .returned (.float .f64 (sgW ng v)) ∧ Below w.heap.size w w' := by
  have hTr := Lib.hid (fun W => c_RTrim s k t hs hF hT W)
  have hsz2 : (s.extract (2 * k) (2 * t)).size ≤ 1099511627776 := by rw [ByteArray.size_extract]; omega
  have hPl := Lib.hid (fun W => c_Rascii (s.extract (2 * k) (2 * t)) hsz2 W)
  rw [hLe] at hPl
  have hLk := Lib.hid (fun W (hb : Below w.heap.size w W) => hW.keep hb)
  obtain ⟨hem, hem2⟩ := u_empty L
  have hsz : (u8sG L).size = L.length := uG_size L
  have h0 : L ≠ [] := by rw [hLM]; simp
  have hlp : 1 ≤ L.length := List.length_pos_iff.2 h0
  replace hem := hem.trans (decide_eq_false h0)
  replace hem2 := hem2.trans (decide_eq_false h0)
  have hPr := Lib.hid (fun W => c_Rprefixed L hL (by omega) W)
  rw [hpre] at hPr
  have hPr : Hid (∀ W, Calls Tryz.prog 50 #[.string (u8sG L)] W fun r w' => r = .returned (.int .i64 0) ∧ W = w') := hPr
  have hs0 : 0 < (u8sG L).size := by omega
  have hs0I : (0 : Int) < ((u8sG L).size : Int) := by omega
  have hs1I : (1 : Int) ≤ ((u8sG L).size : Int) := by omega
  have hs5 : (u8sG L).size ≤ 8000 := by omega
  have hg0 := uG_get L 0 c0 (by rw [hLM]; rfl) (hL c0 (by rw [hLM]; exact List.mem_cons_self ..)) hs0
  have n43 : ((c0 : Int) == 43) = false := beq_eq_false_iff_ne.2 (by omega)
  have n45 : ((c0 : Int) == 45) = false := beq_eq_false_iff_ne.2 (by omega)
  subst hDL
  have hDm := hL
  have hDl := hl
  have hDe := Lib.hid (fun W => c_Rdecimal D hDm (by omega) W)
  have hqi := u_inf D hDm
  have hTz : (u8sG D).size = D.length := uG_size _
  have hT5 : (u8sG D).size ≤ 8000 := by omega
  replace hqi := hqi.trans (decide_eq_false hi)
  have hFl := Lib.hid (fun W hW => c_Rvalue hd (by omega) W hW)
  have hm := fun w => run_float_arith (P := Tryz.prog) w .mul 22 .f64 (oneB ng) v (sgW ng v) (mul_sg ng hd.le)
  rw [show oneB ng = 4607182418800017408 by rw [hng]; rfl] at hm
  have hn0 : (0 : Int) < (D.length : Int) := by
    obtain ⟨ws, ps, pt, -, -, h3, h4, h5⟩ := hd
    have h6 : 0 < (mantL ws ps pt).length := by
      unfold mantL
      rcases h4 with h | h
      · have := List.length_pos_iff.2 h; rw [List.length_append]; omega
      · cases pt with
        | false => exact absurd (h3 rfl) h
        | true => simp <;> omega
    rcases h5 with ⟨h, -⟩ | ⟨e, sg, es, neg, -, -, -, -, h, -⟩
    · rw [h]; omega
    · rw [h, List.length_append]; omega
  rw [dec_end hd, ← hTz] at hDe
  rw [← hTz] at hn0
  generalize hV : sgW ng v = V at *
  clear hV hd
  clear hF hT hLe hL hl hpre hsz hsz2 h0 hi hDm hDl hTz hW hlp hng hLM h43 h45
  generalize u8sG D = S at *
  generalize s.extract (2 * k) (2 * t) = T at *
  go_enter Tryz.func20, Tryz.ntmps20
  go_wp2_with fail
  refine (hTr.out _).mono ?_
  rintro e w1 ⟨rfl, hb1⟩
  go_wp2_with fail
  refine (hPl.out _).mono ?_
  rintro e w2 ⟨rfl, hb2'⟩
  have hbA : Below w.heap.size w w2 := hb1.trans (hb2'.mono hb1.size)
  clear hb2' hb1
  go_wp2_with fail
  refine (hPr.out _).mono ?_
  rintro e w3 ⟨rfl, rfl⟩
  go_wp2_with fail
  refine (hDe.out _).mono ?_
  rintro e w6 ⟨rfl, rfl⟩
  go_wp2_with fail
  refine (hFl.out _ (hLk.out _ hbA)).mono ?_
  rintro e w7 ⟨rfl, hb7⟩
  have hbE : Below w.heap.size w w7 := hbA.trans (hb7.mono hbA.size)
  go_wp2_with fail
  go_ret
  exact ⟨rfl, hbE⟩
theorem c_RRead_nanZ_43 (s : ByteArray) (k t : Nat) (L : List Nat) (base v : Nat) (hs : s.size ≤ 1099511627776) (hF : FrA (blkS s) (s.size / 2) k) (hT : BkA (blkS s) k (s.size / 2) t)
    (hLe : asL (unitsN (s.extract (2 * k) (2 * t)) ((s.extract (2 * k) (2 * t)).size / 2)) = L) (hL : ∀ c ∈ L, c < 256) (hl : L.length ≤ 8000) (D M : List Nat) (ng : Bool) (hLM : L = 43 :: D) (hng : ng = false) (hpre : preL L = 0) (hi : D ≠ infT) (hn : decN D = 0) (w : World) (hW : LibW w) :
    Calls Tryz.prog 20 #[.string s] w fun r w' => r = .returned (.float .f64 nanW) ∧ Below w.heap.size w w' := by
  have hTr := Lib.hid (fun W => c_RTrim s k t hs hF hT W)
  have hsz2 : (s.extract (2 * k) (2 * t)).size ≤ 1099511627776 := by rw [ByteArray.size_extract]; omega
  have hPl := Lib.hid (fun W => c_Rascii (s.extract (2 * k) (2 * t)) hsz2 W)
  rw [hLe] at hPl
  have hLk := Lib.hid (fun W (hb : Below w.heap.size w W) => hW.keep hb)
  obtain ⟨hem, hem2⟩ := u_empty L
  have hsz : (u8sG L).size = L.length := uG_size L
  have h0 : L ≠ [] := by rw [hLM]; simp
  have hlp : 1 ≤ L.length := List.length_pos_iff.2 h0
  replace hem := hem.trans (decide_eq_false h0)
  replace hem2 := hem2.trans (decide_eq_false h0)
  have hPr := Lib.hid (fun W => c_Rprefixed L hL (by omega) W)
  rw [hpre] at hPr
  have hPr : Hid (∀ W, Calls Tryz.prog 50 #[.string (u8sG L)] W fun r w' => r = .returned (.int .i64 0) ∧ W = w') := hPr
  have hs0 : 0 < (u8sG L).size := by omega
  have hs0I : (0 : Int) < ((u8sG L).size : Int) := by omega
  have hs1I : (1 : Int) ≤ ((u8sG L).size : Int) := by omega
  have hs5 : (u8sG L).size ≤ 8000 := by omega
  have hg0 := uG_get L 0 43 (by rw [hLM]; rfl) (by decide) hs0
  have hex : (u8sG L).extract 1 (u8sG L).size = u8sG D := by
    rw [uG_ext, hsz, List.take_length, hLM]; rfl
  have hDm : ∀ c ∈ D, c < 256 := fun c hc => hL c (by rw [hLM]; exact List.mem_cons_of_mem _ hc)
  have hDl : D.length ≤ 8000 := by rw [hLM, List.length_cons] at hl; omega
  have hDe := Lib.hid (fun W => c_Rdecimal D hDm (by omega) W)
  have hqi := u_inf D hDm
  have hTz : (u8sG D).size = D.length := uG_size _
  have hT5 : (u8sG D).size ≤ 8000 := by omega
  replace hqi := hqi.trans (decide_eq_false hi)
  rw [hn] at hDe
  have hDe : Hid (∀ W, Calls Tryz.prog 53 #[.string (u8sG D), .int .i64 0] W fun r w' => r = .returned (.int .i64 0) ∧ W = w') := hDe
  clear hn
  clear hF hT hLe hL hl hpre hsz hsz2 h0 hi hDm hDl hTz hW hlp hng hLM
  replace hex := Lib.hid hex
  generalize u8sG D = DD at *
  generalize u8sG L = S at *
  replace hex := hex.out
  generalize s.extract (2 * k) (2 * t) = T at *
  go_enter Tryz.func20, Tryz.ntmps20
  go_wp2_with fail
  refine (hTr.out _).mono ?_
  rintro e w1 ⟨rfl, hb1⟩
  go_wp2_with fail
  refine (hPl.out _).mono ?_
  rintro e w2 ⟨rfl, hb2'⟩
  have hbA : Below w.heap.size w w2 := hb1.trans (hb2'.mono hb1.size)
  clear hb2' hb1
  go_wp2_with fail
  refine (hPr.out _).mono ?_
  rintro e w3 ⟨rfl, rfl⟩
  go_wp2_with fail
  refine (hDe.out _).mono ?_
  rintro e w6 ⟨rfl, rfl⟩
  go_wp2_with (go_at_call 41; refine (c_mNaN _).mono ?_; rintro e w' ⟨rfl, rfl⟩)
  go_ret
  exact ⟨rfl, hbA⟩
theorem c_RRead_nanZ_45 (s : ByteArray) (k t : Nat) (L : List Nat) (base v : Nat) (hs : s.size ≤ 1099511627776) (hF : FrA (blkS s) (s.size / 2) k) (hT : BkA (blkS s) k (s.size / 2) t)
    (hLe : asL (unitsN (s.extract (2 * k) (2 * t)) ((s.extract (2 * k) (2 * t)).size / 2)) = L) (hL : ∀ c ∈ L, c < 256) (hl : L.length ≤ 8000) (D M : List Nat) (ng : Bool) (hLM : L = 45 :: D) (hng : ng = true) (hpre : preL L = 0) (hi : D ≠ infT) (hn : decN D = 0) (w : World) (hW : LibW w) :
    Calls Tryz.prog 20 #[.string s] w fun r w' => r = .returned (.float .f64 nanW) ∧ Below w.heap.size w w' := by
  have hTr := Lib.hid (fun W => c_RTrim s k t hs hF hT W)
  have hsz2 : (s.extract (2 * k) (2 * t)).size ≤ 1099511627776 := by rw [ByteArray.size_extract]; omega
  have hPl := Lib.hid (fun W => c_Rascii (s.extract (2 * k) (2 * t)) hsz2 W)
  rw [hLe] at hPl
  have hLk := Lib.hid (fun W (hb : Below w.heap.size w W) => hW.keep hb)
  obtain ⟨hem, hem2⟩ := u_empty L
  have hsz : (u8sG L).size = L.length := uG_size L
  have h0 : L ≠ [] := by rw [hLM]; simp
  have hlp : 1 ≤ L.length := List.length_pos_iff.2 h0
  replace hem := hem.trans (decide_eq_false h0)
  replace hem2 := hem2.trans (decide_eq_false h0)
  have hPr := Lib.hid (fun W => c_Rprefixed L hL (by omega) W)
  rw [hpre] at hPr
  have hPr : Hid (∀ W, Calls Tryz.prog 50 #[.string (u8sG L)] W fun r w' => r = .returned (.int .i64 0) ∧ W = w') := hPr
  have hs0 : 0 < (u8sG L).size := by omega
  have hs0I : (0 : Int) < ((u8sG L).size : Int) := by omega
  have hs1I : (1 : Int) ≤ ((u8sG L).size : Int) := by omega
  have hs5 : (u8sG L).size ≤ 8000 := by omega
  have hg0 := uG_get L 0 45 (by rw [hLM]; rfl) (by decide) hs0
  have hex : (u8sG L).extract 1 (u8sG L).size = u8sG D := by
    rw [uG_ext, hsz, List.take_length, hLM]; rfl
  have hDm : ∀ c ∈ D, c < 256 := fun c hc => hL c (by rw [hLM]; exact List.mem_cons_of_mem _ hc)
  have hDl : D.length ≤ 8000 := by rw [hLM, List.length_cons] at hl; omega
  have hDe := Lib.hid (fun W => c_Rdecimal D hDm (by omega) W)
  have hqi := u_inf D hDm
  have hTz : (u8sG D).size = D.length := uG_size _
  have hT5 : (u8sG D).size ≤ 8000 := by omega
  replace hqi := hqi.trans (decide_eq_false hi)
  rw [hn] at hDe
  have hDe : Hid (∀ W, Calls Tryz.prog 53 #[.string (u8sG D), .int .i64 0] W fun r w' => r = .returned (.int .i64 0) ∧ W = w') := hDe
  clear hn
  clear hF hT hLe hL hl hpre hsz hsz2 h0 hi hDm hDl hTz hW hlp hng hLM
  replace hex := Lib.hid hex
  generalize u8sG D = DD at *
  generalize u8sG L = S at *
  replace hex := hex.out
  generalize s.extract (2 * k) (2 * t) = T at *
  go_enter Tryz.func20, Tryz.ntmps20
  go_wp2_with fail
  refine (hTr.out _).mono ?_
  rintro e w1 ⟨rfl, hb1⟩
  go_wp2_with fail
  refine (hPl.out _).mono ?_
  rintro e w2 ⟨rfl, hb2'⟩
  have hbA : Below w.heap.size w w2 := hb1.trans (hb2'.mono hb1.size)
  clear hb2' hb1
  go_wp2_with fail
  refine (hPr.out _).mono ?_
  rintro e w3 ⟨rfl, rfl⟩
  go_wp2_with fail
  refine (hDe.out _).mono ?_
  rintro e w6 ⟨rfl, rfl⟩
  go_wp2_with (go_at_call 41; refine (c_mNaN _).mono ?_; rintro e w' ⟨rfl, rfl⟩)
  go_ret
  exact ⟨rfl, hbA⟩
theorem c_RRead_nanZ_o (s : ByteArray) (k t : Nat) (L : List Nat) (base v : Nat) (hs : s.size ≤ 1099511627776) (hF : FrA (blkS s) (s.size / 2) k) (hT : BkA (blkS s) k (s.size / 2) t)
    (hLe : asL (unitsN (s.extract (2 * k) (2 * t)) ((s.extract (2 * k) (2 * t)).size / 2)) = L) (hL : ∀ c ∈ L, c < 256) (hl : L.length ≤ 8000) (c0 : Nat) (D M : List Nat) (ng : Bool) (hLM : L = c0 :: M) (hDL : D = L) (h43 : c0 ≠ 43) (h45 : c0 ≠ 45) (hng : ng = false) (hpre : preL L = 0) (hi : D ≠ infT) (hn : decN D = 0) (w : World) (hW : LibW w) :
    Calls Tryz.prog 20 #[.string s] w fun r w' => r = .returned (.float .f64 nanW) ∧ Below w.heap.size w w' := by
  have hTr := Lib.hid (fun W => c_RTrim s k t hs hF hT W)
  have hsz2 : (s.extract (2 * k) (2 * t)).size ≤ 1099511627776 := by rw [ByteArray.size_extract]; omega
  have hPl := Lib.hid (fun W => c_Rascii (s.extract (2 * k) (2 * t)) hsz2 W)
  rw [hLe] at hPl
  have hLk := Lib.hid (fun W (hb : Below w.heap.size w W) => hW.keep hb)
  obtain ⟨hem, hem2⟩ := u_empty L
  have hsz : (u8sG L).size = L.length := uG_size L
  have h0 : L ≠ [] := by rw [hLM]; simp
  have hlp : 1 ≤ L.length := List.length_pos_iff.2 h0
  replace hem := hem.trans (decide_eq_false h0)
  replace hem2 := hem2.trans (decide_eq_false h0)
  have hPr := Lib.hid (fun W => c_Rprefixed L hL (by omega) W)
  rw [hpre] at hPr
  have hPr : Hid (∀ W, Calls Tryz.prog 50 #[.string (u8sG L)] W fun r w' => r = .returned (.int .i64 0) ∧ W = w') := hPr
  have hs0 : 0 < (u8sG L).size := by omega
  have hs0I : (0 : Int) < ((u8sG L).size : Int) := by omega
  have hs1I : (1 : Int) ≤ ((u8sG L).size : Int) := by omega
  have hs5 : (u8sG L).size ≤ 8000 := by omega
  have hg0 := uG_get L 0 c0 (by rw [hLM]; rfl) (hL c0 (by rw [hLM]; exact List.mem_cons_self ..)) hs0
  have n43 : ((c0 : Int) == 43) = false := beq_eq_false_iff_ne.2 (by omega)
  have n45 : ((c0 : Int) == 45) = false := beq_eq_false_iff_ne.2 (by omega)
  subst hDL
  have hDm := hL
  have hDl := hl
  have hDe := Lib.hid (fun W => c_Rdecimal D hDm (by omega) W)
  have hqi := u_inf D hDm
  have hTz : (u8sG D).size = D.length := uG_size _
  have hT5 : (u8sG D).size ≤ 8000 := by omega
  replace hqi := hqi.trans (decide_eq_false hi)
  rw [hn] at hDe
  have hDe : Hid (∀ W, Calls Tryz.prog 53 #[.string (u8sG D), .int .i64 0] W fun r w' => r = .returned (.int .i64 0) ∧ W = w') := hDe
  clear hn
  clear hF hT hLe hL hl hpre hsz hsz2 h0 hi hDm hDl hTz hW hlp hng hLM h43 h45
  generalize u8sG D = S at *
  generalize s.extract (2 * k) (2 * t) = T at *
  go_enter Tryz.func20, Tryz.ntmps20
  go_wp2_with fail
  refine (hTr.out _).mono ?_
  rintro e w1 ⟨rfl, hb1⟩
  go_wp2_with fail
  refine (hPl.out _).mono ?_
  rintro e w2 ⟨rfl, hb2'⟩
  have hbA : Below w.heap.size w w2 := hb1.trans (hb2'.mono hb1.size)
  clear hb2' hb1
  go_wp2_with fail
  refine (hPr.out _).mono ?_
  rintro e w3 ⟨rfl, rfl⟩
  go_wp2_with fail
  refine (hDe.out _).mono ?_
  rintro e w6 ⟨rfl, rfl⟩
  go_wp2_with (go_at_call 41; refine (c_mNaN _).mono ?_; rintro e w' ⟨rfl, rfl⟩)
  go_ret
  exact ⟨rfl, hbA⟩
theorem c_RRead_nan_43 (s : ByteArray) (k t : Nat) (L : List Nat) (base v : Nat) (hs : s.size ≤ 1099511627776) (hF : FrA (blkS s) (s.size / 2) k) (hT : BkA (blkS s) k (s.size / 2) t)
    (hLe : asL (unitsN (s.extract (2 * k) (2 * t)) ((s.extract (2 * k) (2 * t)).size / 2)) = L) (hL : ∀ c ∈ L, c < 256) (hl : L.length ≤ 8000) (D M : List Nat) (ng : Bool) (hLM : L = 43 :: D) (hng : ng = false) (hpre : preL L = 0) (hi : D ≠ infT) (hn0 : 0 < decN D) (hn : decN D ≠ D.length) (w : World) (hW : LibW w) :
    Calls Tryz.prog 20 #[.string s] w fun r w' => r = .returned (.float .f64 nanW) ∧ Below w.heap.size w w' := by
  have hTr := Lib.hid (fun W => c_RTrim s k t hs hF hT W)
  have hsz2 : (s.extract (2 * k) (2 * t)).size ≤ 1099511627776 := by rw [ByteArray.size_extract]; omega
  have hPl := Lib.hid (fun W => c_Rascii (s.extract (2 * k) (2 * t)) hsz2 W)
  rw [hLe] at hPl
  have hLk := Lib.hid (fun W (hb : Below w.heap.size w W) => hW.keep hb)
  obtain ⟨hem, hem2⟩ := u_empty L
  have hsz : (u8sG L).size = L.length := uG_size L
  have h0 : L ≠ [] := by rw [hLM]; simp
  have hlp : 1 ≤ L.length := List.length_pos_iff.2 h0
  replace hem := hem.trans (decide_eq_false h0)
  replace hem2 := hem2.trans (decide_eq_false h0)
  have hPr := Lib.hid (fun W => c_Rprefixed L hL (by omega) W)
  rw [hpre] at hPr
  have hPr : Hid (∀ W, Calls Tryz.prog 50 #[.string (u8sG L)] W fun r w' => r = .returned (.int .i64 0) ∧ W = w') := hPr
  have hs0 : 0 < (u8sG L).size := by omega
  have hs0I : (0 : Int) < ((u8sG L).size : Int) := by omega
  have hs1I : (1 : Int) ≤ ((u8sG L).size : Int) := by omega
  have hs5 : (u8sG L).size ≤ 8000 := by omega
  have hg0 := uG_get L 0 43 (by rw [hLM]; rfl) (by decide) hs0
  have hex : (u8sG L).extract 1 (u8sG L).size = u8sG D := by
    rw [uG_ext, hsz, List.take_length, hLM]; rfl
  have hDm : ∀ c ∈ D, c < 256 := fun c hc => hL c (by rw [hLM]; exact List.mem_cons_of_mem _ hc)
  have hDl : D.length ≤ 8000 := by rw [hLM, List.length_cons] at hl; omega
  have hDe := Lib.hid (fun W => c_Rdecimal D hDm (by omega) W)
  have hqi := u_inf D hDm
  have hTz : (u8sG D).size = D.length := uG_size _
  have hT5 : (u8sG D).size ≤ 8000 := by omega
  replace hqi := hqi.trans (decide_eq_false hi)
  have n1 : ((decN D : Int) == ((u8sG D).size : Int)) = false := beq_eq_false_iff_ne.2 (by omega)
  have n0 : (0 : Int) < (decN D : Int) := by omega
  generalize decN D = n at *
  clear hn0 hn
  clear hF hT hLe hL hl hpre hsz hsz2 h0 hi hDm hDl hTz hW hlp hng hLM
  replace hex := Lib.hid hex
  generalize u8sG D = DD at *
  generalize u8sG L = S at *
  replace hex := hex.out
  generalize s.extract (2 * k) (2 * t) = T at *
  go_enter Tryz.func20, Tryz.ntmps20
  go_wp2_with fail
  refine (hTr.out _).mono ?_
  rintro e w1 ⟨rfl, hb1⟩
  go_wp2_with fail
  refine (hPl.out _).mono ?_
  rintro e w2 ⟨rfl, hb2'⟩
  have hbA : Below w.heap.size w w2 := hb1.trans (hb2'.mono hb1.size)
  clear hb2' hb1
  go_wp2_with fail
  refine (hPr.out _).mono ?_
  rintro e w3 ⟨rfl, rfl⟩
  go_wp2_with fail
  refine (hDe.out _).mono ?_
  rintro e w6 ⟨rfl, rfl⟩
  go_wp2_with (go_at_call 41; refine (c_mNaN _).mono ?_; rintro e w' ⟨rfl, rfl⟩)
  go_ret
  exact ⟨rfl, hbA⟩
theorem c_RRead_nan_45 (s : ByteArray) (k t : Nat) (L : List Nat) (base v : Nat) (hs : s.size ≤ 1099511627776) (hF : FrA (blkS s) (s.size / 2) k) (hT : BkA (blkS s) k (s.size / 2) t)
    (hLe : asL (unitsN (s.extract (2 * k) (2 * t)) ((s.extract (2 * k) (2 * t)).size / 2)) = L) (hL : ∀ c ∈ L, c < 256) (hl : L.length ≤ 8000) (D M : List Nat) (ng : Bool) (hLM : L = 45 :: D) (hng : ng = true) (hpre : preL L = 0) (hi : D ≠ infT) (hn0 : 0 < decN D) (hn : decN D ≠ D.length) (w : World) (hW : LibW w) :
    Calls Tryz.prog 20 #[.string s] w fun r w' => r = .returned (.float .f64 nanW) ∧ Below w.heap.size w w' := by
  have hTr := Lib.hid (fun W => c_RTrim s k t hs hF hT W)
  have hsz2 : (s.extract (2 * k) (2 * t)).size ≤ 1099511627776 := by rw [ByteArray.size_extract]; omega
  have hPl := Lib.hid (fun W => c_Rascii (s.extract (2 * k) (2 * t)) hsz2 W)
  rw [hLe] at hPl
  have hLk := Lib.hid (fun W (hb : Below w.heap.size w W) => hW.keep hb)
  obtain ⟨hem, hem2⟩ := u_empty L
  have hsz : (u8sG L).size = L.length := uG_size L
  have h0 : L ≠ [] := by rw [hLM]; simp
  have hlp : 1 ≤ L.length := List.length_pos_iff.2 h0
  replace hem := hem.trans (decide_eq_false h0)
  replace hem2 := hem2.trans (decide_eq_false h0)
  have hPr := Lib.hid (fun W => c_Rprefixed L hL (by omega) W)
  rw [hpre] at hPr
  have hPr : Hid (∀ W, Calls Tryz.prog 50 #[.string (u8sG L)] W fun r w' => r = .returned (.int .i64 0) ∧ W = w') := hPr
  have hs0 : 0 < (u8sG L).size := by omega
  have hs0I : (0 : Int) < ((u8sG L).size : Int) := by omega
  have hs1I : (1 : Int) ≤ ((u8sG L).size : Int) := by omega
  have hs5 : (u8sG L).size ≤ 8000 := by omega
  have hg0 := uG_get L 0 45 (by rw [hLM]; rfl) (by decide) hs0
  have hex : (u8sG L).extract 1 (u8sG L).size = u8sG D := by
    rw [uG_ext, hsz, List.take_length, hLM]; rfl
  have hDm : ∀ c ∈ D, c < 256 := fun c hc => hL c (by rw [hLM]; exact List.mem_cons_of_mem _ hc)
  have hDl : D.length ≤ 8000 := by rw [hLM, List.length_cons] at hl; omega
  have hDe := Lib.hid (fun W => c_Rdecimal D hDm (by omega) W)
  have hqi := u_inf D hDm
  have hTz : (u8sG D).size = D.length := uG_size _
  have hT5 : (u8sG D).size ≤ 8000 := by omega
  replace hqi := hqi.trans (decide_eq_false hi)
  have n1 : ((decN D : Int) == ((u8sG D).size : Int)) = false := beq_eq_false_iff_ne.2 (by omega)
  have n0 : (0 : Int) < (decN D : Int) := by omega
  generalize decN D = n at *
  clear hn0 hn
  clear hF hT hLe hL hl hpre hsz hsz2 h0 hi hDm hDl hTz hW hlp hng hLM
  replace hex := Lib.hid hex
  generalize u8sG D = DD at *
  generalize u8sG L = S at *
  replace hex := hex.out
  generalize s.extract (2 * k) (2 * t) = T at *
  go_enter Tryz.func20, Tryz.ntmps20
  go_wp2_with fail
  refine (hTr.out _).mono ?_
  rintro e w1 ⟨rfl, hb1⟩
  go_wp2_with fail
  refine (hPl.out _).mono ?_
  rintro e w2 ⟨rfl, hb2'⟩
  have hbA : Below w.heap.size w w2 := hb1.trans (hb2'.mono hb1.size)
  clear hb2' hb1
  go_wp2_with fail
  refine (hPr.out _).mono ?_
  rintro e w3 ⟨rfl, rfl⟩
  go_wp2_with fail
  refine (hDe.out _).mono ?_
  rintro e w6 ⟨rfl, rfl⟩
  go_wp2_with (go_at_call 41; refine (c_mNaN _).mono ?_; rintro e w' ⟨rfl, rfl⟩)
  go_ret
  exact ⟨rfl, hbA⟩
theorem c_RRead_nan_o (s : ByteArray) (k t : Nat) (L : List Nat) (base v : Nat) (hs : s.size ≤ 1099511627776) (hF : FrA (blkS s) (s.size / 2) k) (hT : BkA (blkS s) k (s.size / 2) t)
    (hLe : asL (unitsN (s.extract (2 * k) (2 * t)) ((s.extract (2 * k) (2 * t)).size / 2)) = L) (hL : ∀ c ∈ L, c < 256) (hl : L.length ≤ 8000) (c0 : Nat) (D M : List Nat) (ng : Bool) (hLM : L = c0 :: M) (hDL : D = L) (h43 : c0 ≠ 43) (h45 : c0 ≠ 45) (hng : ng = false) (hpre : preL L = 0) (hi : D ≠ infT) (hn0 : 0 < decN D) (hn : decN D ≠ D.length) (w : World) (hW : LibW w) :
    Calls Tryz.prog 20 #[.string s] w fun r w' => r = .returned (.float .f64 nanW) ∧ Below w.heap.size w w' := by
  have hTr := Lib.hid (fun W => c_RTrim s k t hs hF hT W)
  have hsz2 : (s.extract (2 * k) (2 * t)).size ≤ 1099511627776 := by rw [ByteArray.size_extract]; omega
  have hPl := Lib.hid (fun W => c_Rascii (s.extract (2 * k) (2 * t)) hsz2 W)
  rw [hLe] at hPl
  have hLk := Lib.hid (fun W (hb : Below w.heap.size w W) => hW.keep hb)
  obtain ⟨hem, hem2⟩ := u_empty L
  have hsz : (u8sG L).size = L.length := uG_size L
  have h0 : L ≠ [] := by rw [hLM]; simp
  have hlp : 1 ≤ L.length := List.length_pos_iff.2 h0
  replace hem := hem.trans (decide_eq_false h0)
  replace hem2 := hem2.trans (decide_eq_false h0)
  have hPr := Lib.hid (fun W => c_Rprefixed L hL (by omega) W)
  rw [hpre] at hPr
  have hPr : Hid (∀ W, Calls Tryz.prog 50 #[.string (u8sG L)] W fun r w' => r = .returned (.int .i64 0) ∧ W = w') := hPr
  have hs0 : 0 < (u8sG L).size := by omega
  have hs0I : (0 : Int) < ((u8sG L).size : Int) := by omega
  have hs1I : (1 : Int) ≤ ((u8sG L).size : Int) := by omega
  have hs5 : (u8sG L).size ≤ 8000 := by omega
  have hg0 := uG_get L 0 c0 (by rw [hLM]; rfl) (hL c0 (by rw [hLM]; exact List.mem_cons_self ..)) hs0
  have n43 : ((c0 : Int) == 43) = false := beq_eq_false_iff_ne.2 (by omega)
  have n45 : ((c0 : Int) == 45) = false := beq_eq_false_iff_ne.2 (by omega)
  subst hDL
  have hDm := hL
  have hDl := hl
  have hDe := Lib.hid (fun W => c_Rdecimal D hDm (by omega) W)
  have hqi := u_inf D hDm
  have hTz : (u8sG D).size = D.length := uG_size _
  have hT5 : (u8sG D).size ≤ 8000 := by omega
  replace hqi := hqi.trans (decide_eq_false hi)
  have n1 : ((decN D : Int) == ((u8sG D).size : Int)) = false := beq_eq_false_iff_ne.2 (by omega)
  have n0 : (0 : Int) < (decN D : Int) := by omega
  generalize decN D = n at *
  clear hn0 hn
  clear hF hT hLe hL hl hpre hsz hsz2 h0 hi hDm hDl hTz hW hlp hng hLM h43 h45
  generalize u8sG D = S at *
  generalize s.extract (2 * k) (2 * t) = T at *
  go_enter Tryz.func20, Tryz.ntmps20
  go_wp2_with fail
  refine (hTr.out _).mono ?_
  rintro e w1 ⟨rfl, hb1⟩
  go_wp2_with fail
  refine (hPl.out _).mono ?_
  rintro e w2 ⟨rfl, hb2'⟩
  have hbA : Below w.heap.size w w2 := hb1.trans (hb2'.mono hb1.size)
  clear hb2' hb1
  go_wp2_with fail
  refine (hPr.out _).mono ?_
  rintro e w3 ⟨rfl, rfl⟩
  go_wp2_with fail
  refine (hDe.out _).mono ?_
  rintro e w6 ⟨rfl, rfl⟩
  go_wp2_with (go_at_call 41; refine (c_mNaN _).mono ?_; rintro e w' ⟨rfl, rfl⟩)
  go_ret
  exact ⟨rfl, hbA⟩
theorem sgn_cases {L : List Nat} (h : L ≠ []) : (∃ D, L = 43 :: D ∧ (sgnL L).2 = D ∧ ngL L = false) ∨ (∃ D, L = 45 :: D ∧ (sgnL L).2 = D ∧ ngL L = true) ∨ ∃ c M, L = c :: M ∧ c ≠ 43 ∧ c ≠ 45 ∧ (sgnL L).2 = L ∧ ngL L = false := by
  cases L with
  | nil => exact absurd rfl h
  | cons c M =>
    by_cases h1 : c = 43
    · subst h1; exact .inl ⟨M, rfl, rfl, rfl⟩
    · by_cases h2 : c = 45
      · subst h2; exact .inr (.inl ⟨M, rfl, rfl, rfl⟩)
      · refine .inr (.inr ⟨c, M, rfl, h1, h2, ?_, ?_⟩)
        · rw [show sgnL (c :: M) = if c = 45 then (13830554455654793216, M) else if c = 43 then (4607182418800017408, M) else (4607182418800017408, c :: M) from rfl, if_neg h2, if_neg h1]
        · unfold ngL; simp [h2]
theorem c_RReadG (s : ByteArray) (k t : Nat) (L : List Nat) (r : Nat) (hs : s.size ≤ 1099511627776) (hF : FrA (blkS s) (s.size / 2) k) (hT : BkA (blkS s) k (s.size / 2) t)
    (hLe : asL (unitsN (s.extract (2 * k) (2 * t)) ((s.extract (2 * k) (2 * t)).size / 2)) = L) (hL : ∀ c ∈ L, c < 256) (hl : L.length ≤ 8000) (hR : ReadR L r) (w : World) (hW : LibW w) :
    Calls Tryz.prog 20 #[.string s] w fun e w' => e = .returned (.float .f64 r) ∧ Below w.heap.size w w' := by
  cases hR with
  | nil => exact c_RRead_nil s k t [] 0 0 hs hF hT hLe hL hl rfl w hW
  | pre hp hb hrun hl2 => exact c_RRead_pre s k t L _ 0 hs hF hT hLe hL hl hp hb hrun hl2 w hW
  | preN hp hb h =>
    rename_i base
    rcases Nat.eq_zero_or_pos (runL base (L.drop 2)) with h1 | h1
    · exact c_RRead_preZ s k t L base 0 hs hF hT hLe hL hl hp hb h1 w hW
    · exact c_RRead_preN s k t L base 0 hs hF hT hLe hL hl hp hb h1 (fun h2 => h ⟨h1, h2⟩) w hW
  | inf h0 hp hi =>
    rcases sgn_cases h0 with ⟨D, g1, g2, g3⟩ | ⟨D, g1, g2, g3⟩ | ⟨c, M, g1, g4, g5, g2, g3⟩
    · exact c_RRead_inf_43 s k t L 0 0 hs hF hT hLe hL hl D [] (ngL L) g1 g3 hp (by rw [← g2]; exact hi) w hW
    · exact c_RRead_inf_45 s k t L 0 0 hs hF hT hLe hL hl D [] (ngL L) g1 g3 hp (by rw [← g2]; exact hi) w hW
    · exact c_RRead_inf_o s k t L 0 0 hs hF hT hLe hL hl c L M (ngL L) g1 rfl g4 g5 g3 hp (by rw [← g2]; exact hi) w hW
  | dec h0 hp hi hd =>
    rename_i v
    rcases sgn_cases h0 with ⟨D, g1, g2, g3⟩ | ⟨D, g1, g2, g3⟩ | ⟨c, M, g1, g4, g5, g2, g3⟩
    · exact c_RRead_dec_43 s k t L 0 v hs hF hT hLe hL hl D [] (ngL L) g1 g3 hp (by rw [← g2]; exact hi) (by rw [← g2]; exact hd) w hW
    · exact c_RRead_dec_45 s k t L 0 v hs hF hT hLe hL hl D [] (ngL L) g1 g3 hp (by rw [← g2]; exact hi) (by rw [← g2]; exact hd) w hW
    · exact c_RRead_dec_o s k t L 0 v hs hF hT hLe hL hl c L M (ngL L) g1 rfl g4 g5 g3 hp (by rw [← g2]; exact hi) (by rw [← g2]; exact hd) w hW
  | nan h0 hp hi h =>
    rcases Nat.eq_zero_or_pos (decN (sgnL L).2) with h1 | h1
    · rcases sgn_cases h0 with ⟨D, g1, g2, g3⟩ | ⟨D, g1, g2, g3⟩ | ⟨c, M, g1, g4, g5, g2, g3⟩
      · exact c_RRead_nanZ_43 s k t L 0 0 hs hF hT hLe hL hl D [] (ngL L) g1 g3 hp (by rw [← g2]; exact hi) (by rw [← g2]; exact h1) w hW
      · exact c_RRead_nanZ_45 s k t L 0 0 hs hF hT hLe hL hl D [] (ngL L) g1 g3 hp (by rw [← g2]; exact hi) (by rw [← g2]; exact h1) w hW
      · exact c_RRead_nanZ_o s k t L 0 0 hs hF hT hLe hL hl c L M (ngL L) g1 rfl g4 g5 g3 hp (by rw [← g2]; exact hi) (by rw [← g2]; exact h1) w hW
    · have h2 : decN (sgnL L).2 ≠ (sgnL L).2.length := fun h2 => h ⟨h1, h2⟩
      rcases sgn_cases h0 with ⟨D, g1, g2, g3⟩ | ⟨D, g1, g2, g3⟩ | ⟨c, M, g1, g4, g5, g2, g3⟩
      · exact c_RRead_nan_43 s k t L 0 0 hs hF hT hLe hL hl D [] (ngL L) g1 g3 hp (by rw [← g2]; exact hi) (by rw [← g2]; exact h1) (by rw [← g2]; exact h2) w hW
      · exact c_RRead_nan_45 s k t L 0 0 hs hF hT hLe hL hl D [] (ngL L) g1 g3 hp (by rw [← g2]; exact hi) (by rw [← g2]; exact h1) (by rw [← g2]; exact h2) w hW
      · exact c_RRead_nan_o s k t L 0 0 hs hF hT hLe hL hl c L M (ngL L) g1 rfl g4 g5 g3 hp (by rw [← g2]; exact hi) (by rw [← g2]; exact h1) (by rw [← g2]; exact h2) w hW
end Go.Proofs.YtbakbikilbaafaaGreatDoor
namespace Go.Proofs.YtbakbikilbaafaaGreatDoor
open Go.RowKit F64 Ieee
set_option linter.unusedVariables false
set_option maxHeartbeats 4000000
set_option maxRecDepth 100000

theorem cut_size (s : ByteArray) (k t : Nat) (ht : t ≤ s.size / 2) : (s.extract (2 * k) (2 * t)).size = 2 * (t - k) := by
  rw [ByteArray.size_extract]; omega
end Go.Proofs.YtbakbikilbaafaaGreatDoor
namespace Go.Proofs.YtbakbikilbaafaaGreatDoor
open Go.RowKit F64 Ieee
set_option linter.unusedVariables false
set_option maxHeartbeats 4000000
set_option maxRecDepth 100000

/-- is a number equal to itself? -/
def oE (x : Nat) : Bool := (FloatKind.f64.format.order x x == some Ordering.eq)
theorem v_bad (x : Nat) (w : World) : Calls Tryz.prog 120 #[.float .f64 x] w fun e w' => e = .returned (.bool (!oE x)) ∧ w' = w := by
  go_enter Tryz.func120, Tryz.ntmps120
  go_wp2
  go_ret
  exact ⟨rfl, rfl⟩
theorem v_bits (x : Nat) (w : World) : (callFunc 87 #[.float .f64 x]).run Tryz.prog w = .ok (.value (.int .u64 x)) w := by kernel_rfl
attribute [local go_sem] v_bits
theorem v_sign (x : Nat) : ∃ s : Bool, ∀ w : World, Calls Tryz.prog 121 #[.float .f64 x] w fun e w' => e = .returned (.bool s) ∧ w' = w := by
  refine ⟨decide (wrap64 (x : Int) < 0), fun w => ?_⟩
  go_enter Tryz.func121, Tryz.ntmps121
  go_wp2
  go_ret
  exact ⟨rfl, rfl⟩
theorem v_Same2 (x : Nat) (w : World) : Calls Tryz.prog 81 #[.float .f64 x, .float .f64 x, .int .i64 2] w fun e w' => e = .returned (.bool true) ∧ w' = w := by
  obtain ⟨s, hs⟩ := v_sign x
  have hb := v_bad x
  cases he : oE x with
  | true =>
    rw [he] at hb
    have he' : (FloatKind.f64.format.order x x == some Ordering.eq) = true := he
    replace hs := Lib.hid hs
    replace hb := Lib.hid hb
    clear he
    go_enter Tryz.func81, Tryz.ntmps81
    go_wp2_with (first | (go_at_call 120; refine (hb.out _).mono ?_; rintro e w1 ⟨rfl, rfl⟩) | (go_at_call 121; refine (hs.out _).mono ?_; rintro e w1 ⟨rfl, rfl⟩))
    go_ret
    exact ⟨by cases s <;> rfl, rfl⟩
  | false =>
    rw [he] at hb
    have he' : (FloatKind.f64.format.order x x == some Ordering.eq) = false := he
    replace hs := Lib.hid hs
    replace hb := Lib.hid hb
    clear he
    go_enter Tryz.func81, Tryz.ntmps81
    go_wp2_with (first | (go_at_call 120; refine (hb.out _).mono ?_; rintro e w1 ⟨rfl, rfl⟩) | (go_at_call 121; refine (hs.out _).mono ?_; rintro e w1 ⟨rfl, rfl⟩))
    go_ret
    exact ⟨rfl, rfl⟩
theorem c_RSame3 (x : Nat) (w : World) : Calls Tryz.prog 18 #[.float .f64 x, .float .f64 x] w fun e w' => e = .returned (.bool true) ∧ w = w' := by
  have h2 : ∀ W, Calls Tryz.prog 47 #[.float .f64 x, .float .f64 x] W fun e w' => e = .returned (.bool true) ∧ W = w' := fun W => by
    have hS := Lib.hid (fun W => v_Same2 x W)
    go_enter Tryz.func47, Tryz.ntmps47
    go_wp2_with (go_at_call 81; refine (hS.out _).mono ?_; rintro e w1 ⟨rfl, rfl⟩)
    go_ret
    exact ⟨rfl, rfl⟩
  replace h2 := Lib.hid h2
  go_enter Tryz.func18, Tryz.ntmps18
  go_wp2_with (go_at_call 47; refine (h2.out _).mono ?_; rintro e w1 ⟨rfl, rfl⟩)
  go_ret
  exact ⟨rfl, rfl⟩
theorem plL_lt (us : List Nat) : ∀ c ∈ plL us, c < 256 := fun c hc => by
  obtain ⟨u, -, rfl⟩ := List.mem_map.1 hc
  omega
theorem plL_len (us : List Nat) : (plL us).length = us.length := by simp [plL]
/-- both read a text alike -/
theorem read_both (s : ByteArray) (hs : s.size ≤ 2000) : ∃ r : Nat, (∀ w, LibW w → Calls Tryz.prog 16 #[.string s] w fun e w' => e = .returned (.float .f64 r) ∧ Below w.heap.size w w') ∧ (∀ w, LibW w → Calls Tryz.prog 20 #[.string s] w fun e w' => e = .returned (.float .f64 r) ∧ Below w.heap.size w w') := by
  obtain ⟨k, hF⟩ := FrA.ex (blkS s) (s.size / 2)
  obtain ⟨t, hT⟩ := BkA.ex (blkS s) k (s.size / 2) hF.le
  have hsz := cut_size s k t hT.le
  have hlen : (unitsN (s.extract (2 * k) (2 * t)) ((s.extract (2 * k) (2 * t)).size / 2)).length ≤ 1000 := by
    rw [unitsN_len, hsz]; have := hT.le; omega
  obtain ⟨r, hr⟩ := readR_ex (plL (unitsN (s.extract (2 * k) (2 * t)) ((s.extract (2 * k) (2 * t)).size / 2))) (plL_lt _)
  refine ⟨r, fun w hW => c_dReadG s k t _ r (by omega) hF hT rfl (plL_lt _) (by rw [plL_len]; omega) hr w hW, fun w hW => c_RReadG s k t _ r (by omega) hF hT rfl (asL_lt _) (by rw [asL_len]; omega) ?_ w hW⟩
  exact mn_read (asL_lt _) (by rw [mn_as]; exact hr)
theorem c_LReads (s : ByteArray) (w : World) (hL : LibW w) : Calls Tryz.prog 6 #[.string s] w fun e w' => e = .returned (.bool true) ∧ Below w.heap.size w w' := by
  have hA := Lib.hid (c_awake3 w hL)
  by_cases hg : 1500 < s.size
  · have hg2 : 1500 < (s.size : Int) := by omega
    go_enter Tryz.func6, Tryz.ntmps6
    go_wp2_with fail
    refine hA.out.mono ?_
    rintro e w1 ⟨rfl, b1⟩
    go_wp2_with fail
    go_ret
    exact ⟨rfl, b1⟩
  · have hg2 : ¬ 1500 < (s.size : Int) := by omega
    obtain ⟨r, h1, h2⟩ := read_both s (by omega)
    have hLk := Lib.hid (fun W (hb : Below w.heap.size w W) => hL.keep hb)
    have hS := Lib.hid (fun W => c_RSame3 r W)
    replace h1 := Lib.hid h1
    replace h2 := Lib.hid h2
    replace hL := Lib.hid hL
    go_enter Tryz.func6, Tryz.ntmps6
    go_wp2_with fail
    refine hA.out.mono ?_
    rintro e w1 ⟨rfl, b1⟩
    go_wp2_with fail
    refine (h1.out _ (hLk.out _ b1)).mono ?_
    rintro e w2 ⟨rfl, b2⟩
    have c2 := b1.trans (b2.mono b1.size)
    clear b1 b2
    go_wp2_with fail
    refine (h2.out _ (hLk.out _ c2)).mono ?_
    rintro e w3 ⟨rfl, b3⟩
    have c3 := c2.trans (b3.mono c2.size)
    clear c2 b3
    go_wp2_with (go_at_call 18; refine (hS.out _).mono ?_; rintro e w' ⟨rfl, rfl⟩)
    go_ret
    exact ⟨rfl, c3⟩
end Go.Proofs.YtbakbikilbaafaaGreatDoor

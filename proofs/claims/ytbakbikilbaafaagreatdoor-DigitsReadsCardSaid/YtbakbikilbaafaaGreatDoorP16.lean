/-
  Contracts: Plain: decimal texts in their parts; what Read, Literal and Whole answer. The contract of the program's Read, at any text (printed by gen_XVV.py). The contract of the program's Literal, at any bytes (printed by gen_XVW.py). The contract of the program's Whole, at any text and base (printed by gen_XVX.py). Contracts of the reference's digit, run, prefixed.
-/
import Derived.Test.YtbakbikilbaafaaGreatDoorP15
namespace Go.Proofs.YtbakbikilbaafaaGreatDoor
open Go.RowKit F64 Ieee
set_option linter.unusedVariables false
set_option maxHeartbeats 4000000
set_option maxRecDepth 100000

/-- with a sign -/
def sgW (neg : Bool) (v : Nat) : Nat := if neg then v + 9223372036854775808 else v
theorem mul_sg (neg : Bool) {v : Nat} (h : v ≤ 9218868437227405312) : double.mul (oneB neg) v = some (sgW neg v) := by
  rcases Nat.eq_or_lt_of_le h with h | h
  · subst h
    cases neg <;> decide +kernel
  · cases neg with
    | false => exact mul_one h
    | true =>
      have := mul_exact (x := 13830554455654793216) (y := v) (r := v) (by decide +kernel) (fin_small h) h (by
        rw [show rung 13830554455654793216 = 4607182418800017408 by decide +kernel, rung_small (by omega), V_one, Nat.mul_comm])
      show double.mul 13830554455654793216 v = some (v + 9223372036854775808)
      rw [this, show sgn 13830554455654793216 = true by decide +kernel, sgn_small (by omega)]
      show some (9223372036854775808 + v) = some (v + 9223372036854775808)
      rw [Nat.add_comm]
theorem nv_le (d : Nat) (p : Int) : nv d p ≤ 9218868437227405312 := by
  unfold nv nearV
  split
  · rename_i h; exact (Classical.choose_spec h).le
  · decide
theorem fltV_le (ws ps : List Nat) (neg : Bool) (es : List Nat) : fltV ws ps neg es ≤ 9218868437227405312 := by
  rw [fltV_eq]
  split
  · decide
  · split
    · decide
    · split
      · decide
      · exact nv_le _ _
/-- a sign -/
def ngL (L : List Nat) : Bool := decide (L.head? = some 45)
theorem sgnL_1 (L : List Nat) : (sgnL L).1 = oneB (ngL L) := by
  cases L with
  | nil => rfl
  | cons c M =>
    rw [show sgnL (c :: M) = if c = 45 then (13830554455654793216, M) else if c = 43 then (4607182418800017408, M) else (4607182418800017408, c :: M) from rfl]
    unfold ngL oneB
    by_cases h : c = 45
    · subst h; simp
    · rw [if_neg h]
      simp only [List.head?_cons, Option.some.injEq, h, decide_false, Bool.false_eq_true, if_false]
      split <;> rfl
def Dg (l : List Nat) : Prop := ∀ c ∈ l, 48 ≤ c ∧ c ≤ 57
theorem runL_nil (n : Nat) : runL n [] = 0 := rfl
theorem runL_ncons {n c : Nat} {l : List Nat} (h : ¬ wth c < n) : runL n (c :: l) = 0 := by
  unfold runL; rw [List.takeWhile_cons]; simp [h]
theorem runL_app {n : Nat} : ∀ {ws r : List Nat}, (∀ c ∈ ws, wth c < n) → runL n (ws ++ r) = ws.length + runL n r
  | [], r, _ => by simp
  | c :: ws, r, h => by
    have ih := runL_app (r := r) (fun x hx => h x (List.mem_cons_of_mem c hx))
    unfold runL at ih ⊢
    rw [List.cons_append, List.takeWhile_cons]
    simp only [h c (List.mem_cons_self ..), decide_true, if_true, List.length_cons]
    omega
theorem run_mem {n : Nat} {l : List Nat} : ∀ c ∈ l.take (runL n l), wth c < n := by
  intro c hc
  obtain ⟨i, hi⟩ := List.mem_iff_getElem?.1 hc
  rw [List.getElem?_take] at hi
  split at hi
  · rename_i h; exact runL_lt n l i c hi h
  · cases hi
theorem Dg.wth {l : List Nat} (h : Dg l) : ∀ c ∈ l, wth c < 10 := fun c hc => by
  have := h c hc
  rw [wth_dig this]; omega
theorem run_dg {l : List Nat} (h : ∀ c ∈ l, c < 256) : Dg (l.take (runL 10 l)) := fun c hc => dig_of_wth (h c (List.mem_of_mem_take hc)) (run_mem c hc)
/-- a decimal text and its value -/
def DcT (T : List Nat) (v : Nat) : Prop := ∃ ws ps pt, Dg ws ∧ Dg ps ∧ (pt = false → ps = []) ∧ (ws ≠ [] ∨ ps ≠ []) ∧
  ((T = mantL ws ps pt ∧ v = fltV ws ps false []) ∨ ∃ e sg es neg, (e = 101 ∨ e = 69) ∧ (sg = [] ∧ neg = false ∨ sg = [43] ∧ neg = false ∨ sg = [45] ∧ neg = true) ∧ es ≠ [] ∧ Dg es ∧ T = mantL ws ps pt ++ e :: (sg ++ es) ∧ v = fltV ws ps neg es)
theorem or32_101 (c : Nat) (hc : c < 256) (h : c ||| 32 = 101) : c = 101 ∨ c = 69 := by
  have all : ∀ c : Fin 256, c.val ||| 32 = 101 → c.val = 101 ∨ c.val = 69 := by decide +kernel
  exact all ⟨c, hc⟩ h
theorem getD_some {L : List Nat} {i c : Nat} (h : L.getD i 0 = c) (hc : c ≠ 0) : L[i]? = some c := by
  rw [List.getD_eq_getElem?_getD] at h
  cases hx : L[i]? with
  | none => rw [hx] at h; exact absurd h.symm hc
  | some x => rw [hx] at h; simp at h; rw [h]
theorem take_one {L : List Nat} {i c : Nat} (h : L[i]? = some c) (k : Nat) : L.take (i + (1 + k)) = L.take i ++ c :: (L.drop (i + 1)).take k := by
  have hi := (List.getElem?_eq_some_iff.1 h).1
  have e : L.drop i = c :: L.drop (i + 1) := by
    rw [List.drop_eq_getElem_cons hi, (List.getElem?_eq_some_iff.1 h).2]
  rw [List.take_add, e, Nat.add_comm 1 k]
  rfl
theorem decE_form {L : List Nat} (h256 : ∀ c ∈ L, c < 256) (n : Nat) : decE L n = n ∨ ∃ e sg es neg, (e = 101 ∨ e = 69) ∧ (sg = [] ∧ neg = false ∨ sg = [43] ∧ neg = false ∨ sg = [45] ∧ neg = true) ∧ es ≠ [] ∧ Dg es ∧ L.take (decE L n) = L.take n ++ e :: (sg ++ es) := by
  unfold decE
  by_cases h1 : L.getD n 0 ||| 32 = 101
  · rw [if_pos h1]
    by_cases h2 : 0 < runL 10 (L.drop (decM L n))
    · rw [if_pos h2]
      right
      have hn0 : L.getD n 0 ≠ 0 := fun h => by rw [h] at h1; revert h1; decide
      have hn := getD_some rfl hn0
      have he := or32_101 _ (h256 _ (List.mem_of_getElem? hn)) h1
      have hdg : Dg ((L.drop (decM L n)).take (runL 10 (L.drop (decM L n)))) := run_dg (fun c hc => h256 c (List.mem_of_mem_drop hc))
      have hne : (L.drop (decM L n)).take (runL 10 (L.drop (decM L n))) ≠ [] := fun h => by
        have hl := congrArg List.length h
        rw [List.length_take] at hl
        have := runL_le 10 (L.drop (decM L n))
        simp only [List.length_nil] at hl
        omega
      by_cases h3 : L.getD (n + 1) 0 = 43 ∨ L.getD (n + 1) 0 = 45
      · have hM : decM L n = n + 2 := by unfold decM; rw [if_pos h3]
        rw [hM] at h2 hdg hne ⊢
        have hn1 := getD_some (L := L) (i := n + 1) rfl (by omega)
        refine ⟨L.getD n 0, [L.getD (n + 1) 0], _, decide (L.getD (n + 1) 0 = 45), he, ?_, hne, hdg, ?_⟩
        · rcases h3 with h | h <;> rw [h] <;> simp
        · rw [show n + 2 + runL 10 (L.drop (n + 2)) = n + (1 + (1 + runL 10 (L.drop (n + 2)))) by omega, take_one hn]
          congr 2
          have := take_one (L := L.drop (n + 1)) (i := 0) (by rw [List.getElem?_drop]; exact hn1) (runL 10 (L.drop (n + 2)))
          rw [Nat.zero_add, List.drop_drop] at this
          simpa using this
      · have hM : decM L n = n + 1 := by unfold decM; rw [if_neg h3]
        rw [hM] at h2 hdg hne ⊢
        refine ⟨L.getD n 0, [], _, false, he, .inl ⟨rfl, rfl⟩, hne, hdg, ?_⟩
        rw [show n + 1 + runL 10 (L.drop (n + 1)) = n + (1 + runL 10 (L.drop (n + 1))) by omega, take_one hn]
        rfl
    · rw [if_neg h2]; exact .inl rfl
  · rw [if_neg h1]; exact .inl rfl
theorem dec_form {L : List Nat} (h256 : ∀ c ∈ L, c < 256) (h : 0 < decN L) : ∃ v, DcT (L.take (decN L)) v := by
  have key : ∀ ws ps pt n, Dg ws → Dg ps → (pt = false → ps = []) → (ws ≠ [] ∨ ps ≠ []) → L.take n = mantL ws ps pt → ∃ v, DcT (L.take (decE L n)) v := by
    intro ws ps pt n h1 h2 h3 h4 h5
    rcases decE_form h256 n with h6 | ⟨e, sg, es, neg, g1, g2, g3, g4, g5⟩
    · rw [h6]; exact ⟨_, ws, ps, pt, h1, h2, h3, h4, .inl ⟨h5, rfl⟩⟩
    · exact ⟨_, ws, ps, pt, h1, h2, h3, h4, .inr ⟨e, sg, es, neg, g1, g2, g3, g4, by rw [g5, h5], rfl⟩⟩
  have hw := run_dg h256
  have hlen := runL_le 10 L
  unfold decN at h ⊢
  by_cases h1 : L.getD (runL 10 L) 0 = 46
  · rw [if_pos h1] at h ⊢
    by_cases h2 : runL 10 L + runL 10 (L.drop (runL 10 L + 1)) = 0
    · rw [if_pos h2] at h; omega
    · rw [if_neg h2] at h ⊢
      have hp : Dg ((L.drop (runL 10 L + 1)).take (runL 10 (L.drop (runL 10 L + 1)))) := run_dg (fun c hc => h256 c (List.mem_of_mem_drop hc))
      refine key _ _ true _ hw hp (fun h => by cases h) ?_ ?_
      · by_cases h3 : runL 10 L = 0
        · right
          intro h4
          have hl := congrArg List.length h4
          rw [List.length_take] at hl
          have := runL_le 10 (L.drop (runL 10 L + 1))
          simp only [List.length_nil] at hl
          omega
        · left
          intro h4
          have hl := congrArg List.length h4
          rw [List.length_take] at hl
          simp only [List.length_nil] at hl
          omega
      · rw [Nat.add_assoc, take_one (getD_some h1 (by decide))]
        rfl
  · rw [if_neg h1] at h ⊢
    by_cases h2 : runL 10 L = 0
    · rw [if_pos h2] at h; omega
    · rw [if_neg h2] at h ⊢
      refine key _ [] false _ hw (fun c hc => by cases hc) (fun _ => rfl) ?_ ?_
      · left
        intro h4
        have hl := congrArg List.length h4
        rw [List.length_take] at hl
        simp only [List.length_nil] at hl
        omega
      · unfold mantL; simp
/-- and a decimal text is one to its end -/
theorem decE_end {A X : List Nat} {e : Nat} {sg es : List Nat} {neg : Bool} (he : e = 101 ∨ e = 69) (hsg : sg = [] ∧ neg = false ∨ sg = [43] ∧ neg = false ∨ sg = [45] ∧ neg = true) (hne : es ≠ []) (hes : Dg es) (hX : X = A ++ e :: (sg ++ es)) : decE X A.length = X.length := by
  have hX0 : X.getD A.length 0 = e := by rw [hX, List.getD_eq_getElem?_getD, List.getElem?_append_right (Nat.le_refl _)]; simp
  have hX1 : X.getD (A.length + 1) 0 = (sg ++ es).getD 0 0 := by
    rw [hX, List.getD_eq_getElem?_getD, List.getElem?_append_right (by omega), show A.length + 1 - A.length = 1 by omega]; simp
  have hd1 : X.drop (A.length + 1) = sg ++ es := by
    rw [hX, List.drop_append, show A.length + 1 - A.length = 1 by omega, List.drop_of_length_le (by omega)]; rfl
  have hlen : X.length = A.length + 1 + sg.length + es.length := by rw [hX]; simp; omega
  have hel : 0 < es.length := List.length_pos_iff.2 hne
  have hr : runL 10 es = es.length := by
    have := runL_app (r := []) hes.wth
    rwa [List.append_nil, runL_nil, Nat.add_zero] at this
  obtain ⟨c, cs, rfl⟩ : ∃ c cs, es = c :: cs := by
    cases es with
    | nil => exact absurd rfl hne
    | cons c cs => exact ⟨c, cs, rfl⟩
  have hc := hes c (List.mem_cons_self ..)
  have h1 : X.getD A.length 0 ||| 32 = 101 := by rw [hX0]; rcases he with rfl | rfl <;> decide
  unfold decE
  rw [if_pos h1]
  rcases hsg with ⟨rfl, -⟩ | ⟨rfl, -⟩ | ⟨rfl, -⟩
  · have hM : decM X A.length = A.length + 1 := by
      unfold decM
      rw [hX1, if_neg]
      simp only [List.nil_append, List.getD_cons_zero]; omega
    rw [hM, hd1, List.nil_append, hr, if_pos hel, hlen]; simp
  · have hM : decM X A.length = A.length + 2 := by
      unfold decM
      rw [hX1, if_pos]
      simp
    have hd2 : X.drop (A.length + 2) = c :: cs := by
      rw [show A.length + 2 = A.length + 1 + 1 by omega, ← List.drop_drop, hd1]; rfl
    rw [hM, hd2, hr, if_pos hel, hlen]; simp <;> omega
  · have hM : decM X A.length = A.length + 2 := by
      unfold decM
      rw [hX1, if_pos]
      simp
    have hd2 : X.drop (A.length + 2) = c :: cs := by
      rw [show A.length + 2 = A.length + 1 + 1 by omega, ← List.drop_drop, hd1]; rfl
    rw [hM, hd2, hr, if_pos hel, hlen]; simp <;> omega
theorem decE_none {X : List Nat} : decE X X.length = X.length := by
  unfold decE
  have : X.getD X.length 0 = 0 := by rw [List.getD_eq_getElem?_getD]; simp
  rw [this, if_neg (by decide)]
theorem dec_end {T : List Nat} {v : Nat} (h : DcT T v) : decN T = T.length := by
  obtain ⟨ws, ps, pt, hw, hp, hpt, hne, hT⟩ := h
  -- what stands behind the mantissa
  obtain ⟨Y, hTY, hY, hE⟩ : ∃ Y, T = mantL ws ps pt ++ Y ∧ (∀ c, Y[0]? = some c → ¬ wth c < 10 ∧ c ≠ 46) ∧ decE T (mantL ws ps pt).length = T.length := by
    rcases hT with ⟨rfl, -⟩ | ⟨e, sg, es, neg, he, hsg, hen, hes, hX, -⟩
    · exact ⟨[], by simp, fun c hc => by simp at hc, decE_none⟩
    · refine ⟨e :: (sg ++ es), hX, fun c hc => ?_, decE_end he hsg hen hes hX⟩
      simp at hc
      subst hc
      rcases he with rfl | rfl <;> decide
  have hrY : runL 10 Y = 0 := by
    cases Y with
    | nil => rfl
    | cons c Y => exact runL_ncons (hY c rfl).1
  unfold decN
  cases pt with
  | true =>
    have hTe : T = ws ++ (46 :: (ps ++ Y)) := by rw [hTY]; unfold mantL; simp
    have h1 : runL 10 T = ws.length := by
      rw [hTe, runL_app hw.wth, runL_ncons (by decide)]; rfl
    have h2 : T.getD ws.length 0 = 46 := by rw [hTe, List.getD_eq_getElem?_getD, List.getElem?_append_right (Nat.le_refl _)]; simp
    have h3 : T.drop (ws.length + 1) = ps ++ Y := by
      rw [hTe, List.drop_append, show ws.length + 1 - ws.length = 1 by omega, List.drop_of_length_le (by omega)]; rfl
    have h4 : runL 10 (T.drop (ws.length + 1)) = ps.length := by rw [h3, runL_app hp.wth, hrY]; rfl
    rw [h1, if_pos h2, h4]
    have hpos : ¬ ws.length + ps.length = 0 := by
      intro h
      rcases hne with h5 | h5
      · exact h5 (List.length_eq_zero_iff.1 (by omega))
      · exact h5 (List.length_eq_zero_iff.1 (by omega))
    rw [if_neg hpos]
    have hm : (mantL ws ps true).length = ws.length + 1 + ps.length := by unfold mantL; simp; omega
    rw [hm] at hE
    exact hE
  | false =>
    have hps := hpt rfl
    subst hps
    have hm : mantL ws [] false = ws := by unfold mantL; simp
    rw [hm] at hTY hE
    have h1 : runL 10 T = ws.length := by rw [hTY, runL_app hw.wth, hrY]; rfl
    have h2 : T.getD ws.length 0 ≠ 46 := by
      rw [hTY, List.getD_eq_getElem?_getD, List.getElem?_append_right (Nat.le_refl _), Nat.sub_self]
      cases Y with
      | nil => simp
      | cons c Y => exact (hY c rfl).2
    rw [h1, if_neg h2]
    have hpos : ¬ ws.length = 0 := by
      intro h
      rcases hne with h5 | h5
      · exact h5 (List.length_eq_zero_iff.1 (by omega))
      · exact h5 rfl
    rw [if_neg hpos]
    exact hE
theorem DcT.le {T : List Nat} {v : Nat} (h : DcT T v) : v ≤ 9218868437227405312 := by
  obtain ⟨ws, ps, pt, hw, hp, hpt, hne, ⟨-, rfl⟩ | ⟨e, sg, es, neg, -, -, -, -, -, rfl⟩⟩ := h <;> exact fltV_le _ _ _ _
/-- the program's float of it -/
theorem c_dfloat {T : List Nat} {v : Nat} (h : DcT T v) (hl : T.length ≤ 80000) (w : World) (hL : LibW w) :
    Calls Tryz.prog 45 #[.string (u8sG T)] w fun r w' => r = .returned (.float .f64 v) ∧ Below w.heap.size w w' := by
  obtain ⟨ws, ps, pt, hw, hp, hpt, hne, ⟨rfl, rfl⟩ | ⟨e, sg, es, neg, he, hsg, hen, hes, rfl, rfl⟩⟩ := h
  · exact c_dfloat0 ws ps pt hw hp hpt hl w hL
  · refine c_dfloatE ws ps pt e sg es neg hw hp hpt he ?_ hes ?_ hl w hL
    · rcases hsg with ⟨rfl, -⟩ | ⟨rfl, -⟩ | ⟨rfl, -⟩ <;> simp
    · obtain ⟨c, cs, rfl⟩ : ∃ c cs, es = c :: cs := by
        cases es with
        | nil => exact absurd rfl hen
        | cons c cs => exact ⟨c, cs, rfl⟩
      have hc := hes c (List.mem_cons_self ..)
      rcases hsg with ⟨rfl, rfl⟩ | ⟨rfl, rfl⟩ | ⟨rfl, rfl⟩
      · show sgnL (c :: cs) = _
        rw [show sgnL (c :: cs) = if c = 45 then (13830554455654793216, cs) else if c = 43 then (4607182418800017408, cs) else (4607182418800017408, c :: cs) from rfl, if_neg (by omega), if_neg (by omega)]; rfl
      · rfl
      · rfl
end Go.Proofs.YtbakbikilbaafaaGreatDoor
namespace Go.Proofs.YtbakbikilbaafaaGreatDoor
open Go.RowKit F64 Ieee
set_option linter.unusedVariables false
set_option maxHeartbeats 4000000
set_option maxRecDepth 100000

def nanW : Nat := 9221120237041090561
def infT : List Nat := [73, 110, 102, 105, 110, 105, 116, 121]
/-- what a text's bytes are read as -/
inductive ReadR : List Nat → Nat → Prop
  | nil : ReadR [] 0
  | pre {L : List Nat} {base : Nat} (hp : preL L = base) (hb : 0 < base) (hrun : runL base (L.drop 2) = L.length - 2) (hl : 2 < L.length) : ReadR L (nN (numB base (L.drop 2)))
  | preN {L : List Nat} {base : Nat} (hp : preL L = base) (hb : 0 < base) (h : ¬ (0 < runL base (L.drop 2) ∧ runL base (L.drop 2) = L.length - 2)) : ReadR L nanW
  | inf {L : List Nat} (h0 : L ≠ []) (hp : preL L = 0) (hi : (sgnL L).2 = infT) : ReadR L (sgW (ngL L) 9218868437227405312)
  | dec {L : List Nat} {v : Nat} (h0 : L ≠ []) (hp : preL L = 0) (hi : (sgnL L).2 ≠ infT) (hd : DcT (sgnL L).2 v) : ReadR L (sgW (ngL L) v)
  | nan {L : List Nat} (h0 : L ≠ []) (hp : preL L = 0) (hi : (sgnL L).2 ≠ infT) (h : ¬ (0 < decN (sgnL L).2 ∧ decN (sgnL L).2 = (sgnL L).2.length)) : ReadR L nanW
theorem sgnL_mem {L : List Nat} : ∀ c ∈ (sgnL L).2, c ∈ L := by
  cases L with
  | nil => intro c hc; exact hc
  | cons c M =>
    rw [show sgnL (c :: M) = if c = 45 then (13830554455654793216, M) else if c = 43 then (4607182418800017408, M) else (4607182418800017408, c :: M) from rfl]
    intro x hx
    split at hx
    · exact List.mem_cons_of_mem _ hx
    · split at hx
      · exact List.mem_cons_of_mem _ hx
      · exact hx
theorem sgnL_len (L : List Nat) : (sgnL L).2.length ≤ L.length := by
  cases L with
  | nil => exact Nat.le_refl _
  | cons c M =>
    rw [show sgnL (c :: M) = if c = 45 then (13830554455654793216, M) else if c = 43 then (4607182418800017408, M) else (4607182418800017408, c :: M) from rfl]
    split
    · simp
    · split <;> simp
theorem readR_ex (L : List Nat) (h256 : ∀ c ∈ L, c < 256) : ∃ r, ReadR L r := by
  by_cases h0 : L = []
  · subst h0; exact ⟨_, .nil⟩
  rcases Nat.eq_zero_or_pos (preL L) with hp | hp
  · by_cases hi : (sgnL L).2 = infT
    · exact ⟨_, .inf h0 hp hi⟩
    · by_cases h : 0 < decN (sgnL L).2 ∧ decN (sgnL L).2 = (sgnL L).2.length
      · obtain ⟨v, hv⟩ := dec_form (fun c hc => h256 c (sgnL_mem c hc)) h.1
        rw [h.2, List.take_length] at hv
        exact ⟨_, .dec h0 hp hi hv⟩
      · exact ⟨_, .nan h0 hp hi h⟩
  · by_cases h : 0 < runL (preL L) (L.drop 2) ∧ runL (preL L) (L.drop 2) = L.length - 2
    · exact ⟨_, .pre rfl hp h.2 (by omega)⟩
    · exact ⟨_, .preN rfl hp h⟩
theorem c_mInfN (w : World) :
    Calls Tryz.prog 44 #[.int .i64 (-1)] w fun r w' => r = .returned (.float .f64 18442240474082181120) ∧ w = w' := by
  have r55 := r55G
  go_enter Tryz.func44, Tryz.ntmps44
  go_wp2
  go_ret
  exact ⟨rfl, rfl⟩
theorem c_mInfS (neg : Bool) (w : World) : Calls Tryz.prog 44 #[.int .i64 (sgI neg)] w fun r w' => r = .returned (.float .f64 (sgW neg 9218868437227405312)) ∧ w = w' := by
  cases neg
  · exact c_mInf w
  · exact c_mInfN w
theorem preL_le (L : List Nat) : preL L = 0 ∨ preL L = 16 ∨ preL L = 8 ∨ preL L = 2 := by
  unfold preL
  split
  · split
    · simp
    · split
      · simp
      · split <;> simp
  · simp
theorem u_empty (L : List Nat) : (u8sG L).toList.isEmpty = decide (L = []) ∧ ((u8sG L).toList == []) = decide (L = []) := by
  rw [ByteArray.toList_eq, uG_data]
  cases L <;> simp
theorem map_ofNat_inj : ∀ {a b : List Nat}, (∀ c ∈ a, c < 256) → (∀ c ∈ b, c < 256) → a.map UInt8.ofNat = b.map UInt8.ofNat → a = b
  | [], [], _, _, _ => rfl
  | [], _ :: _, _, _, h => by simp at h
  | _ :: _, [], _, _, h => by simp at h
  | x :: a, y :: b, ha, hb, h => by
    simp only [List.map_cons, List.cons.injEq] at h
    have hx := ha x (List.mem_cons_self ..)
    have hy := hb y (List.mem_cons_self ..)
    have e : x = y := by have := congrArg UInt8.toNat h.1; simp at this; omega
    rw [e, map_ofNat_inj (fun c hc => ha c (List.mem_cons_of_mem _ hc)) (fun c hc => hb c (List.mem_cons_of_mem _ hc)) h.2]
theorem u_inf (T : List Nat) (h : ∀ c ∈ T, c < 256) : ((u8sG T).toList == [73, 110, 102, 105, 110, 105, 116, 121]) = decide (T = infT) := by
  rw [ByteArray.toList_eq, uG_data]
  have e : ([73, 110, 102, 105, 110, 105, 116, 121] : List UInt8) = infT.map UInt8.ofNat := rfl
  rw [e]
  by_cases hT : T = infT
  · subst hT; simp
  · rw [decide_eq_false hT, beq_eq_false_iff_ne]
    exact fun g => hT (map_ofNat_inj h (by decide) g)
theorem c_dRead_nil (s : ByteArray) (k t : Nat) (L : List Nat) (base v : Nat) (hs : s.size ≤ 1099511627776) (hF : FrA (blkS s) (s.size / 2) k) (hT : BkA (blkS s) k (s.size / 2) t)
    (hLe : plL (unitsN (s.extract (2 * k) (2 * t)) ((s.extract (2 * k) (2 * t)).size / 2)) = L) (hL : ∀ c ∈ L, c < 256) (hl : L.length ≤ 10000) (hL0 : L = []) (w : World) (hW : LibW w) :
    Calls Tryz.prog 16 #[.string s] w fun r w' => r = .returned (.float .f64 0) ∧ Below w.heap.size w w' := by
  have hTr := Lib.hid (fun W => c_dTrim s k t hs hF hT W)
  have hsz2 : (s.extract (2 * k) (2 * t)).size ≤ 1099511627776 := by rw [ByteArray.size_extract]; omega
  have hPl := Lib.hid (fun W => c_dplain (s.extract (2 * k) (2 * t)) hsz2 W)
  rw [hLe] at hPl
  have hLk := Lib.hid (fun W (hb : Below w.heap.size w W) => hW.keep hb)
  obtain ⟨hem, hem2⟩ := u_empty L
  have hsz : (u8sG L).size = L.length := uG_size L
  replace hem := hem.trans (decide_eq_true hL0)
  replace hem2 := hem2.trans (decide_eq_true hL0)
  clear hF hT hLe hL hl hsz hsz2 hL0 hW
  generalize u8sG L = S at *
  generalize s.extract (2 * k) (2 * t) = T at *
  go_enter Tryz.func16, Tryz.ntmps16
  go_wp2_with fail
  refine (hTr.out _).mono ?_
  rintro e w1 ⟨rfl, q1, rfl⟩
  go_wp2_with fail
  refine (hPl.out _).mono ?_
  rintro e w2 ⟨rfl, hb2'⟩
  have hbA : Below w.heap.size w w2 := (below_drewN (Below.refl _ w) q1).trans hb2'
  clear hb2'
  go_wp2_with fail
  go_ret
  exact ⟨rfl, hbA⟩
theorem c_dRead_pre (s : ByteArray) (k t : Nat) (L : List Nat) (base v : Nat) (hs : s.size ≤ 1099511627776) (hF : FrA (blkS s) (s.size / 2) k) (hT : BkA (blkS s) k (s.size / 2) t)
    (hLe : plL (unitsN (s.extract (2 * k) (2 * t)) ((s.extract (2 * k) (2 * t)).size / 2)) = L) (hL : ∀ c ∈ L, c < 256) (hl : L.length ≤ 10000) (hpre : preL L = base) (hb : 0 < base) (hrun : runL base (L.drop 2) = L.length - 2) (hl2 : 2 < L.length) (w : World) (hW : LibW w) :
    Calls Tryz.prog 16 #[.string s] w fun r w' => r = .returned (.float .f64 (nN (numB base (L.drop 2)))) ∧ Below w.heap.size w w' := by
  have hTr := Lib.hid (fun W => c_dTrim s k t hs hF hT W)
  have hsz2 : (s.extract (2 * k) (2 * t)).size ≤ 1099511627776 := by rw [ByteArray.size_extract]; omega
  have hPl := Lib.hid (fun W => c_dplain (s.extract (2 * k) (2 * t)) hsz2 W)
  rw [hLe] at hPl
  have hLk := Lib.hid (fun W (hb : Below w.heap.size w W) => hW.keep hb)
  obtain ⟨hem, hem2⟩ := u_empty L
  have hsz : (u8sG L).size = L.length := uG_size L
  have h2 : 2 ≤ L.length := by
    rcases Nat.lt_or_ge L.length 2 with h | h
    · exfalso
      have : preL L = 0 := by unfold preL; rw [if_neg (by omega)]
      omega
    · exact h
  have h0 : L ≠ [] := fun h => by rw [h] at h2; simp at h2
  replace hem := hem.trans (decide_eq_false h0)
  replace hem2 := hem2.trans (decide_eq_false h0)
  have hPr := Lib.hid (fun W => c_dprefix L hL (by omega) W)
  have hbase := preL_le L
  rw [hpre] at hPr hbase
  have hDo := Lib.hid (fun W => c_ddigitsOf (base : Int) W)
  have hRu := Lib.hid (fun b W h => c_drun L hL 2 base b (by omega) (by omega) W h)
  have hrl := runL_le base (L.drop 2)
  rw [List.length_drop] at hrl
  have hs3 : 2 ≤ (u8sG L).size := by omega
  have hs4 : (2 : Int) ≤ ((u8sG L).size : Int) := by omega
  have hs5 : (u8sG L).size ≤ 10000 := by omega
  have hs0 : (0 : Int) < ((u8sG L).size : Int) := by omega
  have hbI : (0 : Int) < (base : Int) := by omega
  have hex : (u8sG L).extract 2 (u8sG L).size = u8sG (L.drop 2) := by
    have h := uG_extract (L.take 2) (L.drop 2) L.length 2 (by rw [List.take_append_drop]) (by rw [List.length_take]; omega)
    rw [List.take_append_drop] at h
    rw [uG_size]; exact h
  have hX := Lib.hid (fun W => c_dexactB (L.drop 2) base (by omega) (by omega) (by omega) (fun c hc => ⟨hL c (List.mem_of_mem_drop hc), by
    have : (L.drop 2).take (runL base (L.drop 2)) = L.drop 2 := List.take_of_length_le (by rw [hrun, List.length_drop]; exact Nat.le_refl _)
    rw [← this] at hc
    exact run_mem c hc⟩) (by rw [List.length_drop]; omega) W)
  rw [hrun] at hRu
  have hRu : Hid (∀ b W, W.cell? ⟨b, 0, none⟩ = some (.int .i64 (base : Int)) → Calls Tryz.prog 38 #[.string (u8sG L), .int .i64 2, DigF b] W fun r w' => r = .returned (.int .i64 ((L.length - 2 : Nat) : Int)) ∧ Below W.heap.size W w') := hRu
  rw [show ((L.length - 2 : Nat) : Int) = (L.length : Int) - 2 by omega, ← hsz] at hRu
  have hs6 : (0 : Int) < ((u8sG L).size : Int) - 2 := by omega
  generalize hV : nN (numB base (L.drop 2)) = V at *
  clear hV hrl hrun
  generalize u8sG (L.drop 2) = D at *
  clear hF hT hLe hL hl hpre hsz hsz2 hb h2 h0 hbase hW hl2
  generalize u8sG L = S at *
  generalize s.extract (2 * k) (2 * t) = T at *
  go_enter Tryz.func16, Tryz.ntmps16
  go_wp2_with fail
  refine (hTr.out _).mono ?_
  rintro e w1 ⟨rfl, q1, rfl⟩
  go_wp2_with fail
  refine (hPl.out _).mono ?_
  rintro e w2 ⟨rfl, hb2'⟩
  have hbA : Below w.heap.size w w2 := (below_drewN (Below.refl _ w) q1).trans hb2'
  clear hb2'
  go_wp2_with fail
  refine (hPr.out _).mono ?_
  rintro e w3 ⟨rfl, hb3⟩
  have hbB : Below w.heap.size w w3 := hbA.trans (hb3.mono hbA.size)
  clear hb3 hbA
  go_wp2_with fail
  refine (hDo.out _).mono ?_
  rintro e w4 ⟨rfl, hc4, hb4⟩
  have hbC : Below w.heap.size w w4 := hbB.trans (hb4.mono hbB.size)
  have hRu4 := Lib.hid (hRu.out _ _ hc4)
  clear hb4 hbB hc4
  go_wp2_with fail
  refine hRu4.out.mono ?_
  rintro e w5 ⟨rfl, hb5⟩
  have hbD : Below w.heap.size w w5 := hbC.trans (hb5.mono hbC.size)
  clear hb5 hbC
  go_wp2_with fail
  refine (hX.out _).mono ?_
  rintro e w6 ⟨rfl, hb6⟩
  have hbE : Below w.heap.size w w6 := hbD.trans (hb6.mono hbD.size)
  go_wp2_with fail
  go_ret
  exact ⟨rfl, hbE⟩
theorem c_dRead_preZ (s : ByteArray) (k t : Nat) (L : List Nat) (base v : Nat) (hs : s.size ≤ 1099511627776) (hF : FrA (blkS s) (s.size / 2) k) (hT : BkA (blkS s) k (s.size / 2) t)
    (hLe : plL (unitsN (s.extract (2 * k) (2 * t)) ((s.extract (2 * k) (2 * t)).size / 2)) = L) (hL : ∀ c ∈ L, c < 256) (hl : L.length ≤ 10000) (hpre : preL L = base) (hb : 0 < base) (hrun : runL base (L.drop 2) = 0) (w : World) (hW : LibW w) :
    Calls Tryz.prog 16 #[.string s] w fun r w' => r = .returned (.float .f64 nanW) ∧ Below w.heap.size w w' := by
  have hTr := Lib.hid (fun W => c_dTrim s k t hs hF hT W)
  have hsz2 : (s.extract (2 * k) (2 * t)).size ≤ 1099511627776 := by rw [ByteArray.size_extract]; omega
  have hPl := Lib.hid (fun W => c_dplain (s.extract (2 * k) (2 * t)) hsz2 W)
  rw [hLe] at hPl
  have hLk := Lib.hid (fun W (hb : Below w.heap.size w W) => hW.keep hb)
  obtain ⟨hem, hem2⟩ := u_empty L
  have hsz : (u8sG L).size = L.length := uG_size L
  have h2 : 2 ≤ L.length := by
    rcases Nat.lt_or_ge L.length 2 with h | h
    · exfalso
      have : preL L = 0 := by unfold preL; rw [if_neg (by omega)]
      omega
    · exact h
  have h0 : L ≠ [] := fun h => by rw [h] at h2; simp at h2
  replace hem := hem.trans (decide_eq_false h0)
  replace hem2 := hem2.trans (decide_eq_false h0)
  have hPr := Lib.hid (fun W => c_dprefix L hL (by omega) W)
  have hbase := preL_le L
  rw [hpre] at hPr hbase
  have hDo := Lib.hid (fun W => c_ddigitsOf (base : Int) W)
  have hRu := Lib.hid (fun b W h => c_drun L hL 2 base b (by omega) (by omega) W h)
  have hrl := runL_le base (L.drop 2)
  rw [List.length_drop] at hrl
  have hs3 : 2 ≤ (u8sG L).size := by omega
  have hs4 : (2 : Int) ≤ ((u8sG L).size : Int) := by omega
  have hs5 : (u8sG L).size ≤ 10000 := by omega
  have hs0 : (0 : Int) < ((u8sG L).size : Int) := by omega
  have hbI : (0 : Int) < (base : Int) := by omega
  rw [hrun] at hRu
  clear hrl hrun
  clear hF hT hLe hL hl hpre hsz hsz2 hb h2 h0 hbase hW
  generalize u8sG L = S at *
  generalize s.extract (2 * k) (2 * t) = T at *
  go_enter Tryz.func16, Tryz.ntmps16
  go_wp2_with fail
  refine (hTr.out _).mono ?_
  rintro e w1 ⟨rfl, q1, rfl⟩
  go_wp2_with fail
  refine (hPl.out _).mono ?_
  rintro e w2 ⟨rfl, hb2'⟩
  have hbA : Below w.heap.size w w2 := (below_drewN (Below.refl _ w) q1).trans hb2'
  clear hb2'
  go_wp2_with fail
  refine (hPr.out _).mono ?_
  rintro e w3 ⟨rfl, hb3⟩
  have hbB : Below w.heap.size w w3 := hbA.trans (hb3.mono hbA.size)
  clear hb3 hbA
  go_wp2_with fail
  refine (hDo.out _).mono ?_
  rintro e w4 ⟨rfl, hc4, hb4⟩
  have hbC : Below w.heap.size w w4 := hbB.trans (hb4.mono hbB.size)
  have hRu4 := Lib.hid (hRu.out _ _ hc4)
  clear hb4 hbB hc4
  go_wp2_with fail
  refine hRu4.out.mono ?_
  rintro e w5 ⟨rfl, hb5⟩
  have hbD : Below w.heap.size w w5 := hbC.trans (hb5.mono hbC.size)
  clear hb5 hbC
  go_wp2_with (go_at_call 41; refine (c_mNaN _).mono ?_; rintro e w' ⟨rfl, rfl⟩)
  go_ret
  exact ⟨rfl, hbD⟩
theorem c_dRead_preN (s : ByteArray) (k t : Nat) (L : List Nat) (base v : Nat) (hs : s.size ≤ 1099511627776) (hF : FrA (blkS s) (s.size / 2) k) (hT : BkA (blkS s) k (s.size / 2) t)
    (hLe : plL (unitsN (s.extract (2 * k) (2 * t)) ((s.extract (2 * k) (2 * t)).size / 2)) = L) (hL : ∀ c ∈ L, c < 256) (hl : L.length ≤ 10000) (hpre : preL L = base) (hb : 0 < base) (hrun0 : 0 < runL base (L.drop 2)) (hrun : ¬ runL base (L.drop 2) = L.length - 2) (w : World) (hW : LibW w) :
    Calls Tryz.prog 16 #[.string s] w fun r w' => r = .returned (.float .f64 nanW) ∧ Below w.heap.size w w' := by
  have hTr := Lib.hid (fun W => c_dTrim s k t hs hF hT W)
  have hsz2 : (s.extract (2 * k) (2 * t)).size ≤ 1099511627776 := by rw [ByteArray.size_extract]; omega
  have hPl := Lib.hid (fun W => c_dplain (s.extract (2 * k) (2 * t)) hsz2 W)
  rw [hLe] at hPl
  have hLk := Lib.hid (fun W (hb : Below w.heap.size w W) => hW.keep hb)
  obtain ⟨hem, hem2⟩ := u_empty L
  have hsz : (u8sG L).size = L.length := uG_size L
  have h2 : 2 ≤ L.length := by
    rcases Nat.lt_or_ge L.length 2 with h | h
    · exfalso
      have : preL L = 0 := by unfold preL; rw [if_neg (by omega)]
      omega
    · exact h
  have h0 : L ≠ [] := fun h => by rw [h] at h2; simp at h2
  replace hem := hem.trans (decide_eq_false h0)
  replace hem2 := hem2.trans (decide_eq_false h0)
  have hPr := Lib.hid (fun W => c_dprefix L hL (by omega) W)
  have hbase := preL_le L
  rw [hpre] at hPr hbase
  have hDo := Lib.hid (fun W => c_ddigitsOf (base : Int) W)
  have hRu := Lib.hid (fun b W h => c_drun L hL 2 base b (by omega) (by omega) W h)
  have hrl := runL_le base (L.drop 2)
  rw [List.length_drop] at hrl
  have hs3 : 2 ≤ (u8sG L).size := by omega
  have hs4 : (2 : Int) ≤ ((u8sG L).size : Int) := by omega
  have hs5 : (u8sG L).size ≤ 10000 := by omega
  have hs0 : (0 : Int) < ((u8sG L).size : Int) := by omega
  have hbI : (0 : Int) < (base : Int) := by omega
  have n1 : ((runL base (L.drop 2) : Int) == ((u8sG L).size : Int) - 2) = false := beq_eq_false_iff_ne.2 (by omega)
  have n0 : (0 : Int) < (runL base (L.drop 2) : Int) := by omega
  generalize runL base (L.drop 2) = R at *
  clear hrl hrun hrun0
  clear hF hT hLe hL hl hpre hsz hsz2 hb h2 h0 hbase hW
  generalize u8sG L = S at *
  generalize s.extract (2 * k) (2 * t) = T at *
  go_enter Tryz.func16, Tryz.ntmps16
  go_wp2_with fail
  refine (hTr.out _).mono ?_
  rintro e w1 ⟨rfl, q1, rfl⟩
  go_wp2_with fail
  refine (hPl.out _).mono ?_
  rintro e w2 ⟨rfl, hb2'⟩
  have hbA : Below w.heap.size w w2 := (below_drewN (Below.refl _ w) q1).trans hb2'
  clear hb2'
  go_wp2_with fail
  refine (hPr.out _).mono ?_
  rintro e w3 ⟨rfl, hb3⟩
  have hbB : Below w.heap.size w w3 := hbA.trans (hb3.mono hbA.size)
  clear hb3 hbA
  go_wp2_with fail
  refine (hDo.out _).mono ?_
  rintro e w4 ⟨rfl, hc4, hb4⟩
  have hbC : Below w.heap.size w w4 := hbB.trans (hb4.mono hbB.size)
  have hRu4 := Lib.hid (hRu.out _ _ hc4)
  clear hb4 hbB hc4
  go_wp2_with fail
  refine hRu4.out.mono ?_
  rintro e w5 ⟨rfl, hb5⟩
  have hbD : Below w.heap.size w w5 := hbC.trans (hb5.mono hbC.size)
  clear hb5 hbC
  go_wp2_with (go_at_call 41; refine (c_mNaN _).mono ?_; rintro e w' ⟨rfl, rfl⟩)
  go_ret
  exact ⟨rfl, hbD⟩
theorem c_dRead_inf (s : ByteArray) (k t : Nat) (L : List Nat) (base v : Nat) (hs : s.size ≤ 1099511627776) (hF : FrA (blkS s) (s.size / 2) k) (hT : BkA (blkS s) k (s.size / 2) t)
    (hLe : plL (unitsN (s.extract (2 * k) (2 * t)) ((s.extract (2 * k) (2 * t)).size / 2)) = L) (hL : ∀ c ∈ L, c < 256) (hl : L.length ≤ 10000) (h0 : L ≠ []) (hpre : preL L = 0) (hi : (sgnL L).2 = infT) (w : World) (hW : LibW w) :
    Calls Tryz.prog 16 #[.string s] w fun r w' => r = .returned (.float .f64 (sgW (ngL L) 9218868437227405312)) ∧ Below w.heap.size w w' := by
  have hTr := Lib.hid (fun W => c_dTrim s k t hs hF hT W)
  have hsz2 : (s.extract (2 * k) (2 * t)).size ≤ 1099511627776 := by rw [ByteArray.size_extract]; omega
  have hPl := Lib.hid (fun W => c_dplain (s.extract (2 * k) (2 * t)) hsz2 W)
  rw [hLe] at hPl
  have hLk := Lib.hid (fun W (hb : Below w.heap.size w W) => hW.keep hb)
  obtain ⟨hem, hem2⟩ := u_empty L
  have hsz : (u8sG L).size = L.length := uG_size L
  replace hem := hem.trans (decide_eq_false h0)
  replace hem2 := hem2.trans (decide_eq_false h0)
  have hPr := Lib.hid (fun W => c_dprefix L hL (by omega) W)
  rw [hpre] at hPr
  have hPr : Hid (∀ W, Calls Tryz.prog 37 #[.string (u8sG L)] W fun r w' => r = .returned (.int .i64 0) ∧ Below W.heap.size W w') := hPr
  have hSg := Lib.hid (fun W => c_dsigned L hL (by omega) W)
  rw [sgnL_1] at hSg
  have hTm := fun c hc => hL c (sgnL_mem (L := L) c hc)
  have hTl := sgnL_len L
  have hDe := Lib.hid (fun W => c_ddecimal (sgnL L).2 hTm (by omega) W)
  have hqi := u_inf (sgnL L).2 hTm
  have hcv := cvt_sg (ngL L)
  have hTz : (u8sG (sgnL L).2).size = (sgnL L).2.length := uG_size _
  have hT5 : (u8sG (sgnL L).2).size ≤ 10000 := by omega
  replace hqi := hqi.trans (decide_eq_true hi)
  have hIn := Lib.hid (fun W => c_mInfS (ngL L) W)
  generalize decN (sgnL L).2 = n at *
  clear hF hT hLe hL hl hpre hsz hsz2 h0 hi hTm hTl hTz hW
  generalize u8sG (sgnL L).2 = D at *
  generalize ngL L = ng at *
  generalize u8sG L = S at *
  generalize s.extract (2 * k) (2 * t) = T at *
  go_enter Tryz.func16, Tryz.ntmps16
  go_wp2_with fail
  refine (hTr.out _).mono ?_
  rintro e w1 ⟨rfl, q1, rfl⟩
  go_wp2_with fail
  refine (hPl.out _).mono ?_
  rintro e w2 ⟨rfl, hb2'⟩
  have hbA : Below w.heap.size w w2 := (below_drewN (Below.refl _ w) q1).trans hb2'
  clear hb2'
  go_wp2_with fail
  refine (hPr.out _).mono ?_
  rintro e w3 ⟨rfl, hb3⟩
  have hbB : Below w.heap.size w w3 := hbA.trans (hb3.mono hbA.size)
  clear hb3 hbA
  go_wp2_with fail
  refine (hSg.out _).mono ?_
  rintro e w4 ⟨rfl, q4, rfl⟩
  have hbC := below_drewN hbB q4
  generalize w3.drewN q4 = w5 at *
  clear hbB
  go_wp2_with fail
  refine (hDe.out _).mono ?_
  rintro e w6 ⟨rfl, hb6⟩
  have hbD : Below w.heap.size w w6 := hbC.trans (hb6.mono hbC.size)
  clear hb6 hbC
  go_wp2_with (go_at_call 44; refine (hIn.out _).mono ?_; rintro e w' ⟨rfl, rfl⟩)
  go_ret
  exact ⟨rfl, hbD⟩
theorem c_dRead_dec (s : ByteArray) (k t : Nat) (L : List Nat) (base v : Nat) (hs : s.size ≤ 1099511627776) (hF : FrA (blkS s) (s.size / 2) k) (hT : BkA (blkS s) k (s.size / 2) t)
    (hLe : plL (unitsN (s.extract (2 * k) (2 * t)) ((s.extract (2 * k) (2 * t)).size / 2)) = L) (hL : ∀ c ∈ L, c < 256) (hl : L.length ≤ 10000) (h0 : L ≠ []) (hpre : preL L = 0) (hi : (sgnL L).2 ≠ infT) (hd : DcT (sgnL L).2 v) (w : World) (hW : LibW w) :
    Calls Tryz.prog 16 #[.string s] w fun r w' => r = .returned (.float .f64 (sgW (ngL L) v)) ∧ Below w.heap.size w w' := by
  have hTr := Lib.hid (fun W => c_dTrim s k t hs hF hT W)
  have hsz2 : (s.extract (2 * k) (2 * t)).size ≤ 1099511627776 := by rw [ByteArray.size_extract]; omega
  have hPl := Lib.hid (fun W => c_dplain (s.extract (2 * k) (2 * t)) hsz2 W)
  rw [hLe] at hPl
  have hLk := Lib.hid (fun W (hb : Below w.heap.size w W) => hW.keep hb)
  obtain ⟨hem, hem2⟩ := u_empty L
  have hsz : (u8sG L).size = L.length := uG_size L
  replace hem := hem.trans (decide_eq_false h0)
  replace hem2 := hem2.trans (decide_eq_false h0)
  have hPr := Lib.hid (fun W => c_dprefix L hL (by omega) W)
  rw [hpre] at hPr
  have hPr : Hid (∀ W, Calls Tryz.prog 37 #[.string (u8sG L)] W fun r w' => r = .returned (.int .i64 0) ∧ Below W.heap.size W w') := hPr
  have hSg := Lib.hid (fun W => c_dsigned L hL (by omega) W)
  rw [sgnL_1] at hSg
  have hTm := fun c hc => hL c (sgnL_mem (L := L) c hc)
  have hTl := sgnL_len L
  have hDe := Lib.hid (fun W => c_ddecimal (sgnL L).2 hTm (by omega) W)
  have hqi := u_inf (sgnL L).2 hTm
  have hcv := cvt_sg (ngL L)
  have hTz : (u8sG (sgnL L).2).size = (sgnL L).2.length := uG_size _
  have hT5 : (u8sG (sgnL L).2).size ≤ 10000 := by omega
  replace hqi := hqi.trans (decide_eq_false hi)
  have hFl := Lib.hid (fun W hW => c_dfloat hd (by omega) W hW)
  have hm := fun w => run_float_arith (P := Tryz.prog) w .mul 22 .f64 (oneB (ngL L)) v (sgW (ngL L) v) (mul_sg (ngL L) hd.le)
  have hn0 : (0 : Int) < ((sgnL L).2.length : Int) := by
    obtain ⟨ws, ps, pt, -, -, h3, h4, h5⟩ := hd
    have h6 : 0 < (mantL ws ps pt).length := by
      unfold mantL
      rcases h4 with h | h
      · have := List.length_pos_iff.2 h; rw [List.length_append]; omega
      · cases pt with
        | false => exact absurd (h3 rfl) h
        | true => simp <;> omega
    rcases h5 with ⟨h, -⟩ | ⟨e, sg, es, neg, -, -, -, -, h, -⟩
    · rw [h]; omega
    · rw [h, List.length_append]; omega
  rw [dec_end hd, ← hTz] at hDe
  rw [← hTz] at hn0
  generalize hV : sgW (ngL L) v = V at *
  clear hV hd
  clear hF hT hLe hL hl hpre hsz hsz2 h0 hi hTm hTl hTz hW
  generalize u8sG (sgnL L).2 = D at *
  generalize ngL L = ng at *
  generalize u8sG L = S at *
  generalize s.extract (2 * k) (2 * t) = T at *
  go_enter Tryz.func16, Tryz.ntmps16
  go_wp2_with fail
  refine (hTr.out _).mono ?_
  rintro e w1 ⟨rfl, q1, rfl⟩
  go_wp2_with fail
  refine (hPl.out _).mono ?_
  rintro e w2 ⟨rfl, hb2'⟩
  have hbA : Below w.heap.size w w2 := (below_drewN (Below.refl _ w) q1).trans hb2'
  clear hb2'
  go_wp2_with fail
  refine (hPr.out _).mono ?_
  rintro e w3 ⟨rfl, hb3⟩
  have hbB : Below w.heap.size w w3 := hbA.trans (hb3.mono hbA.size)
  clear hb3 hbA
  go_wp2_with fail
  refine (hSg.out _).mono ?_
  rintro e w4 ⟨rfl, q4, rfl⟩
  have hbC := below_drewN hbB q4
  generalize w3.drewN q4 = w5 at *
  clear hbB
  go_wp2_with fail
  refine (hDe.out _).mono ?_
  rintro e w6 ⟨rfl, hb6⟩
  have hbD : Below w.heap.size w w6 := hbC.trans (hb6.mono hbC.size)
  clear hb6 hbC
  go_wp2_with fail
  refine (hFl.out _ (hLk.out _ hbD)).mono ?_
  rintro e w7 ⟨rfl, hb7⟩
  have hbE : Below w.heap.size w w7 := hbD.trans (hb7.mono hbD.size)
  go_wp2_with fail
  go_ret
  exact ⟨rfl, hbE⟩
theorem c_dRead_nanZ (s : ByteArray) (k t : Nat) (L : List Nat) (base v : Nat) (hs : s.size ≤ 1099511627776) (hF : FrA (blkS s) (s.size / 2) k) (hT : BkA (blkS s) k (s.size / 2) t)
    (hLe : plL (unitsN (s.extract (2 * k) (2 * t)) ((s.extract (2 * k) (2 * t)).size / 2)) = L) (hL : ∀ c ∈ L, c < 256) (hl : L.length ≤ 10000) (h0 : L ≠ []) (hpre : preL L = 0) (hi : (sgnL L).2 ≠ infT) (hn : decN (sgnL L).2 = 0) (w : World) (hW : LibW w) :
    Calls Tryz.prog 16 #[.string s] w fun r w' => r = .returned (.float .f64 nanW) ∧ Below w.heap.size w w' := by
  have hTr := Lib.hid (fun W => c_dTrim s k t hs hF hT W)
  have hsz2 : (s.extract (2 * k) (2 * t)).size ≤ 1099511627776 := by rw [ByteArray.size_extract]; omega
  have hPl := Lib.hid (fun W => c_dplain (s.extract (2 * k) (2 * t)) hsz2 W)
  rw [hLe] at hPl
  have hLk := Lib.hid (fun W (hb : Below w.heap.size w W) => hW.keep hb)
  obtain ⟨hem, hem2⟩ := u_empty L
  have hsz : (u8sG L).size = L.length := uG_size L
  replace hem := hem.trans (decide_eq_false h0)
  replace hem2 := hem2.trans (decide_eq_false h0)
  have hPr := Lib.hid (fun W => c_dprefix L hL (by omega) W)
  rw [hpre] at hPr
  have hPr : Hid (∀ W, Calls Tryz.prog 37 #[.string (u8sG L)] W fun r w' => r = .returned (.int .i64 0) ∧ Below W.heap.size W w') := hPr
  have hSg := Lib.hid (fun W => c_dsigned L hL (by omega) W)
  rw [sgnL_1] at hSg
  have hTm := fun c hc => hL c (sgnL_mem (L := L) c hc)
  have hTl := sgnL_len L
  have hDe := Lib.hid (fun W => c_ddecimal (sgnL L).2 hTm (by omega) W)
  have hqi := u_inf (sgnL L).2 hTm
  have hcv := cvt_sg (ngL L)
  have hTz : (u8sG (sgnL L).2).size = (sgnL L).2.length := uG_size _
  have hT5 : (u8sG (sgnL L).2).size ≤ 10000 := by omega
  replace hqi := hqi.trans (decide_eq_false hi)
  rw [hn] at hDe
  have hDe : Hid (∀ W, Calls Tryz.prog 43 #[.string (u8sG (sgnL L).2)] W fun r w' => r = .returned (.int .i64 0) ∧ Below W.heap.size W w') := hDe
  clear hn
  clear hF hT hLe hL hl hpre hsz hsz2 h0 hi hTm hTl hTz hW
  generalize u8sG (sgnL L).2 = D at *
  generalize ngL L = ng at *
  generalize u8sG L = S at *
  generalize s.extract (2 * k) (2 * t) = T at *
  go_enter Tryz.func16, Tryz.ntmps16
  go_wp2_with fail
  refine (hTr.out _).mono ?_
  rintro e w1 ⟨rfl, q1, rfl⟩
  go_wp2_with fail
  refine (hPl.out _).mono ?_
  rintro e w2 ⟨rfl, hb2'⟩
  have hbA : Below w.heap.size w w2 := (below_drewN (Below.refl _ w) q1).trans hb2'
  clear hb2'
  go_wp2_with fail
  refine (hPr.out _).mono ?_
  rintro e w3 ⟨rfl, hb3⟩
  have hbB : Below w.heap.size w w3 := hbA.trans (hb3.mono hbA.size)
  clear hb3 hbA
  go_wp2_with fail
  refine (hSg.out _).mono ?_
  rintro e w4 ⟨rfl, q4, rfl⟩
  have hbC := below_drewN hbB q4
  generalize w3.drewN q4 = w5 at *
  clear hbB
  go_wp2_with fail
  refine (hDe.out _).mono ?_
  rintro e w6 ⟨rfl, hb6⟩
  have hbD : Below w.heap.size w w6 := hbC.trans (hb6.mono hbC.size)
  clear hb6 hbC
  go_wp2_with (go_at_call 41; refine (c_mNaN _).mono ?_; rintro e w' ⟨rfl, rfl⟩)
  go_ret
  exact ⟨rfl, hbD⟩
theorem c_dRead_nan (s : ByteArray) (k t : Nat) (L : List Nat) (base v : Nat) (hs : s.size ≤ 1099511627776) (hF : FrA (blkS s) (s.size / 2) k) (hT : BkA (blkS s) k (s.size / 2) t)
    (hLe : plL (unitsN (s.extract (2 * k) (2 * t)) ((s.extract (2 * k) (2 * t)).size / 2)) = L) (hL : ∀ c ∈ L, c < 256) (hl : L.length ≤ 10000) (h0 : L ≠ []) (hpre : preL L = 0) (hi : (sgnL L).2 ≠ infT) (hn0 : 0 < decN (sgnL L).2) (hn : decN (sgnL L).2 ≠ (sgnL L).2.length) (w : World) (hW : LibW w) :
    Calls Tryz.prog 16 #[.string s] w fun r w' => r = .returned (.float .f64 nanW) ∧ Below w.heap.size w w' := by
  have hTr := Lib.hid (fun W => c_dTrim s k t hs hF hT W)
  have hsz2 : (s.extract (2 * k) (2 * t)).size ≤ 1099511627776 := by rw [ByteArray.size_extract]; omega
  have hPl := Lib.hid (fun W => c_dplain (s.extract (2 * k) (2 * t)) hsz2 W)
  rw [hLe] at hPl
  have hLk := Lib.hid (fun W (hb : Below w.heap.size w W) => hW.keep hb)
  obtain ⟨hem, hem2⟩ := u_empty L
  have hsz : (u8sG L).size = L.length := uG_size L
  replace hem := hem.trans (decide_eq_false h0)
  replace hem2 := hem2.trans (decide_eq_false h0)
  have hPr := Lib.hid (fun W => c_dprefix L hL (by omega) W)
  rw [hpre] at hPr
  have hPr : Hid (∀ W, Calls Tryz.prog 37 #[.string (u8sG L)] W fun r w' => r = .returned (.int .i64 0) ∧ Below W.heap.size W w') := hPr
  have hSg := Lib.hid (fun W => c_dsigned L hL (by omega) W)
  rw [sgnL_1] at hSg
  have hTm := fun c hc => hL c (sgnL_mem (L := L) c hc)
  have hTl := sgnL_len L
  have hDe := Lib.hid (fun W => c_ddecimal (sgnL L).2 hTm (by omega) W)
  have hqi := u_inf (sgnL L).2 hTm
  have hcv := cvt_sg (ngL L)
  have hTz : (u8sG (sgnL L).2).size = (sgnL L).2.length := uG_size _
  have hT5 : (u8sG (sgnL L).2).size ≤ 10000 := by omega
  replace hqi := hqi.trans (decide_eq_false hi)
  have n1 : ((decN (sgnL L).2 : Int) == ((u8sG (sgnL L).2).size : Int)) = false := beq_eq_false_iff_ne.2 (by omega)
  have n0 : (0 : Int) < (decN (sgnL L).2 : Int) := by omega
  generalize decN (sgnL L).2 = n at *
  clear hn0 hn
  clear hF hT hLe hL hl hpre hsz hsz2 h0 hi hTm hTl hTz hW
  generalize u8sG (sgnL L).2 = D at *
  generalize ngL L = ng at *
  generalize u8sG L = S at *
  generalize s.extract (2 * k) (2 * t) = T at *
  go_enter Tryz.func16, Tryz.ntmps16
  go_wp2_with fail
  refine (hTr.out _).mono ?_
  rintro e w1 ⟨rfl, q1, rfl⟩
  go_wp2_with fail
  refine (hPl.out _).mono ?_
  rintro e w2 ⟨rfl, hb2'⟩
  have hbA : Below w.heap.size w w2 := (below_drewN (Below.refl _ w) q1).trans hb2'
  clear hb2'
  go_wp2_with fail
  refine (hPr.out _).mono ?_
  rintro e w3 ⟨rfl, hb3⟩
  have hbB : Below w.heap.size w w3 := hbA.trans (hb3.mono hbA.size)
  clear hb3 hbA
  go_wp2_with fail
  refine (hSg.out _).mono ?_
  rintro e w4 ⟨rfl, q4, rfl⟩
  have hbC := below_drewN hbB q4
  generalize w3.drewN q4 = w5 at *
  clear hbB
  go_wp2_with fail
  refine (hDe.out _).mono ?_
  rintro e w6 ⟨rfl, hb6⟩
  have hbD : Below w.heap.size w w6 := hbC.trans (hb6.mono hbC.size)
  clear hb6 hbC
  go_wp2_with (go_at_call 41; refine (c_mNaN _).mono ?_; rintro e w' ⟨rfl, rfl⟩)
  go_ret
  exact ⟨rfl, hbD⟩
theorem c_dReadG (s : ByteArray) (k t : Nat) (L : List Nat) (r : Nat) (hs : s.size ≤ 1099511627776) (hF : FrA (blkS s) (s.size / 2) k) (hT : BkA (blkS s) k (s.size / 2) t)
    (hLe : plL (unitsN (s.extract (2 * k) (2 * t)) ((s.extract (2 * k) (2 * t)).size / 2)) = L) (hL : ∀ c ∈ L, c < 256) (hl : L.length ≤ 10000) (hR : ReadR L r) (w : World) (hW : LibW w) :
    Calls Tryz.prog 16 #[.string s] w fun e w' => e = .returned (.float .f64 r) ∧ Below w.heap.size w w' := by
  cases hR with
  | nil => exact c_dRead_nil s k t [] 0 0 hs hF hT hLe hL hl rfl w hW
  | pre hp hb hrun hl2 => exact c_dRead_pre s k t L _ 0 hs hF hT hLe hL hl hp hb hrun hl2 w hW
  | preN hp hb h =>
    rename_i base
    rcases Nat.eq_zero_or_pos (runL base (L.drop 2)) with h1 | h1
    · exact c_dRead_preZ s k t L base 0 hs hF hT hLe hL hl hp hb h1 w hW
    · exact c_dRead_preN s k t L base 0 hs hF hT hLe hL hl hp hb h1 (fun h2 => h ⟨h1, h2⟩) w hW
  | inf h0 hp hi => exact c_dRead_inf s k t L 0 0 hs hF hT hLe hL hl h0 hp hi w hW
  | dec h0 hp hi hd => exact c_dRead_dec s k t L 0 _ hs hF hT hLe hL hl h0 hp hi hd w hW
  | nan h0 hp hi h =>
    rcases Nat.eq_zero_or_pos (decN (sgnL L).2) with h1 | h1
    · exact c_dRead_nanZ s k t L 0 0 hs hF hT hLe hL hl h0 hp hi h1 w hW
    · exact c_dRead_nan s k t L 0 0 hs hF hT hLe hL hl h0 hp hi h1 (fun h2 => h ⟨h1, h2⟩) w hW
end Go.Proofs.YtbakbikilbaafaaGreatDoor
namespace Go.Proofs.YtbakbikilbaafaaGreatDoor
open Go.RowKit F64 Ieee
set_option linter.unusedVariables false
set_option maxHeartbeats 4000000
set_option maxRecDepth 100000

theorem uG_ext (L : List Nat) (i j : Nat) : (u8sG L).extract i j = u8sG ((L.take j).drop i) := by
  apply ByteArray.ext
  rw [ByteArray.data_extract]
  apply Array.ext'
  rw [Array.toList_extract, uG_data, uG_data, List.map_drop, List.map_take]
  simp only [List.extract, List.take_drop]
  rcases Nat.le_total i j with h | h
  · rw [show i + (j - i) = j by omega]
  · rw [List.drop_of_length_le (by rw [List.length_take]; omega), List.drop_of_length_le (by rw [List.length_take]; omega)]
end Go.Proofs.YtbakbikilbaafaaGreatDoor
namespace Go.Proofs.YtbakbikilbaafaaGreatDoor
open Go.RowKit F64 Ieee
set_option linter.unusedVariables false
set_option maxHeartbeats 4000000
set_option maxRecDepth 100000

theorem FrA.units {s : ByteArray} (k : Nat) (h : k ≤ s.size / 2) : (s.extract (2 * k) (2 * (s.size / 2))).size / 2 = s.size / 2 - k := by
  rw [ByteArray.size_extract]; omega
end Go.Proofs.YtbakbikilbaafaaGreatDoor
namespace Go.Proofs.YtbakbikilbaafaaGreatDoor
open Go.RowKit F64 Ieee
set_option linter.unusedVariables false
set_option maxHeartbeats 4000000
set_option maxRecDepth 100000

/-- a digit's worth, as the reference tells it -/
def dgR (c : Nat) : Nat := if 48 ≤ c ∧ c ≤ 57 then c - 48 else if 97 ≤ c ∧ c ≤ 122 then c - 97 + 10 else if 65 ≤ c ∧ c ≤ 90 then c - 65 + 10 else 99
theorem dgR_wth {c : Nat} (hc : c < 256) : dgR c = wth c := by
  have all : ∀ c : Fin 256, dgR c.val = wth c.val := by decide +kernel
  exact all ⟨c, hc⟩
theorem c_Rdigit (c : Nat) (hc : c < 256) (w : World) : Calls Tryz.prog 55 #[.int .u8 (c : Int)] w fun r w' => r = .returned (.int .i64 (wth c : Int)) ∧ w = w' := by
  rw [← dgR_wth hc]
  unfold dgR
  by_cases a1 : 48 ≤ c
  · by_cases a2 : c ≤ 57
    · rw [if_pos ⟨a1, a2⟩, show ((c - 48 : Nat) : Int) = (c : Int) - 48 by omega]
      go_enter Tryz.func55, Tryz.ntmps55
      go_wp2
      go_ret
      exact ⟨rfl, rfl⟩
    · rw [if_neg (fun h => a2 h.2)]
      by_cases b1 : 97 ≤ c
      · by_cases b2 : c ≤ 122
        · rw [if_pos ⟨b1, b2⟩, show ((c - 97 + 10 : Nat) : Int) = (c : Int) - 97 + 10 by omega]
          go_enter Tryz.func55, Tryz.ntmps55
          go_wp2
          go_ret
          exact ⟨rfl, rfl⟩
        · have c1 : 65 ≤ c := by omega
          have c2 : ¬ c ≤ 90 := by omega
          rw [if_neg (fun h => b2 h.2), if_neg (fun h => c2 h.2)]
          go_enter Tryz.func55, Tryz.ntmps55
          go_wp2
          go_ret
          exact ⟨rfl, rfl⟩
      · rw [if_neg (fun h => b1 h.1)]
        by_cases c1 : 65 ≤ c
        · by_cases c2 : c ≤ 90
          · rw [if_pos ⟨c1, c2⟩, show ((c - 65 + 10 : Nat) : Int) = (c : Int) - 65 + 10 by omega]
            go_enter Tryz.func55, Tryz.ntmps55
            go_wp2
            go_ret
            exact ⟨rfl, rfl⟩
          · rw [if_neg (fun h => c2 h.2)]
            go_enter Tryz.func55, Tryz.ntmps55
            go_wp2
            go_ret
            exact ⟨rfl, rfl⟩
        · rw [if_neg (fun h => c1 h.1)]
          go_enter Tryz.func55, Tryz.ntmps55
          go_wp2
          go_ret
          exact ⟨rfl, rfl⟩
  · have b1 : ¬ 97 ≤ c := by omega
    have c1 : ¬ 65 ≤ c := by omega
    rw [if_neg (fun h => a1 h.1), if_neg (fun h => b1 h.1), if_neg (fun h => c1 h.1)]
    go_enter Tryz.func55, Tryz.ntmps55
    go_wp2
    go_ret
    exact ⟨rfl, rfl⟩
theorem c_Rrun (L : List Nat) (hL : ∀ c ∈ L, c < 256) (at_ n : Nat) (hat : at_ ≤ L.length) (hl : L.length ≤ 10000000) (w : World) :
    Calls Tryz.prog 51 #[.string (u8sG L), .int .i64 (at_ : Int), .int .i64 (n : Int)] w fun r w' => r = .returned (.int .i64 (runL n (L.drop at_) : Int)) ∧ w = w' := by
  have hsz : (u8sG L).size = L.length := uG_size L
  have hle := runL_le n (L.drop at_)
  have hlt := Lib.hid (runL_lt n (L.drop at_))
  have hen := Lib.hid (runL_end n (L.drop at_))
  rw [List.length_drop] at hle
  have hget := Lib.hid (fun j c (h1 : L[j]? = some c) (h2 : c < 256) h3 => uG_get L j c h1 h2 h3)
  have hdr : ∀ i, (L.drop at_)[i]? = L[at_ + i]? := fun i => by rw [List.getElem?_drop]
  replace hdr := Lib.hid hdr
  have hI := Lib.hid (fun (c : Nat) (hc : c < 256) W => c_Rdigit c hc W)
  replace hL := Lib.hid hL
  generalize runL n (L.drop at_) = R at *
  generalize u8sG L = S at *
  have hszle : S.size ≤ 10000000 := by omega
  replace hsz := Lib.hid hsz
  go_enter Tryz.func51, Tryz.ntmps51
  go_wp2
  go_loopw [7] (fun v7 wr => ∃ k : Nat, k ≤ R ∧ v7 = .int .i64 (k : Int) ∧ wr = w) (fun v7 _ => R - (intOf v7).toNat)
  case atStart => exact ⟨0, Nat.zero_le _, rfl, rfl⟩
  case round =>
    obtain ⟨k, hk, rfl, rfl⟩ := hrel
    by_cases hd : at_ + k < L.length
    · obtain ⟨c, hc⟩ : ∃ c, L[at_ + k]? = some c := ⟨L[at_ + k], List.getElem?_eq_getElem hd⟩
      have hc256 := hL.out c (List.mem_of_getElem? hc)
      have hjs : at_ + k < S.size := by have := hsz.out; omega
      have hg := hget.out (at_ + k) c hc hc256 hjs
      have hIc := Lib.hid (fun W => hI.out c hc256 W)
      have hjs2 : (at_ : Int) + (k : Int) < (S.size : Int) := by omega
      have e1 : ((at_ : Int) + (k : Int)).toNat = at_ + k := by omega
      by_cases hkR : k < R
      · have hw := hlt.out k c (by rw [hdr.out]; exact hc) hkR
        have hdd : (wth c : Int) < (n : Int) := by omega
        clear hw hc hc256 hI
        generalize wth c = wc at *
        go_wp2_with (go_at_call 55; refine (hIc.out _).mono ?_; rintro e w' ⟨rfl, rfl⟩)
        exact ⟨⟨k + 1, by omega, by go_num, by trivial⟩, by simp [intOf]; omega⟩
      · obtain rfl : k = R := by omega
        have hw := hen.out c (by rw [hdr.out]; exact hc)
        have hdd : ¬ (wth c : Int) < (n : Int) := by omega
        clear hw hc hc256 hI
        generalize wth c = wc at *
        go_wp2_with (go_at_call 55; refine (hIc.out _).mono ?_; rintro e w' ⟨rfl, rfl⟩)
        go_ret
        exact ⟨rfl, rfl⟩
    · obtain rfl : k = R := by omega
      have hjs2 : ¬ (at_ : Int) + (k : Int) < (S.size : Int) := by have := hsz.out; omega
      clear hI
      go_wp2_with fail
      go_ret
      exact ⟨rfl, rfl⟩
theorem or32_x (c : Nat) (hc : c < 256) : (c ||| 32 = 120 ↔ c = 120 ∨ c = 88) ∧ (c ||| 32 = 111 ↔ c = 111 ∨ c = 79) ∧ (c ||| 32 = 98 ↔ c = 98 ∨ c = 66) := by
  have all : ∀ c : Fin 256, (c.val ||| 32 = 120 ↔ c.val = 120 ∨ c.val = 88) ∧ (c.val ||| 32 = 111 ↔ c.val = 111 ∨ c.val = 79) ∧ (c.val ||| 32 = 98 ↔ c.val = 98 ∨ c.val = 66) := by decide +kernel
  exact all ⟨c, hc⟩
theorem c_Rprefixed (L : List Nat) (hL : ∀ c ∈ L, c < 256) (hl : L.length ≤ 10000000) (w : World) :
    Calls Tryz.prog 50 #[.string (u8sG L)] w fun r w' => r = .returned (.int .i64 (preL L : Int)) ∧ w = w' := by
  have hsz : (u8sG L).size = L.length := uG_size L
  by_cases h2 : 2 ≤ L.length
  · obtain ⟨a, b, M, rfl⟩ : ∃ a b M, L = a :: b :: M := by
      cases L with
      | nil => simp at h2
      | cons a L => cases L with
        | nil => simp at h2
        | cons b M => exact ⟨a, b, M, rfl⟩
    have ha := hL a (by simp)
    have hb := hL b (by simp)
    have hs2 : 2 ≤ (u8sG (a :: b :: M)).size := by omega
    have hs0N : 0 < (u8sG (a :: b :: M)).size := by omega
    have hs1N : 1 < (u8sG (a :: b :: M)).size := by omega
    have hg0 := uG_get (a :: b :: M) 0 a rfl ha hs0N
    have hg1 := uG_get (a :: b :: M) 1 b rfl hb hs1N
    have hs2' : (1 : Int) < ((u8sG (a :: b :: M)).size : Int) := by omega
    have hs0' : (0 : Int) < ((u8sG (a :: b :: M)).size : Int) := by omega
    have hs3 : ¬ ((u8sG (a :: b :: M)).size : Int) < 2 := by omega
    have hsl : (u8sG (a :: b :: M)).size ≤ 10000000 := by omega
    have e : preL (a :: b :: M) = if a = 48 then (if b ||| 32 = 120 then 16 else if b ||| 32 = 111 then 8 else if b ||| 32 = 98 then 2 else 0) else 0 := by unfold preL; simp
    obtain ⟨o1, o2, o3⟩ := or32_x b hb
    rw [e]
    simp only [o1, o2, o3]
    clear e hsz hL hl h2 o1 o2 o3
    generalize u8sG (a :: b :: M) = S at *
    by_cases h48 : a = 48
    · rw [if_pos h48]
      subst h48
      by_cases e1 : b = 120
      · subst e1
        rw [if_pos (.inl rfl)]
        go_enter Tryz.func50, Tryz.ntmps50
        go_wp2
        go_ret
        exact ⟨rfl, rfl⟩
      by_cases e2 : b = 88
      · subst e2
        rw [if_pos (.inr rfl)]
        go_enter Tryz.func50, Tryz.ntmps50
        go_wp2
        go_ret
        exact ⟨rfl, rfl⟩
      rw [if_neg (by omega)]
      by_cases e3 : b = 111
      · subst e3
        rw [if_pos (.inl rfl)]
        go_enter Tryz.func50, Tryz.ntmps50
        go_wp2
        go_ret
        exact ⟨rfl, rfl⟩
      by_cases e4 : b = 79
      · subst e4
        rw [if_pos (.inr rfl)]
        go_enter Tryz.func50, Tryz.ntmps50
        go_wp2
        go_ret
        exact ⟨rfl, rfl⟩
      rw [if_neg (by omega)]
      by_cases e5 : b = 98
      · subst e5
        rw [if_pos (.inl rfl)]
        go_enter Tryz.func50, Tryz.ntmps50
        go_wp2
        go_ret
        exact ⟨rfl, rfl⟩
      by_cases e6 : b = 66
      · subst e6
        rw [if_pos (.inr rfl)]
        go_enter Tryz.func50, Tryz.ntmps50
        go_wp2
        go_ret
        exact ⟨rfl, rfl⟩
      rw [if_neg (by omega)]
      have n1 : ((b : Int) == 120) = false := beq_eq_false_iff_ne.2 (by omega)
      have n2 : ((b : Int) == 88) = false := beq_eq_false_iff_ne.2 (by omega)
      have n3 : ((b : Int) == 111) = false := beq_eq_false_iff_ne.2 (by omega)
      have n4 : ((b : Int) == 79) = false := beq_eq_false_iff_ne.2 (by omega)
      have n5 : ((b : Int) == 98) = false := beq_eq_false_iff_ne.2 (by omega)
      have n6 : ((b : Int) == 66) = false := beq_eq_false_iff_ne.2 (by omega)
      clear e1 e2 e3 e4 e5 e6
      go_enter Tryz.func50, Tryz.ntmps50
      go_wp2
      go_ret
      exact ⟨rfl, rfl⟩
    · rw [if_neg h48]
      have n1 : ((a : Int) != 48) = true := by simp; omega
      clear h48
      go_enter Tryz.func50, Tryz.ntmps50
      go_wp2
      go_ret
      exact ⟨rfl, rfl⟩
  · have e : preL L = 0 := by unfold preL; rw [if_neg (by omega)]
    rw [e]
    have hs3 : ((u8sG L).size : Int) < 2 := by omega
    clear hsz h2 hl hL e
    generalize u8sG L = S at *
    go_enter Tryz.func50, Tryz.ntmps50
    go_wp2
    go_ret
    exact ⟨rfl, rfl⟩
end Go.Proofs.YtbakbikilbaafaaGreatDoor

/-
  Contracts: The contract of the reference's value of a decimal text (printed by gen_XYD.py).
-/
import Derived.Test.YtbakbikilbaafaaGreatDoorQ17
namespace Go.Proofs.YtbakbikilbaafaaGreatDoor
open Go.RowKit F64 Ieee
set_option linter.unusedVariables false
set_option maxHeartbeats 4000000
set_option maxRecDepth 100000

/-- how far a mantissa is read: digits from the first that is not nought on, the point's place, whether behind the point -/
structure VS3 where
  d : List Nat
  at_ : Int
  beh : Bool
def vS (σ : VS3) (c : Nat) : VS3 :=
  if c = 46 then { σ with beh := true }
  else if c = 48 ∧ σ.d = [] then { σ with at_ := if σ.beh then σ.at_ - 1 else σ.at_ }
  else { σ with d := σ.d ++ [c], at_ := if σ.beh then σ.at_ else σ.at_ + 1 }
def vF (l : List Nat) : VS3 := l.foldl vS ⟨[], 0, false⟩
theorem vF_take {l : List Nat} {k c : Nat} (h : l[k]? = some c) : vF (l.take (k + 1)) = vS (vF (l.take k)) c := by
  rw [List.take_add_one, h]; unfold vF; rw [Option.toList, List.foldl_append]; rfl
theorem vF_dig : ∀ (l : List Nat) (d : List Nat) (a : Int) (b : Bool), Dg l → d ≠ [] → l.foldl vS ⟨d, a, b⟩ = ⟨d ++ l, if b then a else a + l.length, b⟩
  | [], d, a, b, _, _ => by simp
  | c :: l, d, a, b, h, hd => by
    have hc := h c (List.mem_cons_self ..)
    have e : vS ⟨d, a, b⟩ c = ⟨d ++ [c], if b then a else a + 1, b⟩ := by
      unfold vS; rw [if_neg (by omega), if_neg (fun g => hd g.2)]
    rw [List.foldl_cons, e, vF_dig l _ _ _ (fun x hx => h x (List.mem_cons_of_mem _ hx)) (by simp)]
    cases b <;> simp <;> omega
theorem vF_lead : ∀ (l : List Nat) (a : Int) (b : Bool), Dg l → l.foldl vS ⟨[], a, b⟩ = ⟨l.dropWhile (· == 48), a + ((l.dropWhile (· == 48)).length : Int) - (if b then (l.length : Int) else 0), b⟩
  | [], a, b, _ => by cases b <;> simp
  | c :: l, a, b, h => by
    have hc := h c (List.mem_cons_self ..)
    have hl : Dg l := fun x hx => h x (List.mem_cons_of_mem _ hx)
    by_cases h48 : c = 48
    · subst h48
      have e : vS ⟨[], a, b⟩ 48 = ⟨[], if b then a - 1 else a, b⟩ := by
        unfold vS; rw [if_neg (by decide), if_pos ⟨rfl, rfl⟩]
      rw [List.foldl_cons, e, vF_lead l _ _ hl, drop_cons_eq]
      cases b <;> simp <;> omega
    · have e : vS ⟨[], a, b⟩ c = ⟨[c], if b then a else a + 1, b⟩ := by
        unfold vS; rw [if_neg (by omega), if_neg (fun g => h48 g.1)]; rfl
      rw [List.foldl_cons, e, vF_dig l _ _ _ hl (by simp), drop_cons_ne h48]
      cases b <;> simp <;> omega
theorem drop_app_nil {a b : List Nat} (h : a.dropWhile (· == 48) = []) : (a ++ b).dropWhile (· == 48) = b.dropWhile (· == 48) := by
  induction a with
  | nil => rfl
  | cons c a ih =>
    by_cases h48 : c = 48
    · subst h48; rw [drop_cons_eq] at h; rw [List.cons_append, drop_cons_eq]; exact ih h
    · rw [drop_cons_ne h48] at h; cases h
theorem drop_app_ne {a b : List Nat} (h : a.dropWhile (· == 48) ≠ []) : (a ++ b).dropWhile (· == 48) = a.dropWhile (· == 48) ++ b := by
  induction a with
  | nil => exact absurd rfl h
  | cons c a ih =>
    by_cases h48 : c = 48
    · subst h48; rw [drop_cons_eq] at h ⊢; rw [List.cons_append, drop_cons_eq]; exact ih h
    · rw [drop_cons_ne h48, List.cons_append, drop_cons_ne h48]
/-- the mantissa read -/
theorem vF_mant {ws ps : List Nat} {pt : Bool} (hw : Dg ws) (hp : Dg ps) (hpt : pt = false → ps = []) :
    (vF (mantL ws ps pt)).d = (ws ++ ps).dropWhile (· == 48) ∧ (vF (mantL ws ps pt)).at_ = (((ws ++ ps).dropWhile (· == 48)).length : Int) - (ps.length : Int) := by
  have h1 := vF_lead ws 0 false hw
  simp only [Bool.false_eq_true, if_false] at h1
  unfold vF mantL
  rw [List.foldl_append, h1]
  cases pt with
  | false =>
    rw [hpt rfl]; simp
  | true =>
    simp only [if_true, List.foldl_cons]
    have e : vS ⟨ws.dropWhile (· == 48), 0 + ((ws.dropWhile (· == 48)).length : Int) - 0, false⟩ 46 = ⟨ws.dropWhile (· == 48), 0 + ((ws.dropWhile (· == 48)).length : Int) - 0, true⟩ := by
      unfold vS; rw [if_pos rfl]
    rw [e]
    by_cases hd : ws.dropWhile (· == 48) = []
    · rw [drop_app_nil hd, hd, vF_lead ps _ true hp]
      simp
    · rw [drop_app_ne hd, vF_dig ps _ _ true hp hd]
      simp <;> omega
/-- an exponent's digits, as the reference reads them -/
def eF (es : List Nat) : Nat := es.foldl (fun e c => if e < 1073741824 then 10 * e + (c - 48) else e) 0
theorem eF_take {l : List Nat} {k c : Nat} (h : l[k]? = some c) : eF (l.take (k + 1)) = if eF (l.take k) < 1073741824 then 10 * eF (l.take k) + (c - 48) else eF (l.take k) := by
  rw [List.take_add_one, h]; unfold eF; rw [Option.toList, List.foldl_append]; rfl
theorem eF_pow {l : List Nat} (h : Dg l) : ∀ k, (eF (l.take k) < 1073741824 ∧ powF (l.take k) = eF (l.take k)) ∨ (1073741824 ≤ eF (l.take k) ∧ eF (l.take k) < 10737418250 ∧ powF (l.take k) = 1073741824) := by
  intro k
  induction k with
  | zero => left; simp [eF, powF]
  | succ k ih =>
    rcases Nat.lt_or_ge k l.length with hk | hk
    · have hx : l[k]? = some l[k] := List.getElem?_eq_getElem hk
      have hc := h _ (List.mem_of_getElem? hx)
      rw [eF_take hx, powF_take hx]
      rcases ih with ⟨h1, h2⟩ | ⟨h1, h2, h3⟩
      · rw [if_pos h1, h2]
        generalize eF (l.take k) = e at *
        by_cases h4 : 10 * e + (l[k] - 48) < 1073741824
        · left; exact ⟨h4, Nat.min_eq_left (by omega)⟩
        · right; exact ⟨by omega, by omega, Nat.min_eq_right (by omega)⟩
      · rw [if_neg (by omega), h3]
        right; exact ⟨h1, h2, Nat.min_eq_right (by omega)⟩
    · rw [List.take_of_length_le (by omega)] at ih ⊢; exact ih
/-- what the reference reckons -/
def atV (ws ps : List Nat) (neg : Bool) (es : List Nat) : Int := (((ws ++ ps).dropWhile (· == 48)).length : Int) - (ps.length : Int) + sgI neg * (eF es : Int)
theorem fltV_at {ws ps : List Nat} {neg : Bool} {es : List Nat} (hes : Dg es) (hl : ws.length + ps.length ≤ 80000) :
    fltV ws ps neg es = if (ws ++ ps).dropWhile (· == 48) = [] then 0 else if atV ws ps neg es < -400 then 0 else if 400 < atV ws ps neg es then 9218868437227405312 else nv (numL ((ws ++ ps).dropWhile (· == 48))) (atV ws ps neg es - (((ws ++ ps).dropWhile (· == 48)).length : Int)) := by
  rw [fltV_eq]
  have hdl := (List.dropWhile_sublist (fun c : Nat => c == 48) (l := ws ++ ps)).length_le
  rw [List.length_append] at hdl
  have hp := eF_pow hes es.length
  rw [List.take_length] at hp
  rcases hp with ⟨h1, h2⟩ | ⟨h1, h2, h3⟩
  · have e : pwF ws ps neg es = atV ws ps neg es := by unfold pwF atV; rw [h2]; omega
    rw [e]
  · unfold pwF atV sgI
    rw [h3]
    generalize (ws ++ ps).dropWhile (· == 48) = d at *
    split
    · rfl
    · cases neg with
      | true =>
        simp only [if_true]
        rw [if_pos (by omega), if_pos (by omega)]
      | false =>
        simp only [Bool.false_eq_true, if_false]
        rw [if_neg (by omega), if_pos (by omega), if_neg (by omega), if_pos (by omega)]
/-- an exponent with its sign, as it is read -/
def xS (p : Nat × Bool) (c : Nat) : Nat × Bool := if c = 45 then (p.1, true) else if c = 43 then p else if p.1 < 1073741824 then (10 * p.1 + (c - 48), p.2) else p
def xF (l : List Nat) : Nat × Bool := l.foldl xS (0, false)
theorem xF_take {l : List Nat} {k c : Nat} (h : l[k]? = some c) : xF (l.take (k + 1)) = xS (xF (l.take k)) c := by
  rw [List.take_add_one, h]; unfold xF; rw [Option.toList, List.foldl_append]; rfl
theorem xF_dig : ∀ (l : List Nat) (e : Nat) (b : Bool), Dg l → l.foldl xS (e, b) = (l.foldl (fun e c => if e < 1073741824 then 10 * e + (c - 48) else e) e, b)
  | [], e, b, _ => rfl
  | c :: l, e, b, h => by
    have hc := h c (List.mem_cons_self ..)
    rw [List.foldl_cons, List.foldl_cons]
    have e1 : xS (e, b) c = (if e < 1073741824 then 10 * e + (c - 48) else e, b) := by
      unfold xS
      rw [if_neg (by omega), if_neg (by omega)]
      split <;> rfl
    rw [e1]
    exact xF_dig l _ b (fun x hx => h x (List.mem_cons_of_mem _ hx))
theorem xF_sg {sg es : List Nat} {neg : Bool} (hsg : sg = [] ∧ neg = false ∨ sg = [43] ∧ neg = false ∨ sg = [45] ∧ neg = true) (hes : Dg es) : xF (sg ++ es) = (eF es, neg) := by
  rcases hsg with ⟨rfl, rfl⟩ | ⟨rfl, rfl⟩ | ⟨rfl, rfl⟩
  · exact xF_dig es 0 false hes
  · exact xF_dig es 0 false hes
  · exact xF_dig es 0 true hes
theorem xF_b {l : List Nat} (h : ∀ c ∈ l, c ≤ 57) : ∀ k, (xF (l.take k)).1 < 10737418250 := by
  intro k
  induction k with
  | zero => simp [xF]
  | succ k ih =>
    rcases Nat.lt_or_ge k l.length with hk | hk
    · have hx : l[k]? = some l[k] := List.getElem?_eq_getElem hk
      have hc := h _ (List.mem_of_getElem? hx)
      rw [xF_take hx]
      unfold xS
      split
      · exact ih
      · split
        · exact ih
        · split
          · simp only; omega
          · exact ih
    · rw [List.take_of_length_le (by omega)] at ih ⊢; exact ih
theorem vF_b (l : List Nat) : -(l.length : Int) ≤ (vF l).at_ ∧ (vF l).at_ ≤ l.length ∧ (vF l).d.length ≤ l.length := by
  have key : ∀ k : Nat, -(k : Int) ≤ (vF (l.take k)).at_ ∧ (vF (l.take k)).at_ ≤ k ∧ (vF (l.take k)).d.length ≤ k := by
    intro k
    induction k with
    | zero => simp [vF]
    | succ k ih =>
      rcases Nat.lt_or_ge k l.length with hk | hk
      · rw [vF_take (List.getElem?_eq_getElem hk)]
        obtain ⟨i1, i2, i3⟩ := ih
        generalize vF (l.take k) = σ at *
        unfold vS
        split
        · exact ⟨by simp only; omega, by simp only; omega, by simp only; omega⟩
        · split
          · refine ⟨?_, ?_, by simp only; omega⟩ <;> simp only <;> split <;> omega
          · refine ⟨?_, ?_, by simp; omega⟩
            · simp only; split <;> omega
            · simp only; split <;> omega
      · rw [List.take_of_length_le (by omega)] at ih ⊢
        omega
  have := key l.length
  rwa [List.take_length] at this
theorem dFv {ws ps : List Nat} {pt : Bool} (hw : Dg ws) (hp : Dg ps) : ∀ c ∈ mantL ws ps pt, c = 46 ∨ 48 ≤ c ∧ c ≤ 57 := by
  intro c hc
  unfold mantL at hc
  rcases List.mem_append.1 hc with hc | hc
  · exact .inr (hw c hc)
  · cases pt with
    | false => simp at hc
    | true =>
      simp only [if_true] at hc
      rcases List.mem_cons.1 hc with rfl | hc
      · exact .inl rfl
      · exact .inr (hp c hc)
theorem c_Rvalue0 (ws ps : List Nat) (pt : Bool) (hw : Dg ws) (hps : Dg ps) (hp : pt = false → ps = [])
    (hlen : (mantL ws ps pt).length ≤ 70000) (w : World) (hL : LibW w) :
    Calls Tryz.prog 54 #[.string (u8sG (mantL ws ps pt))] w fun r w' => r = .returned (.float .f64 (fltV ws ps false [])) ∧ Below w.heap.size w w' := by
  obtain ⟨i0, hi0, hz0, hz1, hz2⟩ := info_parts infoU8
  have hlM : (mantL ws ps pt).length ≤ 70000 := by exact hlen
  have hlW : ws.length + ps.length ≤ 70000 := by
    have hm := hlM
    unfold mantL at hm; rw [List.length_append] at hm
    cases pt with
    | true => simp at hm; omega
    | false => rw [hp rfl]; simp at hm ⊢; omega
  have hF := Lib.hid (fltV_at (ws := ws) (ps := ps) (neg := false) (es := ([] : List Nat)) (fun c hc => by cases hc) (by omega))
  have hat : Hid (atV ws ps false ([] : List Nat) = (((ws ++ ps).dropWhile (· == 48)).length : Int) - (ps.length : Int) + sgI false * (eF ([] : List Nat) : Int)) := rfl
  generalize hFV : fltV ws ps false ([] : List Nat) = FV at *
  replace hFV := Lib.hid hFV
  have hdig : ∀ c ∈ ws ++ ps, 48 ≤ c ∧ c ≤ 57 := app_all (P := fun c => 48 ≤ c ∧ c ≤ 57) hw hps
  have hdd := drop_dig (ws ++ ps) hdig
  have hhd := drop_head (ws ++ ps) hdig
  have hdl : ((ws ++ ps).dropWhile (· == 48)).length ≤ 70000 := by
    have := (List.dropWhile_sublist (fun c : Nat => c == 48) (l := ws ++ ps)).length_le
    rw [List.length_append] at this; omega
  have hPF := Lib.hid (fun n (hne : (ws ++ ps).dropWhile (· == 48) ≠ []) (h1 : -400 ≤ n) (h2 : n ≤ 400) W hW => c_PFD ((ws ++ ps).dropWhile (· == 48)) n hdd hne hhd h1 h2 (by omega) W hW)
  have hIt := Lib.hid (fun n (h1 : -400 ≤ n) (h2 : n ≤ 400) W hW => c_itoaP n h1 h2 W hW)
  have htL := Lib.hid (fun n => tL_app ((ws ++ ps).dropWhile (· == 48)) n)
  have hdl2 : (u8sG ((ws ++ ps).dropWhile (· == 48))).size = ((ws ++ ps).dropWhile (· == 48)).length := uG_size _
  have hd256 := Lib.hid (fun c hc => (show c < 256 by have := hdd c hc; omega))
  have hiz : Hid (∀ n : Int, -400 ≤ n → n ≤ 400 → (u8sG (powL n)).size ≤ 100) := fun n h1 h2 => by
    obtain ⟨k1, k2, k3, k4⟩ := itG_k (k := n.natAbs) (by omega)
    rw [uG_size]; unfold powL; split
    · rw [List.length_cons]; omega
    · omega
  have hvm := Lib.hid (vF_mant hw hps hp)
  have hMd := Lib.hid (dFv (pt := pt) hw hps)
  have hvb : Hid (∀ k : Nat, -(k : Int) ≤ (vF ((mantL ws ps pt).take k)).at_ ∧ (vF ((mantL ws ps pt).take k)).at_ ≤ k ∧ (vF ((mantL ws ps pt).take k)).d.length ≤ k) := fun k => by
    have := vF_b ((mantL ws ps pt).take k)
    rw [List.length_take] at this
    omega
  have hvt := Lib.hid (fun k c (h : (mantL ws ps pt)[k]? = some c) => vF_take h)
  have hgM : Hid (∀ j c, (mantL ws ps pt)[j]? = some c → ∀ h : j < (u8sG (mantL ws ps pt)).size, ((u8sG (mantL ws ps pt))[j]'h).toNat = c) := fun j c hc h =>
    uG_get _ j c (hc) (by have := hMd.out c (List.mem_of_getElem? hc); omega) h
  have hLk := Lib.hid (fun W (hb : Below w.heap.size w W) => hL.keep hb)
  have hszS : (u8sG (mantL ws ps pt)).size = (mantL ws ps pt).length := uG_size _
  have hlS : (u8sG (mantL ws ps pt)).size ≤ 70000 := by rw [hszS]; exact hlen
  clear hlen
  generalize u8sG (mantL ws ps pt) = S at *
  generalize mantL ws ps pt = M at *
  generalize hmm : M.length = ml at *
  have hml := Lib.hid hmm
  clear hdig hdd hhd hmm hw hps hp
  go_enter Tryz.func54, Tryz.ntmps54
  go_wp2_with fail
  go_loopw [3, 4, 5, 6, 7] (fun v3 v4 v5 v6 v7 wr => ∃ k : Nat, k ≤ ml ∧ v6 = .int .i64 (k : Int) ∧ wr.ownsRow w.heap.size 5 1 v3 (vF (M.take k)).d.length (b8N (vF (M.take k)).d) ∧ v4 = .int .i64 (vF (M.take k)).at_ ∧ v5 = .bool (vF (M.take k)).beh ∧ Below w.heap.size w wr) (fun _ _ _ v6 _ _ => ml - (intOf v6).toNat)
  case atStart => exact ⟨0, Nat.zero_le _, rfl, World.ownsRow_nil _ _ _ _, rfl, rfl, Below.refl _ _⟩
  case round =>
    obtain ⟨k, hk, rfl, hown, rfl, rfl, hbel⟩ := hrel
    have hbk := hvb.out k
    rcases Nat.lt_or_ge k ml with hkl | hkl
    · obtain ⟨c, hc⟩ : ∃ c, M[k]? = some c := ⟨M[k]'(by have := hml.out; omega), List.getElem?_eq_getElem (by have := hml.out; omega)⟩
      have hcd := hMd.out c (List.mem_of_getElem? hc)
      have hjs : k < S.size := by omega
      have hg := hgM.out k c hc hjs
      have hjI : (k : Int) < (S.size : Int) := by omega
      have hvk := Lib.hid (hvt.out k c hc)
      have n101 : ((c : Int) != 101) = true := by simp; omega
      have n69 : ((c : Int) != 69) = true := by simp; omega
      obtain ⟨p3, cap3, rfl⟩ : ∃ p c, u3 = .slice p (vF (M.take k)).d.length c := by
        rcases hown.2 with ⟨rfl, h0⟩ | ⟨g, cap, cur, rfl, _⟩
        · exact ⟨none, 0, by rw [h0]⟩
        · exact ⟨_, _, rfl⟩
      generalize vF (M.take k) = σ at *
      generalize hσ2 : vF (M.take (k + 1)) = σ2 at *
      replace hσ2 := Lib.hid hσ2
      obtain ⟨d, a, bh⟩ := σ
      simp only at hown hbk
      obtain ⟨hb1, hb2, hb3⟩ := hbk
      by_cases h46 : c = 46
      · subst h46
        have hv2 : Hid (σ2 = ⟨d, a, true⟩) := by show _ = _; rw [hvk.out]; unfold vS; rw [if_pos rfl]
        replace hown := Lib.hid hown
        clear hvk hc hcd
        go_wp2_with fail
        go_roundw
        case rel => exact ⟨k + 1, by omega, by go_num, by rw [hσ2.out, hv2.out]; exact hown.out, by rw [hσ2.out, hv2.out], by rw [hσ2.out, hv2.out], hbel⟩
        case measure => simp [intOf]; omega
      have n46 : ((c : Int) == 46) = false := beq_eq_false_iff_ne.2 (by omega)
      by_cases hld : c = 48 ∧ d = []
      · obtain ⟨rfl, rfl⟩ := hld
        have hv2 : Hid (σ2 = ⟨[], if bh then a - 1 else a, bh⟩) := by show _ = _; rw [hvk.out]; unfold vS; rw [if_neg (by decide), if_pos ⟨rfl, rfl⟩]
        replace hown := Lib.hid hown
        clear hvk hc hcd
        cases bh with
        | true =>
          go_wp2_with fail
          go_roundw
          case rel => exact ⟨k + 1, by omega, by go_num, by rw [hσ2.out, hv2.out]; exact hown.out, by rw [hσ2.out, hv2.out]; rfl, by rw [hσ2.out, hv2.out], hbel⟩
          case measure => simp [intOf]; omega
        | false =>
          go_wp2_with fail
          go_roundw
          case rel => exact ⟨k + 1, by omega, by go_num, by rw [hσ2.out, hv2.out]; exact hown.out, by rw [hσ2.out, hv2.out]; rfl, by rw [hσ2.out, hv2.out], hbel⟩
          case measure => simp [intOf]; omega
      · have hv2 : Hid (σ2 = ⟨d ++ [c], if bh then a else a + 1, bh⟩) := by show _ = _; rw [hvk.out]; unfold vS; rw [if_neg h46, if_neg hld]
        have hc48 : ((c : Int) == 48) = decide (c = 48) := by
          by_cases h : c = 48
          · subst h; rfl
          · rw [decide_eq_false h]; exact beq_eq_false_iff_ne.2 (by omega)
        have hdl0 : c = 48 → ((d.length : Int) == 0) = false := fun h => beq_eq_false_iff_ne.2 (by
          have : d ≠ [] := fun g => hld ⟨h, g⟩
          have := List.length_pos_iff.2 this; omega)
        have hcB : b8N d ++ [.int .u8 (c : Int)] = b8N (d ++ [c]) := by simp [b8N]
        have hc256 : c < 256 := by omega
        replace hcB := Lib.hid hcB
        replace hdl0 := Lib.hid hdl0
        have hdn2 : Hid ((d ++ [c]).length = d.length + 1) := by show _ = _; rw [List.length_append]; rfl
        generalize hdn : d.length = dn at *
        replace hdn := Lib.hid hdn
        clear hvk hc hcd hld h46
        cases bh with
        | true =>
          by_cases h48 : c = 48
          · have e48 : ((c : Int) == 48) = true := hc48.trans (decide_eq_true h48)
            have hdl1 := hdl0.out h48
            clear hc48 h48 hdl0
            go_wp2_with (at_builtin; refine wpList_append_lies _ (by rfl) _ _ _ (by rfl) w.heap.size 5 i0 _ 1 1 Tryz.underlying90 hi0 hz0 hz1 hz2 rfl (by omega) (.slice p3 dn cap3) dn (b8N d) (by rfl) (hown.alloc _) ⟨wr.heap.size, 0, none⟩ 1 1 [.int .u8 (c : Int)] (by rfl) (by rfl) (World.news_of_block (cs := #[.int .u8 (c : Int)]) (t := 5) (fr := (0, 0)) (by exact heap_alloc_new wr _)) (by simp [Value.oneCell']) (by omega) (by unfold maxLen; omega) (by omega) (by have := hbel.size; simp; omega) (wr.heap.size + 1) (by simp) ?_; intro gg cap w3 hown2 hgrow hat hlt2)
            have hown3 : w3.ownsRow w.heap.size 5 1 (.slice (some ⟨gg, 0, none⟩) (dn + 1) cap) (d ++ [c]).length (b8N (d ++ [c])) := by
              rw [← hcB.out, hdn2.out]; exact hown2
            have hbel2 : Below w.heap.size w w3 := (hbel.alloc hbel.size _).grown hgrow (by have := hbel.size; simp; omega) (own_base hown)
            clear hown2 hgrow
            go_roundw
            case rel => exact ⟨k + 1, by omega, by go_num, by rw [hσ2.out, hv2.out]; exact hown3, by rw [hσ2.out, hv2.out]; rfl, by rw [hσ2.out, hv2.out], hbel2⟩
            case measure => simp [intOf]; omega
          · have e48 : ((c : Int) == 48) = false := hc48.trans (decide_eq_false h48)
            clear hc48 h48 hdl0
            go_wp2_with (at_builtin; refine wpList_append_lies _ (by rfl) _ _ _ (by rfl) w.heap.size 5 i0 _ 1 1 Tryz.underlying90 hi0 hz0 hz1 hz2 rfl (by omega) (.slice p3 dn cap3) dn (b8N d) (by rfl) (hown.alloc _) ⟨wr.heap.size, 0, none⟩ 1 1 [.int .u8 (c : Int)] (by rfl) (by rfl) (World.news_of_block (cs := #[.int .u8 (c : Int)]) (t := 5) (fr := (0, 0)) (by exact heap_alloc_new wr _)) (by simp [Value.oneCell']) (by omega) (by unfold maxLen; omega) (by omega) (by have := hbel.size; simp; omega) (wr.heap.size + 1) (by simp) ?_; intro gg cap w3 hown2 hgrow hat hlt2)
            have hown3 : w3.ownsRow w.heap.size 5 1 (.slice (some ⟨gg, 0, none⟩) (dn + 1) cap) (d ++ [c]).length (b8N (d ++ [c])) := by
              rw [← hcB.out, hdn2.out]; exact hown2
            have hbel2 : Below w.heap.size w w3 := (hbel.alloc hbel.size _).grown hgrow (by have := hbel.size; simp; omega) (own_base hown)
            clear hown2 hgrow
            go_roundw
            case rel => exact ⟨k + 1, by omega, by go_num, by rw [hσ2.out, hv2.out]; exact hown3, by rw [hσ2.out, hv2.out]; rfl, by rw [hσ2.out, hv2.out], hbel2⟩
            case measure => simp [intOf]; omega
        | false =>
          by_cases h48 : c = 48
          · have e48 : ((c : Int) == 48) = true := hc48.trans (decide_eq_true h48)
            have hdl1 := hdl0.out h48
            clear hc48 h48 hdl0
            go_wp2_with (at_builtin; refine wpList_append_lies _ (by rfl) _ _ _ (by rfl) w.heap.size 5 i0 _ 1 1 Tryz.underlying90 hi0 hz0 hz1 hz2 rfl (by omega) (.slice p3 dn cap3) dn (b8N d) (by rfl) (hown.alloc _) ⟨wr.heap.size, 0, none⟩ 1 1 [.int .u8 (c : Int)] (by rfl) (by rfl) (World.news_of_block (cs := #[.int .u8 (c : Int)]) (t := 5) (fr := (0, 0)) (by exact heap_alloc_new wr _)) (by simp [Value.oneCell']) (by omega) (by unfold maxLen; omega) (by omega) (by have := hbel.size; simp; omega) (wr.heap.size + 1) (by simp) ?_; intro gg cap w3 hown2 hgrow hat hlt2)
            have hown3 : w3.ownsRow w.heap.size 5 1 (.slice (some ⟨gg, 0, none⟩) (dn + 1) cap) (d ++ [c]).length (b8N (d ++ [c])) := by
              rw [← hcB.out, hdn2.out]; exact hown2
            have hbel2 : Below w.heap.size w w3 := (hbel.alloc hbel.size _).grown hgrow (by have := hbel.size; simp; omega) (own_base hown)
            clear hown2 hgrow
            go_roundw
            case rel => exact ⟨k + 1, by omega, by go_num, by rw [hσ2.out, hv2.out]; exact hown3, by rw [hσ2.out, hv2.out]; rfl, by rw [hσ2.out, hv2.out], hbel2⟩
            case measure => simp [intOf]; omega
          · have e48 : ((c : Int) == 48) = false := hc48.trans (decide_eq_false h48)
            clear hc48 h48 hdl0
            go_wp2_with (at_builtin; refine wpList_append_lies _ (by rfl) _ _ _ (by rfl) w.heap.size 5 i0 _ 1 1 Tryz.underlying90 hi0 hz0 hz1 hz2 rfl (by omega) (.slice p3 dn cap3) dn (b8N d) (by rfl) (hown.alloc _) ⟨wr.heap.size, 0, none⟩ 1 1 [.int .u8 (c : Int)] (by rfl) (by rfl) (World.news_of_block (cs := #[.int .u8 (c : Int)]) (t := 5) (fr := (0, 0)) (by exact heap_alloc_new wr _)) (by simp [Value.oneCell']) (by omega) (by unfold maxLen; omega) (by omega) (by have := hbel.size; simp; omega) (wr.heap.size + 1) (by simp) ?_; intro gg cap w3 hown2 hgrow hat hlt2)
            have hown3 : w3.ownsRow w.heap.size 5 1 (.slice (some ⟨gg, 0, none⟩) (dn + 1) cap) (d ++ [c]).length (b8N (d ++ [c])) := by
              rw [← hcB.out, hdn2.out]; exact hown2
            have hbel2 : Below w.heap.size w w3 := (hbel.alloc hbel.size _).grown hgrow (by have := hbel.size; simp; omega) (own_base hown)
            clear hown2 hgrow
            go_roundw
            case rel => exact ⟨k + 1, by omega, by go_num, by rw [hσ2.out, hv2.out]; exact hown3, by rw [hσ2.out, hv2.out]; rfl, by rw [hσ2.out, hv2.out], hbel2⟩
            case measure => simp [intOf]; omega
    · obtain rfl : k = ml := by omega
      have hMt : Hid (M.take k = M) := by show _ = _; rw [List.take_of_length_le (by have := hml.out; omega)]
      rw [hMt.out] at hown hbk ⊢
      
      have hvd := hvm.out.1
      have hva := hvm.out.2
      rw [hvd] at hown hbk
      rw [hva] at hbk ⊢
      generalize (ws ++ ps).dropWhile (· == 48) = d at *
      obtain ⟨p3, cap3, rfl⟩ : ∃ p c, u3 = .slice p d.length c := by
        rcases hown.2 with ⟨rfl, h0⟩ | ⟨g, cap, cur, rfl, _⟩
        · exact ⟨none, 0, by rw [h0]⟩
        · exact ⟨_, _, rfl⟩
      
      have hjI : ¬ (k : Int) < (S.size : Int) := by omega
      have hjI2 : ¬ (k : Int) + 1 < (S.size : Int) := by omega
      replace hown := Lib.hid hown
      clear hvm hvd hva hMt hvb hvt hgM hMd hml hkl
      go_wp2_with fail
      go_loopw [6, 8, 9] (fun v6 v8 v9 wx => v6 = .int .i64 ((k : Int) + 1) ∧ v8 = .int .i64 0 ∧ v9 = .bool false ∧ wx = wr) (fun _ _ _ _ => 0)
      case atStart => exact ⟨rfl, rfl, rfl, rfl⟩
      case round =>
        obtain ⟨rfl, rfl, rfl, rfl⟩ := hrel
        have hpd : atV ws ps false [] = (d.length : Int) - (ps.length : Int) := by rw [hat.out]; unfold sgI eF; simp
        have hpi : (d.length : Int) - (ps.length : Int) + 0 = atV ws ps false [] := by rw [hpd]; omega
        generalize hAT : atV ws ps false [] = at9 at *
        have hAN : at9 = (d.length : Int) - (ps.length : Int) := hpd
        clear hat 
        by_cases hd0 : d = []
        · have hr := Lib.hid (hF.out.trans (if_pos hd0))
          subst hd0
          clear hF hPF hIt htL hAT hAN
          go_wp2_with fail
          go_ret
          exact ⟨by rw [hr.out]; rfl, hbel⟩
        have hr := hF.out.trans (if_neg hd0)
        have hdp := List.length_pos_iff.2 hd0
        have hdp0 : ((d.length : Int) == 0) = false := beq_eq_false_iff_ne.2 (by omega)
        by_cases h4 : at9 < -400
        · replace hr := Lib.hid (hr.trans (if_pos h4))
          clear hF hPF hIt htL hAT hAN
          go_wp2_with fail
          go_ret
          exact ⟨by rw [hr.out]; rfl, hbel⟩
        replace hr := hr.trans (if_neg h4)
        by_cases h5 : 400 < at9
        · replace hr := Lib.hid (hr.trans (if_pos h5))
          clear hF hPF hIt htL hAT hAN
          go_wp2_with (go_at_call 44; refine (c_mInf _).mono ?_; rintro e w' ⟨rfl, rfl⟩)
          go_ret
          exact ⟨by rw [hr.out]; rfl, hbel⟩
        replace hr := Lib.hid (hr.trans (if_neg h5))
        obtain ⟨g3, cap4, hsl, hr3⟩ := hown.out.form hdp
        injection hsl with hs1 _ hs2
        subst hs1 hs2
        have hcell3 := World.ownsRow.cells hown.out (g := g3) rfl
        have hlt3 : g3 < wr.heap.size := by
          have h0 := hcell3 0 (.int .u8 ((d.getD 0 0 : Nat) : Int)) (by simp [b8N, List.getD_eq_getElem?_getD, hdp])
          rw [add_zero_addr] at h0
          exact lt_ofC h0
        have hcvA : ∀ y, Below wr.heap.size wr y → (convert 90 9 (.slice (some ⟨g3, 0, none⟩) d.length cap3)).run Tryz.prog y = .ok (.string (u8sG d)) y := fun y hy => by
          have e : d.length = (d.map UInt8.ofNat).length := by rw [List.length_map]
          have h := run_convert_bytes_back (P := Tryz.prog) y 90 9 5 ⟨g3, 0, none⟩ cap3 (d.map UInt8.ofNat) Tryz.underlying90 Tryz.underlying5 Tryz.underlying9 (fun j hj => by
            rw [List.length_map] at hj
            have hc := hcell3 j (.int .u8 (d[j] : Int)) (by simp [b8N, hj])
            rw [hy.cell (p := (⟨g3, 0, none⟩ : Addr).add j) (by rw [add_zero_addr]; exact hlt3), hc]
            have := hd256.out d[j] (List.getElem_mem hj)
            congr 2
            simp
            omega)
          rw [← e] at h
          exact h
        have hI1 := Lib.hid (fun W (hb : Below w.heap.size w W) => hIt.out ((d.length : Int) - (ps.length : Int)) (by omega) (by omega) W (hLk.out _ hb))
        have hP1 := Lib.hid (fun W (hb : Below w.heap.size w W) => hPF.out ((d.length : Int) - (ps.length : Int)) hd0 (by omega) (by omega) W (hLk.out _ hb))
        have hiz1 := hiz.out ((d.length : Int) - (ps.length : Int)) (by omega) (by omega)
        rw [← htL.out ((d.length : Int) - (ps.length : Int))] at hP1
        have hr4 : Hid (FV = nv (numL d) ((d.length : Int) - (ps.length : Int) - (d.length : Int))) := by
          show _ = _
          rw [hr.out, hAN]
        generalize hvv : nv (numL d) ((d.length : Int) - (ps.length : Int) - (d.length : Int)) = vv at *
        generalize u8sG d = SD at *
        generalize u8sG (powL ((d.length : Int) - (ps.length : Int))) = IP at *
        have hst : (convert 90 9 (.slice (some ⟨g3, 0, none⟩) d.length cap3)).run Tryz.prog wr.drew = .ok (.string SD) wr.drew ∧ Below wr.heap.size wr wr.drew := ⟨hcvA _ (Below.refl _ _).drew, (Below.refl _ _).drew⟩
        have hkp := fun (y y' : World) (h : (convert 90 9 (.slice (some ⟨g3, 0, none⟩) d.length cap3)).run Tryz.prog y = .ok (.string SD) y ∧ Below wr.heap.size wr y) (hb : Below y.heap.size y y') => (show (convert 90 9 (.slice (some ⟨g3, 0, none⟩) d.length cap3)).run Tryz.prog y' = .ok (.string SD) y' ∧ Below wr.heap.size wr y' from ⟨hcvA _ (h.2.trans (hb.mono h.2.size)), h.2.trans (hb.mono h.2.size)⟩)
        have hbw := Lib.hid (fun (y : World) (h : Below wr.heap.size wr y) => (hbel).trans (h.mono (hbel).size))
        have hc2 : (⟨#[48, 46]⟩ : ByteArray).size = 2 := rfl
        have hc1 : (⟨#[101]⟩ : ByteArray).size = 1 := rfl
        have g1 : ¬ 9223372036854775807 < 2 + SD.size := by omega
        have g2 : ¬ 9223372036854775807 < 2 + SD.size + 1 := by omega
        have g4 : ¬ 9223372036854775807 < 2 + SD.size + 1 + IP.size := by omega
        clear hdl2 hiz1
        clear hF hPF hIt htL hcell3 hown hcvA hlt3 hr hr3 hAN hvv hiz hd256 hd0 hdp hbk
        go_wp2_with fail
        go_region_held3 (fun y => (convert 90 9 (.slice (some ⟨g3, 0, none⟩) d.length cap3)).run Tryz.prog y = .ok (.string SD) y ∧ Below wr.heap.size wr y) (first | with_reducible assumption | with_reducible exact hst | with_reducible exact hkp _ _ (by assumption) (by assumption)) (first | (go_at_call 66; refine (hI1.out _ (hbw.out _ (And.right (by assumption)))).mono ?_; rintro e y3 ⟨rfl, hb6⟩) | (go_at_call 75; refine (hP1.out _ (hbw.out _ (And.right (by assumption)))).mono ?_; rintro e y4 ⟨⟨er, rfl⟩, hb7⟩))
        all_goals (
          go_wp2_with fail
          go_ret
          exact ⟨by rw [hr4.out]; rfl, hbw.out _ ((Below.refl _ _).drew.trans ((hb6.trans (hb7.mono hb6.size)).mono (by exact Nat.le_refl _)))⟩)
theorem c_RvalueE (ws ps : List Nat) (pt : Bool) (e : Nat) (sg es : List Nat) (neg : Bool) (hw : Dg ws) (hps : Dg ps) (hp : pt = false → ps = []) (he : e = 101 ∨ e = 69) (hsg : sg = [] ∧ neg = false ∨ sg = [43] ∧ neg = false ∨ sg = [45] ∧ neg = true) (hes : Dg es)
    (hlen : (mantL ws ps pt ++ e :: (sg ++ es)).length ≤ 70000) (w : World) (hL : LibW w) :
    Calls Tryz.prog 54 #[.string (u8sG (mantL ws ps pt ++ e :: (sg ++ es)))] w fun r w' => r = .returned (.float .f64 (fltV ws ps neg es)) ∧ Below w.heap.size w w' := by
  obtain ⟨i0, hi0, hz0, hz1, hz2⟩ := info_parts infoU8
  have hlM : (mantL ws ps pt).length ≤ 70000 := by simp only [List.length_append] at hlen; omega
  have hlW : ws.length + ps.length ≤ 70000 := by
    have hm := hlM
    unfold mantL at hm; rw [List.length_append] at hm
    cases pt with
    | true => simp at hm; omega
    | false => rw [hp rfl]; simp at hm ⊢; omega
  have hF := Lib.hid (fltV_at (ws := ws) (ps := ps) (neg := neg) (es := es) hes (by omega))
  have hat : Hid (atV ws ps neg es = (((ws ++ ps).dropWhile (· == 48)).length : Int) - (ps.length : Int) + sgI neg * (eF es : Int)) := rfl
  generalize hFV : fltV ws ps neg es = FV at *
  replace hFV := Lib.hid hFV
  have hdig : ∀ c ∈ ws ++ ps, 48 ≤ c ∧ c ≤ 57 := app_all (P := fun c => 48 ≤ c ∧ c ≤ 57) hw hps
  have hdd := drop_dig (ws ++ ps) hdig
  have hhd := drop_head (ws ++ ps) hdig
  have hdl : ((ws ++ ps).dropWhile (· == 48)).length ≤ 70000 := by
    have := (List.dropWhile_sublist (fun c : Nat => c == 48) (l := ws ++ ps)).length_le
    rw [List.length_append] at this; omega
  have hPF := Lib.hid (fun n (hne : (ws ++ ps).dropWhile (· == 48) ≠ []) (h1 : -400 ≤ n) (h2 : n ≤ 400) W hW => c_PFD ((ws ++ ps).dropWhile (· == 48)) n hdd hne hhd h1 h2 (by omega) W hW)
  have hIt := Lib.hid (fun n (h1 : -400 ≤ n) (h2 : n ≤ 400) W hW => c_itoaP n h1 h2 W hW)
  have htL := Lib.hid (fun n => tL_app ((ws ++ ps).dropWhile (· == 48)) n)
  have hdl2 : (u8sG ((ws ++ ps).dropWhile (· == 48))).size = ((ws ++ ps).dropWhile (· == 48)).length := uG_size _
  have hd256 := Lib.hid (fun c hc => (show c < 256 by have := hdd c hc; omega))
  have hiz : Hid (∀ n : Int, -400 ≤ n → n ≤ 400 → (u8sG (powL n)).size ≤ 100) := fun n h1 h2 => by
    obtain ⟨k1, k2, k3, k4⟩ := itG_k (k := n.natAbs) (by omega)
    rw [uG_size]; unfold powL; split
    · rw [List.length_cons]; omega
    · omega
  have hvm := Lib.hid (vF_mant hw hps hp)
  have hMd := Lib.hid (dFv (pt := pt) hw hps)
  have hvb : Hid (∀ k : Nat, -(k : Int) ≤ (vF ((mantL ws ps pt).take k)).at_ ∧ (vF ((mantL ws ps pt).take k)).at_ ≤ k ∧ (vF ((mantL ws ps pt).take k)).d.length ≤ k) := fun k => by
    have := vF_b ((mantL ws ps pt).take k)
    rw [List.length_take] at this
    omega
  have hvt := Lib.hid (fun k c (h : (mantL ws ps pt)[k]? = some c) => vF_take h)
  have hgM : Hid (∀ j c, (mantL ws ps pt)[j]? = some c → ∀ h : j < (u8sG (mantL ws ps pt ++ e :: (sg ++ es))).size, ((u8sG (mantL ws ps pt ++ e :: (sg ++ es)))[j]'h).toNat = c) := fun j c hc h =>
    uG_get _ j c (by rw [List.getElem?_append_left (List.getElem?_eq_some_iff.1 hc).1]; exact hc) (by have := hMd.out c (List.mem_of_getElem? hc); omega) h
  have hLk := Lib.hid (fun W (hb : Below w.heap.size w W) => hL.keep hb)
  have hszS : (u8sG (mantL ws ps pt ++ e :: (sg ++ es))).size = (mantL ws ps pt).length + 1 + (sg ++ es).length := by rw [uG_size]; simp; omega
  have hgE := uG_get (mantL ws ps pt ++ e :: (sg ++ es)) (mantL ws ps pt).length e (by rw [List.getElem?_append_right (Nat.le_refl _)]; simp) (by omega)
  have hgX : Hid (∀ j c, (sg ++ es)[j]? = some c → ∀ h : (mantL ws ps pt).length + 1 + j < (u8sG (mantL ws ps pt ++ e :: (sg ++ es))).size, ((u8sG (mantL ws ps pt ++ e :: (sg ++ es)))[(mantL ws ps pt).length + 1 + j]'h).toNat = c) := fun j c hc h =>
    uG_get _ _ c (by
      rw [List.getElem?_append_right (by omega), show (mantL ws ps pt).length + 1 + j - (mantL ws ps pt).length = j + 1 by omega, List.getElem?_cons_succ]; exact hc) (by
      have := List.mem_of_getElem? hc
      rcases List.mem_append.1 this with h | h
      · rcases hsg with ⟨rfl, -⟩ | ⟨rfl, -⟩ | ⟨rfl, -⟩ <;> simp at h <;> omega
      · have := hes c h; omega) h
  have hlS : (u8sG (mantL ws ps pt ++ e :: (sg ++ es))).size ≤ 70000 := by rw [uG_size]; exact hlen
  have hlX : (sg ++ es).length ≤ 70000 := by simp only [List.length_append, List.length_cons] at hlen ⊢; omega
  have hXc : Hid (∀ c ∈ sg ++ es, c = 43 ∨ c = 45 ∨ 48 ≤ c ∧ c ≤ 57) := fun c hc => by
    rcases List.mem_append.1 hc with h | h
    · rcases hsg with ⟨rfl, -⟩ | ⟨rfl, -⟩ | ⟨rfl, -⟩ <;> simp at h <;> omega
    · exact .inr (.inr (hes c h))
  have hxF := Lib.hid (xF_sg hsg hes)
  have hxb := Lib.hid (xF_b (l := sg ++ es) (fun c hc => by have := hXc.out c hc; omega))
  have hxt := Lib.hid (fun k c (h : (sg ++ es)[k]? = some c) => xF_take h)
  clear hlen
  generalize sg ++ es = X at *
  generalize hXX : X.length = xl at *
  have hXl := Lib.hid hXX
  clear hXX
  generalize u8sG (mantL ws ps pt ++ e :: X) = S at *
  generalize mantL ws ps pt = M at *
  generalize hmm : M.length = ml at *
  have hml := Lib.hid hmm
  clear hdig hdd hhd hmm hw hps hp
  go_enter Tryz.func54, Tryz.ntmps54
  go_wp2_with fail
  go_loopw [3, 4, 5, 6, 7] (fun v3 v4 v5 v6 v7 wr => ∃ k : Nat, k ≤ ml ∧ v6 = .int .i64 (k : Int) ∧ wr.ownsRow w.heap.size 5 1 v3 (vF (M.take k)).d.length (b8N (vF (M.take k)).d) ∧ v4 = .int .i64 (vF (M.take k)).at_ ∧ v5 = .bool (vF (M.take k)).beh ∧ Below w.heap.size w wr) (fun _ _ _ v6 _ _ => ml - (intOf v6).toNat)
  case atStart => exact ⟨0, Nat.zero_le _, rfl, World.ownsRow_nil _ _ _ _, rfl, rfl, Below.refl _ _⟩
  case round =>
    obtain ⟨k, hk, rfl, hown, rfl, rfl, hbel⟩ := hrel
    have hbk := hvb.out k
    rcases Nat.lt_or_ge k ml with hkl | hkl
    · obtain ⟨c, hc⟩ : ∃ c, M[k]? = some c := ⟨M[k]'(by have := hml.out; omega), List.getElem?_eq_getElem (by have := hml.out; omega)⟩
      have hcd := hMd.out c (List.mem_of_getElem? hc)
      have hjs : k < S.size := by omega
      have hg := hgM.out k c hc hjs
      have hjI : (k : Int) < (S.size : Int) := by omega
      have hvk := Lib.hid (hvt.out k c hc)
      have n101 : ((c : Int) != 101) = true := by simp; omega
      have n69 : ((c : Int) != 69) = true := by simp; omega
      obtain ⟨p3, cap3, rfl⟩ : ∃ p c, u3 = .slice p (vF (M.take k)).d.length c := by
        rcases hown.2 with ⟨rfl, h0⟩ | ⟨g, cap, cur, rfl, _⟩
        · exact ⟨none, 0, by rw [h0]⟩
        · exact ⟨_, _, rfl⟩
      generalize vF (M.take k) = σ at *
      generalize hσ2 : vF (M.take (k + 1)) = σ2 at *
      replace hσ2 := Lib.hid hσ2
      obtain ⟨d, a, bh⟩ := σ
      simp only at hown hbk
      obtain ⟨hb1, hb2, hb3⟩ := hbk
      by_cases h46 : c = 46
      · subst h46
        have hv2 : Hid (σ2 = ⟨d, a, true⟩) := by show _ = _; rw [hvk.out]; unfold vS; rw [if_pos rfl]
        replace hown := Lib.hid hown
        clear hvk hc hcd
        go_wp2_with fail
        go_roundw
        case rel => exact ⟨k + 1, by omega, by go_num, by rw [hσ2.out, hv2.out]; exact hown.out, by rw [hσ2.out, hv2.out], by rw [hσ2.out, hv2.out], hbel⟩
        case measure => simp [intOf]; omega
      have n46 : ((c : Int) == 46) = false := beq_eq_false_iff_ne.2 (by omega)
      by_cases hld : c = 48 ∧ d = []
      · obtain ⟨rfl, rfl⟩ := hld
        have hv2 : Hid (σ2 = ⟨[], if bh then a - 1 else a, bh⟩) := by show _ = _; rw [hvk.out]; unfold vS; rw [if_neg (by decide), if_pos ⟨rfl, rfl⟩]
        replace hown := Lib.hid hown
        clear hvk hc hcd
        cases bh with
        | true =>
          go_wp2_with fail
          go_roundw
          case rel => exact ⟨k + 1, by omega, by go_num, by rw [hσ2.out, hv2.out]; exact hown.out, by rw [hσ2.out, hv2.out]; rfl, by rw [hσ2.out, hv2.out], hbel⟩
          case measure => simp [intOf]; omega
        | false =>
          go_wp2_with fail
          go_roundw
          case rel => exact ⟨k + 1, by omega, by go_num, by rw [hσ2.out, hv2.out]; exact hown.out, by rw [hσ2.out, hv2.out]; rfl, by rw [hσ2.out, hv2.out], hbel⟩
          case measure => simp [intOf]; omega
      · have hv2 : Hid (σ2 = ⟨d ++ [c], if bh then a else a + 1, bh⟩) := by show _ = _; rw [hvk.out]; unfold vS; rw [if_neg h46, if_neg hld]
        have hc48 : ((c : Int) == 48) = decide (c = 48) := by
          by_cases h : c = 48
          · subst h; rfl
          · rw [decide_eq_false h]; exact beq_eq_false_iff_ne.2 (by omega)
        have hdl0 : c = 48 → ((d.length : Int) == 0) = false := fun h => beq_eq_false_iff_ne.2 (by
          have : d ≠ [] := fun g => hld ⟨h, g⟩
          have := List.length_pos_iff.2 this; omega)
        have hcB : b8N d ++ [.int .u8 (c : Int)] = b8N (d ++ [c]) := by simp [b8N]
        have hc256 : c < 256 := by omega
        replace hcB := Lib.hid hcB
        replace hdl0 := Lib.hid hdl0
        have hdn2 : Hid ((d ++ [c]).length = d.length + 1) := by show _ = _; rw [List.length_append]; rfl
        generalize hdn : d.length = dn at *
        replace hdn := Lib.hid hdn
        clear hvk hc hcd hld h46
        cases bh with
        | true =>
          by_cases h48 : c = 48
          · have e48 : ((c : Int) == 48) = true := hc48.trans (decide_eq_true h48)
            have hdl1 := hdl0.out h48
            clear hc48 h48 hdl0
            go_wp2_with (at_builtin; refine wpList_append_lies _ (by rfl) _ _ _ (by rfl) w.heap.size 5 i0 _ 1 1 Tryz.underlying90 hi0 hz0 hz1 hz2 rfl (by omega) (.slice p3 dn cap3) dn (b8N d) (by rfl) (hown.alloc _) ⟨wr.heap.size, 0, none⟩ 1 1 [.int .u8 (c : Int)] (by rfl) (by rfl) (World.news_of_block (cs := #[.int .u8 (c : Int)]) (t := 5) (fr := (0, 0)) (by exact heap_alloc_new wr _)) (by simp [Value.oneCell']) (by omega) (by unfold maxLen; omega) (by omega) (by have := hbel.size; simp; omega) (wr.heap.size + 1) (by simp) ?_; intro gg cap w3 hown2 hgrow hat hlt2)
            have hown3 : w3.ownsRow w.heap.size 5 1 (.slice (some ⟨gg, 0, none⟩) (dn + 1) cap) (d ++ [c]).length (b8N (d ++ [c])) := by
              rw [← hcB.out, hdn2.out]; exact hown2
            have hbel2 : Below w.heap.size w w3 := (hbel.alloc hbel.size _).grown hgrow (by have := hbel.size; simp; omega) (own_base hown)
            clear hown2 hgrow
            go_roundw
            case rel => exact ⟨k + 1, by omega, by go_num, by rw [hσ2.out, hv2.out]; exact hown3, by rw [hσ2.out, hv2.out]; rfl, by rw [hσ2.out, hv2.out], hbel2⟩
            case measure => simp [intOf]; omega
          · have e48 : ((c : Int) == 48) = false := hc48.trans (decide_eq_false h48)
            clear hc48 h48 hdl0
            go_wp2_with (at_builtin; refine wpList_append_lies _ (by rfl) _ _ _ (by rfl) w.heap.size 5 i0 _ 1 1 Tryz.underlying90 hi0 hz0 hz1 hz2 rfl (by omega) (.slice p3 dn cap3) dn (b8N d) (by rfl) (hown.alloc _) ⟨wr.heap.size, 0, none⟩ 1 1 [.int .u8 (c : Int)] (by rfl) (by rfl) (World.news_of_block (cs := #[.int .u8 (c : Int)]) (t := 5) (fr := (0, 0)) (by exact heap_alloc_new wr _)) (by simp [Value.oneCell']) (by omega) (by unfold maxLen; omega) (by omega) (by have := hbel.size; simp; omega) (wr.heap.size + 1) (by simp) ?_; intro gg cap w3 hown2 hgrow hat hlt2)
            have hown3 : w3.ownsRow w.heap.size 5 1 (.slice (some ⟨gg, 0, none⟩) (dn + 1) cap) (d ++ [c]).length (b8N (d ++ [c])) := by
              rw [← hcB.out, hdn2.out]; exact hown2
            have hbel2 : Below w.heap.size w w3 := (hbel.alloc hbel.size _).grown hgrow (by have := hbel.size; simp; omega) (own_base hown)
            clear hown2 hgrow
            go_roundw
            case rel => exact ⟨k + 1, by omega, by go_num, by rw [hσ2.out, hv2.out]; exact hown3, by rw [hσ2.out, hv2.out]; rfl, by rw [hσ2.out, hv2.out], hbel2⟩
            case measure => simp [intOf]; omega
        | false =>
          by_cases h48 : c = 48
          · have e48 : ((c : Int) == 48) = true := hc48.trans (decide_eq_true h48)
            have hdl1 := hdl0.out h48
            clear hc48 h48 hdl0
            go_wp2_with (at_builtin; refine wpList_append_lies _ (by rfl) _ _ _ (by rfl) w.heap.size 5 i0 _ 1 1 Tryz.underlying90 hi0 hz0 hz1 hz2 rfl (by omega) (.slice p3 dn cap3) dn (b8N d) (by rfl) (hown.alloc _) ⟨wr.heap.size, 0, none⟩ 1 1 [.int .u8 (c : Int)] (by rfl) (by rfl) (World.news_of_block (cs := #[.int .u8 (c : Int)]) (t := 5) (fr := (0, 0)) (by exact heap_alloc_new wr _)) (by simp [Value.oneCell']) (by omega) (by unfold maxLen; omega) (by omega) (by have := hbel.size; simp; omega) (wr.heap.size + 1) (by simp) ?_; intro gg cap w3 hown2 hgrow hat hlt2)
            have hown3 : w3.ownsRow w.heap.size 5 1 (.slice (some ⟨gg, 0, none⟩) (dn + 1) cap) (d ++ [c]).length (b8N (d ++ [c])) := by
              rw [← hcB.out, hdn2.out]; exact hown2
            have hbel2 : Below w.heap.size w w3 := (hbel.alloc hbel.size _).grown hgrow (by have := hbel.size; simp; omega) (own_base hown)
            clear hown2 hgrow
            go_roundw
            case rel => exact ⟨k + 1, by omega, by go_num, by rw [hσ2.out, hv2.out]; exact hown3, by rw [hσ2.out, hv2.out]; rfl, by rw [hσ2.out, hv2.out], hbel2⟩
            case measure => simp [intOf]; omega
          · have e48 : ((c : Int) == 48) = false := hc48.trans (decide_eq_false h48)
            clear hc48 h48 hdl0
            go_wp2_with (at_builtin; refine wpList_append_lies _ (by rfl) _ _ _ (by rfl) w.heap.size 5 i0 _ 1 1 Tryz.underlying90 hi0 hz0 hz1 hz2 rfl (by omega) (.slice p3 dn cap3) dn (b8N d) (by rfl) (hown.alloc _) ⟨wr.heap.size, 0, none⟩ 1 1 [.int .u8 (c : Int)] (by rfl) (by rfl) (World.news_of_block (cs := #[.int .u8 (c : Int)]) (t := 5) (fr := (0, 0)) (by exact heap_alloc_new wr _)) (by simp [Value.oneCell']) (by omega) (by unfold maxLen; omega) (by omega) (by have := hbel.size; simp; omega) (wr.heap.size + 1) (by simp) ?_; intro gg cap w3 hown2 hgrow hat hlt2)
            have hown3 : w3.ownsRow w.heap.size 5 1 (.slice (some ⟨gg, 0, none⟩) (dn + 1) cap) (d ++ [c]).length (b8N (d ++ [c])) := by
              rw [← hcB.out, hdn2.out]; exact hown2
            have hbel2 : Below w.heap.size w w3 := (hbel.alloc hbel.size _).grown hgrow (by have := hbel.size; simp; omega) (own_base hown)
            clear hown2 hgrow
            go_roundw
            case rel => exact ⟨k + 1, by omega, by go_num, by rw [hσ2.out, hv2.out]; exact hown3, by rw [hσ2.out, hv2.out]; rfl, by rw [hσ2.out, hv2.out], hbel2⟩
            case measure => simp [intOf]; omega
    · obtain rfl : k = ml := by omega
      have hMt : Hid (M.take k = M) := by show _ = _; rw [List.take_of_length_le (by have := hml.out; omega)]
      rw [hMt.out] at hown hbk ⊢
      
      have hvd := hvm.out.1
      have hva := hvm.out.2
      rw [hvd] at hown hbk
      rw [hva] at hbk ⊢
      generalize (ws ++ ps).dropWhile (· == 48) = d at *
      obtain ⟨p3, cap3, rfl⟩ : ∃ p c, u3 = .slice p d.length c := by
        rcases hown.2 with ⟨rfl, h0⟩ | ⟨g, cap, cur, rfl, _⟩
        · exact ⟨none, 0, by rw [h0]⟩
        · exact ⟨_, _, rfl⟩
      
      have hjI : (k : Int) < (S.size : Int) := by omega
      have hjN : k < S.size := by omega
      have hg := hgE hjN
      replace hown := Lib.hid hown
      clear hvm hvd hva hMt hvb hvt hgM hMd hgE hml hkl
      rcases he with rfl | rfl
      · go_wp2_with fail
        clear hjI hjN hg
        go_loopw [6, 8, 9] (fun v6 v8 v9 wx => ∃ j : Nat, j ≤ xl ∧ v6 = .int .i64 ((k : Int) + 1 + (j : Int)) ∧ v8 = .int .i64 ((xF (X.take j)).1 : Int) ∧ v9 = .bool (xF (X.take j)).2 ∧ wx = wr) (fun v6 _ _ _ => k + 1 + xl - (intOf v6).toNat)
        case atStart => exact ⟨0, Nat.zero_le _, by simp, rfl, rfl, rfl⟩
        case round =>
          obtain ⟨j, hj, rfl, rfl, rfl, hwx⟩ := hrel
          have hbj := hxb.out j
          rcases Nat.lt_or_ge j xl with hjl | hjl
          · obtain ⟨c, hc⟩ : ∃ c, X[j]? = some c := ⟨X[j]'(by have := hXl.out; omega), List.getElem?_eq_getElem (by have := hXl.out; omega)⟩
            have hcd := hXc.out c (List.mem_of_getElem? hc)
            have hjs : k + 1 + j < S.size := by omega
            have hg := hgX.out j c hc hjs
            have hjI : (k : Int) + 1 + (j : Int) < (S.size : Int) := by omega
            have hjn : ((k : Int) + 1 + (j : Int)).toNat = k + 1 + j := by omega
            have hj0 : (0 : Int) ≤ (k : Int) + 1 + (j : Int) := by omega
            have hxk := Lib.hid (hxt.out j c hc)
            generalize xF (X.take j) = σ at *
            generalize hσ2 : xF (X.take (j + 1)) = σ2 at *
            replace hσ2 := Lib.hid hσ2
            obtain ⟨e, dn⟩ := σ
            simp only at hbj
            replace hwx := Lib.hid hwx
            by_cases h45 : c = 45
            · subst h45
              have hv2 : Hid (σ2 = (e, true)) := by show _ = _; rw [hxk.out]; unfold xS; rw [if_pos rfl]
              clear hxk hc hcd
              go_wp2_with fail
              go_roundw
              case rel => exact ⟨j + 1, by omega, by go_num, by rw [hσ2.out, hv2.out], by rw [hσ2.out, hv2.out], hwx.out⟩
              case measure => simp [intOf]; omega
            by_cases h43 : c = 43
            · subst h43
              have hv2 : Hid (σ2 = (e, dn)) := by show _ = _; rw [hxk.out]; unfold xS; rw [if_neg (by decide), if_pos rfl]
              clear hxk hc hcd
              go_wp2_with fail
              go_roundw
              case rel => exact ⟨j + 1, by omega, by go_num, by rw [hσ2.out, hv2.out], by rw [hσ2.out, hv2.out], hwx.out⟩
              case measure => simp [intOf]; omega
            have n45 : ((c : Int) == 45) = false := beq_eq_false_iff_ne.2 (by omega)
            have n43 : ((c : Int) != 43) = true := by simp; omega
            have hc48 : 48 ≤ c := by omega
            have hc57 : c ≤ 57 := by omega
            by_cases he30 : e < 1073741824
            · have hv2 : Hid (σ2 = (10 * e + (c - 48), dn)) := by show _ = _; rw [hxk.out]; unfold xS; rw [if_neg h45, if_neg h43, if_pos he30]
              have heI : (e : Int) < 1073741824 := by omega
              replace hbj := Lib.hid hbj
              clear hxk hc hcd h45 h43 he30
              go_wp2_with fail
              go_roundw
              case rel => exact ⟨j + 1, by omega, by go_num, by rw [hσ2.out, hv2.out]; go_num, by rw [hσ2.out, hv2.out], hwx.out⟩
              case measure => simp [intOf]; omega
            · have hv2 : Hid (σ2 = (e, dn)) := by show _ = _; rw [hxk.out]; unfold xS; rw [if_neg h45, if_neg h43, if_neg he30]
              have heI : ¬ (e : Int) < 1073741824 := by omega
              replace hbj := Lib.hid hbj
              clear hxk hc hcd h45 h43 he30
              go_wp2_with fail
              go_roundw
              case rel => exact ⟨j + 1, by omega, by go_num, by rw [hσ2.out, hv2.out], by rw [hσ2.out, hv2.out], hwx.out⟩
              case measure => simp [intOf]; omega
          · obtain rfl : j = xl := by omega
            obtain rfl := hwx
            have hXt : Hid (X.take j = X) := by show _ = _; rw [List.take_of_length_le (by have := hXl.out; omega)]
            have hjI : ¬ (k : Int) + 1 + (j : Int) < (S.size : Int) := by omega
            rw [hXt.out, hxF.out] at hbj ⊢
            clear hXt hxF hxb hxt hgX hXc hXl
            simp only at hbj
            generalize hee : eF es = ee at *
            cases neg with
            | true =>
              have hpd : atV ws ps true es = (d.length : Int) - (ps.length : Int) + -(ee : Int) := by rw [hat.out]; unfold sgI; simp
              generalize hAT : atV ws ps true es = at9 at *
              have hAN : at9 = (d.length : Int) - (ps.length : Int) + -(ee : Int) := hpd
              clear hat 
              by_cases hd0 : d = []
              · have hr := Lib.hid (hF.out.trans (if_pos hd0))
                subst hd0
                clear hF hPF hIt htL hAT hAN
                go_wp2_with fail
                go_ret
                exact ⟨by rw [hr.out]; rfl, hbel⟩
              have hr := hF.out.trans (if_neg hd0)
              have hdp := List.length_pos_iff.2 hd0
              have hdp0 : ((d.length : Int) == 0) = false := beq_eq_false_iff_ne.2 (by omega)
              by_cases h4 : at9 < -400
              · replace hr := Lib.hid (hr.trans (if_pos h4))
                clear hF hPF hIt htL hAT hAN
                go_wp2_with fail
                go_ret
                exact ⟨by rw [hr.out]; rfl, hbel⟩
              replace hr := hr.trans (if_neg h4)
              by_cases h5 : 400 < at9
              · replace hr := Lib.hid (hr.trans (if_pos h5))
                clear hF hPF hIt htL hAT hAN
                go_wp2_with (go_at_call 44; refine (c_mInf _).mono ?_; rintro e w' ⟨rfl, rfl⟩)
                go_ret
                exact ⟨by rw [hr.out]; rfl, hbel⟩
              replace hr := Lib.hid (hr.trans (if_neg h5))
              obtain ⟨g3, cap4, hsl, hr3⟩ := hown.out.form hdp
              injection hsl with hs1 _ hs2
              subst hs1 hs2
              have hcell3 := World.ownsRow.cells hown.out (g := g3) rfl
              have hlt3 : g3 < wr.heap.size := by
                have h0 := hcell3 0 (.int .u8 ((d.getD 0 0 : Nat) : Int)) (by simp [b8N, List.getD_eq_getElem?_getD, hdp])
                rw [add_zero_addr] at h0
                exact lt_ofC h0
              have hcvA : ∀ y, Below wr.heap.size wr y → (convert 90 9 (.slice (some ⟨g3, 0, none⟩) d.length cap3)).run Tryz.prog y = .ok (.string (u8sG d)) y := fun y hy => by
                have e : d.length = (d.map UInt8.ofNat).length := by rw [List.length_map]
                have h := run_convert_bytes_back (P := Tryz.prog) y 90 9 5 ⟨g3, 0, none⟩ cap3 (d.map UInt8.ofNat) Tryz.underlying90 Tryz.underlying5 Tryz.underlying9 (fun j hj => by
                  rw [List.length_map] at hj
                  have hc := hcell3 j (.int .u8 (d[j] : Int)) (by simp [b8N, hj])
                  rw [hy.cell (p := (⟨g3, 0, none⟩ : Addr).add j) (by rw [add_zero_addr]; exact hlt3), hc]
                  have := hd256.out d[j] (List.getElem_mem hj)
                  congr 2
                  simp
                  omega)
                rw [← e] at h
                exact h
              have hI1 := Lib.hid (fun W (hb : Below w.heap.size w W) => hIt.out ((d.length : Int) - (ps.length : Int) + -(ee : Int)) (by omega) (by omega) W (hLk.out _ hb))
              have hP1 := Lib.hid (fun W (hb : Below w.heap.size w W) => hPF.out ((d.length : Int) - (ps.length : Int) + -(ee : Int)) hd0 (by omega) (by omega) W (hLk.out _ hb))
              have hiz1 := hiz.out ((d.length : Int) - (ps.length : Int) + -(ee : Int)) (by omega) (by omega)
              rw [← htL.out ((d.length : Int) - (ps.length : Int) + -(ee : Int))] at hP1
              have hr4 : Hid (FV = nv (numL d) ((d.length : Int) - (ps.length : Int) + -(ee : Int) - (d.length : Int))) := by
                show _ = _
                rw [hr.out, hAN]
              generalize hvv : nv (numL d) ((d.length : Int) - (ps.length : Int) + -(ee : Int) - (d.length : Int)) = vv at *
              generalize u8sG d = SD at *
              generalize u8sG (powL ((d.length : Int) - (ps.length : Int) + -(ee : Int))) = IP at *
              have hst : (convert 90 9 (.slice (some ⟨g3, 0, none⟩) d.length cap3)).run Tryz.prog wr.drew = .ok (.string SD) wr.drew ∧ Below wr.heap.size wr wr.drew := ⟨hcvA _ (Below.refl _ _).drew, (Below.refl _ _).drew⟩
              have hkp := fun (y y' : World) (h : (convert 90 9 (.slice (some ⟨g3, 0, none⟩) d.length cap3)).run Tryz.prog y = .ok (.string SD) y ∧ Below wr.heap.size wr y) (hb : Below y.heap.size y y') => (show (convert 90 9 (.slice (some ⟨g3, 0, none⟩) d.length cap3)).run Tryz.prog y' = .ok (.string SD) y' ∧ Below wr.heap.size wr y' from ⟨hcvA _ (h.2.trans (hb.mono h.2.size)), h.2.trans (hb.mono h.2.size)⟩)
              have hbw := Lib.hid (fun (y : World) (h : Below wr.heap.size wr y) => (hbel).trans (h.mono (hbel).size))
              have hc2 : (⟨#[48, 46]⟩ : ByteArray).size = 2 := rfl
              have hc1 : (⟨#[101]⟩ : ByteArray).size = 1 := rfl
              have g1 : ¬ 9223372036854775807 < 2 + SD.size := by omega
              have g2 : ¬ 9223372036854775807 < 2 + SD.size + 1 := by omega
              have g4 : ¬ 9223372036854775807 < 2 + SD.size + 1 + IP.size := by omega
              clear hdl2 hiz1
              clear hF hPF hIt htL hcell3 hown hcvA hlt3 hr hr3 hAN hvv hiz hd256 hd0 hdp hbk
              go_wp2_with fail
              go_region_held3 (fun y => (convert 90 9 (.slice (some ⟨g3, 0, none⟩) d.length cap3)).run Tryz.prog y = .ok (.string SD) y ∧ Below wr.heap.size wr y) (first | with_reducible assumption | with_reducible exact hst | with_reducible exact hkp _ _ (by assumption) (by assumption)) (first | (go_at_call 66; refine (hI1.out _ (hbw.out _ (And.right (by assumption)))).mono ?_; rintro e y3 ⟨rfl, hb6⟩) | (go_at_call 75; refine (hP1.out _ (hbw.out _ (And.right (by assumption)))).mono ?_; rintro e y4 ⟨⟨er, rfl⟩, hb7⟩))
              all_goals (
                go_wp2_with fail
                go_ret
                exact ⟨by rw [hr4.out]; rfl, hbw.out _ ((Below.refl _ _).drew.trans ((hb6.trans (hb7.mono hb6.size)).mono (by exact Nat.le_refl _)))⟩)
            | false =>
              have hpd : atV ws ps false es = (d.length : Int) - (ps.length : Int) + (ee : Int) := by rw [hat.out]; unfold sgI; simp
              generalize hAT : atV ws ps false es = at9 at *
              have hAN : at9 = (d.length : Int) - (ps.length : Int) + (ee : Int) := hpd
              clear hat 
              by_cases hd0 : d = []
              · have hr := Lib.hid (hF.out.trans (if_pos hd0))
                subst hd0
                clear hF hPF hIt htL hAT hAN
                go_wp2_with fail
                go_ret
                exact ⟨by rw [hr.out]; rfl, hbel⟩
              have hr := hF.out.trans (if_neg hd0)
              have hdp := List.length_pos_iff.2 hd0
              have hdp0 : ((d.length : Int) == 0) = false := beq_eq_false_iff_ne.2 (by omega)
              by_cases h4 : at9 < -400
              · replace hr := Lib.hid (hr.trans (if_pos h4))
                clear hF hPF hIt htL hAT hAN
                go_wp2_with fail
                go_ret
                exact ⟨by rw [hr.out]; rfl, hbel⟩
              replace hr := hr.trans (if_neg h4)
              by_cases h5 : 400 < at9
              · replace hr := Lib.hid (hr.trans (if_pos h5))
                clear hF hPF hIt htL hAT hAN
                go_wp2_with (go_at_call 44; refine (c_mInf _).mono ?_; rintro e w' ⟨rfl, rfl⟩)
                go_ret
                exact ⟨by rw [hr.out]; rfl, hbel⟩
              replace hr := Lib.hid (hr.trans (if_neg h5))
              obtain ⟨g3, cap4, hsl, hr3⟩ := hown.out.form hdp
              injection hsl with hs1 _ hs2
              subst hs1 hs2
              have hcell3 := World.ownsRow.cells hown.out (g := g3) rfl
              have hlt3 : g3 < wr.heap.size := by
                have h0 := hcell3 0 (.int .u8 ((d.getD 0 0 : Nat) : Int)) (by simp [b8N, List.getD_eq_getElem?_getD, hdp])
                rw [add_zero_addr] at h0
                exact lt_ofC h0
              have hcvA : ∀ y, Below wr.heap.size wr y → (convert 90 9 (.slice (some ⟨g3, 0, none⟩) d.length cap3)).run Tryz.prog y = .ok (.string (u8sG d)) y := fun y hy => by
                have e : d.length = (d.map UInt8.ofNat).length := by rw [List.length_map]
                have h := run_convert_bytes_back (P := Tryz.prog) y 90 9 5 ⟨g3, 0, none⟩ cap3 (d.map UInt8.ofNat) Tryz.underlying90 Tryz.underlying5 Tryz.underlying9 (fun j hj => by
                  rw [List.length_map] at hj
                  have hc := hcell3 j (.int .u8 (d[j] : Int)) (by simp [b8N, hj])
                  rw [hy.cell (p := (⟨g3, 0, none⟩ : Addr).add j) (by rw [add_zero_addr]; exact hlt3), hc]
                  have := hd256.out d[j] (List.getElem_mem hj)
                  congr 2
                  simp
                  omega)
                rw [← e] at h
                exact h
              have hI1 := Lib.hid (fun W (hb : Below w.heap.size w W) => hIt.out ((d.length : Int) - (ps.length : Int) + (ee : Int)) (by omega) (by omega) W (hLk.out _ hb))
              have hP1 := Lib.hid (fun W (hb : Below w.heap.size w W) => hPF.out ((d.length : Int) - (ps.length : Int) + (ee : Int)) hd0 (by omega) (by omega) W (hLk.out _ hb))
              have hiz1 := hiz.out ((d.length : Int) - (ps.length : Int) + (ee : Int)) (by omega) (by omega)
              rw [← htL.out ((d.length : Int) - (ps.length : Int) + (ee : Int))] at hP1
              have hr4 : Hid (FV = nv (numL d) ((d.length : Int) - (ps.length : Int) + (ee : Int) - (d.length : Int))) := by
                show _ = _
                rw [hr.out, hAN]
              generalize hvv : nv (numL d) ((d.length : Int) - (ps.length : Int) + (ee : Int) - (d.length : Int)) = vv at *
              generalize u8sG d = SD at *
              generalize u8sG (powL ((d.length : Int) - (ps.length : Int) + (ee : Int))) = IP at *
              have hst : (convert 90 9 (.slice (some ⟨g3, 0, none⟩) d.length cap3)).run Tryz.prog wr.drew = .ok (.string SD) wr.drew ∧ Below wr.heap.size wr wr.drew := ⟨hcvA _ (Below.refl _ _).drew, (Below.refl _ _).drew⟩
              have hkp := fun (y y' : World) (h : (convert 90 9 (.slice (some ⟨g3, 0, none⟩) d.length cap3)).run Tryz.prog y = .ok (.string SD) y ∧ Below wr.heap.size wr y) (hb : Below y.heap.size y y') => (show (convert 90 9 (.slice (some ⟨g3, 0, none⟩) d.length cap3)).run Tryz.prog y' = .ok (.string SD) y' ∧ Below wr.heap.size wr y' from ⟨hcvA _ (h.2.trans (hb.mono h.2.size)), h.2.trans (hb.mono h.2.size)⟩)
              have hbw := Lib.hid (fun (y : World) (h : Below wr.heap.size wr y) => (hbel).trans (h.mono (hbel).size))
              have hc2 : (⟨#[48, 46]⟩ : ByteArray).size = 2 := rfl
              have hc1 : (⟨#[101]⟩ : ByteArray).size = 1 := rfl
              have g1 : ¬ 9223372036854775807 < 2 + SD.size := by omega
              have g2 : ¬ 9223372036854775807 < 2 + SD.size + 1 := by omega
              have g4 : ¬ 9223372036854775807 < 2 + SD.size + 1 + IP.size := by omega
              clear hdl2 hiz1
              clear hF hPF hIt htL hcell3 hown hcvA hlt3 hr hr3 hAN hvv hiz hd256 hd0 hdp hbk
              go_wp2_with fail
              go_region_held3 (fun y => (convert 90 9 (.slice (some ⟨g3, 0, none⟩) d.length cap3)).run Tryz.prog y = .ok (.string SD) y ∧ Below wr.heap.size wr y) (first | with_reducible assumption | with_reducible exact hst | with_reducible exact hkp _ _ (by assumption) (by assumption)) (first | (go_at_call 66; refine (hI1.out _ (hbw.out _ (And.right (by assumption)))).mono ?_; rintro e y3 ⟨rfl, hb6⟩) | (go_at_call 75; refine (hP1.out _ (hbw.out _ (And.right (by assumption)))).mono ?_; rintro e y4 ⟨⟨er, rfl⟩, hb7⟩))
              all_goals (
                go_wp2_with fail
                go_ret
                exact ⟨by rw [hr4.out]; rfl, hbw.out _ ((Below.refl _ _).drew.trans ((hb6.trans (hb7.mono hb6.size)).mono (by exact Nat.le_refl _)))⟩)
      · go_wp2_with fail
        clear hjI hjN hg
        go_loopw [6, 8, 9] (fun v6 v8 v9 wx => ∃ j : Nat, j ≤ xl ∧ v6 = .int .i64 ((k : Int) + 1 + (j : Int)) ∧ v8 = .int .i64 ((xF (X.take j)).1 : Int) ∧ v9 = .bool (xF (X.take j)).2 ∧ wx = wr) (fun v6 _ _ _ => k + 1 + xl - (intOf v6).toNat)
        case atStart => exact ⟨0, Nat.zero_le _, by simp, rfl, rfl, rfl⟩
        case round =>
          obtain ⟨j, hj, rfl, rfl, rfl, hwx⟩ := hrel
          have hbj := hxb.out j
          rcases Nat.lt_or_ge j xl with hjl | hjl
          · obtain ⟨c, hc⟩ : ∃ c, X[j]? = some c := ⟨X[j]'(by have := hXl.out; omega), List.getElem?_eq_getElem (by have := hXl.out; omega)⟩
            have hcd := hXc.out c (List.mem_of_getElem? hc)
            have hjs : k + 1 + j < S.size := by omega
            have hg := hgX.out j c hc hjs
            have hjI : (k : Int) + 1 + (j : Int) < (S.size : Int) := by omega
            have hjn : ((k : Int) + 1 + (j : Int)).toNat = k + 1 + j := by omega
            have hj0 : (0 : Int) ≤ (k : Int) + 1 + (j : Int) := by omega
            have hxk := Lib.hid (hxt.out j c hc)
            generalize xF (X.take j) = σ at *
            generalize hσ2 : xF (X.take (j + 1)) = σ2 at *
            replace hσ2 := Lib.hid hσ2
            obtain ⟨e, dn⟩ := σ
            simp only at hbj
            replace hwx := Lib.hid hwx
            by_cases h45 : c = 45
            · subst h45
              have hv2 : Hid (σ2 = (e, true)) := by show _ = _; rw [hxk.out]; unfold xS; rw [if_pos rfl]
              clear hxk hc hcd
              go_wp2_with fail
              go_roundw
              case rel => exact ⟨j + 1, by omega, by go_num, by rw [hσ2.out, hv2.out], by rw [hσ2.out, hv2.out], hwx.out⟩
              case measure => simp [intOf]; omega
            by_cases h43 : c = 43
            · subst h43
              have hv2 : Hid (σ2 = (e, dn)) := by show _ = _; rw [hxk.out]; unfold xS; rw [if_neg (by decide), if_pos rfl]
              clear hxk hc hcd
              go_wp2_with fail
              go_roundw
              case rel => exact ⟨j + 1, by omega, by go_num, by rw [hσ2.out, hv2.out], by rw [hσ2.out, hv2.out], hwx.out⟩
              case measure => simp [intOf]; omega
            have n45 : ((c : Int) == 45) = false := beq_eq_false_iff_ne.2 (by omega)
            have n43 : ((c : Int) != 43) = true := by simp; omega
            have hc48 : 48 ≤ c := by omega
            have hc57 : c ≤ 57 := by omega
            by_cases he30 : e < 1073741824
            · have hv2 : Hid (σ2 = (10 * e + (c - 48), dn)) := by show _ = _; rw [hxk.out]; unfold xS; rw [if_neg h45, if_neg h43, if_pos he30]
              have heI : (e : Int) < 1073741824 := by omega
              replace hbj := Lib.hid hbj
              clear hxk hc hcd h45 h43 he30
              go_wp2_with fail
              go_roundw
              case rel => exact ⟨j + 1, by omega, by go_num, by rw [hσ2.out, hv2.out]; go_num, by rw [hσ2.out, hv2.out], hwx.out⟩
              case measure => simp [intOf]; omega
            · have hv2 : Hid (σ2 = (e, dn)) := by show _ = _; rw [hxk.out]; unfold xS; rw [if_neg h45, if_neg h43, if_neg he30]
              have heI : ¬ (e : Int) < 1073741824 := by omega
              replace hbj := Lib.hid hbj
              clear hxk hc hcd h45 h43 he30
              go_wp2_with fail
              go_roundw
              case rel => exact ⟨j + 1, by omega, by go_num, by rw [hσ2.out, hv2.out], by rw [hσ2.out, hv2.out], hwx.out⟩
              case measure => simp [intOf]; omega
          · obtain rfl : j = xl := by omega
            obtain rfl := hwx
            have hXt : Hid (X.take j = X) := by show _ = _; rw [List.take_of_length_le (by have := hXl.out; omega)]
            have hjI : ¬ (k : Int) + 1 + (j : Int) < (S.size : Int) := by omega
            rw [hXt.out, hxF.out] at hbj ⊢
            clear hXt hxF hxb hxt hgX hXc hXl
            simp only at hbj
            generalize hee : eF es = ee at *
            cases neg with
            | true =>
              have hpd : atV ws ps true es = (d.length : Int) - (ps.length : Int) + -(ee : Int) := by rw [hat.out]; unfold sgI; simp
              generalize hAT : atV ws ps true es = at9 at *
              have hAN : at9 = (d.length : Int) - (ps.length : Int) + -(ee : Int) := hpd
              clear hat 
              by_cases hd0 : d = []
              · have hr := Lib.hid (hF.out.trans (if_pos hd0))
                subst hd0
                clear hF hPF hIt htL hAT hAN
                go_wp2_with fail
                go_ret
                exact ⟨by rw [hr.out]; rfl, hbel⟩
              have hr := hF.out.trans (if_neg hd0)
              have hdp := List.length_pos_iff.2 hd0
              have hdp0 : ((d.length : Int) == 0) = false := beq_eq_false_iff_ne.2 (by omega)
              by_cases h4 : at9 < -400
              · replace hr := Lib.hid (hr.trans (if_pos h4))
                clear hF hPF hIt htL hAT hAN
                go_wp2_with fail
                go_ret
                exact ⟨by rw [hr.out]; rfl, hbel⟩
              replace hr := hr.trans (if_neg h4)
              by_cases h5 : 400 < at9
              · replace hr := Lib.hid (hr.trans (if_pos h5))
                clear hF hPF hIt htL hAT hAN
                go_wp2_with (go_at_call 44; refine (c_mInf _).mono ?_; rintro e w' ⟨rfl, rfl⟩)
                go_ret
                exact ⟨by rw [hr.out]; rfl, hbel⟩
              replace hr := Lib.hid (hr.trans (if_neg h5))
              obtain ⟨g3, cap4, hsl, hr3⟩ := hown.out.form hdp
              injection hsl with hs1 _ hs2
              subst hs1 hs2
              have hcell3 := World.ownsRow.cells hown.out (g := g3) rfl
              have hlt3 : g3 < wr.heap.size := by
                have h0 := hcell3 0 (.int .u8 ((d.getD 0 0 : Nat) : Int)) (by simp [b8N, List.getD_eq_getElem?_getD, hdp])
                rw [add_zero_addr] at h0
                exact lt_ofC h0
              have hcvA : ∀ y, Below wr.heap.size wr y → (convert 90 9 (.slice (some ⟨g3, 0, none⟩) d.length cap3)).run Tryz.prog y = .ok (.string (u8sG d)) y := fun y hy => by
                have e : d.length = (d.map UInt8.ofNat).length := by rw [List.length_map]
                have h := run_convert_bytes_back (P := Tryz.prog) y 90 9 5 ⟨g3, 0, none⟩ cap3 (d.map UInt8.ofNat) Tryz.underlying90 Tryz.underlying5 Tryz.underlying9 (fun j hj => by
                  rw [List.length_map] at hj
                  have hc := hcell3 j (.int .u8 (d[j] : Int)) (by simp [b8N, hj])
                  rw [hy.cell (p := (⟨g3, 0, none⟩ : Addr).add j) (by rw [add_zero_addr]; exact hlt3), hc]
                  have := hd256.out d[j] (List.getElem_mem hj)
                  congr 2
                  simp
                  omega)
                rw [← e] at h
                exact h
              have hI1 := Lib.hid (fun W (hb : Below w.heap.size w W) => hIt.out ((d.length : Int) - (ps.length : Int) + -(ee : Int)) (by omega) (by omega) W (hLk.out _ hb))
              have hP1 := Lib.hid (fun W (hb : Below w.heap.size w W) => hPF.out ((d.length : Int) - (ps.length : Int) + -(ee : Int)) hd0 (by omega) (by omega) W (hLk.out _ hb))
              have hiz1 := hiz.out ((d.length : Int) - (ps.length : Int) + -(ee : Int)) (by omega) (by omega)
              rw [← htL.out ((d.length : Int) - (ps.length : Int) + -(ee : Int))] at hP1
              have hr4 : Hid (FV = nv (numL d) ((d.length : Int) - (ps.length : Int) + -(ee : Int) - (d.length : Int))) := by
                show _ = _
                rw [hr.out, hAN]
              generalize hvv : nv (numL d) ((d.length : Int) - (ps.length : Int) + -(ee : Int) - (d.length : Int)) = vv at *
              generalize u8sG d = SD at *
              generalize u8sG (powL ((d.length : Int) - (ps.length : Int) + -(ee : Int))) = IP at *
              have hst : (convert 90 9 (.slice (some ⟨g3, 0, none⟩) d.length cap3)).run Tryz.prog wr.drew = .ok (.string SD) wr.drew ∧ Below wr.heap.size wr wr.drew := ⟨hcvA _ (Below.refl _ _).drew, (Below.refl _ _).drew⟩
              have hkp := fun (y y' : World) (h : (convert 90 9 (.slice (some ⟨g3, 0, none⟩) d.length cap3)).run Tryz.prog y = .ok (.string SD) y ∧ Below wr.heap.size wr y) (hb : Below y.heap.size y y') => (show (convert 90 9 (.slice (some ⟨g3, 0, none⟩) d.length cap3)).run Tryz.prog y' = .ok (.string SD) y' ∧ Below wr.heap.size wr y' from ⟨hcvA _ (h.2.trans (hb.mono h.2.size)), h.2.trans (hb.mono h.2.size)⟩)
              have hbw := Lib.hid (fun (y : World) (h : Below wr.heap.size wr y) => (hbel).trans (h.mono (hbel).size))
              have hc2 : (⟨#[48, 46]⟩ : ByteArray).size = 2 := rfl
              have hc1 : (⟨#[101]⟩ : ByteArray).size = 1 := rfl
              have g1 : ¬ 9223372036854775807 < 2 + SD.size := by omega
              have g2 : ¬ 9223372036854775807 < 2 + SD.size + 1 := by omega
              have g4 : ¬ 9223372036854775807 < 2 + SD.size + 1 + IP.size := by omega
              clear hdl2 hiz1
              clear hF hPF hIt htL hcell3 hown hcvA hlt3 hr hr3 hAN hvv hiz hd256 hd0 hdp hbk
              go_wp2_with fail
              go_region_held3 (fun y => (convert 90 9 (.slice (some ⟨g3, 0, none⟩) d.length cap3)).run Tryz.prog y = .ok (.string SD) y ∧ Below wr.heap.size wr y) (first | with_reducible assumption | with_reducible exact hst | with_reducible exact hkp _ _ (by assumption) (by assumption)) (first | (go_at_call 66; refine (hI1.out _ (hbw.out _ (And.right (by assumption)))).mono ?_; rintro e y3 ⟨rfl, hb6⟩) | (go_at_call 75; refine (hP1.out _ (hbw.out _ (And.right (by assumption)))).mono ?_; rintro e y4 ⟨⟨er, rfl⟩, hb7⟩))
              all_goals (
                go_wp2_with fail
                go_ret
                exact ⟨by rw [hr4.out]; rfl, hbw.out _ ((Below.refl _ _).drew.trans ((hb6.trans (hb7.mono hb6.size)).mono (by exact Nat.le_refl _)))⟩)
            | false =>
              have hpd : atV ws ps false es = (d.length : Int) - (ps.length : Int) + (ee : Int) := by rw [hat.out]; unfold sgI; simp
              generalize hAT : atV ws ps false es = at9 at *
              have hAN : at9 = (d.length : Int) - (ps.length : Int) + (ee : Int) := hpd
              clear hat 
              by_cases hd0 : d = []
              · have hr := Lib.hid (hF.out.trans (if_pos hd0))
                subst hd0
                clear hF hPF hIt htL hAT hAN
                go_wp2_with fail
                go_ret
                exact ⟨by rw [hr.out]; rfl, hbel⟩
              have hr := hF.out.trans (if_neg hd0)
              have hdp := List.length_pos_iff.2 hd0
              have hdp0 : ((d.length : Int) == 0) = false := beq_eq_false_iff_ne.2 (by omega)
              by_cases h4 : at9 < -400
              · replace hr := Lib.hid (hr.trans (if_pos h4))
                clear hF hPF hIt htL hAT hAN
                go_wp2_with fail
                go_ret
                exact ⟨by rw [hr.out]; rfl, hbel⟩
              replace hr := hr.trans (if_neg h4)
              by_cases h5 : 400 < at9
              · replace hr := Lib.hid (hr.trans (if_pos h5))
                clear hF hPF hIt htL hAT hAN
                go_wp2_with (go_at_call 44; refine (c_mInf _).mono ?_; rintro e w' ⟨rfl, rfl⟩)
                go_ret
                exact ⟨by rw [hr.out]; rfl, hbel⟩
              replace hr := Lib.hid (hr.trans (if_neg h5))
              obtain ⟨g3, cap4, hsl, hr3⟩ := hown.out.form hdp
              injection hsl with hs1 _ hs2
              subst hs1 hs2
              have hcell3 := World.ownsRow.cells hown.out (g := g3) rfl
              have hlt3 : g3 < wr.heap.size := by
                have h0 := hcell3 0 (.int .u8 ((d.getD 0 0 : Nat) : Int)) (by simp [b8N, List.getD_eq_getElem?_getD, hdp])
                rw [add_zero_addr] at h0
                exact lt_ofC h0
              have hcvA : ∀ y, Below wr.heap.size wr y → (convert 90 9 (.slice (some ⟨g3, 0, none⟩) d.length cap3)).run Tryz.prog y = .ok (.string (u8sG d)) y := fun y hy => by
                have e : d.length = (d.map UInt8.ofNat).length := by rw [List.length_map]
                have h := run_convert_bytes_back (P := Tryz.prog) y 90 9 5 ⟨g3, 0, none⟩ cap3 (d.map UInt8.ofNat) Tryz.underlying90 Tryz.underlying5 Tryz.underlying9 (fun j hj => by
                  rw [List.length_map] at hj
                  have hc := hcell3 j (.int .u8 (d[j] : Int)) (by simp [b8N, hj])
                  rw [hy.cell (p := (⟨g3, 0, none⟩ : Addr).add j) (by rw [add_zero_addr]; exact hlt3), hc]
                  have := hd256.out d[j] (List.getElem_mem hj)
                  congr 2
                  simp
                  omega)
                rw [← e] at h
                exact h
              have hI1 := Lib.hid (fun W (hb : Below w.heap.size w W) => hIt.out ((d.length : Int) - (ps.length : Int) + (ee : Int)) (by omega) (by omega) W (hLk.out _ hb))
              have hP1 := Lib.hid (fun W (hb : Below w.heap.size w W) => hPF.out ((d.length : Int) - (ps.length : Int) + (ee : Int)) hd0 (by omega) (by omega) W (hLk.out _ hb))
              have hiz1 := hiz.out ((d.length : Int) - (ps.length : Int) + (ee : Int)) (by omega) (by omega)
              rw [← htL.out ((d.length : Int) - (ps.length : Int) + (ee : Int))] at hP1
              have hr4 : Hid (FV = nv (numL d) ((d.length : Int) - (ps.length : Int) + (ee : Int) - (d.length : Int))) := by
                show _ = _
                rw [hr.out, hAN]
              generalize hvv : nv (numL d) ((d.length : Int) - (ps.length : Int) + (ee : Int) - (d.length : Int)) = vv at *
              generalize u8sG d = SD at *
              generalize u8sG (powL ((d.length : Int) - (ps.length : Int) + (ee : Int))) = IP at *
              have hst : (convert 90 9 (.slice (some ⟨g3, 0, none⟩) d.length cap3)).run Tryz.prog wr.drew = .ok (.string SD) wr.drew ∧ Below wr.heap.size wr wr.drew := ⟨hcvA _ (Below.refl _ _).drew, (Below.refl _ _).drew⟩
              have hkp := fun (y y' : World) (h : (convert 90 9 (.slice (some ⟨g3, 0, none⟩) d.length cap3)).run Tryz.prog y = .ok (.string SD) y ∧ Below wr.heap.size wr y) (hb : Below y.heap.size y y') => (show (convert 90 9 (.slice (some ⟨g3, 0, none⟩) d.length cap3)).run Tryz.prog y' = .ok (.string SD) y' ∧ Below wr.heap.size wr y' from ⟨hcvA _ (h.2.trans (hb.mono h.2.size)), h.2.trans (hb.mono h.2.size)⟩)
              have hbw := Lib.hid (fun (y : World) (h : Below wr.heap.size wr y) => (hbel).trans (h.mono (hbel).size))
              have hc2 : (⟨#[48, 46]⟩ : ByteArray).size = 2 := rfl
              have hc1 : (⟨#[101]⟩ : ByteArray).size = 1 := rfl
              have g1 : ¬ 9223372036854775807 < 2 + SD.size := by omega
              have g2 : ¬ 9223372036854775807 < 2 + SD.size + 1 := by omega
              have g4 : ¬ 9223372036854775807 < 2 + SD.size + 1 + IP.size := by omega
              clear hdl2 hiz1
              clear hF hPF hIt htL hcell3 hown hcvA hlt3 hr hr3 hAN hvv hiz hd256 hd0 hdp hbk
              go_wp2_with fail
              go_region_held3 (fun y => (convert 90 9 (.slice (some ⟨g3, 0, none⟩) d.length cap3)).run Tryz.prog y = .ok (.string SD) y ∧ Below wr.heap.size wr y) (first | with_reducible assumption | with_reducible exact hst | with_reducible exact hkp _ _ (by assumption) (by assumption)) (first | (go_at_call 66; refine (hI1.out _ (hbw.out _ (And.right (by assumption)))).mono ?_; rintro e y3 ⟨rfl, hb6⟩) | (go_at_call 75; refine (hP1.out _ (hbw.out _ (And.right (by assumption)))).mono ?_; rintro e y4 ⟨⟨er, rfl⟩, hb7⟩))
              all_goals (
                go_wp2_with fail
                go_ret
                exact ⟨by rw [hr4.out]; rfl, hbw.out _ ((Below.refl _ _).drew.trans ((hb6.trans (hb7.mono hb6.size)).mono (by exact Nat.le_refl _)))⟩)
theorem c_Rvalue {T : List Nat} {v : Nat} (h : DcT T v) (hl : T.length ≤ 70000) (w : World) (hL : LibW w) :
    Calls Tryz.prog 54 #[.string (u8sG T)] w fun r w' => r = .returned (.float .f64 v) ∧ Below w.heap.size w w' := by
  obtain ⟨ws, ps, pt, hw, hp, hpt, hne, ⟨rfl, rfl⟩ | ⟨e, sg, es, neg, he, hsg, hen, hes, rfl, rfl⟩⟩ := h
  · exact c_Rvalue0 ws ps pt hw hp hpt hl w hL
  · exact c_RvalueE ws ps pt e sg es neg hw hp hpt he hsg hes hl w hL
end Go.Proofs.YtbakbikilbaafaaGreatDoor

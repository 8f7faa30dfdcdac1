/-
  HeapFast: an object stays fast till a property is dropped, it is forced, or has more keys than a shape may, and then for good; where what it reads is of bulk at most 1048576.
-/
import Derived.Test.YtoccmiinkfhohaaP15
import Derived.Test.YtoccmiinkfhohaaP14
import Derived.Test.YtoccmiinkfhohaaRows
import Derived.Deep.SlicePairs
import Derived.ProofKit
import Derived.OpenShut
import Derived.JoinedCond
import Derived.Carry
import Derived.Lib.SmallJoins
namespace Go.Proofs.Ytoccmiinkfhohaa
open Go.RowKit Go.Shelf Go.Lib Go.Sort Go.Proofs Go.Maps
set_option linter.unusedVariables false
set_option maxHeartbeats 4000000
set_option maxRecDepth 100000

theorem RdO.keep {w w' : World} {v : Value} {l : List OP} (h : RdO w v l) (hy : Below w.heap.size w w') : RdO w' v l := by
  rcases h with ⟨h1, h2⟩ | ⟨p', c', h1, h2, h3⟩
  · exact .inl ⟨h1, h2⟩
  · refine .inr ⟨p', c', h1, h2, fun k x hx => ?_⟩
    obtain ⟨g1, g2⟩ := h3 k x hx
    exact ⟨g1, range_at g2 (hy.block _ (by have := cell_lt (g2 0 _ rfl); exact this))⟩
/-- the marks as far as they are known -/
def MarkI (H : List OB) (s : List Bool) : Prop := s.length ≤ H.length + 1 ∧ ∃ s0 : List Bool, s0.length = H.length + 1 ∧ (∀ i a, H[i]? = some a → s0[i + 1]? = some (!a.fast)) ∧ ∀ n, H.length ≤ n → extS s (n + 1) = extS s0 (n + 1)
theorem markI_nil : MarkI [] [] := ⟨by simp, [false], rfl, fun i a h => by simp at h, fun n _ => by simp [extS, List.replicate_succ]⟩
theorem markI_of {H : List OB} {s : List Bool} (hl : s.length = H.length + 1) (h : ∀ i a, H[i]? = some a → s[i + 1]? = some (!a.fast)) : MarkI H s := ⟨by omega, s, hl, h, fun _ _ => rfl⟩
/-- the marks in the loop over the objects -/
def MarkL (H : List OB) (m : Nat) (s : List Bool) : Prop := s.length = H.length + 1 ∧ (∀ i a, H[i]? = some a → i < m → s[i + 1]? = some (!a.fast)) ∧ ∀ i a, H[i]? = some a → m ≤ i → ∃ b, s[i + 1]? = some b ∧ a.fast = !(b || Big a)
theorem markL_start {H H' : List OB} {x : OP} {s : List Bool} (hI : FastI H) (hM : MarkI H s) (hH : opH 1000 H x = H') (hle : H.length ≤ H'.length) : FastI H' ∧ MarkL H' 0 (hitS H x (extS s (H'.length + 1))) := by
  obtain ⟨h1, s0, h2, h3, h4⟩ := hM
  obtain ⟨g1, g2, g3⟩ := op_fast (lim := 1000) (x := x) hI h2 h3
  rw [hH] at g1 g2 g3
  rw [h4 _ hle]
  exact ⟨g1, g2, fun i a _ h => absurd h (by omega), fun i a ha _ => g3 i a ha⟩
theorem markL_end {H : List OB} {s : List Bool} (h : MarkL H H.length s) : MarkI H s := markI_of h.1 fun i a ha => h.2.1 i a ha (List.getElem?_eq_some_iff.1 ha).1
theorem markL_big {H : List OB} {m : Nat} {s : List Bool} {a : OB} (h : MarkL H m s) (ha : H[m]? = some a) (hB : Big a = true) : a.fast = false ∧ MarkL H (m + 1) (s.set (m + 1) true) := by
  obtain ⟨h1, h2, h3⟩ := h
  obtain ⟨b, e1, e2⟩ := h3 m a ha (Nat.le_refl _)
  have hf : a.fast = false := by rw [e2, hB]; simp
  have hlt : m < H.length := (List.getElem?_eq_some_iff.1 ha).1
  refine ⟨hf, by rw [List.length_set]; exact h1, fun i c hc hi => ?_, fun i c hc hi => ?_⟩
  · by_cases e : i = m
    · subst e
      rw [ha] at hc
      injection hc with hc
      subst hc
      rw [List.getElem?_set_self (by omega), hf]
      rfl
    · rw [List.getElem?_set_ne (by omega)]
      exact h2 i c hc (by omega)
  · rw [List.getElem?_set_ne (by omega)]
    exact h3 i c hc (by omega)
theorem markL_small {H : List OB} {m : Nat} {s : List Bool} {a : OB} (h : MarkL H m s) (ha : H[m]? = some a) (hB : Big a = false) : s[m + 1]? = some (!a.fast) ∧ MarkL H (m + 1) s := by
  obtain ⟨h1, h2, h3⟩ := h
  obtain ⟨b, e1, e2⟩ := h3 m a ha (Nat.le_refl _)
  have hs : s[m + 1]? = some (!a.fast) := by rw [e1, e2, hB]; simp
  refine ⟨hs, h1, fun i c hc hi => ?_, fun i c hc hi => h3 i c hc (by omega)⟩
  by_cases e : i = m
  · subst e
    rw [ha] at hc
    injection hc with hc
    subst hc
    exact hs
  · exact h2 i c hc (by omega)
theorem op_len (lim : Int) (H : List OB) (x : OP) : H.length ≤ (opH lim H x).length := by
  rcases op_cases lim H x with ⟨h1, _⟩ | ⟨_, c, p, h2, _⟩ | ⟨n, a, g, h1, h2, h3, h4, h5, h6⟩
  · rw [h1]; exact Nat.le_refl _
  · rw [h2]; simp
  · rw [h5]; simp
/-- a property of nothing -/
def zeroP : Array Value := #[.int .i64 0, .float .f64 0, .string ⟨#[]⟩, .int .i64 0, .int .i64 0, .float .f64 0, .string ⟨#[]⟩, .int .i64 0, .int .i64 0, .float .f64 0, .string ⟨#[]⟩, .int .i64 0, .int .i64 0]
theorem zeroP_there (w : World) : (w.alloc (.cells zeroP 37)).there w.heap.size 0 13 := there_of (heap_alloc_new w _) (Nat.le_refl 13)
theorem zeroP_set (w : World) (P : PV) : Below w.heap.size w ((w.alloc (.cells zeroP 37)).setCells w.heap.size 0 (encP P)) := (fresh_set (w := w) (o := zeroP) (t := 37) (vs := encP P) rfl).1
def lenV : Value → Nat | .slice _ n _ => n | _ => 0
theorem FastS.row {K : Nat → Obj → Prop} {w0 w : World} {hb rb B : Nat} {lim : Int} {H : List OB} {sv : Value} {s : List Bool} (h : FastS K w0 w hb rb lim B H sv s) : w.ownsRow w0.heap.size 4 1 sv s.length (mks s) ∧ w0.heap.size ≤ w.heap.size := by
  obtain ⟨f, f2, h1, h2, h3, h4, h5⟩ := h
  exact ⟨h4, h2.size⟩
theorem c_HeapFast (v : Value) (l : List OP) (hs : fewO l l.length ≤ 4194304) (hz : ∀ x ∈ l, (x.k.1.size ≤ 4194304 ∧ x.p.v.s.size ≤ 4194304) ∧ okK x.k) (w : World) (h : RdO w v l) :
    Calls Try.prog 3 #[v] w fun e w' => e = .returned (.bool true) ∧ Below w.heap.size w w' := by
  obtain ⟨p, c, rfl, hlc, hL⟩ := h.form
  have hfew := fun (y : World) (hy : Below w.heap.size w y) => c_few15 (.slice p l.length c) l hs (fun x hx => (hz x hx).1) y (h.keep hy)
  have hlen : l.length ≤ fewO l l.length := Nat.le_add_right _ _
  replace hfew := Lib.hid hfew
  replace hL := Lib.hid hL
  replace hz := Lib.hid hz
  clear h
  cases hd : decide (fewO l l.length ≤ 300) with
  | false =>
    rw [hd] at hfew
    clear hd
    go_enter Try.func3, Try.ntmps3
    go_wp2_with (first | (go_at_call 8; refine (c_awake15 _).mono ?_; rintro e w1 ⟨rfl, hb1⟩) | (go_at_call 9; refine (hfew.out _ hb1).mono ?_; rintro e w2 ⟨rfl, hb2⟩))
    go_ret
    exact ⟨rfl, hb1.trans (hb2.mono hb1.size)⟩
  | true =>
    rw [hd] at hfew
    have hl3 : l.length ≤ 300 := Nat.le_trans hlen (of_decide_eq_true hd)
    clear hd hlen hs
    go_enter Try.func3, Try.ntmps3
    go_wp2_with (first | (go_at_call 8; refine (c_awake15 _).mono ?_; rintro e w1 ⟨rfl, hb1⟩) | (go_at_call 9; refine (hfew.out _ hb1).mono ?_; rintro e w2 ⟨rfl, hb2⟩) | (go_at_call 10; refine (c_Hnew (f := fun _ => 0) (fun _ _ => rfl) 1000).mono ?_; rintro e w3 ⟨hb, f1, rfl, t1, h1⟩; unfold ptrV) | (go_at_call 11; refine (l_new t1 h1).mono ?_; rintro e w4 ⟨rb, rfl, hS⟩))
    have hB2 := hb1.trans (hb2.mono hb1.size)
    have hS0 := FastS.start hS
    replace hB2 := Lib.hid hB2
    replace hS0 := Lib.hid hS0
    clear t1 h1 hb1 hb2 hfew hS
    obtain ⟨W2, rfl⟩ : ∃ W2, W2 = w2 := ⟨_, rfl⟩
    go_loopw [5, 21] (fun v5 vi wr => ∃ (i : Nat) (s : List Bool), i ≤ l.length ∧ vi = .int .i64 (i : Int) ∧ FastS (fun _ _ => False) W2 wr hb rb 1000 (128 + 2 * i) (runO 1000 (l.take i)) v5 s ∧ FastI (runO 1000 (l.take i)) ∧ MarkI (runO 1000 (l.take i)) s) (fun _ vi _ => l.length - (intOf vi).toNat)
    case atStart => exact ⟨0, [], by omega, rfl, hS0.out, (fun a h => by cases h), markI_nil⟩
    case round =>
      obtain ⟨i, s, hi, rfl, hT, hI, hM⟩ := hrel
      obtain ⟨W0, rfl⟩ : ∃ W0, W0 = wr := ⟨_, rfl⟩
      rcases Nat.lt_or_ge i l.length with hlt | hge
      · obtain ⟨x, hx⟩ : ∃ x, l[i]? = some x := ⟨_, List.getElem?_eq_getElem hlt⟩
        obtain ⟨b, o, rfl, lb, hrg⟩ := hL.out i x hx
        replace hrg := hrg W0 (hB2.out.trans (hT.law.base.mono hB2.out.size))
        have hi18 : (Try.prog.info? 39).map (·.size) = some (encO x).length := infoOp
        have hj18 : (Try.prog.info? 39).map (·.size) = some (encO x).toArray.size := infoOp
        have ho18 := all_oneCell_toArray (encO_one x)
        have q1 : (0 : Int) ≤ (i : Int) := by omega
        have q2 : (i : Int) < (l.length : Int) := by omega
        obtain ⟨hfb, hfh⟩ := fresh_cellsO (w := W0) x
        have hF4 := hT.watch hfb rfl hfh
        have hrg2 : ∀ y : World, y.heap[W0.heap.size]? = some (.cells (encO x).toArray 39 (0, 0)) → y.rangeAt W0.heap.size 0 (encO x) := fun y hy => range_of_block hy
        have hcl : ∀ y : World, y.heap[W0.heap.size]? = some (.cells (encO x).toArray 39 (0, 0)) → y.cell? ⟨W0.heap.size, 0, none⟩ = some (.int .i64 x.kd) ∧ y.cell? ⟨W0.heap.size, 1, none⟩ = some (.int .i64 x.o) ∧ y.cell? ⟨W0.heap.size, 3, none⟩ = some (.string x.k.1) ∧ y.cell? ⟨W0.heap.size, 4, none⟩ = some (.int .i64 x.k.2) := fun y hy => by
          obtain ⟨⟨e0, e1, e2⟩, ⟨e3, e4⟩, _⟩ := cells18 hy
          exact ⟨e0, e1, e3, e4⟩
        have hth : (W0.alloc (.cells zeroO 39)).there W0.heap.size 0 (encO x).toArray.size := zeroO_there W0
        have hu0 := run_used (lim := 1000) (l := l) (i := i) hi
        have hu1 := run_used (lim := 1000) (l := l) (i := i + 1) hlt
        have hnx := run_next (lim := 1000) hx
        have hok := (hz.out x (List.mem_of_getElem? hx)).2
        have hml := op_len 1000 (runO 1000 (l.take i)) x
        obtain ⟨H, hH⟩ : ∃ H, runO 1000 (l.take i) = H := ⟨_, rfl⟩
        rw [hH] at hF4 hu0 hnx hml hI hM
        obtain ⟨H', hH'⟩ : ∃ H', runO 1000 (l.take (i + 1)) = H' := ⟨_, rfl⟩
        rw [hH'] at hu1 hnx
        have hdo := fun (K : Nat → Obj → Prop) (y : World) (sv : Value) (hy : FastS K W2 y hb rb 1000 (128 + 2 * i) H sv s) => l_doF hy (by omega) (by omega) (by omega) x hok
        have hsl : s.length ≤ H'.length + 1 := by rw [hnx]; exact Nat.le_trans hM.1 (by omega)
        obtain ⟨hI', hM'⟩ := markL_start hI hM hnx.symm (by rw [hnx]; exact hml)
        have hhas := fun (y : World) (hy : LawS W2 y hb rb 1000 (128 + 2 * i) H) => l_RHas hy x.o
        have hown := fun (y : World) (hy : LawS W2 y hb rb 1000 (128 + 2 * i) H) => l_ROwn hy (by omega) x.o x.k hok
        have hhit : hitB H x = (hasH H x.o && ((decide (x.kd = 2) && (ownH H x.o (pk x.k)).isSome) || decide (4 < x.kd) || decide (x.kd < 0))) := rfl
        have hhasle : hasH H x.o = true → (0 : Int) < x.o ∧ x.o < ((H'.length + 1 : Nat) : Int) := fun hh => by
          unfold hasH at hh
          simp at hh
          rw [hnx]
          omega
        unfold hitS at hM'
        rw [← hnx] at hdo
        obtain ⟨kd, xo, xn, ⟨k0, kn⟩, px⟩ := x
        dsimp only at *
        generalize hasH H xo = hasB at *
        generalize (ownH H xo (pk (k0, kn))).isSome = isB at *
        generalize hitB H ⟨kd, xo, xn, (k0, kn), px⟩ = hB at *
        generalize encO ⟨kd, xo, xn, (k0, kn), px⟩ = E at *
        replace hdo := Lib.hid hdo
        replace hfb := Lib.hid hfb
        replace hF4 := Lib.hid hF4
        replace hM' := Lib.hid hM'
        replace hhas := Lib.hid hhas
        replace hown := Lib.hid hown
        replace hhit := Lib.hid hhit
        replace hhasle := Lib.hid hhasle
        replace hrg2 := Lib.hid hrg2
        replace hcl := Lib.hid hcl
        replace hH' := Lib.hid hH'
        have hlnx := Lib.hid (show H.length ≤ H'.length by rw [hnx]; exact hml)
        clear hx hfh hnx hT hI hM hH hml hok
        have tokA : True := trivial
        have tokB : True := trivial
        have tokC : True := trivial
        have tokD : True := trivial
        go_wp2_with (first | (clear tokA; refine wpList_load_mid rfl 39 (.tmp 23) rfl b (o + i * 18) rfl E _ hrg Try.underlying39 rfl hi18 ?_) | (clear tokB; refine wpList_store_mid rfl 39 (.tmp 7) (.tmp 24) rfl W0.heap.size 0 E.toArray rfl rfl hth hj18 ho18 ?_; generalize hW4 : World.setCells _ _ _ _ = W4; rw [show (W0.alloc (.cells zeroO 39)).setCells W0.heap.size 0 E = W4 from hW4] at hfb hF4; clear hW4 hth hrg; obtain ⟨e0, e1, e3, e4⟩ := hcl.out _ (hF4.out.held ⟨rfl, rfl⟩)) | (go_at_call 12; refine (hhas.out _ hF4.out.law).mono ?_; rintro e w5 ⟨rfl, rfl⟩) | (go_at_call 13; refine (hown.out _ hF4.out.law).mono ?_; rintro e w6 ⟨P, rfl, hq⟩; have hi13 : (Try.prog.info? 37).map (·.size) = some (encP P).toArray.size := infoProp; have ho13 := all_oneCell_toArray (encP_one P); have hth6 : (w6.alloc (.cells zeroP 37)).there w6.heap.size 0 (encP P).toArray.size := zeroP_there w6; have hf6 := zeroP_set w6 P; clear e0 e1 e3 e4) | (clear tokD; refine wpList_store_mid rfl 37 (.tmp 9) (.tmp 36) rfl w6.heap.size 0 (encP P).toArray rfl rfl hth6 hi13 ho13 ?_; generalize hW6 : World.setCells _ _ _ _ = W6; rw [show (w6.alloc (.cells zeroP 37)).setCells w6.heap.size 0 (encP P) = W6 from hW6] at hf6; clear hW6 hth6; have hF6 := (hF4.out.below hq).below hf6; have hrg6 := hrg2.out _ (hF6.held ⟨rfl, rfl⟩)) | (clear tokC; refine wpList_load_mid rfl 39 (.tmp 7) rfl W0.heap.size 0 rfl E _ hrg6 Try.underlying39 rfl hi18 ?_; clear hrg6) | (go_at_call 14; refine (hdo.out _ _ _ hF6).mono ?_; rintro e w7 ⟨rfl, hF7⟩))
        obtain ⟨W7, rfl⟩ : ∃ W7, W7 = w7 := ⟨_, rfl⟩
        have hF7w := Lib.hid hF7
        have hu2 := used_len H'
        clear hF6 hF7 hF4 hfb hhas hown hdo hq hf6 hrg2
        go_loopw [5] (fun v5 wr2 => ∃ j : Nat, s.length + j ≤ H'.length + 1 ∧ FastS (fun x o => x = W0.heap.size ∧ o = .cells E.toArray 39 (0, 0)) W2 wr2 hb rb 1000 (128 + 2 * i + 2) H' v5 (s ++ List.replicate j false)) (fun v5 _ => H'.length + 1 - lenV v5)
        case atStart => exact ⟨0, hsl, by rw [List.replicate_zero, List.append_nil]; exact hF7w.out⟩
        case round =>
          obtain ⟨j, hj, hF⟩ := hrel
          obtain ⟨W8, rfl⟩ : ∃ W8, W8 = wr := ⟨_, rfl⟩
          obtain ⟨q5, c5, e5, _⟩ := hF.form
          have hlj : (s ++ List.replicate j false).length = s.length + j := by simp
          rw [hlj] at e5
          subst e5
          obtain ⟨gR, cR, c1, _, _⟩ := hF.law.form
          clear hF7w
          rcases Nat.lt_or_ge (s.length + j) (H'.length + 1) with hlt2 | hge2
          · have hrow := hF.row
            rw [hlj] at hrow
            obtain ⟨hrow, hsz⟩ := hrow
            have hlt3 : ((s.length + j : Nat) : Int) < ((H'.length + 1 : Nat) : Int) := by omega
            have hpush := fun (w5 : World) (gg cap : Nat) hown hg hat => FastS.push (w5 := w5) (gg := gg) (cap := cap) hF (.cells #[.bool false] 4) hlj.symm hown hg hat
            have hrep : s ++ List.replicate j false ++ [false] = s ++ List.replicate (j + 1) false := by rw [List.append_assoc, List.replicate_succ']
            rw [hrep] at hpush
            replace hpush := Lib.hid hpush
            replace hF := Lib.hid hF
            replace hrow := Lib.hid hrow
            obtain ⟨i0, hi0, hz0, hz1, hz2⟩ := info_parts infoBoolF
            have hm1 := Lib.hid (show s.length + j + 1 ≤ maxLen ∧ (s.length + j + 1) * 1 ≤ 140737488355328 by unfold maxLen; omega)
            clear hlj hrep
            generalize hn : s.length + j = n at *
            generalize s ++ List.replicate j false = sj at *
            have hn' := Lib.hid hn
            clear hn
            go_wp2_with (at_builtin; refine wpList_append_lies _ (by rfl) _ _ _ (by rfl) W2.heap.size 4 i0 _ 1 1 Try.underlying29 hi0 hz0 hz1 hz2 rfl (by omega) (.slice q5 n c5) n (mks sj) (by rfl) (hrow.out.alloc _) ⟨W8.heap.size, 0, none⟩ 1 1 [.bool false] (by rfl) (by rfl) (World.news_of_block (cs := #[.bool false]) (t := 4) (fr := (0, 0)) (by exact heap_alloc_new W8 _)) (by simp [Value.oneCell']) (by omega) hm1.out.1 hm1.out.2 (by simp; omega) (W8.heap.size + 1) (by simp) ?_; intro gg cap w9 hown9 hgrow hat hlt9; have hF9 := hpush.out w9 gg cap hown9 hgrow hat; clear hown9 hgrow hat)
            exact ⟨⟨j + 1, by have := hn'.out; omega, hF9⟩, by simp only [lenV]; omega⟩
          · have hje : s ++ List.replicate j false = extS s (H'.length + 1) := by unfold extS; rw [show H'.length + 1 - s.length = j by omega]
            have hjn : s.length + j = H'.length + 1 := by omega
            have hs1 : (extS s (H'.length + 1)).length = H'.length + 1 := by rw [← hje, hlj, hjn]
            rw [hje] at hF
            obtain ⟨e0, e1, _, _⟩ := hcl.out _ (hF.held ⟨rfl, rfl⟩)
            rw [hjn] at hF ⊢
            clear hje hlj hj hge2
            generalize extS s (H'.length + 1) = s1 at *
            have hcase : (hasB = false ∧ hB = false) ∨ (hasB = true ∧ kd = 2 ∧ isB = true ∧ hB = true) ∨ (hasB = true ∧ kd = 2 ∧ isB = false ∧ hB = false) ∨ (hasB = true ∧ kd ≠ 2 ∧ 4 < kd ∧ hB = true) ∨ (hasB = true ∧ kd ≠ 2 ∧ ¬ 4 < kd ∧ kd < 0 ∧ hB = true) ∨ (hasB = true ∧ kd ≠ 2 ∧ ¬ 4 < kd ∧ ¬ kd < 0 ∧ hB = false) := by
              have h1 := hhit.out
              cases hasB with
              | false => exact .inl ⟨rfl, h1⟩
              | true =>
                by_cases h2 : kd = 2
                · subst h2
                  cases isB with
                  | true => exact .inr (.inl ⟨rfl, rfl, rfl, by rw [h1]; rfl⟩)
                  | false => exact .inr (.inr (.inl ⟨rfl, rfl, rfl, by rw [h1]; rfl⟩))
                · by_cases h3 : 4 < kd
                  · exact .inr (.inr (.inr (.inl ⟨rfl, h2, h3, by rw [h1]; simp [h3]⟩)))
                  · by_cases h4 : kd < 0
                    · exact .inr (.inr (.inr (.inr (.inl ⟨rfl, h2, h3, h4, by rw [h1]; simp [h4]⟩))))
                    · exact .inr (.inr (.inr (.inr (.inr ⟨rfl, h2, h3, h4, by rw [h1]; simp [h2, h3, h4]⟩))))
            have hloop : ∀ W9 : World, W9 = W9 := fun _ => rfl
            have hx5 : hasB = true → ∃ nx g5 bb, xo = ((nx : Nat) : Int) ∧ nx < H'.length + 1 ∧ q5 = some ⟨g5, 0, none⟩ ∧ g5 < W8.heap.size ∧ W8.cell? ⟨g5, nx, none⟩ = some (.bool bb) ∧ W8.frozen? ⟨g5, nx, none⟩ = false := fun hh => by
              obtain ⟨h1, h2⟩ := hhasle.out hh
              obtain ⟨nx, rfl⟩ := Int.eq_ofNat_of_zero_le (by omega : 0 ≤ xo)
              obtain ⟨q6, c6, e6, h6⟩ := hF.form
              injection e6 with e6 e7 e8
              subst e6
              obtain ⟨bb, hbb⟩ : ∃ bb, s1[nx]? = some bb := ⟨_, List.getElem?_eq_getElem (by omega)⟩
              obtain ⟨g5, r1, r2, r3, r4⟩ := h6 nx bb hbb
              exact ⟨nx, g5, bb, rfl, by omega, r1, r2, r3, r4⟩
            have hset : ∀ (g5 nx : Nat), q5 = some ⟨g5, 0, none⟩ → FastS (fun x o => x = W0.heap.size ∧ o = .cells E.toArray 39 (0, 0)) W2 (W8.setCell ⟨g5, nx, none⟩ (.bool true)) hb rb 1000 (128 + 2 * i + 2) H' (.slice q5 (H'.length + 1) c5) (s1.set nx true) := fun g5 nx hq => by
              subst hq
              have := FastS.set (i := nx) (s := s1) (g := g5) (c := c5) (by rw [hs1]; exact hF)
              rw [hs1] at this
              exact this
            replace hx5 := Lib.hid hx5
            replace hset := Lib.hid hset
            replace hF := Lib.hid hF
            clear hhit hhasle hcl hloop hs1
            rcases hcase with ⟨rfl, rfl⟩ | ⟨rfl, rfl, rfl, rfl⟩ | ⟨rfl, rfl, rfl, rfl⟩ | ⟨rfl, k2, k4, rfl⟩ | ⟨rfl, k2, k4, k0', rfl⟩ | ⟨rfl, k2, k4, k0', rfl⟩
            all_goals
              first
              | (have hML0 : MarkL H' 0 s1 := hM'.out
                 (try have k2' : (kd == 2) = false := by simpa using k2)
                 clear hM' hx5 hset
                 go_wp2_with fail
                 have hG := hF.out.forget
                 obtain ⟨s2, hs2⟩ : ∃ s2, s2 = s1 := ⟨_, rfl⟩
                 rw [← hs2] at hG hML0
                 clear hF hs2 c1 e0 e1)
              | (obtain ⟨nx, g5, bb, rfl, hnx5, hq, hg5, c5x, f5x⟩ := hx5.out rfl
                 have hML0 : MarkL H' 0 (s1.set nx true) := hM'.out
                 have hG := (hset.out g5 nx hq).forget
                 have r1 : (0 : Int) ≤ (nx : Int) := by omega
                 have r2 : (nx : Int) < (H'.length : Int) + 1 := by omega
                 (try have k2' : (kd == 2) = false := by simpa using k2)
                 clear hM' hx5 hset
                 replace hML0 := Lib.hid hML0
                 replace hG := Lib.hid hG
                 go_wp2_with fail
                 (try rw [← hq])
                 replace hML0 := hML0.out
                 replace hG := hG.out
                 obtain ⟨s2, hs2⟩ : ∃ s2, s2 = s1.set nx true := ⟨_, rfl⟩
                 rw [← hs2] at hG hML0
                 clear hF hs2 c1 e0 e1 c5x f5x hg5 hq)
            all_goals
              go_loopw [11] (fun vk wr3 => ∃ (m : Nat) (s3 : List Bool), m ≤ H'.length ∧ vk = .int .i64 ((m : Int) + 1) ∧ FastS (fun _ _ => False) W2 wr3 hb rb 1000 (128 + 2 * i + 2) H' (.slice q5 (H'.length + 1) c5) s3 ∧ MarkL H' m s3) (fun vk _ => H'.length + 1 - (intOf vk).toNat)
              case atStart => exact ⟨0, s2, by omega, by simp, hG, hML0⟩
              case round =>
                clear hG hML0
                obtain ⟨m, s3, hm, rfl, hF, hML⟩ := hrel
                obtain ⟨W9, rfl⟩ : ∃ W9, W9 = wr := ⟨_, rfl⟩
                obtain ⟨gR, cR, c1, lR, hcR⟩ := hF.law.form
                rcases Nat.lt_or_ge m H'.length with hml | hmg
                · obtain ⟨a, ha⟩ : ∃ a, H'[m]? = some a := ⟨_, List.getElem?_eq_getElem hml⟩
                  obtain ⟨qa, ca, cA⟩ := hcR m a ha
                  have hl3' := hML.1
                  obtain ⟨q6, c6, e6, h6⟩ := hF.form
                  injection e6 with e6 e7 e8
                  subst e6
                  obtain ⟨bb, hbb⟩ : ∃ bb, s3[m + 1]? = some bb := ⟨_, List.getElem?_eq_getElem (by omega)⟩
                  obtain ⟨g5, hq5, lg5, cB, fB⟩ := h6 (m + 1) bb hbb
                  have r0 : (0 : Int) ≤ (m : Int) + 1 := by omega
                  have r1 : (m : Int) + 1 < (H'.length : Int) + 1 := by omega
                  have r2 : ((m : Int) + 1).toNat = m + 1 := by omega
                  have r3 : IntKind.i64.wrap ((m : Int) + 1 + 1) = (m : Int) + 1 + 1 := by rw [IntKind.wrap_i64]; omega
                  cases hBg : Big a with
                  | true =>
                    obtain ⟨hfa, hML2⟩ := markL_big hML ha hBg
                    have hbig : ((128 : Nat) : Int) < (a.l.length : Int) := by have := of_decide_eq_true hBg; omega
                    subst hq5
                    have hF2 := FastS.set (i := m + 1) (s := s3) (g := g5) (c := c5) (by rw [hl3']; exact hF)
                    rw [hl3'] at hF2
                    have hfs := fun (y : World) (hy : LawS W2 y hb rb 1000 (128 + 2 * i + 2) H') => l_HFast hy m a ha
                    rw [hfa] at hfs
                    replace hfs := Lib.hid hfs
                    replace hF2 := Lib.hid hF2
                    replace hML2 := Lib.hid hML2
                    have hl4 := Lib.hid hl3'
                    clear hcR h6 hbb hF hML hBg hl3' e7 e8 hfa
                    obtain ⟨q7, c7, e7, h7⟩ := hF2.out.form
                    obtain ⟨g7, hq7, lg7, cB7, _⟩ := h7 (m + 1) true (by rw [List.getElem?_set_self (by have := hl4.out; omega)])
                    injection e7 with e7 e8 e9
                    rw [← e7] at hq7
                    injection hq7 with hq7
                    injection hq7 with hq7
                    subst hq7
                    replace cB7 := Lib.hid cB7
                    clear e7 e8 e9 h7 lg7
                    go_wp2_with fail
                    generalize hW10 : World.setCell _ _ _ = W10
                    rw [hW10] at hF2 cB7
                    have hst : W10.drew.cell? ⟨g5, m + 1, none⟩ = some (.bool true) := cB7.out
                    have hLd := hF2.out.law.below (Below.refl _ W10).drew
                    have hF3 := hF2.out.below (Below.refl _ W10).drew
                    replace hF3 := Lib.hid hF3
                    clear hW10 hF2 cB7 cB fB c1 cA
                    go_region_held3 (fun y => y.cell? ⟨g5, m + 1, none⟩ = some (.bool true)) (first | with_reducible assumption) ((go_at_call 15; refine (hfs.out _ hLd).mono ?_; rintro e y9 ⟨rfl, rfl⟩))
                    go_wp2
                    exact ⟨⟨m + 1, _, by omega, by go_num, hF3.out, hML2.out⟩, by simp [intOf]; omega⟩
                  | false =>
                    obtain ⟨hs3, hML2⟩ := markL_small hML ha hBg
                    obtain ⟨g7, hq7, lg7, cB7, _⟩ := h6 (m + 1) _ hs3
                    subst hq5
                    injection hq7 with hq7
                    injection hq7 with hq7
                    subst hq7
                    have hbig : ¬ (((128 : Nat) : Int) < (a.l.length : Int)) := by have := of_decide_eq_false hBg; omega
                    have hfs := fun (y : World) (hy : LawS W2 y hb rb 1000 (128 + 2 * i + 2) H') => l_HFast hy m a ha
                    have hLd := hF.law.below (Below.refl _ W9).drew
                    have hF3 := hF.below (Below.refl _ W9).drew
                    replace hF3 := Lib.hid hF3
                    replace hML2 := Lib.hid hML2
                    replace hfs := Lib.hid hfs
                    clear hcR h6 hbb hF hML hBg hl3' e7 e8 hs3 cB fB
                    cases hfa : a.fast with
                    | true =>
                      rw [hfa] at cB7 hfs
                      have hst := Lib.hid (show W9.drew.cell? ⟨g5, m + 1, none⟩ = some (.bool false) from cB7)
                      clear hfa cB7
                      go_wp2_with fail
                      replace hst := hst.out
                      go_region_held3 (fun y => y.cell? ⟨g5, m + 1, none⟩ = some (.bool false)) (first | with_reducible assumption) ((go_at_call 15; refine (hfs.out _ hLd).mono ?_; rintro e y9 ⟨rfl, rfl⟩))
                      go_wp2
                      exact ⟨⟨m + 1, _, by omega, by go_num, hF3.out, hML2.out⟩, by simp [intOf]; omega⟩
                    | false =>
                      rw [hfa] at cB7 hfs
                      have hst := Lib.hid (show W9.drew.cell? ⟨g5, m + 1, none⟩ = some (.bool true) from cB7)
                      clear hfa cB7
                      go_wp2_with fail
                      replace hst := hst.out
                      go_region_held3 (fun y => y.cell? ⟨g5, m + 1, none⟩ = some (.bool true)) (first | with_reducible assumption) ((go_at_call 15; refine (hfs.out _ hLd).mono ?_; rintro e y9 ⟨rfl, rfl⟩))
                      go_wp2
                      exact ⟨⟨m + 1, _, by omega, by go_num, hF3.out, hML2.out⟩, by simp [intOf]; omega⟩
                · obtain rfl : m = H'.length := by omega
                  have r1 : ¬ ((H'.length : Int) + 1 < (H'.length : Int) + 1) := by omega
                  have hend := markL_end hML
                  clear hcR hML
                  go_wp2_with fail
                  exact ⟨⟨i + 1, s3, by omega, by go_num, by rw [hH'.out]; exact hF, by rw [hH'.out]; exact hI', by rw [hH'.out]; exact hend⟩, by simp [intOf]; omega⟩
      · obtain rfl : i = l.length := by omega
        clear hi hge
        go_wp2
        go_ret
        exact ⟨rfl, hB2.out.trans (hT.law.base.mono hB2.out.size)⟩
end Go.Proofs.Ytoccmiinkfhohaa
namespace Go.Proofs.Ytoccmiinkfhohaa
open Go.RowKit Go.Shelf Go.Lib Go.Sort Go.Proofs Go.ChangeShapes Go.WideShapes Go.ChangeAt
set_option maxHeartbeats 1000000
set_option maxRecDepth 8000

theorem bulk_small {H : Type} {ds : List (DataW H)} (hk : Rows.uptoSmall H ds = true) : Rows.uptoBulkAll ds ≤ 1048576 := of_decide_eq_true hk
theorem bulk_part {H : Type} {d : DataW H} {l : List (DataW H)} (h : d ∈ l) : Rows.uptoBulk d ≤ Rows.uptoBulkAll l := by
  induction l with
  | nil => cases h
  | cons x r ih =>
    simp only [Rows.uptoBulkAll]
    rcases List.mem_cons.1 h with rfl | e
    · omega
    · have := ih e; omega
theorem cellsOp : Try.prog.cellsOf 39 = 18 := by kernel_rfl
theorem cellsValue : Try.prog.cellsOf 35 = 4 := by kernel_rfl
theorem cellsProp : Try.prog.cellsOf 37 = 13 := by kernel_rfl
theorem cellsFloat : Try.prog.cellsOf 33 = 1 := by kernel_rfl
section
variable {H : Type} {enc : TypeId × Value → H} {P : Program} {w : World} {base : Nat} {spare : Nat → Bool} {held : Bool}
theorem trod_float5 {t : TypeId} {k : FloatKind} {fuel : Nat} {cs : List Value} {x : DataW H × List MemPlace} (ht : P.underlying t = some (.float k)) (h : DataW.trod enc P w base spare held fuel t cs = some x) : ∃ b, cs = [.float k b] ∧ x = (.lit (.float k b), []) := by
  cases fuel with
  | zero => simp [DataW.trod] at h
  | succ n =>
    unfold DataW.trod at h
    rw [ht] at h
    split at h <;> simp_all
end
section
variable {H : Type} {enc : TypeId × Value → H} {w : World} {base : Nat} {spare : Nat → Bool} {held : Bool}
def encV (v : VV) : List Value := [.int .i64 v.k, .float .f64 v.x, .string v.s, .int .i64 v.r]
theorem value_open {fuel : Nat} {cs : List Value} {x : DataW H × List MemPlace} (h : DataW.trod enc Try.prog w base spare held fuel 35 cs = some x) : ∃ v : VV, cs = encV v ∧ v.s.size ≤ Rows.uptoBulk x.1 := by
  obtain ⟨y0, y1, y2, y3, n, rfl, hl, h0, h1, h2, h3⟩ := Go.Joins.trod_struct4 Try.underlying35 h
  rw [cellsValue] at hl
  match cs, hl with
  | [c0, c1, c2, c3], _ =>
    obtain ⟨k, e0, _, _⟩ := DataW.trod_int Try.underlying3 h0
    obtain ⟨f, e1, _⟩ := trod_float5 Try.underlying33 h1
    obtain ⟨s, e2, g2, _⟩ := DataW.trod_string Try.underlying30 h2
    obtain ⟨r, e3, _, _⟩ := DataW.trod_int Try.underlying3 h3
    simp [cellsInt, cellsFloat, cellsStr] at e0 e1 e2 e3
    subst e0 e1 e2 e3
    refine ⟨⟨k, f, s, r⟩, rfl, ?_⟩
    have h3 : s.data.toList.length = s.size := rfl
    subst g2
    simp only [Rows.uptoBulk, Rows.uptoBulkAll]
    omega
theorem prop_open {fuel : Nat} {cs : List Value} {x : DataW H × List MemPlace} (h : DataW.trod enc Try.prog w base spare held fuel 37 cs = some x) : ∃ p : PV, cs = encP p ∧ p.v.s.size ≤ Rows.uptoBulk x.1 := by
  obtain ⟨y0, y1, y2, y3, n, rfl, hl, h0, h1, h2, h3⟩ := Go.Joins.trod_struct4 Try.underlying37 h
  rw [cellsProp] at hl
  match cs, hl with
  | [c0, c1, c2, c3, c4, c5, c6, c7, c8, c9, c10, c11, c12], _ =>
    obtain ⟨v, e0, g0⟩ := value_open h0
    obtain ⟨g, e1, _⟩ := value_open h1
    obtain ⟨t, e2, _⟩ := value_open h2
    obtain ⟨r, e3, _, _⟩ := DataW.trod_int Try.underlying3 h3
    simp [cellsValue, cellsInt, encV] at e0 e1 e2 e3
    obtain ⟨rfl, rfl, rfl, rfl⟩ := e0
    obtain ⟨rfl, rfl, rfl, rfl⟩ := e1
    obtain ⟨rfl, rfl, rfl, rfl⟩ := e2
    subst e3
    refine ⟨⟨v, g, t, r⟩, rfl, ?_⟩
    show v.s.size ≤ _
    simp only [Rows.uptoBulk, Rows.uptoBulkAll]
    omega
theorem keyc_open {fuel : Nat} {cs : List Value} {x : DataW H × List MemPlace} (h : DataW.trod enc Try.prog w base spare held fuel 32 cs = some x) : ∃ k : KK, cs = [.string k.1, .int .i64 k.2] ∧ k.1.size ≤ Rows.uptoBulk x.1 ∧ (Lit.int .i64 k.2).wf = true := by
  obtain ⟨y0, y1, n, rfl, hl, h0, h1⟩ := Go.ChangeShapes.trod_struct2 Try.underlying32 h
  rw [cellsKey] at hl
  match cs, hl with
  | [c0, c1], _ =>
    obtain ⟨s, e0, g0, _⟩ := DataW.trod_string Try.underlying30 h0
    obtain ⟨r, e1, _, hw⟩ := DataW.trod_int Try.underlying3 h1
    simp [cellsInt, cellsStr] at e0 e1
    subst e0 e1
    refine ⟨(s, r), rfl, ?_, hw⟩
    subst g0
    have h3 : s.data.toList.length = s.size := rfl
    simp only [Rows.uptoBulk, Rows.uptoBulkAll]
    show s.size ≤ _
    omega
theorem op_open {fuel : Nat} {cs : List Value} {x : DataW H × List MemPlace} (h : DataW.trod enc Try.prog w base spare held fuel 39 cs = some x) : ∃ z : OP, cs = encO z ∧ z.k.1.size + z.p.v.s.size + 1 ≤ Rows.uptoBulk x.1 ∧ (Lit.int .i64 z.k.2).wf = true := by
  obtain ⟨xs, n, _, rfl, hl, hlen, hf⟩ := DataW.trod_struct Try.underlying39 h
  rw [cellsOp] at hl
  match xs, hlen with
  | [y0, y1, y2, y3, y4], _ =>
    have h0 := hf 0 _ rfl
    have h1 := hf 1 _ rfl
    have h2 := hf 2 _ rfl
    have h3 := hf 3 _ rfl
    have h4 := hf 4 _ rfl
    match cs, hl with
    | [c0, c1, c2, c3, c4, c5, c6, c7, c8, c9, c10, c11, c12, c13, c14, c15, c16, c17], _ =>
      obtain ⟨a, e0, _, _⟩ := DataW.trod_int Try.underlying3 h0
      obtain ⟨b, e1, _, _⟩ := DataW.trod_int Try.underlying3 h1
      obtain ⟨c, e2, _, _⟩ := DataW.trod_int Try.underlying3 h2
      obtain ⟨k, e3, g3, hw⟩ := keyc_open h3
      obtain ⟨p, e4, g4⟩ := prop_open h4
      simp [cellsInt, cellsKey, cellsProp, encP] at e0 e1 e2 e3 e4
      subst e0 e1 e2
      obtain ⟨rfl, rfl⟩ := e3
      obtain ⟨rfl, rfl, rfl, rfl, rfl, rfl, rfl, rfl, rfl, rfl, rfl, rfl, rfl⟩ := e4
      refine ⟨⟨a, b, c, k, p⟩, rfl, ?_, hw⟩
      show k.1.size + p.v.s.size + 1 ≤ _
      simp only [List.map_cons, Rows.uptoBulk, Rows.uptoBulkAll]
      omega
theorem bulk_ops (q : Nat → OP) (D : Nat → DataW H) (is : List Nat) (h : ∀ i ∈ is, (q i).k.1.size + (q i).p.v.s.size + 1 ≤ Rows.uptoBulk (D i)) : (is.map fun i => (q i).k.1.size + (q i).p.v.s.size + 1).sum ≤ Rows.uptoBulkAll (is.map D) := by
  induction is with
  | nil => simp
  | cons i is ih =>
    have h1 := ih (fun j hj => h j (by simp [hj]))
    have h2 := h i (by simp)
    simp only [List.map_cons, List.sum_cons, Rows.uptoBulkAll]
    omega
end
theorem ops_open {H : Type} {enc : TypeId × Value → H} {W : World} {base : Nat} {v : Value} {d : DataW H} {p : List MemPlace} (hok : Value.okWide Try.prog W .any base 22 v) (h : DataW.Trod enc Try.prog W 0 (fun _ => true) true 22 v d p) (hb : Rows.uptoBulk d ≤ 1048576) :
    ∃ l : List OP, RdO W v l ∧ (l.map fun x => x.k.1.size + x.p.v.s.size + 1).sum ≤ 1048576 ∧ ∀ x ∈ l, okK x.k := by
  obtain ⟨a0, len0, cap0, rfl⟩ := okWide_slice Try.underlying22 hok
  obtain ⟨fuel, hf⟩ := h
  rcases Go.Deep.open_slice Try.underlying22 hf with ⟨hcs, hx⟩ | ⟨a, len, cap, m, n, D, Pl, hcs, hba, hlc, hcm, hm, hx, hcell⟩
  · simp [Value.cells] at hcs
    obtain ⟨rfl, rfl, rfl⟩ := hcs
    exact ⟨[], .inl ⟨rfl, rfl⟩, by simp, by simp⟩
  · simp [Value.cells] at hcs
    obtain ⟨rfl, rfl, rfl⟩ := hcs
    rw [cellsOp] at hcell
    have each : ∀ i, i < len0 → ∃ q : OP, (∀ j u, (encO q)[j]? = some u → W.cell? (a.add (i * 18 + j)) = some u) ∧ q.k.1.size + q.p.v.s.size + 1 ≤ Rows.uptoBulk (D i) ∧ (Lit.int .i64 q.k.2).wf = true := by
      intro i hi
      obtain ⟨cs', c0, t0⟩ := hcell i (by rw [hm]; split <;> omega)
      obtain ⟨q, rfl, g1, g2⟩ := op_open t0
      obtain ⟨_, hl, hat⟩ := World.cells?_some c0
      refine ⟨q, fun j u hu => ?_, g1, g2⟩
      have hj : j < 18 := (List.getElem?_eq_some_iff.1 hu).1
      rw [← Go.Deep.add_add, hat j hj, hu]
    obtain ⟨q, hq⟩ := Go.Deep.choose_lt each
    have hl : ((List.range len0).map q).length = len0 := by simp
    have hbk := bulk_ops q D (List.range len0) (fun i hi => (hq i (List.mem_range.1 hi)).2.1)
    have hd : d = _ := congrArg Prod.fst hx
    rw [hd] at hb
    simp only [Rows.uptoBulk] at hb
    have hsum : (((List.range len0).map q).map fun x => x.k.1.size + x.p.v.s.size + 1).sum ≤ 1048576 := by
      rw [List.map_map]
      have : ((fun x : OP => x.k.1.size + x.p.v.s.size + 1) ∘ q) = fun i => (q i).k.1.size + (q i).p.v.s.size + 1 := rfl
      rw [this]
      omega
    refine ⟨(List.range len0).map q, .inr ⟨a, cap0, by rw [hl], by rw [hl]; exact hlc, ?_⟩, hsum, ?_⟩
    · intro k x hx
      have hk : k < len0 := by have := (List.getElem?_eq_some_iff.1 hx).1; simpa using this
      have hxe : q k = x := by simpa [hk] using hx
      obtain ⟨e0, _⟩ := hq k hk
      obtain ⟨d0, _⟩ := hq 0 (by omega)
      have hsp : a.spot = none := by
        have d1 := d0 0 _ rfl
        have h00 : a.add (0 * 18 + 0) = a := by simp [Addr.add]
        rw [h00] at d1
        unfold World.cell? at d1
        cases hs : a.spot with
        | none => rfl
        | some z =>
          rw [hs] at d1
          cases hh : W.heap[a.block]? with
          | none => simp [hh] at d1
          | some o => cases o <;> simp [hh] at d1
      have hadd : ∀ j, a.add j = ⟨a.block, a.off + j, none⟩ := by
        intro j
        unfold Addr.add
        split
        · rename_i h0; subst h0; rw [← hsp]; simp
        · rfl
      refine ⟨hsp, fun j u hu => ?_⟩
      have := e0 j u (by rw [hxe]; exact hu)
      rw [hadd, ← Nat.add_assoc] at this
      exact this
    · intro x hx
      obtain ⟨i, hi, rfl⟩ := List.mem_map.1 hx
      have hi' := List.mem_range.1 hi
      obtain ⟨_, g1, g2⟩ := hq i hi'
      have hle : (q i).k.1.size + (q i).p.v.s.size + 1 ≤ (((List.range len0).map q).map fun x => x.k.1.size + x.p.v.s.size + 1).sum := mem_le_sum (List.mem_map.2 ⟨q i, hx, rfl⟩)
      exact ⟨by omega, g2⟩
theorem key_open5 {H : Type} {enc : TypeId × Value → H} {W : World} {base : Nat} {v : Value} {d : DataW H} {p : List MemPlace} (hok : Value.okWide Try.prog W .any base 32 v) (h : DataW.Trod enc Try.prog W 0 (fun _ => true) true 32 v d p) :
    ∃ x : KK, v = keyV x.1 x.2 := by
  obtain ⟨v0, v1, y0, y1, n, rfl, rfl, _, h0, h1⟩ := Go.Joins.open_agg2 Try.underlying32 (by kernel_rfl) cellsKey hok h
  obtain ⟨s, e1, e2, _⟩ := DataW.trod_string Try.underlying30 h0
  obtain ⟨z, e3, e4, _⟩ := DataW.trod_int Try.underlying3 h1
  simp at e1 e3
  subst e1; subst e3
  exact ⟨(s, z), rfl⟩
theorem ops_few {l : List OP} (h : (l.map fun x => x.k.1.size + x.p.v.s.size + 1).sum ≤ 1048576) (hk : ∀ x ∈ l, okK x.k) : fewO l l.length ≤ 4194304 ∧ ∀ x ∈ l, (x.k.1.size ≤ 4194304 ∧ x.p.v.s.size ≤ 4194304) ∧ okK x.k := by
  have h1 : fewO l l.length ≤ (l.map fun x => x.k.1.size + x.p.v.s.size + 1).sum := by
    unfold fewO
    rw [List.take_length]
    clear h hk
    induction l with
    | nil => simp
    | cons a l ih =>
      simp only [List.map_cons, List.sum_cons, List.length_cons]
      unfold fewS at *
      omega
  refine ⟨by omega, fun x hx => ?_⟩
  have : x.k.1.size + x.p.v.s.size + 1 ≤ (l.map fun x => x.k.1.size + x.p.v.s.size + 1).sum := mem_le_sum (List.mem_map.2 ⟨x, hx, rfl⟩)
  exact ⟨⟨by omega, by omega⟩, hk x hx⟩
end Go.Proofs.Ytoccmiinkfhohaa
namespace Go.Proofs.Ytoccmiinkfhohaa.heapFast
open Go.ChangeShapes Go.WideShapes Go.ChangeAt Go.RowKit
set_option linter.unusedVariables false

theorem own : ownKnob Try.prog.godebug = none := by kernel_rfl
set_option maxRecDepth 100000 in
theorem contract (H : Type) (enc : TypeId × Value → H) (W : World) (base : Nat) (args : Array Value) (ds gs : List (DataW H)) (before : List MemPlace)
    (hval : ∀ (j : Nat) t v, Try.f3.params[j]? = some t → args[j]? = some v → Value.okWide Try.prog W .any base t v)
    (hW : DataW.Whole enc Try.prog Try.f3.params.toList Rows.heapFastSpec.vars false W args.toList ds gs before) (hk : Rows.uptoSmall H (ds ++ gs) = true) :
    Calls Try.prog 3 args W fun e W' => ∃ v, e = .returned v ∧ Rows.heapFastSpec.post enc Try.prog Try.f3 false true false false W args v W' := by
  have hW' := hW
  obtain ⟨p, q, hA0, hV, rfl, hfz, hnd⟩ := hW
  have hA : DataW.TrodAll enc Try.prog W 0 (fun _ => true) true Try.f3.params.toList args.toList ds p := hA0
  rw [Try.params3] at hA hval
  obtain ⟨v0, vs0, d0, ds0, p0, q0, hargs, rfl, rfl, h0, r0⟩ := trodAll_cons hA
  obtain ⟨rfl, rfl, rfl⟩ := trodAll_nil r0
  obtain rfl : args = #[v0] := by cases args; simp_all
  obtain ⟨rfl, rfl⟩ := trodVars_none hV
  have hb := bulk_small hk
  simp only [List.append_nil] at hW' hb
  obtain ⟨l0, hr0, hs0, ho0⟩ := ops_open (hval 0 22 v0 rfl rfl) h0 (Nat.le_trans (bulk_part (by simp)) hb)
  obtain ⟨hf0, hg0⟩ := ops_few hs0 ho0
  have hlt0 : ∀ x ∈ p0, x.block < W.heap.size := fun x hx => by simpa using hW'.lt x (by simp [hx])
  clear hA0
  refine (c_HeapFast v0 l0 hf0 hg0 W hr0).mono fun e W' ⟨he, hg⟩ => ?_
  subst he
  exact ⟨_, rfl, [d0], [], _, [], p0 ++ ([]), [], by simpa using hW', trodAll_mk1 (shut_bool Try.underlying4 _), trodAll_cons_mk (Below.trod laidOut (by kernel_rfl) (of_decide_eq_true (by kernel_rfl)) h0 hg hlt0) trodAll_mk0, rfl, hg.frame _, fun h => by cases h⟩
set_option maxRecDepth 100000 in
theorem lifted (os : Os) (started : os.Started) (H : Type) (enc : TypeId × Value → H) (F : Stop.Interp) :
    ReturnsInHanded {} Try.checked os 3 .any ((Rows.OpenSpec.upto Rows.heapFastSpec).pre6 enc Try.prog Try.f3 Rows.heapFastUptoRow.domain false) (((Rows.OpenSpec.upto Rows.heapFastSpec).at F).post enc Try.prog Try.f3 false true false false) := by
  refine returnsInHanded_of_cond (C := Try.checked) (s := Rows.OpenSpec.upto Rows.heapFastSpec) (k := Rows.uptoSmall) rfl own started (by kernel_rfl) Try.func3
    (OpenSpec.witness (enc := enc) (C := Try.checked) (s := Rows.OpenSpec.upto Rows.heapFastSpec) (k := Rows.uptoSmall) rfl false ⟨#[], #[.slice none 0 0], []⟩ 8 (by kernel_rfl) (by kernel_rfl) (by kernel_rfl)
      (x := ([.nil], [], [])) (by kernel_rfl) rfl (by kernel_rfl)) ?_
  intro W base args ds gs before hval hW _ hk _
  exact contract H enc W base args ds gs before hval hW hk
theorem over : Rows.heapFastUptoRow.holds Try.pinned (Rows.OpenSpec.upto Rows.heapFastSpec) :=
  OpenClaim.holds_of_cond 3 Try.f3 rfl rfl rfl rfl rfl rfl rfl ⟨rfl, rfl, rfl, rfl, rfl⟩ rfl rfl rfl rfl rfl (by kernel_rfl) Try.func3 (by kernel_rfl)
    (of_decide_eq_true (by kernel_rfl)) (by unfold Func.isWrapper; first | (rw [if_pos (by decide +kernel)]; kernel_rfl) | (rw [if_neg (by decide +kernel)]; exact ⟨rfl, rfl⟩))
    (fun os started H enc _ F => lifted os started H enc F)
theorem proved : Rows.HeapFastUptoSaid :=
  over
end Go.Proofs.Ytoccmiinkfhohaa.heapFast

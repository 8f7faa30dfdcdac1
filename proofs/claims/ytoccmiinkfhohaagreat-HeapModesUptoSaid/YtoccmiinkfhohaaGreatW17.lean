/-
  Contracts: A cache of shapes: its state; Cached with a cache. What a fast object tells of a key, by a cache.
-/
import Derived.Test.YtoccmiinkfhohaaGreatW7
import Derived.Laws.LoneSync
import Derived.Laws.StructEq
import Derived.LaidEqlPtr
import Derived.Deep.Cut
import Derived.Test.YtoccmiinkfhohaaGreatW14
namespace Go.Proofs.YtoccmiinkfhohaaGreat
open Go.RowKit Go.Shelf Go.Lib Go.Sort Go.Proofs Go.Maps
set_option linter.unusedVariables false
set_option maxHeartbeats 4000000
set_option maxRecDepth 100000

theorem key_eql (w : World) (a c : ByteArray) (b d : Int) : (binOp .eql 31 (.agg #[.string a, .int .i64 b]) (.agg #[.string c, .int .i64 d])).run Tryz.prog w = .ok (.bool (decide (a = c ∧ b = d))) w := by
  rw [run_eql_struct, run_equalIn_agg (d := 9999) (ht := by kernel_rfl) (hp := by kernel_rfl)]
  obtain ⟨f0, f1, hf, ho0, ht0, ho1, ht1, hb0, hb1⟩ : ∃ f0 f1 : Field, (Tryz.prog.fieldsOf 31).toList = [f0, f1] ∧ f0.offset = 0 ∧ f0.type = 29 ∧ f1.offset = 1 ∧ f1.type = 3 ∧ decide (f0.name = "_") = false ∧ decide (f1.name = "_") = false := ⟨_, _, rfl, rfl, rfl, rfl, rfl, rfl, rfl⟩
  have hb0' : f0.name ≠ "_" := of_decide_eq_false hb0
  have hb1' : f1.name ≠ "_" := of_decide_eq_false hb1
  have us : Tryz.prog.underlying 29 = some .string := by kernel_rfl
  have ui : Tryz.prog.underlying 3 = some (.int .i64) := by kernel_rfl
  rw [hf]
  simp [Op.eqFields, hb0', hb1', ho0, ho1, ht0, ht1, go_sem]
  have e : a.toList = c.toList ↔ a = c := ⟨fun h => baH_eq h, fun h => by rw [h]⟩
  by_cases h1 : a = c
  · rw [if_pos (e.2 h1)]
    by_cases h2 : b = d <;> simp [h1, h2]
  · rw [if_neg (fun h => h1 (e.1 h))]
    simp [h1]
theorem ptr_eqT (y : World) (a : Addr) : (binOp .eql 62 (.pointer (some a)) (.pointer (some a))).run Tryz.prog y = .ok (.bool true) y := by
  cases hi : Tryz.prog.info? 123 with
  | none =>
    have : (Tryz.prog.info? 123).isSome = true := by kernel_rfl
    rw [hi] at this
    cases this
  | some j => exact run_eql_ptr_same (P := Tryz.prog) (w := y) (te := 123) a (by kernel_rfl) hi
theorem ptr_eqN (y : World) (a : Addr) : (binOp .eql 62 (.pointer none) (.pointer (some a))).run Tryz.prog y = .ok (.bool false) y := by kernel_rfl
theorem ptr_neN (y : World) (a : Addr) : (binOp .eql 62 (.pointer (some a)) (.pointer none)).run Tryz.prog y = .ok (.bool false) y := by kernel_rfl
theorem ptr_neC (y : World) (a : Addr) : (binOp .neq 43 (.pointer (some a)) (.pointer none)).run Tryz.prog y = .ok (.bool true) y := by kernel_rfl
def encC (tb : Nat) (o : Bool) (s : Nat) (k : KK) (at_ fl : Int) (is : Bool) (h m : Int) : Array Value := #[.int .i64 1, if o then .pointer (some ⟨tb, 0, none⟩) else .pointer none, .int .i64 (s : Int), .string k.1, .int .i64 k.2, .int .i64 at_, .int .i64 fl, .bool is, .int .i64 h, .int .i64 m]
/-- a cache of one tree's shapes -/
def CacheO (w : World) (cb tb : Nat) (L : List (List KK)) : Prop :=
  ∃ (o : Bool) (s : Nat) (k : KK) (at_ fl : Int) (is : Bool) (h m : Int), w.heap[cb]? = some (.cells (encC tb o s k at_ fl is h m) 83 (0, 0)) ∧ (o = true → is = true → ∃ (i : Nat) (ks : List KK), at_ = (i : Int) ∧ L[s]? = some ks ∧ idx ks k = some i)
theorem CacheO.at {w w' : World} {cb tb : Nat} {L L' : List (List KK)} (h : CacheO w cb tb L) (hb : w'.heap[cb]? = w.heap[cb]?) (hL : ∀ (i : Nat) ks, L[i]? = some ks → L'[i]? = some ks) : CacheO w' cb tb L' := by
  obtain ⟨o, s, k, a, fl, is, h', m, h1, h2⟩ := h
  refine ⟨o, s, k, a, fl, is, h', m, hb.trans h1, fun ho hi => ?_⟩
  obtain ⟨i, ks, e1, e2, e3⟩ := h2 ho hi
  exact ⟨i, ks, e1, hL _ _ e2, e3⟩
theorem c_AtAdd {w : World} {cb j : Nat} {n : Int} (c0 : w.cell? ⟨cb, j, none⟩ = some (.int .i64 n)) (hf : w.frozen? ⟨cb, j, none⟩ = false) :
    Calls Tryz.prog 116 #[.pointer (some ⟨cb, j, none⟩), .int .i64 1] w fun e w' => ∃ m : Int, (∃ v, e = .returned v) ∧ w' = w.setCell ⟨cb, j, none⟩ (.int .i64 m) := by
  have hadd := run_call_add (P := Tryz.prog) (f := 118) Tryz.func118 (by kernel_rfl) (by kernel_rfl) (by kernel_rfl) .i64 (by kernel_rfl) (y := 1) (s := wrap64 (n + 1)) c0 hf (by simp [go_sem, wrap64, IntKind.wrap_i64])
  go_enter Tryz.func116, Tryz.ntmps116
  go_wp2
  go_ret
  exact ⟨_, ⟨_, rfl⟩, rfl⟩
theorem gbk_trans {w w1 w2 : World} {k : Option Nat} (h1 : w.grownBy w1 k) (h2 : w1.grownBy w2 k) : w.grownBy w2 k :=
  ⟨h2.os.trans h1.os, h2.tape.trans h1.tape, h2.output.trans h1.output, Nat.le_trans h1.size h2.size, fun r hr hne => (h2.block r (Nat.lt_of_lt_of_le hr h1.size) hne).trans (h1.block r hr hne)⟩
theorem gbk_below {w w1 : World} {k : Option Nat} (h : Below w.heap.size w w1) : w.grownBy w1 k := ⟨h.os, h.tape, h.output, h.size, fun r hr _ => h.block r hr⟩
theorem gbk_set (w : World) (b i : Nat) (v : Value) : w.grownBy (w.setCell ⟨b, i, none⟩ v) (some b) := ⟨rfl, rfl, rfl, by simp, fun r _ hne => Below.heap_setCell _ _ _ _ (fun e => hne (by rw [show r = b from e]))⟩
theorem tree_gb {w w' : World} {f : Nat → Nat} {cb tb : Nat} {L : List (List KK)} (hN : Norm f w) (h : TreeO w f tb L) (hcf : f cb = 0) (hg : w.grownBy w' (some cb)) : Norm f w' ∧ TreeO w' f tb L := by
  have hn : Norm f w' := fun r hr => hN r (Nat.le_trans hg.size hr)
  have t1 : Turn (fun c => c = 0) f f w w' := ⟨hg.os, hg.tape, hg.output, hg.size, fun _ _ => rfl, hn, fun r hr hne => hg.block r hr (fun e => hne (by rw [Option.some.inj e]; exact hcf))⟩
  exact ⟨hn, h.turn t1 (by decide) (by decide) (by decide) (by decide)⟩
theorem cells10 {w : World} {cb tb : Nat} {o : Bool} {s : Nat} {k : KK} {a fl : Int} {is : Bool} {h m : Int} (hb : w.heap[cb]? = some (.cells (encC tb o s k a fl is h m) 83 (0, 0))) :
    w.cell? ⟨cb, 0, none⟩ = some (.int .i64 1) ∧ w.cell? ⟨cb, 1, none⟩ = some (if o then .pointer (some ⟨tb, 0, none⟩) else .pointer none) ∧ w.cell? ⟨cb, 2, none⟩ = some (.int .i64 (s : Int)) ∧ w.cell? ⟨cb, 3, none⟩ = some (.string k.1) ∧ w.cell? ⟨cb, 4, none⟩ = some (.int .i64 k.2) ∧ w.cell? ⟨cb, 5, none⟩ = some (.int .i64 a) ∧ w.cell? ⟨cb, 6, none⟩ = some (.int .i64 fl) ∧ w.cell? ⟨cb, 7, none⟩ = some (.bool is) ∧ w.cell? ⟨cb, 8, none⟩ = some (.int .i64 h) ∧ w.cell? ⟨cb, 9, none⟩ = some (.int .i64 m) ∧ (∀ j, w.frozen? ⟨cb, j, none⟩ = false) ∧ cb < w.heap.size := by
  refine ⟨?_, ?_, ?_, ?_, ?_, ?_, ?_, ?_, ?_, ?_, fun j => by simp [World.frozen?, hb], heapH_lt hb⟩ <;> (rw [cell_of_row _ _ _ _ _ _ hb]; rfl)
theorem c_Creal1 {w : World} {cb : Nat} (c0 : w.cell? ⟨cb, 0, none⟩ = some (.int .i64 1)) : Calls Tryz.prog 114 #[.pointer (some ⟨cb, 0, none⟩)] w fun e w' => e = .returned (.bool true) ∧ w' = w := by
  have hne := ptr_neC
  go_enter Tryz.func114, Tryz.ntmps114
  go_wp2
  go_ret
  exact ⟨rfl, rfl⟩
theorem kk_set {y : World} {kb cb : Nat} {a b : Value} (h : y.cell? ⟨kb, 0, none⟩ = some a ∧ y.cell? ⟨kb, 1, none⟩ = some b) (hne : kb ≠ cb) (j : Nat) (u : Value) : (y.setCell ⟨cb, j, none⟩ u).cell? ⟨kb, 0, none⟩ = some a ∧ (y.setCell ⟨cb, j, none⟩ u).cell? ⟨kb, 1, none⟩ = some b :=
  ⟨(World.cell?_of_block (w := y) (a := ⟨kb, 0, none⟩) (Below.heap_setCell _ _ _ _ hne)).trans h.1, (World.cell?_of_block (w := y) (a := ⟨kb, 1, none⟩) (Below.heap_setCell _ _ _ _ hne)).trans h.2⟩
theorem kk_setD {y : World} {kb cb : Nat} {a b : Value} (h : y.drew.cell? ⟨kb, 0, none⟩ = some a ∧ y.drew.cell? ⟨kb, 1, none⟩ = some b) (hne : kb ≠ cb) (j : Nat) (u : Value) : (y.setCell ⟨cb, j, none⟩ u).drew.cell? ⟨kb, 0, none⟩ = some a ∧ (y.setCell ⟨cb, j, none⟩ u).drew.cell? ⟨kb, 1, none⟩ = some b := kk_set (y := y) h hne j u
theorem gbk_drew {w w' : World} {k : Option Nat} (h : w.grownBy w' k) : w.grownBy w'.drew k := ⟨h.os, h.tape, h.output, h.size, h.block⟩
theorem heap_drew' (w : World) : w.drew.heap = w.heap := rfl
theorem cache_set7 {y : World} {cb tb : Nat} {o : Bool} {s0 : Nat} {k0 : KK} {a0 fl0 : Int} {is0 : Bool} {h0 m0 : Int} (hb : y.heap[cb]? = some (.cells (encC tb o s0 k0 a0 fl0 is0 h0 m0) 83 (0, 0))) (s : Nat) (K : KK) (z fl : Int) (bo : Bool) :
    ((((((((y.setCell ⟨cb, 1, none⟩ (.pointer (some ⟨tb, 0, none⟩))).setCell ⟨cb, 2, none⟩ (.int .i64 (s : Int))).setCell ⟨cb, 3, none⟩ (.string K.1)).setCell ⟨cb, 4, none⟩ (.int .i64 K.2)).setCell ⟨cb, 5, none⟩ (.int .i64 z)).setCell ⟨cb, 6, none⟩ (.int .i64 fl)).setCell ⟨cb, 7, none⟩ (.bool bo)).drew).heap[cb]? = some (.cells (encC tb true s K z fl bo h0 m0) 83 (0, 0)) ∧ y.grownBy ((((((((y.setCell ⟨cb, 1, none⟩ (.pointer (some ⟨tb, 0, none⟩))).setCell ⟨cb, 2, none⟩ (.int .i64 (s : Int))).setCell ⟨cb, 3, none⟩ (.string K.1)).setCell ⟨cb, 4, none⟩ (.int .i64 K.2)).setCell ⟨cb, 5, none⟩ (.int .i64 z)).setCell ⟨cb, 6, none⟩ (.int .i64 fl)).setCell ⟨cb, 7, none⟩ (.bool bo)).drew) (some cb) := by
  have n1 := heap_setCell_same y cb 1 _ _ (.pointer (some ⟨tb, 0, none⟩)) hb
  have n2 := heap_setCell_same _ cb 2 _ _ (.int .i64 (s : Int)) n1
  have n3 := heap_setCell_same _ cb 3 _ _ (.string K.1) n2
  have n4 := heap_setCell_same _ cb 4 _ _ (.int .i64 K.2) n3
  have n5 := heap_setCell_same _ cb 5 _ _ (.int .i64 z) n4
  have n6 := heap_setCell_same _ cb 6 _ _ (.int .i64 fl) n5
  have n7 := heap_setCell_same _ cb 7 _ _ (.bool bo) n6
  have hgE := gbk_trans (gbk_trans (gbk_trans (gbk_trans (gbk_trans (gbk_trans (gbk_set y cb 1 (.pointer (some ⟨tb, 0, none⟩))) (gbk_set _ cb 2 (.int .i64 (s : Int)))) (gbk_set _ cb 3 (.string K.1))) (gbk_set _ cb 4 (.int .i64 K.2))) (gbk_set _ cb 5 (.int .i64 z))) (gbk_set _ cb 6 (.int .i64 fl))) (gbk_set _ cb 7 (.bool bo))
  refine ⟨?_, gbk_drew hgE⟩
  have e : (((((((encC tb o s0 k0 a0 fl0 is0 h0 m0).setIfInBounds 1 (.pointer (some ⟨tb, 0, none⟩))).setIfInBounds 2 (.int .i64 (s : Int))).setIfInBounds 3 (.string K.1)).setIfInBounds 4 (.int .i64 K.2)).setIfInBounds 5 (.int .i64 z)).setIfInBounds 6 (.int .i64 fl)).setIfInBounds 7 (.bool bo) = encC tb true s K z fl bo h0 m0 := by simp [encC]
  rw [e] at n7
  rw [heap_drew']
  exact n7
/-- what Cached answers -/
def CachedP (ks : List KK) (K : KK) (e : Ending) : Prop :=
  (∃ (i : Nat) (fl : Int), idx ks K = some i ∧ e = .returned (.tuple #[.int .i64 (i : Int), .int .i64 fl, .bool true])) ∨ (idx ks K = none ∧ ∃ a fl : Int, e = .returned (.tuple #[.int .i64 a, .int .i64 fl, .bool false]))
theorem c_SCachedC {w : World} {f : Nat → Nat} {tb cb : Nat} {L : List (List KK)} (hN : Norm f w) (h : TreeO w f tb L) (hC : CacheO w cb tb L) (hcf : f cb = 0) (s : Nat) (ks : List KK) (hs : L[s]? = some ks) (k : KK) (hk : okK k) :
    Calls Tryz.prog 110 #[.pointer (some ⟨tb, 0, none⟩), .pointer (some ⟨cb, 0, none⟩), .int .i64 (s : Int), keyV k.1 k.2] w fun e w' => (w.grownBy w' (some cb) ∧ CacheO w' cb tb L) ∧ CachedP ks (pk k) e := by
  obtain ⟨o, s0, k0, a0, fl0, is0, h0, m0, hcb, hinv⟩ := hC
  obtain ⟨W1, hW1⟩ : ∃ W1, w.alloc (.cells #[.string k.1, .int .i64 k.2] 31) = W1 := ⟨_, rfl⟩
  have hb1 : Below w.heap.size w W1 := by rw [← hW1]; exact (Below.refl _ w).alloc (Nat.le_refl _) _
  have d1 : W1.heap[w.heap.size]? = some (.cells #[.string k.1, .int .i64 k.2] 31 (0, 0)) := by rw [← hW1]; exact heap_alloc_new w _
  have hlcb := heapH_lt hcb
  have hF := fun (y : World) (hy : w.grownBy y (some cb)) => c_SFind (tree_gb hN h hcf hy).1 (tree_gb hN h hcf hy).2 s ks hs (pk k) (pk_ok hk)
  rw [pk_pk] at hF
  have hP := fun (y : World) => c_Splain k hk.1 y
  obtain ⟨kb, hkb⟩ : ∃ kb, kb = w.heap.size := ⟨_, rfl⟩
  rw [← hkb] at d1
  have hne : kb ≠ cb := by omega
  have hkw : w.heap.size ≤ kb := by omega
  have d1c := (hb1.block cb hlcb).trans hcb
  obtain ⟨c0, -⟩ := cells10 d1c
  have hR1 := c_Creal1 c0
  have k1 : W1.cell? ⟨kb, 0, none⟩ = some (.string k.1) := by rw [cell_of_row _ _ 0 _ _ _ d1]; rfl
  have k2 : W1.cell? ⟨kb, 1, none⟩ = some (.int .i64 k.2) := by rw [cell_of_row _ _ 1 _ _ _ d1]; rfl
  have hpn := ptr_neN
  unfold keyV at hF hP ⊢
  generalize pk k = K at *
  replace hF := Lib.hid hF
  replace hP := Lib.hid hP
  replace hR1 := Lib.hid hR1
  replace hinv := Lib.hid hinv
  replace hs := Lib.hid hs
  clear hN h hk c0
  go_enter Tryz.func110, Tryz.ntmps110
  go_upto_region 3 with (first | (go_at_call 114; refine hR1.out.mono ?_; rintro e w1 ⟨rfl, rfl⟩))
  obtain ⟨W1, rfl⟩ : ∃ W1, W1 = w1 := ⟨_, rfl⟩
  rw [← hkb]
  clear hkb hW1
  have lkb1 := heapH_lt d1
  have kf0 : W1.frozen? ⟨kb, 0, none⟩ = false := by simp [World.frozen?, d1]
  go_upto_region 4 with (first | (go_at_call 115; refine (hP.out _).mono ?_; rintro e y2 ⟨rfl, hb2⟩; clear k1 k2 kf0; have d2 := (hb2.block kb lkb1).trans d1; have k1 : y2.cell? ⟨kb, 0, none⟩ = some (.string k.1) := (by rw [cell_of_row _ _ 0 _ _ _ d2]; rfl); have k2 : y2.cell? ⟨kb, 1, none⟩ = some (.int .i64 k.2) := (by rw [cell_of_row _ _ 1 _ _ _ d2]; rfl); have kf0 : y2.frozen? ⟨kb, 0, none⟩ = false := (by simp [World.frozen?, d2]); have kf1 : y2.frozen? ⟨kb, 1, none⟩ = false := (by simp [World.frozen?, d2]); have lkb2 := heapH_lt d2))
  obtain ⟨W3, hW3⟩ : ∃ W3, (y2.setCell ⟨kb, 0, none⟩ (.string K.1)).setCell ⟨kb, 1, none⟩ (.int .i64 K.2) = W3 := ⟨_, rfl⟩
  rw [hW3]
  have d3 : W3.heap[kb]? = some (.cells #[.string K.1, .int .i64 K.2] 31 (0, 0)) := by
    rw [← hW3]
    have h1 := heap_setCell_same y2 kb 0 _ _ (.string K.1) d2
    exact heap_setCell_same _ kb 1 _ _ (.int .i64 K.2) h1
  have hb13 : Below w.heap.size w W3 := by rw [← hW3]; exact ((hb1.trans (hb2.mono hb1.size)).setCell (p := ⟨kb, 0, none⟩) hkw _).setCell (p := ⟨kb, 1, none⟩) hkw _
  have hcb3 := (hb13.block cb hlcb).trans hcb
  have hg3 : w.grownBy W3 (some cb) := gbk_below hb13
  clear hW3 k1 k2 kf0 kf1 lkb2 d2 d1 d1c hb1 hb2 hb13 lkb1 hR1 hP hpn hkw hcb
  have kc0 : W3.cell? ⟨kb, 0, none⟩ = some (.string K.1) := by rw [cell_of_row _ _ 0 _ _ _ d3]; rfl
  have kc1 : W3.cell? ⟨kb, 1, none⟩ = some (.int .i64 K.2) := by rw [cell_of_row _ _ 1 _ _ _ d3]; rfl
  have lkb3 := heapH_lt d3
  obtain ⟨e0, e1, e2, e3, e4, e5, e6, e7, e8, e9, fz, lcb3⟩ := cells10 hcb3
  have pq1 := ptr_eqT
  have pq2 := ptr_eqN
  cases o with
  | false =>
    simp only [Bool.false_eq_true, if_false] at e1
    go_quiet (fail)
    clear pq1 pq2
    obtain ⟨W4, hW4⟩ : ∃ W4, W3.drewN nq = W4 := ⟨_, rfl⟩
    rw [hW4]
    have hcb4 : W4.heap[cb]? = some (.cells (encC tb false s0 k0 a0 fl0 is0 h0 m0) 83 (0, 0)) := by rw [← hW4]; exact hcb3
    have d4 : W4.heap[kb]? = some (.cells #[.string K.1, .int .i64 K.2] 31 (0, 0)) := by rw [← hW4]; exact d3
    have hg4 : w.grownBy W4 (some cb) := by rw [← hW4]; exact ⟨hg3.os, hg3.tape, hg3.output, hg3.size, hg3.block⟩
    clear hW4 hcb3 d3 hg3 e0 e1 e2 e3 e4 e5 e6 e7 e8 e9 fz lcb3 kc0 kc1 lkb3
    obtain ⟨-, -, -, -, -, -, -, -, -, m9, fz, lcb⟩ := cells10 hcb4
    go_upto_region 10 with (first | (go_at_call 116; refine (c_AtAdd m9 (fz 9)).mono ?_; rintro e w5 ⟨m', ⟨v5, rfl⟩, hw5⟩; replace hw5 := Lib.hid hw5))
    obtain ⟨W5, rfl⟩ : ∃ W5, W5 = w5 := ⟨_, rfl⟩
    have hcb5 : W5.heap[cb]? = some (.cells (encC tb false s0 k0 a0 fl0 is0 h0 m') 83 (0, 0)) := by rw [hw5.out]; exact heap_setCell_same W4 cb 9 _ _ _ hcb4
    have d5 : W5.heap[kb]? = some (.cells #[.string K.1, .int .i64 K.2] 31 (0, 0)) := by rw [hw5.out]; exact (Below.heap_setCell _ _ _ _ hne).trans d4
    have hg5 : w.grownBy W5 (some cb) := by rw [hw5.out]; exact gbk_trans hg4 (gbk_set _ _ _ _)
    have kc0 : W5.cell? ⟨kb, 0, none⟩ = some (.string K.1) := by rw [cell_of_row _ _ 0 _ _ _ d5]; rfl
    have kc1 : W5.cell? ⟨kb, 1, none⟩ = some (.int .i64 K.2) := by rw [cell_of_row _ _ 1 _ _ _ d5]; rfl
    clear hw5 hcb4 d4 hg4 m9 fz lcb
    go_upto_region 11 with (first | (go_at_call 111; refine (hF.out _ hg5).mono ?_; rintro e y6 ⟨hb6, hr⟩; replace hr := own_form hr; obtain ⟨z, fl, bo, rfl, hr⟩ := hr))
    have hcb6 := (hb6.block cb (heapH_lt hcb5)).trans hcb5
    have d6 := (hb6.block kb (heapH_lt d5)).trans d5
    have hg6 := gbk_trans hg5 (gbk_below hb6)
    obtain ⟨e0, e1, e2, e3, e4, e5, e6, e7, e8, e9, fz, lcb⟩ := cells10 hcb6
    have f1 := fz 1
    have f2 := fz 2
    have f3 := fz 3
    have f4 := fz 4
    have f5 := fz 5
    have f6 := fz 6
    have f7 := fz 7
    have kk0 : y6.cell? ⟨kb, 0, none⟩ = some (.string K.1) := by rw [cell_of_row _ _ 0 _ _ _ d6]; rfl
    have kk1 : y6.cell? ⟨kb, 1, none⟩ = some (.int .i64 K.2) := by rw [cell_of_row _ _ 1 _ _ _ d6]; rfl
    have lkb := heapH_lt d6
    have hstS : y6.drew.cell? ⟨kb, 0, none⟩ = some (.string K.1) ∧ y6.drew.cell? ⟨kb, 1, none⟩ = some (.int .i64 K.2) := ⟨kk0, kk1⟩
    replace hcb6 := Lib.hid hcb6
    replace hg6 := Lib.hid hg6
    replace hr := Lib.hid hr
    clear hcb5 d5 hg5 hb6 kc0 kc1 fz d6 e0 e8 e9
    refine regionK 29 (fun y => y.cell? ⟨kb, 0, none⟩ = some (.string K.1) ∧ y.cell? ⟨kb, 1, none⟩ = some (.int .i64 K.2)) (by kernel_rfl) hstS (fun hHeld => ?_)
    simp only [List.size_toArray, List.length_cons, List.length_nil, Nat.reduceAdd, Array.replicate_succ]
    refine AnyK.take 0 (v := ?_) rfl (by kernel_rfl) (by kernel_rfl) (by kernel_rfl) (by kernel_rfl) (fun _ _ _ h => h) (by rfl) ?_ (by assumption) ?_
    rotate_left
    · intro y hSy; (try dsimp only at hSy); go_simp; (try with_reducible rfl)
    try simp only [Act.put, List.setIfInBounds_toArray, List.set_cons_zero, List.set_cons_succ]
    refine AnyK.take 1 (v := ?_) rfl (by kernel_rfl) (by kernel_rfl) (by kernel_rfl) (by kernel_rfl) (fun _ _ _ h => h) (by rfl) ?_ (by assumption) ?_
    rotate_left
    · intro y hSy; (try dsimp only at hSy); go_simp; (try with_reducible rfl)
    try simp only [Act.put, List.setIfInBounds_toArray, List.set_cons_zero, List.set_cons_succ]
    refine AnyK.take 2 (v := ?_) rfl (by kernel_rfl) (by kernel_rfl) (by kernel_rfl) (by kernel_rfl) (fun _ _ _ h => h) (by rfl) ?_ (by assumption) ?_
    rotate_left
    · intro y hSy; (try dsimp only at hSy); go_simp; (try with_reducible rfl)
    try simp only [Act.put, List.setIfInBounds_toArray, List.set_cons_zero, List.set_cons_succ]
    refine AnyK.take 3 (v := ?_) rfl (by kernel_rfl) (by kernel_rfl) (by kernel_rfl) (by kernel_rfl) (fun _ _ _ h => h) (by rfl) ?_ (by assumption) ?_
    rotate_left
    · intro y hSy; (try dsimp only at hSy); go_simp; (try with_reducible rfl)
    try simp only [Act.put, List.setIfInBounds_toArray, List.set_cons_zero, List.set_cons_succ]
    refine AnyK.take 4 (v := ?_) rfl (by kernel_rfl) (by kernel_rfl) (by kernel_rfl) (by kernel_rfl) (fun _ _ _ h => h) (by rfl) ?_ (by assumption) ?_
    rotate_left
    · intro y hSy; (try dsimp only at hSy); go_simp; (try with_reducible rfl)
    try simp only [Act.put, List.setIfInBounds_toArray, List.set_cons_zero, List.set_cons_succ]
    refine AnyK.take 5 (v := ?_) rfl (by kernel_rfl) (by kernel_rfl) (by kernel_rfl) (by kernel_rfl) (fun _ _ _ h => h) (by rfl) ?_ (by assumption) ?_
    rotate_left
    · intro y hSy; (try dsimp only at hSy); go_simp; (try with_reducible rfl)
    try simp only [Act.put, List.setIfInBounds_toArray, List.set_cons_zero, List.set_cons_succ]
    refine AnyK.take 6 (v := ?_) rfl (by kernel_rfl) (by kernel_rfl) (by kernel_rfl) (by kernel_rfl) (fun _ _ _ h => h) (by rfl) ?_ (by assumption) ?_
    rotate_left
    · intro y hSy; (try dsimp only at hSy); go_simp; (try with_reducible rfl)
    try simp only [Act.put, List.setIfInBounds_toArray, List.set_cons_zero, List.set_cons_succ]
    refine AnyK.take 7 (v := ?_) rfl (by kernel_rfl) (by kernel_rfl) (by kernel_rfl) (by kernel_rfl) (fun _ _ _ h => h) (by rfl) ?_ (by assumption) ?_
    rotate_left
    · intro y hSy; (try dsimp only at hSy); go_simp; (try with_reducible rfl)
    try simp only [Act.put, List.setIfInBounds_toArray, List.set_cons_zero, List.set_cons_succ]
    refine AnyK.take 8 (v := ?_) rfl (by kernel_rfl) (by kernel_rfl) (by kernel_rfl) (by kernel_rfl) (fun _ _ _ h => h) (by rfl) ?_ (by assumption) ?_
    rotate_left
    · intro y hSy; (try dsimp only at hSy); go_simp; (try with_reducible rfl)
    try simp only [Act.put, List.setIfInBounds_toArray, List.set_cons_zero, List.set_cons_succ]
    refine AnyK.take 9 (v := ?_) rfl (by kernel_rfl) (by kernel_rfl) (by kernel_rfl) (by kernel_rfl) (fun _ _ _ h => h) (by rfl) ?_ (by assumption) ?_
    rotate_left
    · intro y hSy; (try dsimp only at hSy); go_simp; (try with_reducible rfl)
    try simp only [Act.put, List.setIfInBounds_toArray, List.set_cons_zero, List.set_cons_succ]
    refine AnyK.take 10 (v := ?_) rfl (by kernel_rfl) (by kernel_rfl) (by kernel_rfl) (by kernel_rfl) (fun _ _ _ h => h) (by rfl) ?_ (by assumption) ?_
    rotate_left
    · intro y hSy; (try dsimp only at hSy); go_simp; (try with_reducible rfl)
    try simp only [Act.put, List.setIfInBounds_toArray, List.set_cons_zero, List.set_cons_succ]
    refine AnyK.take 11 (v := ?_) rfl (by kernel_rfl) (by kernel_rfl) (by kernel_rfl) (by kernel_rfl) (fun _ _ _ h => h) (by rfl) ?_ (by assumption) ?_
    rotate_left
    · intro y hSy; (try dsimp only at hSy); go_simp; (try with_reducible rfl)
    try simp only [Act.put, List.setIfInBounds_toArray, List.set_cons_zero, List.set_cons_succ]
    refine AnyK.one 12 rfl (by kernel_rfl) (fun K' hK => ?_)
    go_simp
    refine hK.out _ _ hHeld (fun hHeld12 => ?_)
    clear hK K'
    try simp only [Act.put, List.setIfInBounds_toArray, List.set_cons_zero, List.set_cons_succ]
    clear hHeld12
    refine AnyK.one 13 rfl (by kernel_rfl) (fun K' hK => ?_)
    go_simp
    refine hK.out _ _ hHeld (fun hHeld13 => ?_)
    clear hK K'
    try simp only [Act.put, List.setIfInBounds_toArray, List.set_cons_zero, List.set_cons_succ]
    clear hHeld13
    refine AnyK.one 14 rfl (by kernel_rfl) (fun K' hK => ?_)
    go_simp
    refine hK.out _ _ (kk_setD hHeld hne _ _) (fun hHeld14 => ?_)
    clear hK K'
    try simp only [Act.put, List.setIfInBounds_toArray, List.set_cons_zero, List.set_cons_succ]
    clear hHeld
    refine AnyK.one 15 rfl (by kernel_rfl) (fun K' hK => ?_)
    go_simp
    refine hK.out _ _ hHeld14 (fun hHeld15 => ?_)
    clear hK K'
    try simp only [Act.put, List.setIfInBounds_toArray, List.set_cons_zero, List.set_cons_succ]
    clear hHeld15
    refine AnyK.one 16 rfl (by kernel_rfl) (fun K' hK => ?_)
    go_simp
    refine hK.out _ _ hHeld14 (fun hHeld16 => ?_)
    clear hK K'
    try simp only [Act.put, List.setIfInBounds_toArray, List.set_cons_zero, List.set_cons_succ]
    clear hHeld16
    refine AnyK.one 17 rfl (by kernel_rfl) (fun K' hK => ?_)
    go_simp
    refine hK.out _ _ (kk_setD hHeld14 hne _ _) (fun hHeld17 => ?_)
    clear hK K'
    try simp only [Act.put, List.setIfInBounds_toArray, List.set_cons_zero, List.set_cons_succ]
    clear hHeld14
    refine AnyK.one 18 rfl (by kernel_rfl) (fun K' hK => ?_)
    go_simp
    refine hK.out _ _ hHeld17 (fun hHeld18 => ?_)
    clear hK K'
    try simp only [Act.put, List.setIfInBounds_toArray, List.set_cons_zero, List.set_cons_succ]
    clear hHeld18
    refine AnyK.one 19 rfl (by kernel_rfl) (fun K' hK => ?_)
    go_simp
    refine hK.out _ _ hHeld17 (fun hHeld19 => ?_)
    clear hK K'
    try simp only [Act.put, List.setIfInBounds_toArray, List.set_cons_zero, List.set_cons_succ]
    clear hHeld19
    refine AnyK.one 20 rfl (by kernel_rfl) (fun K' hK => ?_)
    go_simp
    refine hK.out _ _ (kk_setD (kk_setD hHeld17 hne _ _) hne _ _) (fun hHeld20 => ?_)
    clear hK K'
    try simp only [Act.put, List.setIfInBounds_toArray, List.set_cons_zero, List.set_cons_succ]
    clear hHeld17
    refine AnyK.one 21 rfl (by kernel_rfl) (fun K' hK => ?_)
    go_simp
    refine hK.out _ _ hHeld20 (fun hHeld21 => ?_)
    clear hK K'
    try simp only [Act.put, List.setIfInBounds_toArray, List.set_cons_zero, List.set_cons_succ]
    clear hHeld21
    refine AnyK.one 22 rfl (by kernel_rfl) (fun K' hK => ?_)
    go_simp
    refine hK.out _ _ hHeld20 (fun hHeld22 => ?_)
    clear hK K'
    try simp only [Act.put, List.setIfInBounds_toArray, List.set_cons_zero, List.set_cons_succ]
    clear hHeld22
    refine AnyK.one 23 rfl (by kernel_rfl) (fun K' hK => ?_)
    go_simp
    refine hK.out _ _ (kk_setD hHeld20 hne _ _) (fun hHeld23 => ?_)
    clear hK K'
    try simp only [Act.put, List.setIfInBounds_toArray, List.set_cons_zero, List.set_cons_succ]
    clear hHeld20
    refine AnyK.one 24 rfl (by kernel_rfl) (fun K' hK => ?_)
    go_simp
    refine hK.out _ _ hHeld23 (fun hHeld24 => ?_)
    clear hK K'
    try simp only [Act.put, List.setIfInBounds_toArray, List.set_cons_zero, List.set_cons_succ]
    clear hHeld24
    refine AnyK.one 25 rfl (by kernel_rfl) (fun K' hK => ?_)
    go_simp
    refine hK.out _ _ hHeld23 (fun hHeld25 => ?_)
    clear hK K'
    try simp only [Act.put, List.setIfInBounds_toArray, List.set_cons_zero, List.set_cons_succ]
    clear hHeld25
    refine AnyK.one 26 rfl (by kernel_rfl) (fun K' hK => ?_)
    go_simp
    refine hK.out _ _ (kk_setD hHeld23 hne _ _) (fun hHeld26 => ?_)
    clear hK K'
    try simp only [Act.put, List.setIfInBounds_toArray, List.set_cons_zero, List.set_cons_succ]
    clear hHeld23
    refine AnyK.one 27 rfl (by kernel_rfl) (fun K' hK => ?_)
    go_simp
    refine hK.out _ _ hHeld26 (fun hHeld27 => ?_)
    clear hK K'
    try simp only [Act.put, List.setIfInBounds_toArray, List.set_cons_zero, List.set_cons_succ]
    clear hHeld27
    refine AnyK.one 28 rfl (by kernel_rfl) (fun K' hK => ?_)
    go_simp
    refine hK.out _ _ hHeld26 (fun hHeld28 => ?_)
    clear hK K'
    try simp only [Act.put, List.setIfInBounds_toArray, List.set_cons_zero, List.set_cons_succ]
    clear hHeld28
    refine AnyK.last rfl (by kernel_rfl) (fun K' hK => ?_)
    go_simp
    refine hK.out _ _ ?_
    clear hK K'
    try simp only [Act.put, List.setIfInBounds_toArray, List.set_cons_zero, List.set_cons_succ]
    refine AnyK.done (by kernel_rfl) ?_ _
    obtain ⟨n7, hgE0⟩ := cache_set7 hcb6.out s K z fl bo
    have hgE := gbk_trans hg6.out hgE0
    replace n7 := Lib.hid n7
    replace hgE := Lib.hid hgE
    clear hgE0 e1 e2 e3 e4 e5 e6 e7 f1 f2 f3 f4 f5 f6 f7 kk0 kk1 lkb hstS
    go_wp2_with fail
    go_ret3
    refine ⟨⟨hgE.out, true, s, K, z, fl, bo, h0, m', n7.out, fun _ hbo => ?_⟩, ?_⟩
    · rcases hr.out with ⟨i, h1, h2, h3⟩ | ⟨h1, h2⟩
      · exact ⟨i, ks, h2, hs.out, h1⟩
      · rw [h2] at hbo; cases hbo
    · rcases hr.out with ⟨i, h1, h2, h3⟩ | ⟨h1, h2⟩
      · subst h2 h3
        exact .inl ⟨i, fl, h1, rfl⟩
      · subst h2
        exact .inr ⟨h1, z, fl, rfl⟩
  | true =>
    simp only [if_true] at e1
    by_cases hse : s0 = s
    · subst hse
      by_cases hke : k0 = K
      · obtain rfl : K = k0 := hke.symm
        have kq := fun (y : World) => key_eql y K.1 K.1 K.2 K.2
        rw [show decide (K.1 = K.1 ∧ K.2 = K.2) = true by simp] at kq
        go_quiet (fail)
        clear pq1 pq2 kq
        obtain ⟨W4, hW4⟩ : ∃ W4, W3.drewN nq = W4 := ⟨_, rfl⟩
        rw [hW4]
        have hcb4 : W4.heap[cb]? = some (.cells (encC tb true s0 K a0 fl0 is0 h0 m0) 83 (0, 0)) := by rw [← hW4]; exact hcb3
        have d4 : W4.heap[kb]? = some (.cells #[.string K.1, .int .i64 K.2] 31 (0, 0)) := by rw [← hW4]; exact d3
        have hg4 : w.grownBy W4 (some cb) := by rw [← hW4]; exact ⟨hg3.os, hg3.tape, hg3.output, hg3.size, hg3.block⟩
        clear hW4 hcb3 d3 hg3 e0 e1 e2 e3 e4 e5 e6 e7 e8 e9 fz lcb3 kc0 kc1 lkb3
        obtain ⟨-, -, -, -, -, -, -, -, m8, -, fz, lcb⟩ := cells10 hcb4
        go_upto_region 6 with (first | (go_at_call 116; refine (c_AtAdd m8 (fz 8)).mono ?_; rintro e w5 ⟨m', ⟨v5, rfl⟩, hw5⟩; replace hw5 := Lib.hid hw5))
        obtain ⟨W5, rfl⟩ : ∃ W5, W5 = w5 := ⟨_, rfl⟩
        have hcb5 : W5.heap[cb]? = some (.cells (encC tb true s0 K a0 fl0 is0 m' m0) 83 (0, 0)) := by rw [hw5.out]; exact heap_setCell_same W4 cb 8 _ _ _ hcb4
        have d5 : W5.heap[kb]? = some (.cells #[.string K.1, .int .i64 K.2] 31 (0, 0)) := by rw [hw5.out]; exact (Below.heap_setCell _ _ _ _ hne).trans d4
        have hg5 : w.grownBy W5 (some cb) := by rw [hw5.out]; exact gbk_trans hg4 (gbk_set _ _ _ _)
        have kc0 : W5.cell? ⟨kb, 0, none⟩ = some (.string K.1) := by rw [cell_of_row _ _ 0 _ _ _ d5]; rfl
        have kc1 : W5.cell? ⟨kb, 1, none⟩ = some (.int .i64 K.2) := by rw [cell_of_row _ _ 1 _ _ _ d5]; rfl
        clear hw5 hcb4 d4 hg4 m8 fz lcb
        obtain ⟨-, -, -, -, -, e5, e6, e7, -, -, -, lcb⟩ := cells10 hcb5
        cases is0 with
        | false =>
          go_wp2_with (first | (go_at_call 111; refine (hF.out _ hg5).mono ?_; rintro e y6 ⟨hb6, hr⟩; replace hr := own_form hr; obtain ⟨z, fl, bo, rfl, hr⟩ := hr))
          go_ret3
          refine ⟨⟨gbk_trans hg5 (gbk_below hb6), true, s0, K, a0, fl0, false, m', m0, (hb6.block cb (heapH_lt hcb5)).trans hcb5, fun _ h => (by cases h)⟩, ?_⟩
          rcases hr with ⟨i, h1, h2, h3⟩ | ⟨h1, h2⟩
          · subst h2 h3
            exact .inl ⟨i, fl, h1, rfl⟩
          · subst h2
            exact .inr ⟨h1, z, fl, rfl⟩
        | true =>
          obtain ⟨i, ks', hi1, hi2, hi3⟩ := hinv.out (by simp) (by simp)
          have hks : ks' = ks := Option.some.inj (hi2.symm.trans hs.out)
          subst hi1 hks
          replace hi2 := Lib.hid hi2
          replace hi3 := Lib.hid hi3
          replace hg5 := Lib.hid hg5
          replace hcb5 := Lib.hid hcb5
          clear kc0 kc1 d5
          go_wp2_with fail
          go_quiet (fail)
          go_wp2_with fail
          go_ret3
          refine ⟨⟨gbk_trans hg5.out (gbk_below ⟨rfl, rfl, rfl, Nat.le_refl _, fun _ _ => rfl⟩), true, s0, K, (i : Int), fl0, true, m', m0, hcb5.out, fun _ _ => ⟨i, ks', rfl, hi2.out, hi3.out⟩⟩, .inl ⟨i, fl0, hi3.out, rfl⟩⟩
      · have kq := fun (y : World) => key_eql y k0.1 K.1 k0.2 K.2
        rw [show decide (k0.1 = K.1 ∧ k0.2 = K.2) = false from decide_eq_false fun h => hke (Prod.ext h.1 h.2)] at kq
        go_quiet (fail)
        clear pq1 pq2 kq
        obtain ⟨W4, hW4⟩ : ∃ W4, W3.drewN nq = W4 := ⟨_, rfl⟩
        rw [hW4]
        have hcb4 : W4.heap[cb]? = some (.cells (encC tb true s0 k0 a0 fl0 is0 h0 m0) 83 (0, 0)) := by rw [← hW4]; exact hcb3
        have d4 : W4.heap[kb]? = some (.cells #[.string K.1, .int .i64 K.2] 31 (0, 0)) := by rw [← hW4]; exact d3
        have hg4 : w.grownBy W4 (some cb) := by rw [← hW4]; exact ⟨hg3.os, hg3.tape, hg3.output, hg3.size, hg3.block⟩
        clear hW4 hcb3 d3 hg3 e0 e1 e2 e3 e4 e5 e6 e7 e8 e9 fz lcb3 kc0 kc1 lkb3
        obtain ⟨-, -, -, -, -, -, -, -, -, m9, fz, lcb⟩ := cells10 hcb4
        go_upto_region 10 with (first | (go_at_call 116; refine (c_AtAdd m9 (fz 9)).mono ?_; rintro e w5 ⟨m', ⟨v5, rfl⟩, hw5⟩; replace hw5 := Lib.hid hw5))
        obtain ⟨W5, rfl⟩ : ∃ W5, W5 = w5 := ⟨_, rfl⟩
        have hcb5 : W5.heap[cb]? = some (.cells (encC tb true s0 k0 a0 fl0 is0 h0 m') 83 (0, 0)) := by rw [hw5.out]; exact heap_setCell_same W4 cb 9 _ _ _ hcb4
        have d5 : W5.heap[kb]? = some (.cells #[.string K.1, .int .i64 K.2] 31 (0, 0)) := by rw [hw5.out]; exact (Below.heap_setCell _ _ _ _ hne).trans d4
        have hg5 : w.grownBy W5 (some cb) := by rw [hw5.out]; exact gbk_trans hg4 (gbk_set _ _ _ _)
        have kc0 : W5.cell? ⟨kb, 0, none⟩ = some (.string K.1) := by rw [cell_of_row _ _ 0 _ _ _ d5]; rfl
        have kc1 : W5.cell? ⟨kb, 1, none⟩ = some (.int .i64 K.2) := by rw [cell_of_row _ _ 1 _ _ _ d5]; rfl
        clear hw5 hcb4 d4 hg4 m9 fz lcb
        go_upto_region 11 with (first | (go_at_call 111; refine (hF.out _ hg5).mono ?_; rintro e y6 ⟨hb6, hr⟩; replace hr := own_form hr; obtain ⟨z, fl, bo, rfl, hr⟩ := hr))
        have hcb6 := (hb6.block cb (heapH_lt hcb5)).trans hcb5
        have d6 := (hb6.block kb (heapH_lt d5)).trans d5
        have hg6 := gbk_trans hg5 (gbk_below hb6)
        obtain ⟨e0, e1, e2, e3, e4, e5, e6, e7, e8, e9, fz, lcb⟩ := cells10 hcb6
        have f1 := fz 1
        have f2 := fz 2
        have f3 := fz 3
        have f4 := fz 4
        have f5 := fz 5
        have f6 := fz 6
        have f7 := fz 7
        have kk0 : y6.cell? ⟨kb, 0, none⟩ = some (.string K.1) := by rw [cell_of_row _ _ 0 _ _ _ d6]; rfl
        have kk1 : y6.cell? ⟨kb, 1, none⟩ = some (.int .i64 K.2) := by rw [cell_of_row _ _ 1 _ _ _ d6]; rfl
        have lkb := heapH_lt d6
        have hstS : y6.drew.cell? ⟨kb, 0, none⟩ = some (.string K.1) ∧ y6.drew.cell? ⟨kb, 1, none⟩ = some (.int .i64 K.2) := ⟨kk0, kk1⟩
        replace hcb6 := Lib.hid hcb6
        replace hg6 := Lib.hid hg6
        replace hr := Lib.hid hr
        clear hcb5 d5 hg5 hb6 kc0 kc1 fz d6 e0 e8 e9
        refine regionK 29 (fun y => y.cell? ⟨kb, 0, none⟩ = some (.string K.1) ∧ y.cell? ⟨kb, 1, none⟩ = some (.int .i64 K.2)) (by kernel_rfl) hstS (fun hHeld => ?_)
        simp only [List.size_toArray, List.length_cons, List.length_nil, Nat.reduceAdd, Array.replicate_succ]
        refine AnyK.take 0 (v := ?_) rfl (by kernel_rfl) (by kernel_rfl) (by kernel_rfl) (by kernel_rfl) (fun _ _ _ h => h) (by rfl) ?_ (by assumption) ?_
        rotate_left
        · intro y hSy; (try dsimp only at hSy); go_simp; (try with_reducible rfl)
        try simp only [Act.put, List.setIfInBounds_toArray, List.set_cons_zero, List.set_cons_succ]
        refine AnyK.take 1 (v := ?_) rfl (by kernel_rfl) (by kernel_rfl) (by kernel_rfl) (by kernel_rfl) (fun _ _ _ h => h) (by rfl) ?_ (by assumption) ?_
        rotate_left
        · intro y hSy; (try dsimp only at hSy); go_simp; (try with_reducible rfl)
        try simp only [Act.put, List.setIfInBounds_toArray, List.set_cons_zero, List.set_cons_succ]
        refine AnyK.take 2 (v := ?_) rfl (by kernel_rfl) (by kernel_rfl) (by kernel_rfl) (by kernel_rfl) (fun _ _ _ h => h) (by rfl) ?_ (by assumption) ?_
        rotate_left
        · intro y hSy; (try dsimp only at hSy); go_simp; (try with_reducible rfl)
        try simp only [Act.put, List.setIfInBounds_toArray, List.set_cons_zero, List.set_cons_succ]
        refine AnyK.take 3 (v := ?_) rfl (by kernel_rfl) (by kernel_rfl) (by kernel_rfl) (by kernel_rfl) (fun _ _ _ h => h) (by rfl) ?_ (by assumption) ?_
        rotate_left
        · intro y hSy; (try dsimp only at hSy); go_simp; (try with_reducible rfl)
        try simp only [Act.put, List.setIfInBounds_toArray, List.set_cons_zero, List.set_cons_succ]
        refine AnyK.take 4 (v := ?_) rfl (by kernel_rfl) (by kernel_rfl) (by kernel_rfl) (by kernel_rfl) (fun _ _ _ h => h) (by rfl) ?_ (by assumption) ?_
        rotate_left
        · intro y hSy; (try dsimp only at hSy); go_simp; (try with_reducible rfl)
        try simp only [Act.put, List.setIfInBounds_toArray, List.set_cons_zero, List.set_cons_succ]
        refine AnyK.take 5 (v := ?_) rfl (by kernel_rfl) (by kernel_rfl) (by kernel_rfl) (by kernel_rfl) (fun _ _ _ h => h) (by rfl) ?_ (by assumption) ?_
        rotate_left
        · intro y hSy; (try dsimp only at hSy); go_simp; (try with_reducible rfl)
        try simp only [Act.put, List.setIfInBounds_toArray, List.set_cons_zero, List.set_cons_succ]
        refine AnyK.take 6 (v := ?_) rfl (by kernel_rfl) (by kernel_rfl) (by kernel_rfl) (by kernel_rfl) (fun _ _ _ h => h) (by rfl) ?_ (by assumption) ?_
        rotate_left
        · intro y hSy; (try dsimp only at hSy); go_simp; (try with_reducible rfl)
        try simp only [Act.put, List.setIfInBounds_toArray, List.set_cons_zero, List.set_cons_succ]
        refine AnyK.take 7 (v := ?_) rfl (by kernel_rfl) (by kernel_rfl) (by kernel_rfl) (by kernel_rfl) (fun _ _ _ h => h) (by rfl) ?_ (by assumption) ?_
        rotate_left
        · intro y hSy; (try dsimp only at hSy); go_simp; (try with_reducible rfl)
        try simp only [Act.put, List.setIfInBounds_toArray, List.set_cons_zero, List.set_cons_succ]
        refine AnyK.take 8 (v := ?_) rfl (by kernel_rfl) (by kernel_rfl) (by kernel_rfl) (by kernel_rfl) (fun _ _ _ h => h) (by rfl) ?_ (by assumption) ?_
        rotate_left
        · intro y hSy; (try dsimp only at hSy); go_simp; (try with_reducible rfl)
        try simp only [Act.put, List.setIfInBounds_toArray, List.set_cons_zero, List.set_cons_succ]
        refine AnyK.take 9 (v := ?_) rfl (by kernel_rfl) (by kernel_rfl) (by kernel_rfl) (by kernel_rfl) (fun _ _ _ h => h) (by rfl) ?_ (by assumption) ?_
        rotate_left
        · intro y hSy; (try dsimp only at hSy); go_simp; (try with_reducible rfl)
        try simp only [Act.put, List.setIfInBounds_toArray, List.set_cons_zero, List.set_cons_succ]
        refine AnyK.take 10 (v := ?_) rfl (by kernel_rfl) (by kernel_rfl) (by kernel_rfl) (by kernel_rfl) (fun _ _ _ h => h) (by rfl) ?_ (by assumption) ?_
        rotate_left
        · intro y hSy; (try dsimp only at hSy); go_simp; (try with_reducible rfl)
        try simp only [Act.put, List.setIfInBounds_toArray, List.set_cons_zero, List.set_cons_succ]
        refine AnyK.take 11 (v := ?_) rfl (by kernel_rfl) (by kernel_rfl) (by kernel_rfl) (by kernel_rfl) (fun _ _ _ h => h) (by rfl) ?_ (by assumption) ?_
        rotate_left
        · intro y hSy; (try dsimp only at hSy); go_simp; (try with_reducible rfl)
        try simp only [Act.put, List.setIfInBounds_toArray, List.set_cons_zero, List.set_cons_succ]
        refine AnyK.one 12 rfl (by kernel_rfl) (fun K' hK => ?_)
        go_simp
        refine hK.out _ _ hHeld (fun hHeld12 => ?_)
        clear hK K'
        try simp only [Act.put, List.setIfInBounds_toArray, List.set_cons_zero, List.set_cons_succ]
        clear hHeld12
        refine AnyK.one 13 rfl (by kernel_rfl) (fun K' hK => ?_)
        go_simp
        refine hK.out _ _ hHeld (fun hHeld13 => ?_)
        clear hK K'
        try simp only [Act.put, List.setIfInBounds_toArray, List.set_cons_zero, List.set_cons_succ]
        clear hHeld13
        refine AnyK.one 14 rfl (by kernel_rfl) (fun K' hK => ?_)
        go_simp
        refine hK.out _ _ (kk_setD hHeld hne _ _) (fun hHeld14 => ?_)
        clear hK K'
        try simp only [Act.put, List.setIfInBounds_toArray, List.set_cons_zero, List.set_cons_succ]
        clear hHeld
        refine AnyK.one 15 rfl (by kernel_rfl) (fun K' hK => ?_)
        go_simp
        refine hK.out _ _ hHeld14 (fun hHeld15 => ?_)
        clear hK K'
        try simp only [Act.put, List.setIfInBounds_toArray, List.set_cons_zero, List.set_cons_succ]
        clear hHeld15
        refine AnyK.one 16 rfl (by kernel_rfl) (fun K' hK => ?_)
        go_simp
        refine hK.out _ _ hHeld14 (fun hHeld16 => ?_)
        clear hK K'
        try simp only [Act.put, List.setIfInBounds_toArray, List.set_cons_zero, List.set_cons_succ]
        clear hHeld16
        refine AnyK.one 17 rfl (by kernel_rfl) (fun K' hK => ?_)
        go_simp
        refine hK.out _ _ (kk_setD hHeld14 hne _ _) (fun hHeld17 => ?_)
        clear hK K'
        try simp only [Act.put, List.setIfInBounds_toArray, List.set_cons_zero, List.set_cons_succ]
        clear hHeld14
        refine AnyK.one 18 rfl (by kernel_rfl) (fun K' hK => ?_)
        go_simp
        refine hK.out _ _ hHeld17 (fun hHeld18 => ?_)
        clear hK K'
        try simp only [Act.put, List.setIfInBounds_toArray, List.set_cons_zero, List.set_cons_succ]
        clear hHeld18
        refine AnyK.one 19 rfl (by kernel_rfl) (fun K' hK => ?_)
        go_simp
        refine hK.out _ _ hHeld17 (fun hHeld19 => ?_)
        clear hK K'
        try simp only [Act.put, List.setIfInBounds_toArray, List.set_cons_zero, List.set_cons_succ]
        clear hHeld19
        refine AnyK.one 20 rfl (by kernel_rfl) (fun K' hK => ?_)
        go_simp
        refine hK.out _ _ (kk_setD (kk_setD hHeld17 hne _ _) hne _ _) (fun hHeld20 => ?_)
        clear hK K'
        try simp only [Act.put, List.setIfInBounds_toArray, List.set_cons_zero, List.set_cons_succ]
        clear hHeld17
        refine AnyK.one 21 rfl (by kernel_rfl) (fun K' hK => ?_)
        go_simp
        refine hK.out _ _ hHeld20 (fun hHeld21 => ?_)
        clear hK K'
        try simp only [Act.put, List.setIfInBounds_toArray, List.set_cons_zero, List.set_cons_succ]
        clear hHeld21
        refine AnyK.one 22 rfl (by kernel_rfl) (fun K' hK => ?_)
        go_simp
        refine hK.out _ _ hHeld20 (fun hHeld22 => ?_)
        clear hK K'
        try simp only [Act.put, List.setIfInBounds_toArray, List.set_cons_zero, List.set_cons_succ]
        clear hHeld22
        refine AnyK.one 23 rfl (by kernel_rfl) (fun K' hK => ?_)
        go_simp
        refine hK.out _ _ (kk_setD hHeld20 hne _ _) (fun hHeld23 => ?_)
        clear hK K'
        try simp only [Act.put, List.setIfInBounds_toArray, List.set_cons_zero, List.set_cons_succ]
        clear hHeld20
        refine AnyK.one 24 rfl (by kernel_rfl) (fun K' hK => ?_)
        go_simp
        refine hK.out _ _ hHeld23 (fun hHeld24 => ?_)
        clear hK K'
        try simp only [Act.put, List.setIfInBounds_toArray, List.set_cons_zero, List.set_cons_succ]
        clear hHeld24
        refine AnyK.one 25 rfl (by kernel_rfl) (fun K' hK => ?_)
        go_simp
        refine hK.out _ _ hHeld23 (fun hHeld25 => ?_)
        clear hK K'
        try simp only [Act.put, List.setIfInBounds_toArray, List.set_cons_zero, List.set_cons_succ]
        clear hHeld25
        refine AnyK.one 26 rfl (by kernel_rfl) (fun K' hK => ?_)
        go_simp
        refine hK.out _ _ (kk_setD hHeld23 hne _ _) (fun hHeld26 => ?_)
        clear hK K'
        try simp only [Act.put, List.setIfInBounds_toArray, List.set_cons_zero, List.set_cons_succ]
        clear hHeld23
        refine AnyK.one 27 rfl (by kernel_rfl) (fun K' hK => ?_)
        go_simp
        refine hK.out _ _ hHeld26 (fun hHeld27 => ?_)
        clear hK K'
        try simp only [Act.put, List.setIfInBounds_toArray, List.set_cons_zero, List.set_cons_succ]
        clear hHeld27
        refine AnyK.one 28 rfl (by kernel_rfl) (fun K' hK => ?_)
        go_simp
        refine hK.out _ _ hHeld26 (fun hHeld28 => ?_)
        clear hK K'
        try simp only [Act.put, List.setIfInBounds_toArray, List.set_cons_zero, List.set_cons_succ]
        clear hHeld28
        refine AnyK.last rfl (by kernel_rfl) (fun K' hK => ?_)
        go_simp
        refine hK.out _ _ ?_
        clear hK K'
        try simp only [Act.put, List.setIfInBounds_toArray, List.set_cons_zero, List.set_cons_succ]
        refine AnyK.done (by kernel_rfl) ?_ _
        obtain ⟨n7, hgE0⟩ := cache_set7 hcb6.out s0 K z fl bo
        have hgE := gbk_trans hg6.out hgE0
        replace n7 := Lib.hid n7
        replace hgE := Lib.hid hgE
        clear hgE0 e1 e2 e3 e4 e5 e6 e7 f1 f2 f3 f4 f5 f6 f7 kk0 kk1 lkb hstS
        go_wp2_with fail
        go_ret3
        refine ⟨⟨hgE.out, true, s0, K, z, fl, bo, h0, m', n7.out, fun _ hbo => ?_⟩, ?_⟩
        · rcases hr.out with ⟨i, h1, h2, h3⟩ | ⟨h1, h2⟩
          · exact ⟨i, ks, h2, hs.out, h1⟩
          · rw [h2] at hbo; cases hbo
        · rcases hr.out with ⟨i, h1, h2, h3⟩ | ⟨h1, h2⟩
          · subst h2 h3
            exact .inl ⟨i, fl, h1, rfl⟩
          · subst h2
            exact .inr ⟨h1, z, fl, rfl⟩
    · have sq : ((s0 : Int) == (s : Int)) = false := by simp; omega
      go_quiet (fail)
      clear pq1 pq2 sq
      obtain ⟨W4, hW4⟩ : ∃ W4, W3.drewN nq = W4 := ⟨_, rfl⟩
      rw [hW4]
      have hcb4 : W4.heap[cb]? = some (.cells (encC tb true s0 k0 a0 fl0 is0 h0 m0) 83 (0, 0)) := by rw [← hW4]; exact hcb3
      have d4 : W4.heap[kb]? = some (.cells #[.string K.1, .int .i64 K.2] 31 (0, 0)) := by rw [← hW4]; exact d3
      have hg4 : w.grownBy W4 (some cb) := by rw [← hW4]; exact ⟨hg3.os, hg3.tape, hg3.output, hg3.size, hg3.block⟩
      clear hW4 hcb3 d3 hg3 e0 e1 e2 e3 e4 e5 e6 e7 e8 e9 fz lcb3 kc0 kc1 lkb3
      obtain ⟨-, -, -, -, -, -, -, -, -, m9, fz, lcb⟩ := cells10 hcb4
      go_upto_region 10 with (first | (go_at_call 116; refine (c_AtAdd m9 (fz 9)).mono ?_; rintro e w5 ⟨m', ⟨v5, rfl⟩, hw5⟩; replace hw5 := Lib.hid hw5))
      obtain ⟨W5, rfl⟩ : ∃ W5, W5 = w5 := ⟨_, rfl⟩
      have hcb5 : W5.heap[cb]? = some (.cells (encC tb true s0 k0 a0 fl0 is0 h0 m') 83 (0, 0)) := by rw [hw5.out]; exact heap_setCell_same W4 cb 9 _ _ _ hcb4
      have d5 : W5.heap[kb]? = some (.cells #[.string K.1, .int .i64 K.2] 31 (0, 0)) := by rw [hw5.out]; exact (Below.heap_setCell _ _ _ _ hne).trans d4
      have hg5 : w.grownBy W5 (some cb) := by rw [hw5.out]; exact gbk_trans hg4 (gbk_set _ _ _ _)
      have kc0 : W5.cell? ⟨kb, 0, none⟩ = some (.string K.1) := by rw [cell_of_row _ _ 0 _ _ _ d5]; rfl
      have kc1 : W5.cell? ⟨kb, 1, none⟩ = some (.int .i64 K.2) := by rw [cell_of_row _ _ 1 _ _ _ d5]; rfl
      clear hw5 hcb4 d4 hg4 m9 fz lcb
      go_upto_region 11 with (first | (go_at_call 111; refine (hF.out _ hg5).mono ?_; rintro e y6 ⟨hb6, hr⟩; replace hr := own_form hr; obtain ⟨z, fl, bo, rfl, hr⟩ := hr))
      have hcb6 := (hb6.block cb (heapH_lt hcb5)).trans hcb5
      have d6 := (hb6.block kb (heapH_lt d5)).trans d5
      have hg6 := gbk_trans hg5 (gbk_below hb6)
      obtain ⟨e0, e1, e2, e3, e4, e5, e6, e7, e8, e9, fz, lcb⟩ := cells10 hcb6
      have f1 := fz 1
      have f2 := fz 2
      have f3 := fz 3
      have f4 := fz 4
      have f5 := fz 5
      have f6 := fz 6
      have f7 := fz 7
      have kk0 : y6.cell? ⟨kb, 0, none⟩ = some (.string K.1) := by rw [cell_of_row _ _ 0 _ _ _ d6]; rfl
      have kk1 : y6.cell? ⟨kb, 1, none⟩ = some (.int .i64 K.2) := by rw [cell_of_row _ _ 1 _ _ _ d6]; rfl
      have lkb := heapH_lt d6
      have hstS : y6.drew.cell? ⟨kb, 0, none⟩ = some (.string K.1) ∧ y6.drew.cell? ⟨kb, 1, none⟩ = some (.int .i64 K.2) := ⟨kk0, kk1⟩
      replace hcb6 := Lib.hid hcb6
      replace hg6 := Lib.hid hg6
      replace hr := Lib.hid hr
      clear hcb5 d5 hg5 hb6 kc0 kc1 fz d6 e0 e8 e9
      refine regionK 29 (fun y => y.cell? ⟨kb, 0, none⟩ = some (.string K.1) ∧ y.cell? ⟨kb, 1, none⟩ = some (.int .i64 K.2)) (by kernel_rfl) hstS (fun hHeld => ?_)
      simp only [List.size_toArray, List.length_cons, List.length_nil, Nat.reduceAdd, Array.replicate_succ]
      refine AnyK.take 0 (v := ?_) rfl (by kernel_rfl) (by kernel_rfl) (by kernel_rfl) (by kernel_rfl) (fun _ _ _ h => h) (by rfl) ?_ (by assumption) ?_
      rotate_left
      · intro y hSy; (try dsimp only at hSy); go_simp; (try with_reducible rfl)
      try simp only [Act.put, List.setIfInBounds_toArray, List.set_cons_zero, List.set_cons_succ]
      refine AnyK.take 1 (v := ?_) rfl (by kernel_rfl) (by kernel_rfl) (by kernel_rfl) (by kernel_rfl) (fun _ _ _ h => h) (by rfl) ?_ (by assumption) ?_
      rotate_left
      · intro y hSy; (try dsimp only at hSy); go_simp; (try with_reducible rfl)
      try simp only [Act.put, List.setIfInBounds_toArray, List.set_cons_zero, List.set_cons_succ]
      refine AnyK.take 2 (v := ?_) rfl (by kernel_rfl) (by kernel_rfl) (by kernel_rfl) (by kernel_rfl) (fun _ _ _ h => h) (by rfl) ?_ (by assumption) ?_
      rotate_left
      · intro y hSy; (try dsimp only at hSy); go_simp; (try with_reducible rfl)
      try simp only [Act.put, List.setIfInBounds_toArray, List.set_cons_zero, List.set_cons_succ]
      refine AnyK.take 3 (v := ?_) rfl (by kernel_rfl) (by kernel_rfl) (by kernel_rfl) (by kernel_rfl) (fun _ _ _ h => h) (by rfl) ?_ (by assumption) ?_
      rotate_left
      · intro y hSy; (try dsimp only at hSy); go_simp; (try with_reducible rfl)
      try simp only [Act.put, List.setIfInBounds_toArray, List.set_cons_zero, List.set_cons_succ]
      refine AnyK.take 4 (v := ?_) rfl (by kernel_rfl) (by kernel_rfl) (by kernel_rfl) (by kernel_rfl) (fun _ _ _ h => h) (by rfl) ?_ (by assumption) ?_
      rotate_left
      · intro y hSy; (try dsimp only at hSy); go_simp; (try with_reducible rfl)
      try simp only [Act.put, List.setIfInBounds_toArray, List.set_cons_zero, List.set_cons_succ]
      refine AnyK.take 5 (v := ?_) rfl (by kernel_rfl) (by kernel_rfl) (by kernel_rfl) (by kernel_rfl) (fun _ _ _ h => h) (by rfl) ?_ (by assumption) ?_
      rotate_left
      · intro y hSy; (try dsimp only at hSy); go_simp; (try with_reducible rfl)
      try simp only [Act.put, List.setIfInBounds_toArray, List.set_cons_zero, List.set_cons_succ]
      refine AnyK.take 6 (v := ?_) rfl (by kernel_rfl) (by kernel_rfl) (by kernel_rfl) (by kernel_rfl) (fun _ _ _ h => h) (by rfl) ?_ (by assumption) ?_
      rotate_left
      · intro y hSy; (try dsimp only at hSy); go_simp; (try with_reducible rfl)
      try simp only [Act.put, List.setIfInBounds_toArray, List.set_cons_zero, List.set_cons_succ]
      refine AnyK.take 7 (v := ?_) rfl (by kernel_rfl) (by kernel_rfl) (by kernel_rfl) (by kernel_rfl) (fun _ _ _ h => h) (by rfl) ?_ (by assumption) ?_
      rotate_left
      · intro y hSy; (try dsimp only at hSy); go_simp; (try with_reducible rfl)
      try simp only [Act.put, List.setIfInBounds_toArray, List.set_cons_zero, List.set_cons_succ]
      refine AnyK.take 8 (v := ?_) rfl (by kernel_rfl) (by kernel_rfl) (by kernel_rfl) (by kernel_rfl) (fun _ _ _ h => h) (by rfl) ?_ (by assumption) ?_
      rotate_left
      · intro y hSy; (try dsimp only at hSy); go_simp; (try with_reducible rfl)
      try simp only [Act.put, List.setIfInBounds_toArray, List.set_cons_zero, List.set_cons_succ]
      refine AnyK.take 9 (v := ?_) rfl (by kernel_rfl) (by kernel_rfl) (by kernel_rfl) (by kernel_rfl) (fun _ _ _ h => h) (by rfl) ?_ (by assumption) ?_
      rotate_left
      · intro y hSy; (try dsimp only at hSy); go_simp; (try with_reducible rfl)
      try simp only [Act.put, List.setIfInBounds_toArray, List.set_cons_zero, List.set_cons_succ]
      refine AnyK.take 10 (v := ?_) rfl (by kernel_rfl) (by kernel_rfl) (by kernel_rfl) (by kernel_rfl) (fun _ _ _ h => h) (by rfl) ?_ (by assumption) ?_
      rotate_left
      · intro y hSy; (try dsimp only at hSy); go_simp; (try with_reducible rfl)
      try simp only [Act.put, List.setIfInBounds_toArray, List.set_cons_zero, List.set_cons_succ]
      refine AnyK.take 11 (v := ?_) rfl (by kernel_rfl) (by kernel_rfl) (by kernel_rfl) (by kernel_rfl) (fun _ _ _ h => h) (by rfl) ?_ (by assumption) ?_
      rotate_left
      · intro y hSy; (try dsimp only at hSy); go_simp; (try with_reducible rfl)
      try simp only [Act.put, List.setIfInBounds_toArray, List.set_cons_zero, List.set_cons_succ]
      refine AnyK.one 12 rfl (by kernel_rfl) (fun K' hK => ?_)
      go_simp
      refine hK.out _ _ hHeld (fun hHeld12 => ?_)
      clear hK K'
      try simp only [Act.put, List.setIfInBounds_toArray, List.set_cons_zero, List.set_cons_succ]
      clear hHeld12
      refine AnyK.one 13 rfl (by kernel_rfl) (fun K' hK => ?_)
      go_simp
      refine hK.out _ _ hHeld (fun hHeld13 => ?_)
      clear hK K'
      try simp only [Act.put, List.setIfInBounds_toArray, List.set_cons_zero, List.set_cons_succ]
      clear hHeld13
      refine AnyK.one 14 rfl (by kernel_rfl) (fun K' hK => ?_)
      go_simp
      refine hK.out _ _ (kk_setD hHeld hne _ _) (fun hHeld14 => ?_)
      clear hK K'
      try simp only [Act.put, List.setIfInBounds_toArray, List.set_cons_zero, List.set_cons_succ]
      clear hHeld
      refine AnyK.one 15 rfl (by kernel_rfl) (fun K' hK => ?_)
      go_simp
      refine hK.out _ _ hHeld14 (fun hHeld15 => ?_)
      clear hK K'
      try simp only [Act.put, List.setIfInBounds_toArray, List.set_cons_zero, List.set_cons_succ]
      clear hHeld15
      refine AnyK.one 16 rfl (by kernel_rfl) (fun K' hK => ?_)
      go_simp
      refine hK.out _ _ hHeld14 (fun hHeld16 => ?_)
      clear hK K'
      try simp only [Act.put, List.setIfInBounds_toArray, List.set_cons_zero, List.set_cons_succ]
      clear hHeld16
      refine AnyK.one 17 rfl (by kernel_rfl) (fun K' hK => ?_)
      go_simp
      refine hK.out _ _ (kk_setD hHeld14 hne _ _) (fun hHeld17 => ?_)
      clear hK K'
      try simp only [Act.put, List.setIfInBounds_toArray, List.set_cons_zero, List.set_cons_succ]
      clear hHeld14
      refine AnyK.one 18 rfl (by kernel_rfl) (fun K' hK => ?_)
      go_simp
      refine hK.out _ _ hHeld17 (fun hHeld18 => ?_)
      clear hK K'
      try simp only [Act.put, List.setIfInBounds_toArray, List.set_cons_zero, List.set_cons_succ]
      clear hHeld18
      refine AnyK.one 19 rfl (by kernel_rfl) (fun K' hK => ?_)
      go_simp
      refine hK.out _ _ hHeld17 (fun hHeld19 => ?_)
      clear hK K'
      try simp only [Act.put, List.setIfInBounds_toArray, List.set_cons_zero, List.set_cons_succ]
      clear hHeld19
      refine AnyK.one 20 rfl (by kernel_rfl) (fun K' hK => ?_)
      go_simp
      refine hK.out _ _ (kk_setD (kk_setD hHeld17 hne _ _) hne _ _) (fun hHeld20 => ?_)
      clear hK K'
      try simp only [Act.put, List.setIfInBounds_toArray, List.set_cons_zero, List.set_cons_succ]
      clear hHeld17
      refine AnyK.one 21 rfl (by kernel_rfl) (fun K' hK => ?_)
      go_simp
      refine hK.out _ _ hHeld20 (fun hHeld21 => ?_)
      clear hK K'
      try simp only [Act.put, List.setIfInBounds_toArray, List.set_cons_zero, List.set_cons_succ]
      clear hHeld21
      refine AnyK.one 22 rfl (by kernel_rfl) (fun K' hK => ?_)
      go_simp
      refine hK.out _ _ hHeld20 (fun hHeld22 => ?_)
      clear hK K'
      try simp only [Act.put, List.setIfInBounds_toArray, List.set_cons_zero, List.set_cons_succ]
      clear hHeld22
      refine AnyK.one 23 rfl (by kernel_rfl) (fun K' hK => ?_)
      go_simp
      refine hK.out _ _ (kk_setD hHeld20 hne _ _) (fun hHeld23 => ?_)
      clear hK K'
      try simp only [Act.put, List.setIfInBounds_toArray, List.set_cons_zero, List.set_cons_succ]
      clear hHeld20
      refine AnyK.one 24 rfl (by kernel_rfl) (fun K' hK => ?_)
      go_simp
      refine hK.out _ _ hHeld23 (fun hHeld24 => ?_)
      clear hK K'
      try simp only [Act.put, List.setIfInBounds_toArray, List.set_cons_zero, List.set_cons_succ]
      clear hHeld24
      refine AnyK.one 25 rfl (by kernel_rfl) (fun K' hK => ?_)
      go_simp
      refine hK.out _ _ hHeld23 (fun hHeld25 => ?_)
      clear hK K'
      try simp only [Act.put, List.setIfInBounds_toArray, List.set_cons_zero, List.set_cons_succ]
      clear hHeld25
      refine AnyK.one 26 rfl (by kernel_rfl) (fun K' hK => ?_)
      go_simp
      refine hK.out _ _ (kk_setD hHeld23 hne _ _) (fun hHeld26 => ?_)
      clear hK K'
      try simp only [Act.put, List.setIfInBounds_toArray, List.set_cons_zero, List.set_cons_succ]
      clear hHeld23
      refine AnyK.one 27 rfl (by kernel_rfl) (fun K' hK => ?_)
      go_simp
      refine hK.out _ _ hHeld26 (fun hHeld27 => ?_)
      clear hK K'
      try simp only [Act.put, List.setIfInBounds_toArray, List.set_cons_zero, List.set_cons_succ]
      clear hHeld27
      refine AnyK.one 28 rfl (by kernel_rfl) (fun K' hK => ?_)
      go_simp
      refine hK.out _ _ hHeld26 (fun hHeld28 => ?_)
      clear hK K'
      try simp only [Act.put, List.setIfInBounds_toArray, List.set_cons_zero, List.set_cons_succ]
      clear hHeld28
      refine AnyK.last rfl (by kernel_rfl) (fun K' hK => ?_)
      go_simp
      refine hK.out _ _ ?_
      clear hK K'
      try simp only [Act.put, List.setIfInBounds_toArray, List.set_cons_zero, List.set_cons_succ]
      refine AnyK.done (by kernel_rfl) ?_ _
      obtain ⟨n7, hgE0⟩ := cache_set7 hcb6.out s K z fl bo
      have hgE := gbk_trans hg6.out hgE0
      replace n7 := Lib.hid n7
      replace hgE := Lib.hid hgE
      clear hgE0 e1 e2 e3 e4 e5 e6 e7 f1 f2 f3 f4 f5 f6 f7 kk0 kk1 lkb hstS
      go_wp2_with fail
      go_ret3
      refine ⟨⟨hgE.out, true, s, K, z, fl, bo, h0, m', n7.out, fun _ hbo => ?_⟩, ?_⟩
      · rcases hr.out with ⟨i, h1, h2, h3⟩ | ⟨h1, h2⟩
        · exact ⟨i, ks, h2, hs.out, h1⟩
        · rw [h2] at hbo; cases hbo
      · rcases hr.out with ⟨i, h1, h2, h3⟩ | ⟨h1, h2⟩
        · subst h2 h3
          exact .inl ⟨i, fl, h1, rfl⟩
        · subst h2
          exact .inr ⟨h1, z, fl, rfl⟩
end Go.Proofs.YtoccmiinkfhohaaGreat
namespace Go.Proofs.YtoccmiinkfhohaaGreat
open Go.RowKit Go.Shelf Go.Lib Go.Sort Go.Proofs Go.Maps
set_option linter.unusedVariables false
set_option maxHeartbeats 2000000
set_option maxRecDepth 100000

theorem cach_form {ks : List KK} {K : KK} {e : Ending} (h : CachedP ks K e) :
    ∃ (z fl : Int) (bo : Bool), e = .returned (.tuple #[.int .i64 z, .int .i64 fl, .bool bo]) ∧ ((∃ i : Nat, idx ks K = some i ∧ z = (i : Int) ∧ bo = true) ∨ (idx ks K = none ∧ bo = false)) := by
  rcases h with ⟨i, fl, h1, h2⟩ | ⟨h1, a, fl, h2⟩
  · exact ⟨_, fl, _, h2, .inl ⟨i, h1, rfl, rfl⟩⟩
  · exact ⟨_, _, _, h2, .inr ⟨h1, rfl⟩⟩
theorem caS {W y y' : World} {cb tb : Nat} {L : List (List KK)} (h : ((∀ a : Addr, a.block < W.heap.size → a.block ≠ cb → y.cell? a = W.cell? a) ∧ W.grownBy y (some cb)) ∧ CacheO y cb tb L) (hg : y.grownBy y' (some cb)) (hc : CacheO y' cb tb L) :
    ((∀ a : Addr, a.block < W.heap.size → a.block ≠ cb → y'.cell? a = W.cell? a) ∧ W.grownBy y' (some cb)) ∧ CacheO y' cb tb L := by
  have hg' := gbk_trans h.1.2 hg
  exact ⟨⟨fun a ha hne => World.cell?_of_block (hg'.block a.block ha (fun e => hne (Option.some.inj e))), hg'⟩, hc⟩
theorem ca_setC {w y : World} {cb tb b : Nat} {L : List (List KK)} (hg : w.grownBy y (some cb)) (hc : CacheO y cb tb L) (hb : w.heap.size ≤ b) (hne : cb < b) (vs : List Value) : w.grownBy (y.setCells b 0 vs) (some cb) ∧ CacheO (y.setCells b 0 vs) cb tb L := by
  obtain ⟨h1, h2, h3, h4⟩ := size_setCellsH b vs 0 y
  exact ⟨⟨h2.trans hg.os, h3.trans hg.tape, h4.trans hg.output, by rw [h1]; exact hg.size, fun r hr hn => (heap_setCells_ne vs 0 y (by omega)).trans (hg.block r hr hn)⟩, hc.at (heap_setCells_ne vs 0 y (by omega)) (fun _ _ h => h)⟩
theorem c_FAownC {w : World} {f : Nat → Nat} {tb c fb cb : Nat} {L : List (List KK)} {ks : List KK} {ps : List PV} (hN : Norm f w) (hT : TreeO w f tb L) (h : FastO w f c fb L ks ps) (hc0 : c ≠ 0) (hCa : CacheO w cb tb L) (hcf : f cb = 0) (k : KK) (hk : okK k) :
    Calls Tryz.prog 108 #[.pointer (some ⟨fb, 0, none⟩), .pointer (some ⟨tb, 0, none⟩), .pointer (some ⟨cb, 0, none⟩), keyV k.1 k.2] w fun e w' => (w.grownBy w' (some cb) ∧ CacheO w' cb tb L) ∧
      ((∃ (i : Nat) (p : PV), idx ks (pk k) = some i ∧ ps[i]? = some p ∧ e = .returned (.tuple #[propV p, .bool true])) ∨ (idx ks (pk k) = none ∧ e = .returned (.tuple #[propV zeroPV, .bool false]))) := by
  obtain ⟨s, lv, h1, h2, h3, h4⟩ := h
  unfold keyV
  obtain ⟨k0, kn⟩ := k
  dsimp only
  obtain ⟨W2, hW2⟩ : ∃ W2, (w.alloc (.cells #[.string k0, .int .i64 kn] 31)).alloc (.cells (encP zeroPV).toArray 36) = W2 := ⟨_, rfl⟩
  have hb2 : Below w.heap.size w W2 := by rw [← hW2]; exact ((Below.refl _ w).alloc (Nat.le_refl _) _).alloc (by simp) _
  have hs2 : W2.heap.size = w.heap.size + 2 := by rw [← hW2]; simp
  have d0 : W2.heap[w.heap.size]? = some (.cells #[.string k0, .int .i64 kn] 31 (0, 0)) := by rw [← hW2, Below.heap_alloc _ _ _ (by simp)]; exact heap_alloc_new w _
  have z0 : W2.heap[w.heap.size + 1]? = some (.cells (encP zeroPV).toArray 36 (0, 0)) := by rw [← hW2]; exact heap_alloc2_new w _ _
  have kc0 : W2.cell? ⟨w.heap.size, 0, none⟩ = some (.string k0) := by rw [cell_of_row _ _ 0 _ _ _ d0]; rfl
  have kc1 : W2.cell? ⟨w.heap.size, 1, none⟩ = some (.int .i64 kn) := by rw [cell_of_row _ _ 1 _ _ _ d0]; rfl
  have lf := heapH_lt h1.1
  have c0 : W2.cell? ⟨fb, 0, none⟩ = some (.int .i64 (s : Int)) := by rw [hb2.cell (p := ⟨fb, 0, none⟩) lf, cell_of_row _ _ 0 _ _ _ h1.1]; rfl
  have hlcb : cb < w.heap.size := by obtain ⟨_, _, _, _, _, _, _, _, q, _⟩ := hCa; exact heapH_lt q
  have hfc : fb ≠ cb := fun e => hc0 (by rw [← h1.2, e]; exact hcf)
  have hC := fun (y : World) (hy : W2.grownBy y (some cb)) (hca : CacheO y cb tb L) => c_SCachedC (tree_gb hN hT hcf (gbk_trans (gbk_below hb2) hy)).1 (tree_gb hN hT hcf (gbk_trans (gbk_below hb2) hy)).2 hca hcf s ks h3 (k0, kn) hk
  have hCa2 : CacheO W2 cb tb L := hCa.at (hb2.block cb hlcb) (fun _ _ h => h)
  have hst : ((∀ a : Addr, a.block < W2.heap.size → a.block ≠ cb → W2.drew.cell? a = W2.cell? a) ∧ W2.grownBy W2.drew (some cb)) ∧ CacheO W2.drew cb tb L := ⟨⟨fun _ _ _ => rfl, rfl, rfl, rfl, Nat.le_refl _, fun _ _ _ => rfl⟩, hCa2⟩
  have hkc : w.heap.size ≠ cb := by omega
  unfold keyV at hC
  have t1 : w.heap.size < W2.heap.size := by omega
  have t2 : fb < W2.heap.size := by omega
  replace hC := Lib.hid hC
  replace hs2 := Lib.hid hs2
  replace h1 := Lib.hid h1
  replace h4 := Lib.hid h4
  replace h2 := Lib.hid h2
  simp only [encP, zeroPV, zeroVV] at hW2
  replace hlcb := Lib.hid hlcb
  clear d0 hN hT h3 hk hCa hCa2
  have hcf' := Lib.hid hcf
  clear hcf
  go_enter Tryz.func108, Tryz.ntmps108
  go_wp2_with fail
  go_region_held3 (fun y => ((∀ a : Addr, a.block < W2.heap.size → a.block ≠ cb → y.cell? a = W2.cell? a) ∧ W2.grownBy y (some cb)) ∧ CacheO y cb tb L) (first | with_reducible assumption | with_reducible exact hst | with_reducible exact caS (by assumption) (by assumption) (by assumption)) (first | (go_at_call 110; refine (hC.out _ (And.right (And.left (by assumption))) (And.right (by assumption))).mono ?_; rintro e y' ⟨⟨hb, hca⟩, hr⟩; replace hr := cach_form hr; obtain ⟨z, fl, bo, rfl, hr⟩ := hr))
  have hO := caS hst hb hca
  replace hb := Lib.hid hb
  replace hca := Lib.hid hca
  have z1 : y'.heap[w.heap.size + 1]? = some (.cells (encP zeroPV).toArray 36 (0, 0)) := (hO.1.2.block _ (by have := hs2.out; omega) (fun e => by have := Option.some.inj e; have := hlcb.out; omega)).trans z0
  have hbw := gbk_trans (gbk_below hb2) hO.1.2
  have hcw := Lib.hid hO.2
  replace hbw := Lib.hid hbw
  replace hb2 := Lib.hid hb2
  have hth := there_of (n := 13) (o := 0) z1 (by simp [encP])
  rcases hr with ⟨i, hi, rfl, rfl⟩ | ⟨hi, rfl⟩
  · have hil : i < ps.length := by rw [← h4.out]; exact idx_lt hi
    obtain ⟨p, hp⟩ : ∃ p, ps[i]? = some p := ⟨_, List.getElem?_eq_getElem hil⟩
    obtain ⟨g, cap, rfl, g1, g2⟩ := h2.out.1.form (by omega)
    have hg := (h2.out.1.lt g rfl).2
    have c1 : y'.cell? ⟨fb, 1, none⟩ = some (.slice (some ⟨g, 0, none⟩) ps.length cap) := by
      rw [World.cell?_of_block (w := w) (a := ⟨fb, 1, none⟩) (hbw.out.block fb lf (fun e => hfc (Option.some.inj e))), cell_of_row _ _ 1 _ _ _ h1.out.1]; rfl
    have hgc : g ≠ cb := fun e => hc0 (by rw [← h2.out.2 g rfl, e]; exact hcf'.out)
    have hrg := range_at (range_of h2.out.1 hp) (hbw.out.block g hg (fun e => hgc (Option.some.inj e)))
    have hi13 : (Tryz.prog.info? 36).map (·.size) = some (encP p).length := infoProp
    have hj13 : (Tryz.prog.info? 36).map (·.size) = some (encP p).toArray.size := infoProp
    have ho13 := all_oneCell_toArray (encP_one p)
    have p3 : (0 : Int) ≤ (i : Int) := by omega
    have p4 : (i : Int) < (ps.length : Int) := by omega
    replace z1 := Lib.hid z1
    replace hi := Lib.hid hi
    replace hp := Lib.hid hp
    clear hO kc0 kc1 c0 t1 t2 hst
    go_wp2_with (first | (refine wpList_load_mid (by rfl) 36 _ (by rfl) g (i * 13) (by rfl) (encP p) _ hrg Tryz.underlying36 rfl hi13 ?_) | (refine wpList_store_mid (by rfl) 36 _ _ (by rfl) (w.heap.size + 1) 0 (encP p).toArray (by rfl) (by rfl) hth hj13 ho13 ?_))
    have hz := heap_setCells_all (t := 36) (vs := encP p) z1.out rfl
    refine bodyPost_ret (results_cell_tmp_row rfl _ _ (w.heap.size + 1) 36 (encP p).toArray (0, 0) _ rfl rfl hz infoProp) rfl ?_
    exact ⟨ca_setC hbw.out hcw.out (by omega) (by have := hlcb.out; omega) _, .inl ⟨i, p, hi.out, hp.out, rfl⟩⟩
  · replace z1 := Lib.hid z1
    clear hO kc0 kc1 c0 t1 t2 hst
    have hi13 : (Tryz.prog.info? 36).map (·.size) = some (encP zeroPV).toArray.size := infoProp
    have ho13 := all_oneCell_toArray (encP_one zeroPV)
    go_wp2_with (first | (refine wpList_store_mid (by rfl) 36 _ _ (by rfl) (w.heap.size + 1) 0 (encP zeroPV).toArray (by rfl) (by rfl) hth hi13 ho13 ?_))
    have hz := heap_setCells_all (t := 36) (vs := encP zeroPV) z1.out rfl
    refine bodyPost_ret (results_cell_tmp_row rfl _ _ (w.heap.size + 1) 36 (encP zeroPV).toArray (0, 0) _ rfl rfl hz infoProp) rfl ?_
    exact ⟨ca_setC hbw.out hcw.out (by omega) (by have := hlcb.out; omega) _, .inr ⟨hi, rfl⟩⟩
end Go.Proofs.YtoccmiinkfhohaaGreat

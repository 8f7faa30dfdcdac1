/-
  DigitsLiterals: what a number literal at the beginning of any bytes is, and how long, or that none begins there (the card ties the library's tables to its text).
-/
import Derived.Test.YtbakbikilbaafaaGreatDoorQ20
import Derived.Test.YtbakbikilbaafaaGreatDoorRows
import Derived.Lib.LaidU8
import Derived.Lib.LaidPrint
import Derived.Shelf.Vars
import Derived.OpenShut
import Derived.MakeChecks
import Derived.Test.YtbakbikilbaafaaGreatDoorCards
import Derived.Test.YtbakbikilbaafaaGreatDoorTie
import Derived.ProofKit
import Derived.Laws.Cover2
import Derived.Lay
import Derived.Deep.DeepHandedRow
import Derived.ChangeMaps5
import Derived.LaidMore
import Derived.SevenTiedAt
import Derived.JoinedCond
namespace Go.Proofs.YtbakbikilbaafaaGreatDoor
open Go.RowKit Go.Lib
set_option linter.unusedVariables false
set_option linter.unusedSimpArgs false
set_option maxHeartbeats 4000000
set_option maxRecDepth 100000

theorem slice_reads {P : Program} {w : World} {name : String} {g c : Nat} {t e : TypeId} {D : List (DataW Unit)} (hn : P.globalNamed name = some g) (hy : (P.globals[g]?).map (·.type) = some t)
    (ht : P.underlying t = some (.slice e)) (hce : P.cellsOf e = c) (hc : 0 < c) (hD : 0 < D.length) (E : Nat → List Value) (hE0 : ∀ i, (E i).length = c)
    (hE : ∀ (base : Nat) (sp : Nat → Bool) (held : Bool) (i m : Nat) (cs : List Value) (d : DataW Unit) (p : List MemPlace), D[i]? = some d → DataW.trod (fun _ => ()) P w base sp held m e cs = some (d, p) → cs = E i)
    (h : VarReads P w name (.slice D [])) : ∃ b o cap, w.cell? ⟨g, 0, none⟩ = some (.slice (some ⟨b, o, none⟩) D.length cap) ∧ ∀ (i j : Nat) (v : Value), i < D.length → (E i)[j]? = some v → w.cell? ⟨b, o + i * c + j, none⟩ = some v := by
  obtain ⟨g', t', cs, fuel, p, hg, hty, hvar, hd⟩ := h
  obtain rfl := Option.some.inj (hn.symm.trans hg)
  obtain rfl := Option.some.inj (hy.symm.trans hty)
  rcases DataW.trod_slice ht hd with ⟨_, hx⟩ | ⟨a, len, cap, el, rs, m, rfl, hcs, hx, _, hlc, _, hel, helem, hsp, _⟩
  · cases hx
  have e0 := congrArg Prod.fst hx
  simp only [DataW.slice.injEq] at e0
  obtain ⟨eE, eR⟩ := e0
  have hlen : len = D.length := by
    have := congrArg List.length eE
    simp at this
    omega
  have hcell : ∀ (i j : Nat) (v : Value), i < D.length → (E i)[j]? = some v → w.cell? ((a.add (i * c)).add j) = some v := by
    intro i j v hi hv
    have h1 := helem i (by omega)
    rw [hce] at h1
    obtain ⟨b, hb⟩ : ∃ b, el[i]? = some b := ⟨el[i]'(by omega), List.getElem?_eq_getElem (by omega)⟩
    rw [hb] at h1
    obtain ⟨ce, hcc, hte⟩ := Option.bind_eq_some_iff.1 h1
    have hdi : D[i]? = some b.1 := by rw [eE, List.getElem?_map, hb]; rfl
    have hEi := hE _ _ _ i _ ce b.1 b.2 hdi hte
    obtain ⟨_, _, hcell⟩ := World.cells?_some hcc
    have hj : j < c := by rw [← hE0 i]; exact (List.getElem?_eq_some_iff.1 hv).1
    rw [hcell j hj, hEi, hv]
  obtain ⟨R, o, sR⟩ := a
  have v0 : (E 0)[0]? = some ((E 0)[0]'(by rw [hE0]; exact hc)) := List.getElem?_eq_getElem _
  obtain rfl : sR = none := by
    have h00 := hcell 0 0 _ hD v0
    have : ((Addr.add ⟨R, o, sR⟩ (0 * c)).add 0) = ⟨R, o, sR⟩ := by simp [Addr.add]
    rw [this] at h00
    exact Go.Proofs.cell_spot h00
  refine ⟨R, o, cap, ?_, fun i j v hi hv => ?_⟩
  · rw [World.var?_cell hg hvar 0, ← Array.getElem?_toList, hcs, hlen]
    rfl
  · have := hcell i j v hi hv
    rw [Addr.add_lit, Addr.add_lit] at this
    exact this
theorem trod_lit {H : Type} {enc : TypeId × Value → H} {P : Program} {w : World} {base : Nat} {sp : Nat → Bool} {held : Bool} {fuel : Nat} {t : TypeId} {cs : List Value} {l : Lit} {p : List MemPlace}
    (h : DataW.trod enc P w base sp held fuel t cs = some (.lit l, p)) : cs = [l.value] := by
  cases fuel with
  | zero => simp [DataW.trod] at h
  | succ n =>
    unfold DataW.trod at h
    split at h
    all_goals first
      | (simp only [Option.some.injEq, Prod.mk.injEq, DataW.lit.injEq] at h; obtain ⟨rfl, _⟩ := h; rfl)
      | (split at h
         · simp only [Option.some.injEq, Prod.mk.injEq, DataW.lit.injEq] at h
           obtain ⟨rfl, _⟩ := h
           first | rfl | (simp_all [Lit.value])
         · cases h)
      | (simp [Option.map_eq_some_iff, Option.bind_eq_some_iff] at h; done)
      | (exfalso; revert h; simp [Option.map_eq_some_iff, Option.bind_eq_some_iff]; done)
      | (exfalso; revert h; split <;> simp [Option.map_eq_some_iff, Option.bind_eq_some_iff]; done)
      | (exfalso; revert h; split <;> (try split) <;> simp [Option.map_eq_some_iff, Option.bind_eq_some_iff])
theorem lits_of_struct {H : Type} {enc : TypeId × Value → H} {P : Program} {w : World} {base : Nat} {sp : Nat → Bool} {held : Bool} {fuel : Nat} {t : TypeId} {fs : Array Field} {cs : List Value} {ls : List Lit} {p : List MemPlace} (ht : P.underlying t = some (.struct fs))
    (hf : ∀ (i : Nat) (f : Field), fs[i]? = some f → f.offset = i ∧ P.cellsOf f.type = 1) (hct : P.cellsOf t = fs.size)
    (h : DataW.trod enc P w base sp held fuel t cs = some (.agg (ls.map fun z => .lit z), p)) : cs = ls.map Lit.value := by
  obtain ⟨xs, n, rfl, hx, hl, hxl, hall⟩ := DataW.trod_struct ht h
  have hxs : xs.map (·.1) = ls.map fun z => (DataW.lit z : DataW H) := by
    have := congrArg Prod.fst hx
    simpa using this.symm
  have hzl : ls.length = fs.size := by
    have := congrArg List.length hxs
    simp at this
    omega
  apply List.ext_getElem?
  intro i
  by_cases hi : i < fs.size
  · obtain ⟨ho, hc⟩ := hf i fs[i] (by simp [hi])
    have h1 := hall i fs[i] (by simp [hi])
    obtain ⟨b, hb⟩ : ∃ b, xs[i]? = some b := ⟨xs[i]'(by omega), List.getElem?_eq_getElem (by omega)⟩
    obtain ⟨z, hz⟩ : ∃ z, ls[i]? = some z := ⟨ls[i]'(by omega), List.getElem?_eq_getElem (by omega)⟩
    have h3 : (xs.map (·.1))[i]? = some (DataW.lit z : DataW H) := by rw [hxs, List.getElem?_map, hz]; rfl
    rw [List.getElem?_map, hb] at h3
    have h4 : b.1 = DataW.lit z := Option.some.inj h3
    rw [hb, ho, hc, show b = (DataW.lit z, b.2) by rw [← h4]] at h1
    have hcz := trod_lit h1
    have h2 : cs[i]? = some z.value := by
      have := congrArg (·[0]?) hcz
      simpa [List.getElem?_take, List.getElem?_drop] using this
    rw [h2, List.getElem?_map, hz]; rfl
  · rw [List.getElem?_eq_none (by omega), List.getElem?_eq_none (by simp; omega)]
def laidL : List (String × DataW Unit) := Rows.digitsShowRow.laid
theorem gPow : Tryz.prog.globalNamed "internal/strconv.pow10Tab" = some 12 := by kernel_rfl
theorem tPow : (Tryz.prog.globals[12]?).map (·.type) = some 238 := by kernel_rfl
theorem gP10 : Tryz.prog.globalNamed "internal/strconv.uint64pow10" = some 1 := by kernel_rfl
theorem tP10 : (Tryz.prog.globals[1]?).map (·.type) = some 161 := by kernel_rfl
theorem gFI : Tryz.prog.globalNamed "internal/strconv.float64info" = some 9 := by kernel_rfl
theorem tFI : (Tryz.prog.globals[9]?).map (·.type) = some 222 := by kernel_rfl
theorem gF10 : Tryz.prog.globalNamed "internal/strconv.float64pow10" = some 16 := by kernel_rfl
theorem tF10 : (Tryz.prog.globals[16]?).map (·.type) = some 247 := by kernel_rfl
theorem gPT : Tryz.prog.globalNamed "internal/strconv.powtab" = some 15 := by kernel_rfl
theorem tPT : (Tryz.prog.globals[15]?).map (·.type) = some 246 := by kernel_rfl
theorem gLC : Tryz.prog.globalNamed "internal/strconv.leftcheats" = some 13 := by kernel_rfl
theorem tLC : (Tryz.prog.globals[13]?).map (·.type) = some 242 := by kernel_rfl
theorem gOp : Tryz.prog.globalNamed "internal/strconv.optimize" = some 5 := by kernel_rfl
theorem gEr : Tryz.prog.globalNamed "strconv.ErrRange" = some 7 := by kernel_rfl
theorem tEr : (Tryz.prog.globals[7]?).map (·.type) = some 83 := by kernel_rfl
theorem cTab20 : Tryz.prog.cellsOf 161 = 20 := by kernel_rfl
theorem cU64 : Tryz.prog.cellsOf 102 = 1 := by kernel_rfl
theorem cHiLo : Tryz.prog.cellsOf 237 = 2 := by kernel_rfl
theorem cF64 : Tryz.prog.cellsOf 22 = 1 := by kernel_rfl
theorem cInt : Tryz.prog.cellsOf 3 = 1 := by kernel_rfl
theorem cStr : Tryz.prog.cellsOf 9 = 1 := by kernel_rfl
theorem cCheat : Tryz.prog.cellsOf 241 = 2 := by kernel_rfl
theorem cFInfo : Tryz.prog.cellsOf 222 = 3 := by kernel_rfl
theorem pow_of {W : World} (h : VarReads Tryz.prog W "internal/strconv.pow10Tab" Pinned.pow10Tab) : PowT W := by
  obtain ⟨g, t, cs, fuel, p, hg, ht, hv, hd⟩ := h
  obtain rfl := Option.some.inj (gPow.symm.trans hg)
  obtain rfl := Option.some.inj (tPow.symm.trans ht)
  obtain ⟨xs, m, rfl, hx, hlen, hn, hel⟩ := DataW.trod_array Tryz.underlying238 hd
  rw [cHiLo] at hel
  have hxs : xs.map (·.1) = Pinned.pow10Rows.map fun x => (DataW.agg [.lit (.int .u64 x.1), .lit (.int .u64 x.2)] : DataW Unit) := by
    have := congrArg Prod.fst hx
    simpa [Pinned.pow10Tab] using this.symm
  intro i x hxi
  have hil : i < 696 := by
    have := (List.getElem?_eq_some_iff.1 hxi).1
    rw [rows_len] at this
    exact this
  have hi := hel i hil
  have hxi2 : (xs.map (·.1))[i]? = some (.agg [.lit (.int .u64 x.1), .lit (.int .u64 x.2)]) := by
    rw [hxs, List.getElem?_map, hxi]; rfl
  rw [List.getElem?_map, Option.map_eq_some_iff] at hxi2
  obtain ⟨⟨d, pp⟩, hxe, rfl⟩ := hxi2
  rw [hxe] at hi
  have hz := lits_of_struct (ls := [.int .u64 x.1, .int .u64 x.2]) Tryz.underlying237 (by
    intro i f hf
    rcases i with _ | _ | i
    · simp at hf; subst hf; exact ⟨rfl, cU64⟩
    · simp at hf; subst hf; exact ⟨rfl, cU64⟩
    · simp at hf) cHiLo hi
  have c0 := congrArg (·[0]?) hz
  have c1 := congrArg (·[1]?) hz
  simp only [List.getElem?_take, List.getElem?_drop] at c0 c1
  simp [Lit.value] at c0 c1
  exact ⟨(World.var?_cell hg hv _).trans c0, (World.var?_cell hg hv _).trans c1⟩
theorem p10_of {W : World} (h : VarReads Tryz.prog W "internal/strconv.uint64pow10" Rows.laid_internal_strconv_uint64pow10) : P10 W ∧ Lib.TabIs Tryz.prog W "internal/strconv.uint64pow10" .u64 Lib.pow10Tab := by
  obtain ⟨g, t, cs, fuel, p, hg, ht, hv, hd⟩ := h
  obtain rfl := Option.some.inj (gP10.symm.trans hg)
  obtain rfl := Option.some.inj (tP10.symm.trans ht)
  have hz := cells_of_tab (zs := Lib.pow10Tab) Tryz.underlying161 Tryz.underlying102 cU64 cTab20 hd
  have hT : Lib.TabIs Tryz.prog W "internal/strconv.uint64pow10" .u64 Lib.pow10Tab := by
    unfold TabIs
    rw [hv, ← hz]
  refine ⟨fun i hi => ?_, hT⟩
  have hc := hT.cell gP10 i (by show i < 20; exact hi)
  rw [hc]
  have all : ∀ i : Fin 20, Lib.pow10Tab.getD i.val 0 = ((10 ^ i.val : Nat) : Int) := by decide +kernel
  rw [all ⟨i, hi⟩]
theorem fi_of {W : World} (h : VarReads Tryz.prog W "internal/strconv.float64info" Rows.laid_internal_strconv_float64info) : FI W := by
  obtain ⟨g, t, cs, fuel, p, hg, ht, hv, hd⟩ := h
  obtain rfl := Option.some.inj (gFI.symm.trans hg)
  obtain rfl := Option.some.inj (tFI.symm.trans ht)
  have hz := lits_of_struct (ls := [.int .u64 52, .int .u64 11, .int .i64 (-1023)]) Tryz.underlying222 (by
    intro i f hf
    rcases i with _ | _ | _ | i
    · simp at hf; subst hf; exact ⟨rfl, by kernel_rfl⟩
    · simp at hf; subst hf; exact ⟨rfl, by kernel_rfl⟩
    · simp at hf; subst hf; exact ⟨rfl, cInt⟩
    · simp at hf) cFInfo hd
  refine ⟨?_, ?_, ?_⟩
  · have := congrArg (·[0]?) hz
    rw [Array.getElem?_toList] at this
    exact (World.var?_cell hg hv _).trans this
  · have := congrArg (·[1]?) hz
    rw [Array.getElem?_toList] at this
    exact (World.var?_cell hg hv _).trans this
  · have := congrArg (·[2]?) hz
    rw [Array.getElem?_toList] at this
    exact (World.var?_cell hg hv _).trans this
theorem f10_of {W : World} (h : VarReads Tryz.prog W "internal/strconv.float64pow10" Rows.laid_internal_strconv_float64pow10) : F10 W := by
  obtain ⟨b, o, cap, h0, h1⟩ := slice_reads (c := 1) gF10 tF10 Tryz.underlying247 cF64 (by decide) (by decide) (fun i => [.float .f64 (pow10W.getD i 0)]) (fun _ => rfl) (by
    intro base sp held i m cs d p hd htr
    have hall : ∀ i : Fin 23, ([.lit (.float .f64 4607182418800017408)] : List (DataW Unit)).length = 1 := fun _ => rfl
    have hdi : d = .lit (.float .f64 (pow10W.getD i 0)) := by
      have hi : i < 23 := (List.getElem?_eq_some_iff.1 hd).1
      rcases i with _ | _ | _ | _ | _ | _ | _ | _ | _ | _ | _ | _ | _ | _ | _ | _ | _ | _ | _ | _ | _ | _ | _ | i
      all_goals first | (exact (Option.some.inj hd).symm) | omega
    subst hdi
    exact trod_lit htr) h
  refine ⟨b, o, cap, h0, fun i hi => ?_⟩
  have := h1 i 0 _ hi rfl
  rw [Nat.mul_one, Nat.add_zero] at this
  exact this
theorem pt_of {W : World} (h : VarReads Tryz.prog W "internal/strconv.powtab" Rows.laid_internal_strconv_powtab) : PT W := by
  obtain ⟨b, o, cap, h0, h1⟩ := slice_reads (c := 1) gPT tPT Tryz.underlying246 cInt (by decide) (by decide) (fun i => [.int .i64 (PTL.getD i 0)]) (fun _ => rfl) (by
    intro base sp held i m cs d p hd htr
    have hdi : d = .lit (.int .i64 (PTL.getD i 0)) := by
      have hi : i < 9 := (List.getElem?_eq_some_iff.1 hd).1
      rcases i with _ | _ | _ | _ | _ | _ | _ | _ | _ | i
      all_goals first | (exact (Option.some.inj hd).symm) | omega
    subst hdi
    exact trod_lit htr) h
  refine ⟨b, o, cap, h0, fun i hi => ?_⟩
  have := h1 i 0 _ hi rfl
  rw [Nat.mul_one, Nat.add_zero] at this
  exact this
theorem cheat_len : Pinned.cheatRows.length = 61 := by decide +kernel
theorem lc_of {W : World} (h : VarReads Tryz.prog W "internal/strconv.leftcheats" Pinned.leftcheats) : LC W := by
  have hlen : (Pinned.cheatRows.map fun x => (DataW.agg [.lit (.int .i64 x.1), .lit (.string x.2)] : DataW Unit)).length = 61 := by rw [List.length_map, cheat_len]
  obtain ⟨b, o, cap, h0, h1⟩ := slice_reads (c := 2) (D := Pinned.cheatRows.map fun x => (DataW.agg [.lit (.int .i64 x.1), .lit (.string x.2)] : DataW Unit)) gLC tLC Tryz.underlying242 cCheat (by decide) (by rw [hlen]; decide)
    (fun i => match Pinned.cheatRows[i]? with | some x => [.int .i64 x.1, .string ⟨x.2.toArray⟩] | none => [.int .i64 0, .int .i64 0]) (by
    intro i
    cases Pinned.cheatRows[i]? <;> rfl) (by
    intro base sp held i m cs d p hd htr
    rw [List.getElem?_map, Option.map_eq_some_iff] at hd
    obtain ⟨x, hx, rfl⟩ := hd
    have hz := lits_of_struct (ls := [.int .i64 x.1, .string x.2]) Tryz.underlying241 (by
      intro i f hf
      rcases i with _ | _ | i
      · simp at hf; subst hf; exact ⟨rfl, cInt⟩
      · simp at hf; subst hf; exact ⟨rfl, cStr⟩
      · simp at hf) cCheat htr
    rw [hz]
    simp only [hx]
    rfl) h
  rw [hlen] at h0 h1
  refine ⟨b, o, cap, h0, fun i x hx => ?_⟩
  have hi : i < 61 := by
    have := (List.getElem?_eq_some_iff.1 hx).1
    rw [cheat_len] at this
    exact this
  have c0 := h1 i 0 (.int .i64 x.1) hi (by simp only [hx]; rfl)
  have c1 := h1 i 1 (.string ⟨x.2.toArray⟩) hi (by simp only [hx]; rfl)
  rw [Nat.add_zero, Nat.mul_comm] at c0
  rw [Nat.mul_comm i 2] at c1
  exact ⟨c0, c1⟩
theorem op_of {W : World} (h : VarReads Tryz.prog W "internal/strconv.optimize" Rows.laid_internal_strconv_optimize) : W.cell? ⟨5, 0, none⟩ = some (.bool true) := by
  obtain ⟨g, t, cs, fuel, p, hg, ht, hv, hd⟩ := h
  obtain rfl := Option.some.inj (gOp.symm.trans hg)
  have hz := trod_lit (l := .bool true) hd
  have := congrArg (·[0]?) hz
  rw [Array.getElem?_toList] at this
  exact (World.var?_cell hg hv _).trans this
theorem er_of {W : World} (h : VarReads Tryz.prog W "strconv.ErrRange" Rows.laid_strconv_ErrRange) : ∃ te pe, W.cell? ⟨7, 0, none⟩ = some (.iface te pe) := by
  obtain ⟨g, t, cs, fuel, p, hg, ht, hv, hd⟩ := h
  obtain rfl := Option.some.inj (gEr.symm.trans hg)
  obtain rfl := Option.some.inj (tEr.symm.trans ht)
  have hcs : ∃ u v, cs.toList = [.iface u v] := by
    cases fuel with
    | zero => simp [DataW.trod] at hd
    | succ n =>
      unfold DataW.trod at hd
      rw [Tryz.underlying83] at hd
      unfold Rows.laid_strconv_ErrRange at hd
      split at hd
      all_goals first
        | (cases hd; done)
        | (rename_i e; cases e; done)
        | (rename_i e _; cases e; done)
        | (rename_i e _ _; cases e; done)
        | exact ⟨_, _, by assumption⟩
  obtain ⟨u, v, hcs⟩ := hcs
  have := congrArg (·[0]?) hcs
  rw [Array.getElem?_toList] at this
  exact ⟨u, v, (World.var?_cell hg hv _).trans this⟩
theorem gTZ : Tryz.prog.globalNamed "math/bits.deBruijn64tab" = some 11 := by kernel_rfl
theorem tTZ : (Tryz.prog.globals[11]?).map (·.type) = some 235 := by kernel_rfl
theorem cTab64 : Tryz.prog.cellsOf 235 = 64 := by kernel_rfl
theorem cU8 : Tryz.prog.cellsOf 5 = 1 := by kernel_rfl
theorem tz_of {W : World} (h : VarReads Tryz.prog W "math/bits.deBruijn64tab" Rows.laid_math_bits_deBruijn64tab) : ∀ (i x : Nat), Lib.deBruijn64tab[i]? = some x → W.cell? ⟨11, i, none⟩ = some (.int .u8 (x : Int)) := by
  obtain ⟨g, t, cs, fuel, p, hg, ht, hv, hd⟩ := h
  obtain rfl := Option.some.inj (gTZ.symm.trans hg)
  obtain rfl := Option.some.inj (tTZ.symm.trans ht)
  have hz := cells_of_tab (zs := Lib.deBruijn64tab.map fun n : Nat => (n : Int)) Tryz.underlying235 Tryz.underlying5 cU8 cTab64 hd
  intro i x hx
  have hc : cs[i]? = some (.int .u8 (x : Int)) := by
    rw [← Array.getElem?_toList, hz]
    simp [hx]
  exact (World.var?_cell hg hv _).trans hc
theorem rowOfG {W : World} (hS : W.ShapedOpen Tryz.prog) (g : Nat) (zero : Array Value) (t : TypeId) (hg : g < Tryz.prog.globals.size) (h0 : ((begin Tryz.prog (fun _ _ => 0) default).world.heap[g]?).bind Obj.row? = some (zero, t)) : ∃ c t, W.heap[g]? = some (.cells c t (0, 0)) := by
  obtain ⟨cs, hh, -, -⟩ := hS.1 g zero t hg h0
  exact ⟨cs, t, hh⟩
theorem lib_of {W : World} (hS : W.ShapedOpen Tryz.prog) (h : laidMet Tryz.prog laidL W) : LibW W := by
  have hp := p10_of (laidMet.reads h (n := "internal/strconv.uint64pow10") (.tail _ (.tail _ (.tail _ (.tail _ (.tail _ (.tail _ (.tail _ (.tail _ (.head _))))))))))
  exact ⟨pow_of (laidMet.reads h (.tail _ (.tail _ (.tail _ (.tail _ (.tail _ (.tail _ (.tail _ (.tail _ (.tail _ (.tail _ (.tail _ (.tail _ (.tail _ (.head _))))))))))))))), hp.1,
    fi_of (laidMet.reads h (.tail _ (.tail _ (.tail _ (.head _))))),
    f10_of (laidMet.reads h (.tail _ (.tail _ (.tail _ (.tail _ (.tail _ (.tail _ (.head _)))))))),
    op_of (laidMet.reads h (.tail _ (.tail _ (.tail _ (.tail _ (.head _)))))),
    er_of (laidMet.reads h (.tail _ (.tail _ (.tail _ (.tail _ (.tail _ (.tail _ (.tail _ (.tail _ (.tail _ (.tail _ (.head _)))))))))))),
    pt_of (laidMet.reads h (.tail _ (.tail _ (.tail _ (.tail _ (.tail _ (.head _))))))),
    lc_of (laidMet.reads h (.tail _ (.tail _ (.tail _ (.tail _ (.tail _ (.tail _ (.tail _ (.tail _ (.tail _ (.tail _ (.tail _ (.tail _ (.head _)))))))))))))),
    Go.Proofs.cell_of_shapedOpen_int hS (of_decide_eq_true (by kernel_rfl)) (t := 3) (zero := #[.int .i64 0]) (by kernel_rfl) rfl (by kernel_rfl) (by kernel_rfl) Tryz.underlying3, hp.2, tz_of (laidMet.reads h (.tail _ (.head _))), rowOfG hS 9 #[.int .u64 0, .int .u64 0, .int .i64 0] 222 (of_decide_eq_true (by kernel_rfl)) (by kernel_rfl), rowOfG hS 8 #[.int .u64 0, .int .u64 0, .int .i64 0] 222 (of_decide_eq_true (by kernel_rfl)) (by kernel_rfl)⟩
end Go.Proofs.YtbakbikilbaafaaGreatDoor
namespace Go.Proofs.YtbakbikilbaafaaGreatDoor.digitsLiterals
open Go.ChangeShapes Go.WideShapes Go.ChangeAt Go.RowKit Go.ChangeMaps
set_option linter.unusedVariables false

theorem own : ownKnob Tryz.prog.godebug = none := by kernel_rfl
set_option maxRecDepth 100000 in
theorem contract (H : Type) (enc : TypeId × Value → H) (W : World) (base : Nat) (args : Array Value) (ds gs : List (DataW H)) (before : List MemPlace)
    (hval0 : ∀ (j : Nat) t v, Tryz.f7.params[j]? = some t → args[j]? = some v → Value.okWide Tryz.prog W .any base t v)
    (hW : DataW.Whole enc Tryz.prog Tryz.f7.params.toList Rows.digitsLiteralsSpec.vars false W args.toList ds gs before) (hL : laidMetH Tryz.prog laidL W) (hS : W.ShapedOpen Tryz.prog) :
    Calls Tryz.prog 7 args W fun e W' => ∃ v, e = .returned v ∧ Rows.digitsLiteralsSpec.post enc Tryz.prog Tryz.f7 false true false false W args v W' := by
  have hval : ∀ (j : Nat) t v, Tryz.f7.params[j]? = some t → args[j]? = some v → Value.okWide Tryz.prog W .any base t v := hval0
  have hW' := hW
  obtain ⟨p, q, hA0, hV, rfl, hfz, hnd⟩ := hW
  have hA : DataW.TrodAll enc Tryz.prog W 0 (fun _ => true) true Tryz.f7.params.toList args.toList ds p := hA0
  rw [Tryz.params7] at hA hval
  obtain ⟨v0, vs0, d0, ds0, p0, q0, hargs, rfl, rfl, h0, r0⟩ := trodAll_cons hA
  obtain ⟨rfl, rfl, rfl⟩ := trodAll_nil r0
  obtain rfl : args = #[v0] := by cases args; simp_all
  obtain ⟨rfl, rfl⟩ := trodVars_none hV
  obtain ⟨a0, rfl, rfl, rfl, w0⟩ := open_string Tryz.underlying9 (hval 0 9 v0 rfl rfl) h0
  clear hA0 hval0
  simp only [List.append_nil] at hW'
  rw [MakeChecks.laidMetH_plain _ _ _ (by kernel_rfl)] at hL
  have hT := lib_of hS hL
  refine (c_LLiterals a0 W hT).mono fun e W' ⟨he, hb⟩ => ?_
  subst he
  exact ⟨_, rfl, _, _, _, [], [], [], hW', trodAll_mk1 (shut_bool Tryz.underlying4 _), (trodAll_cons_mk (shut_string Tryz.underlying9 w0) trodAll_mk0), rfl, hb.frame _, fun h => by cases h⟩
theorem laid_met (os : Os) : laidMet Tryz.prog laidL ((World.laidAll Tryz.prog os laidL).forCall (fun _ _ => 0) ⟨#[], #[.string ⟨#[]⟩], []⟩).memory :=
  laidMet_laidAll _ (by kernel_rfl) (by kernel_rfl)
set_option maxRecDepth 100000 in
theorem reads (os : Os) {H : Type} (enc : TypeId × Value → H) : ∃ places, DataW.whole enc Tryz.prog ((World.laidAll Tryz.prog os laidL).forCall (fun _ _ => 0) ⟨#[], #[.string ⟨#[]⟩], []⟩).memory Tryz.f7.params.toList Rows.digitsLiteralsSpec.vars false (#[.string ⟨#[]⟩] : Array Value).toList 8 = some ([.lit (.string [])], [], places) :=
  ⟨[], by kernel_rfl⟩
set_option maxRecDepth 100000 in
theorem lifted (os : Os) (started : os.Started) (H : Type) (enc : TypeId × Value → H) (F : Stop.Interp) :
    ReturnsInHanded {} Tryz.checked os 7 .any ((OpenSpec.ofChange Rows.digitsLiteralsSpec).preRow enc Tryz.prog Tryz.f7 Rows.digitsLiteralsRow.domain false laidL) (((OpenSpec.ofChange Rows.digitsLiteralsSpec).at F).post enc Tryz.prog Tryz.f7 false true false false) := by
  obtain ⟨places, hx⟩ := reads os enc
  refine returnsInHanded_of_row (C := Tryz.checked) (s := OpenSpec.ofChange Rows.digitsLiteralsSpec) own started (by kernel_rfl) Tryz.func7
    ⟨World.laidAll Tryz.prog os laidL, fun _ _ => 0, ⟨#[], #[.string ⟨#[]⟩], []⟩, World.laidAll_os _ _ _, World.shaped_of_ZipB (by kernel_rfl) (by kernel_rfl),
      rfl, (Input.okWide_of_okWideB (by kernel_rfl)).2,
      OpenSpec.preRow_of_cond 8 hx (by kernel_rfl) (fun k hk => by cases hk) (by kernel_rfl) (by rw [MakeChecks.laidMetH_plain _ _ _ (by kernel_rfl)]; exact laid_met os),
      by
        simp only [Assume.holds]
        exact ⟨by simp, by simp, fun _ => Modest.zero, by simp, by simp⟩⟩ ?_
  intro W base args ds gs before hval hW _ hcond _ hL hS _
  exact contract H enc W base args ds gs before hval hW hL hS
theorem over : Rows.DigitsLiteralsSaid :=
  OpenClaim.holds_of_cond 7 Tryz.f7 rfl rfl rfl rfl rfl rfl rfl ⟨rfl, rfl, rfl, rfl, rfl⟩ rfl rfl rfl rfl rfl (by kernel_rfl) Tryz.func7 (by kernel_rfl)
    (of_decide_eq_true (by kernel_rfl)) (by unfold Func.isWrapper; first | (rw [if_pos (by decide +kernel)]; kernel_rfl) | (rw [if_neg (by decide +kernel)]; exact ⟨rfl, rfl⟩))
    (fun os started H enc _ F => by rw [OpenClaim.pre_eq_preRow]; exact lifted os started H enc F)
theorem plain (f : FuncId) (fn : Func) (hf : Tryz.pinned.checked.prog.funcNamed "lintel/lintellaw03.DigitsLiterals" = some f) (hfn : Tryz.pinned.checked.prog.funcs[f]? = some fn) :
    true = Tryz.pinned.checked.prog.looks [] ∧ ∀ (j : Nat) t, fn.params[j]? = some t → Tryz.pinned.checked.prog.wantsStandIn t = false := by
  obtain rfl : f = 7 := Option.some.inj ((show Tryz.prog.funcNamed "lintel/lintellaw03.DigitsLiterals" = some 7 by kernel_rfl).symm.trans hf) |>.symm
  obtain rfl : fn = Tryz.f7 := (Option.some.inj (Tryz.func7.symm.trans hfn)).symm
  refine ⟨by kernel_rfl, fun j t ht => ?_⟩
  rw [Tryz.params7] at ht
  have hm : t ∈ [9] := by simpa using Array.mem_of_getElem? ht
  have hall : ([9].all fun u => !Tryz.prog.wantsStandIn u) = true := by kernel_rfl
  exact (show Tryz.prog.wantsStandIn t = false by simpa using List.all_eq_true.1 hall t hm)
theorem proved : Rows.DigitsLiteralsCardSaid :=
  Claim7.holds_tied_plain_at .later [] _ _ _ _ over (fun _ h => by cases h) (by kernel_rfl) (fun _ h => by cases h) digitsLiterals_row_tie rfl ⟨rfl, rfl⟩ (by kernel_rfl) rfl plain (by kernel_rfl)
end Go.Proofs.YtbakbikilbaafaaGreatDoor.digitsLiterals

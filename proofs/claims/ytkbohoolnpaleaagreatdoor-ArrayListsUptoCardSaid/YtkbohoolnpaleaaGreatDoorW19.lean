/-
  ArrayLists: a list's array has just its values, in order, and pushing puts one more behind; where what it reads is of bulk at most 1048576 (the card ties the library's tables to its text).
-/
import Derived.Test.YtkbohoolnpaleaaGreatDoorW7
import Derived.Test.YtkbohoolnpaleaaGreatDoorRows
import Derived.Lib.LaidU8
import Derived.OpenShut
import Derived.MakeChecks
import Derived.Test.YtkbohoolnpaleaaGreatDoorW18
import Derived.Test.YtkbohoolnpaleaaGreatDoorCards
import Derived.Test.YtkbohoolnpaleaaGreatDoorTie
import Derived.ProofKit
import Derived.Lay
import Derived.Deep.DeepHandedRow
import Derived.ChangeMaps5
import Derived.LaidMore
import Derived.SevenTiedAt
namespace Go.Proofs.YtkbohoolnpaleaaGreatDoor
open Go.RowKit Go.Lib
set_option maxHeartbeats 1000000
set_option maxRecDepth 100000

def laidL : List (String × DataW Unit) := Rows.arrayListsUptoRow.laid
theorem gPow : Tryz.prog.globalNamed "internal/strconv.pow10Tab" = some 5 := by kernel_rfl
theorem tPow : (Tryz.prog.globals[5]?).map (·.type) = some 253 := by kernel_rfl
theorem gP10 : Tryz.prog.globalNamed "internal/strconv.uint64pow10" = some 4 := by kernel_rfl
theorem tP10 : (Tryz.prog.globals[4]?).map (·.type) = some 238 := by kernel_rfl
theorem cTab20 : Tryz.prog.cellsOf 238 = 20 := by kernel_rfl
theorem cU64 : Tryz.prog.cellsOf 127 = 1 := by kernel_rfl
theorem cHiLo : Tryz.prog.cellsOf 252 = 2 := by kernel_rfl
theorem rows_at : ∀ p : Fin 11, Pinned.pow10Rows[p.val + 7 + 348]? = some (10 ^ (p.val + 7) * 2 ^ (63 - (l2 ((p.val + 7 : Nat) : Int)).toNat), 0) := by decide +kernel
theorem tab_at : ∀ i : Fin 20, [1, 10, 100, 1000, 10000, 100000, 1000000, 10000000, 100000000, 1000000000, 10000000000, 100000000000, 1000000000000, 10000000000000, 100000000000000, 1000000000000000, 10000000000000000, 100000000000000000, 1000000000000000000, 10000000000000000000].getD i.val (0 : Int) = ((10 ^ i.val : Nat) : Int) := by decide +kernel
theorem of_laid {W : World} (h : laidMet Tryz.prog laidL W) : Pows W ∧ P10 W := by
  constructor
  · obtain ⟨g, t, cs, fuel, p, hg, ht, hv, hd⟩ := laidMet.reads h (n := "internal/strconv.pow10Tab") (d := Rows.laid_internal_strconv_pow10Tab) (.tail _ (.tail _ (.tail _ (.tail _ (.tail _ (.tail _ (.tail _ (.head _))))))))
    obtain rfl := Option.some.inj (gPow.symm.trans hg)
    obtain rfl := Option.some.inj (tPow.symm.trans ht)
    obtain ⟨xs, m, rfl, hx, hlen, hn, hel⟩ := DataW.trod_array Tryz.underlying253 hd
    rw [cHiLo] at hel
    have hxs : xs.map (·.1) = Pinned.pow10Rows.map fun x => (DataW.agg [.lit (.int .u64 x.1), .lit (.int .u64 x.2)] : DataW Unit) := by
      have := congrArg Prod.fst hx
      simpa [Rows.laid_internal_strconv_pow10Tab, Pinned.pow10Tab] using this.symm
    intro q h1 h2
    have hr := rows_at ⟨q - 7, by omega⟩
    have e : q - 7 + 7 = q := by omega
    simp only [e] at hr
    generalize 10 ^ q * 2 ^ (63 - (l2 (q : Int)).toNat) = V at *
    have hi := hel (q + 348) (by omega)
    have hxi : (xs.map (·.1))[q + 348]? = some (.agg [.lit (.int .u64 (V : Int)), .lit (.int .u64 0)]) := by
      rw [hxs, List.getElem?_map, hr]; rfl
    rw [List.getElem?_map, Option.map_eq_some_iff] at hxi
    obtain ⟨⟨d, pp⟩, hxe, rfl⟩ := hxi
    rw [hxe] at hi
    have hz := ints_of_struct (zs := [(V : Int), 0]) Tryz.underlying252 (by
      intro i f hf
      rcases i with _ | _ | i
      · simp at hf; subst hf; exact ⟨Tryz.underlying127, rfl, cU64⟩
      · simp at hf; subst hf; exact ⟨Tryz.underlying127, rfl, cU64⟩
      · simp at hf) (by kernel_rfl) hi
    have c0 := congrArg (·[0]?) hz
    have c1 := congrArg (·[1]?) hz
    simp only [List.getElem?_take, List.getElem?_drop] at c0 c1
    simp at c0 c1
    refine ⟨(World.var?_cell hg hv _).trans ?_, (World.var?_cell hg hv _).trans ?_⟩
    · exact c0
    · exact c1
  · obtain ⟨g, t, cs, fuel, p, hg, ht, hv, hd⟩ := laidMet.reads h (n := "internal/strconv.uint64pow10") (d := Rows.laid_internal_strconv_uint64pow10) (.tail _ (.tail _ (.tail _ (.head _))))
    obtain rfl := Option.some.inj (gP10.symm.trans hg)
    obtain rfl := Option.some.inj (tP10.symm.trans ht)
    have hz := cells_of_tab (zs := [1, 10, 100, 1000, 10000, 100000, 1000000, 10000000, 100000000, 1000000000, 10000000000, 100000000000, 1000000000000, 10000000000000, 100000000000000, 1000000000000000, 10000000000000000, 100000000000000000, 1000000000000000000, 10000000000000000000]) Tryz.underlying238 Tryz.underlying127 cU64 cTab20 hd
    intro i hi
    have ha := tab_at ⟨i, hi⟩
    simp only at ha
    refine (World.var?_cell hg hv _).trans ?_
    rw [← ha]
    have : cs.toList[i]? = (_ : List Value)[i]? := congrArg (·[i]?) hz
    rw [Array.getElem?_toList] at this
    rw [this]
    rw [List.getElem?_map, List.getD_eq_getElem?_getD]
    rw [List.getElem?_eq_getElem (by simpa using hi)]
    rfl
end Go.Proofs.YtkbohoolnpaleaaGreatDoor
namespace Go.Proofs.YtkbohoolnpaleaaGreatDoor.arrayLists
open Go.ChangeShapes Go.WideShapes Go.ChangeAt Go.RowKit Go.ChangeMaps
set_option linter.unusedVariables false

theorem own : ownKnob Tryz.prog.godebug = none := by kernel_rfl
set_option maxRecDepth 100000 in
theorem contract (H : Type) (enc : TypeId × Value → H) (W : World) (base : Nat) (args : Array Value) (ds gs : List (DataW H)) (before : List MemPlace)
    (hval : ∀ (j : Nat) t v, Tryz.f3.params[j]? = some t → args[j]? = some v → Value.okWide Tryz.prog W .any base t v)
    (hW : DataW.Whole enc Tryz.prog Tryz.f3.params.toList Rows.arrayListsSpec.vars false W args.toList ds gs before) (hk : Rows.uptoSmall H (ds ++ gs) = true) (hL : laidMetH Tryz.prog laidL W) :
    Calls Tryz.prog 3 args W fun e W' => ∃ v, e = .returned v ∧ Rows.arrayListsSpec.post enc Tryz.prog Tryz.f3 false true false false W args v W' := by
  have hW' := hW
  obtain ⟨p, q, hA0, hV, rfl, hfz, hnd⟩ := hW
  have hA : DataW.TrodAll enc Tryz.prog W 0 (fun _ => true) true Tryz.f3.params.toList args.toList ds p := hA0
  rw [Tryz.params3] at hA hval
  obtain ⟨v0, vs0, d0, ds0, p0, q0, hargs, rfl, rfl, h0, r0⟩ := trodAll_cons hA
  obtain ⟨v1, vs1, d1, ds1, p1, q1, rfl, rfl, rfl, h1, r1⟩ := trodAll_cons r0
  obtain ⟨rfl, rfl, rfl⟩ := trodAll_nil r1
  obtain rfl : args = #[v0, v1] := by cases args; simp_all
  obtain ⟨rfl, rfl⟩ := trodVars_none hV
  have hb := bulk_small hk
  simp only [List.append_nil] at hW' hb
  rw [MakeChecks.laidMetH_plain _ _ _ (by kernel_rfl)] at hL
  obtain ⟨hT, hP⟩ := of_laid hL
  obtain ⟨l, hr, hsm⟩ := vals_open (hval 0 22 v0 rfl rfl) h0 (Nat.le_trans (bulk_part (by simp)) hb)
  obtain ⟨sv, e1, hsv⟩ := valarg_open (hval 1 26 v1 rfl rfl) h1
  subst e1
  have hsv2 : sv.s.size ≤ 1048576 := Nat.le_trans hsv (Nat.le_trans (bulk_part (l := [d0, d1]) (by simp)) hb)
  have hlt0 : ∀ x ∈ p0, x.block < W.heap.size := fun x hx => by simpa using hW'.lt x (by simp [hx])
  have hlt1 : ∀ x ∈ p1, x.block < W.heap.size := fun x hx => by simpa using hW'.lt x (by simp [hx])
  clear hA0
  refine (c_ArrayLists l hsm sv hsv2 v0 W hr hT hP).mono fun e W' ⟨he, hg⟩ => ?_
  subst he
  exact ⟨_, rfl, [d0, d1], [], _, [], p0 ++ (p1 ++ ([])), [], by simpa using hW', trodAll_mk1 (shut_bool Tryz.underlying4 _), trodAll_cons_mk (Below.trod laidOut (by kernel_rfl) (of_decide_eq_true (by kernel_rfl)) h0 hg hlt0) (trodAll_cons_mk (Below.trod laidOut (by kernel_rfl) (of_decide_eq_true (by kernel_rfl)) h1 hg hlt1) trodAll_mk0), rfl, hg.frame _, fun h => by cases h⟩
theorem laid_met (os : Os) : laidMet Tryz.prog laidL ((World.laidAll Tryz.prog os laidL).forCall (fun _ _ => 0) ⟨#[], #[.slice none 0 0, .agg #[.int .i64 0, .float .f64 0, .string ⟨#[]⟩, .int .i64 0]], []⟩).memory :=
  laidMet_laidAll _ (by kernel_rfl) (by kernel_rfl)
set_option maxRecDepth 100000 in
theorem reads (os : Os) {H : Type} (enc : TypeId × Value → H) : ∃ places, DataW.whole enc Tryz.prog ((World.laidAll Tryz.prog os laidL).forCall (fun _ _ => 0) ⟨#[], #[.slice none 0 0, .agg #[.int .i64 0, .float .f64 0, .string ⟨#[]⟩, .int .i64 0]], []⟩).memory Tryz.f3.params.toList Rows.arrayListsSpec.vars false #[Value.slice none 0 0, .agg #[.int .i64 0, .float .f64 0, .string ⟨#[]⟩, .int .i64 0]].toList 8 = some ([.nil, .agg [.lit (.int .i64 0), .lit (.float .f64 0), .lit (.string []), .lit (.int .i64 0)]], [], places) :=
  ⟨[], by kernel_rfl⟩
set_option maxRecDepth 100000 in
theorem lifted (os : Os) (started : os.Started) (H : Type) (enc : TypeId × Value → H) (F : Stop.Interp) :
    ReturnsInHanded {} Tryz.checked os 3 .any ((Rows.OpenSpec.upto Rows.arrayListsSpec).preRow enc Tryz.prog Tryz.f3 Rows.arrayListsUptoRow.domain false laidL) (((Rows.OpenSpec.upto Rows.arrayListsSpec).at F).post enc Tryz.prog Tryz.f3 false true false false) := by
  obtain ⟨places, hx⟩ := reads os enc
  refine returnsInHanded_of_row (C := Tryz.checked) (s := Rows.OpenSpec.upto Rows.arrayListsSpec) own started (by kernel_rfl) Tryz.func3
    ⟨World.laidAll Tryz.prog os laidL, fun _ _ => 0, ⟨#[], #[.slice none 0 0, .agg #[.int .i64 0, .float .f64 0, .string ⟨#[]⟩, .int .i64 0]], []⟩, World.laidAll_os _ _ _, World.shaped_of_ZipB (by kernel_rfl) (by kernel_rfl),
      rfl, (Input.okWide_of_okWideB (by kernel_rfl)).2,
      OpenSpec.preRow_of_cond 8 hx (by kernel_rfl) (fun k hk => by cases hk; kernel_rfl) (by kernel_rfl) (by rw [MakeChecks.laidMetH_plain _ _ _ (by kernel_rfl)]; exact laid_met os),
      by
        simp only [Assume.holds]
        exact ⟨by simp, by simp, fun _ => Modest.zero, by simp, by simp⟩⟩ ?_
  intro W base args ds gs before hval hW _ hcond _ hL _ _
  exact contract H enc W base args ds gs before hval hW (hcond _ rfl) hL
theorem over : Rows.ArrayListsUptoSaid :=
  OpenClaim.holds_of_cond 3 Tryz.f3 rfl rfl rfl rfl rfl rfl rfl ⟨rfl, rfl, rfl, rfl, rfl⟩ rfl rfl rfl rfl rfl (by kernel_rfl) Tryz.func3 (by kernel_rfl)
    (of_decide_eq_true (by kernel_rfl)) (by unfold Func.isWrapper; first | (rw [if_pos (by decide +kernel)]; kernel_rfl) | (rw [if_neg (by decide +kernel)]; exact ⟨rfl, rfl⟩))
    (fun os started H enc _ F => by rw [OpenClaim.pre_eq_preRow]; exact lifted os started H enc F)
theorem plain (f : FuncId) (fn : Func) (hf : Tryz.pinned.checked.prog.funcNamed "lintel/lintellaw17.ArrayLists" = some f) (hfn : Tryz.pinned.checked.prog.funcs[f]? = some fn) :
    true = Tryz.pinned.checked.prog.looks [] ∧ ∀ (j : Nat) t, fn.params[j]? = some t → Tryz.pinned.checked.prog.wantsStandIn t = false := by
  obtain rfl : f = 3 := Option.some.inj ((show Tryz.prog.funcNamed "lintel/lintellaw17.ArrayLists" = some 3 by kernel_rfl).symm.trans hf) |>.symm
  obtain rfl : fn = Tryz.f3 := (Option.some.inj (Tryz.func3.symm.trans hfn)).symm
  refine ⟨by kernel_rfl, fun j t ht => ?_⟩
  rw [Tryz.params3] at ht
  have hm : t ∈ [22, 26] := by simpa using Array.mem_of_getElem? ht
  have hall : ([22, 26].all fun u => !Tryz.prog.wantsStandIn u) = true := by kernel_rfl
  exact (show Tryz.prog.wantsStandIn t = false by simpa using List.all_eq_true.1 hall t hm)
theorem proved : Rows.ArrayListsUptoCardSaid :=
  Claim7.holds_tied_plain_at .later [] _ _ _ _ over (fun _ h => by cases h) (by kernel_rfl) (fun _ h => by cases h) arrayListsUpto_row_tie rfl ⟨rfl, rfl⟩ (by kernel_rfl) rfl plain (by kernel_rfl)
end Go.Proofs.YtkbohoolnpaleaaGreatDoor.arrayLists

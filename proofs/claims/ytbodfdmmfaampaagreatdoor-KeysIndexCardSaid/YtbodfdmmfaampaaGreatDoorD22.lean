/-
  From the row's condition to what the walk asks of the two tables.
-/
import Derived.Test.YtbodfdmmfaampaaGreatDoorD21
import Derived.Test.YtbodfdmmfaampaaGreatDoorRows
import Derived.Lib.LaidU8
import Derived.OpenShut
import Derived.MakeChecks
namespace Go.Proofs.YtbodfdmmfaampaaGreatDoor
open Go.RowKit Go.Lib
set_option maxHeartbeats 1000000
set_option maxRecDepth 100000

def laidL : List (String × DataW Unit) := Rows.keysIndexRow.laid
theorem gPow : Tryz.prog.globalNamed "internal/strconv.pow10Tab" = some 5 := by kernel_rfl
theorem tPow : (Tryz.prog.globals[5]?).map (·.type) = some 160 := by kernel_rfl
theorem gP10 : Tryz.prog.globalNamed "internal/strconv.uint64pow10" = some 4 := by kernel_rfl
theorem tP10 : (Tryz.prog.globals[4]?).map (·.type) = some 147 := by kernel_rfl
theorem cTab20 : Tryz.prog.cellsOf 147 = 20 := by kernel_rfl
theorem cU64 : Tryz.prog.cellsOf 39 = 1 := by kernel_rfl
theorem cHiLo : Tryz.prog.cellsOf 159 = 2 := by kernel_rfl
theorem rows_at : ∀ p : Fin 11, Pinned.pow10Rows[p.val + 7 + 348]? = some (10 ^ (p.val + 7) * 2 ^ (63 - (l2 ((p.val + 7 : Nat) : Int)).toNat), 0) := by decide +kernel
theorem tab_at : ∀ i : Fin 20, [1, 10, 100, 1000, 10000, 100000, 1000000, 10000000, 100000000, 1000000000, 10000000000, 100000000000, 1000000000000, 10000000000000, 100000000000000, 1000000000000000, 10000000000000000, 100000000000000000, 1000000000000000000, 10000000000000000000].getD i.val (0 : Int) = ((10 ^ i.val : Nat) : Int) := by decide +kernel
theorem of_laid {W : World} (h : laidMet Tryz.prog laidL W) : Pows W ∧ P10 W := by
  constructor
  · obtain ⟨g, t, cs, fuel, p, hg, ht, hv, hd⟩ := laidMet.reads h (n := "internal/strconv.pow10Tab") (d := Pinned.pow10Tab) (.tail _ (.tail _ (.tail _ (.tail _ (.tail _ (.tail _ (.tail _ (.head _))))))))
    obtain rfl := Option.some.inj (gPow.symm.trans hg)
    obtain rfl := Option.some.inj (tPow.symm.trans ht)
    obtain ⟨xs, m, rfl, hx, hlen, hn, hel⟩ := DataW.trod_array Tryz.underlying160 hd
    rw [cHiLo] at hel
    have hxs : xs.map (·.1) = Pinned.pow10Rows.map fun x => (DataW.agg [.lit (.int .u64 x.1), .lit (.int .u64 x.2)] : DataW Unit) := by
      have := congrArg Prod.fst hx
      simpa [Pinned.pow10Tab] using this.symm
    intro q h1 h2
    have hr := rows_at ⟨q - 7, by omega⟩
    have e : q - 7 + 7 = q := by omega
    simp only [e] at hr
    generalize 10 ^ q * 2 ^ (63 - (l2 (q : Int)).toNat) = V at *
    have hi := hel (q + 348) (by omega)
    have hxi : (xs.map (·.1))[q + 348]? = some (.agg [.lit (.int .u64 (V : Int)), .lit (.int .u64 0)]) := by
      rw [hxs, List.getElem?_map, hr]; rfl
    rw [List.getElem?_map, Option.map_eq_some_iff] at hxi
    obtain ⟨⟨d, pp⟩, hxe, rfl⟩ := hxi
    rw [hxe] at hi
    have hz := ints_of_struct (zs := [(V : Int), 0]) Tryz.underlying159 (by
      intro i f hf
      rcases i with _ | _ | i
      · simp at hf; subst hf; exact ⟨Tryz.underlying39, rfl, cU64⟩
      · simp at hf; subst hf; exact ⟨Tryz.underlying39, rfl, cU64⟩
      · simp at hf) (by kernel_rfl) hi
    have c0 := congrArg (·[0]?) hz
    have c1 := congrArg (·[1]?) hz
    simp only [List.getElem?_take, List.getElem?_drop] at c0 c1
    simp at c0 c1
    refine ⟨(World.var?_cell hg hv _).trans ?_, (World.var?_cell hg hv _).trans ?_⟩
    · exact c0
    · exact c1
  · obtain ⟨g, t, cs, fuel, p, hg, ht, hv, hd⟩ := laidMet.reads h (n := "internal/strconv.uint64pow10") (d := Rows.laid_internal_strconv_uint64pow10) (.tail _ (.tail _ (.tail _ (.head _))))
    obtain rfl := Option.some.inj (gP10.symm.trans hg)
    obtain rfl := Option.some.inj (tP10.symm.trans ht)
    have hz := cells_of_tab (zs := [1, 10, 100, 1000, 10000, 100000, 1000000, 10000000, 100000000, 1000000000, 10000000000, 100000000000, 1000000000000, 10000000000000, 100000000000000, 1000000000000000, 10000000000000000, 100000000000000000, 1000000000000000000, 10000000000000000000]) Tryz.underlying147 Tryz.underlying39 cU64 cTab20 hd
    intro i hi
    have ha := tab_at ⟨i, hi⟩
    simp only at ha
    refine (World.var?_cell hg hv _).trans ?_
    rw [← ha]
    have : cs.toList[i]? = (_ : List Value)[i]? := congrArg (·[i]?) hz
    rw [Array.getElem?_toList] at this
    rw [this]
    rw [List.getElem?_map, List.getD_eq_getElem?_getD]
    rw [List.getElem?_eq_getElem (by simpa using hi)]
    rfl
end Go.Proofs.YtbodfdmmfaampaaGreatDoor

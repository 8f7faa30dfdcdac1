/-
  How an argument that is a list of keys is read; what the bound on what is read gives.
-/
import Derived.Test.YtkbjakadngnokaaK1
import Derived.Deep.SlicePairs
import Derived.ProofKit
import Derived.OpenShut
import Derived.JoinedCond
import Derived.Carry
namespace Go.Proofs.Ytkbjakadngnokaa
open Go.RowKit Go.Shelf Go.Lib Go.Sort Go.Proofs Go.ChangeShapes Go.WideShapes Go.ChangeAt
set_option maxHeartbeats 400000
set_option maxRecDepth 8000

theorem Try.laidOut : laidOutB Try.prog = true := by kernel_rfl
theorem cellsKey : Try.prog.cellsOf 29 = 2 := by kernel_rfl
theorem cellsStr : Try.prog.cellsOf 27 = 1 := by kernel_rfl
theorem cellsInt : Try.prog.cellsOf 3 = 1 := by kernel_rfl
theorem cellsStrs : Try.prog.cellsOf 33 = 1 := by kernel_rfl
theorem bulk_small {H : Type} {ds : List (DataW H)} (hk : Rows.uptoSmall H ds = true) : Rows.uptoBulkAll ds ≤ 1048576 := of_decide_eq_true hk
theorem bulk_part {H : Type} {d : DataW H} {l : List (DataW H)} (h : d ∈ l) : Rows.uptoBulk d ≤ Rows.uptoBulkAll l := by
  induction l with
  | nil => cases h
  | cons x r ih =>
    simp only [Rows.uptoBulkAll]
    rcases List.mem_cons.1 h with rfl | e
    · omega
    · have := ih e; omega
theorem bulk_keys {H : Type} (q : Nat → KK) (D0 D1 : Nat → DataW H) (is : List Nat) (h : ∀ i ∈ is, D0 i = .lit (.string (q i).1.data.toList)) :
    is.length + (is.map fun i => (q i).1.size).sum ≤ Rows.uptoBulkAll (is.map fun i => .agg [D0 i, D1 i]) := by
  induction is with
  | nil => simp
  | cons i is ih =>
    have h1 := ih (fun j hj => h j (by simp [hj]))
    have h2 := h i (by simp)
    have h3 : (q i).1.data.toList.length = (q i).1.size := rfl
    simp only [List.map_cons, List.length_cons, List.sum_cons, Rows.uptoBulkAll, Rows.uptoBulk, h2]
    omega
theorem keys_open {H : Type} {enc : TypeId × Value → H} {W : World} {base : Nat} {v : Value} {d : DataW H} {p : List MemPlace} (hok : Value.okWide Try.prog W .any base 22 v) (h : DataW.Trod enc Try.prog W 0 (fun _ => true) true 22 v d p) (hb : Rows.uptoBulk d ≤ 1048576) :
    ∃ l : List KK, RdK W v l ∧ fewN l ≤ 1048576 := by
  obtain ⟨a0, len0, cap0, rfl⟩ := okWide_slice Try.underlying22 hok
  obtain ⟨fuel, hf⟩ := h
  rcases Go.Deep.open_slice_pairs Try.underlying22 Try.underlying29 cellsKey rfl rfl cellsStr cellsInt hf with ⟨hcs, hx⟩ | ⟨a, len, cap, m, n, V0, V1, D0, D1, P0, P1, hcs, hba, hlc, hcm, hm, hx, hcell⟩
  · simp [Value.cells] at hcs
    obtain ⟨rfl, rfl, rfl⟩ := hcs
    exact ⟨[], .inl ⟨rfl, rfl⟩, by simp [fewN]⟩
  · simp [Value.cells] at hcs
    obtain ⟨rfl, rfl, rfl⟩ := hcs
    have each : ∀ i, i < len0 → ∃ q : KK, V0 i = .string q.1 ∧ V1 i = .int .i64 q.2 ∧ D0 i = .lit (.string q.1.data.toList) := by
      intro i hi
      obtain ⟨c0, c1, t0, t1⟩ := hcell i (by rw [hm]; split <;> omega)
      obtain ⟨s, e1, e2, _⟩ := DataW.trod_string Try.underlying27 t0
      obtain ⟨z, e3, e4, _⟩ := DataW.trod_int Try.underlying3 t1
      exact ⟨(s, z), by simpa using e1, by simpa using e3, congrArg Prod.fst e2⟩
    obtain ⟨q, hq⟩ := Go.Deep.choose_lt each
    have hl : ((List.range len0).map q).length = len0 := by simp
    refine ⟨(List.range len0).map q, .inr ⟨a, cap0, by rw [hl], by rw [hl]; exact hlc, ?_⟩, ?_⟩
    · intro k x hx
      have hk : k < len0 := by have := (List.getElem?_eq_some_iff.1 hx).1; simpa using this
      have hxe : q k = x := by simpa [hk] using hx
      obtain ⟨c0, c1, _, _⟩ := hcell k (by rw [hm]; split <;> omega)
      obtain ⟨e0, e1, _⟩ := hq k hk
      obtain ⟨d0, _, _, _⟩ := hcell 0 (by rw [hm]; split <;> omega)
      have hsp : a.spot = none := by
        have h00 : a.add (0 * 2) = a := by simp [Addr.add]
        rw [h00] at d0
        unfold World.cell? at d0
        cases hs : a.spot with
        | none => rfl
        | some z =>
          rw [hs] at d0
          cases hh : W.heap[a.block]? with
          | none => simp [hh] at d0
          | some o => cases o <;> simp [hh] at d0
      have hadd : ∀ j, a.add j = ⟨a.block, a.off + j, none⟩ := by
        intro j
        unfold Addr.add
        split
        · rename_i h0; subst h0; rw [← hsp]; simp
        · rfl
      rw [hadd, e0, hxe] at c0
      rw [hadd, e1, hxe] at c1
      exact ⟨hsp, c0, by rw [Nat.add_assoc]; exact c1⟩
    · have h1 := bulk_keys q D0 D1 (List.range len0) (fun i hi => (hq i (List.mem_range.1 hi)).2.2)
      have h2 : d = _ := congrArg Prod.fst hx
      rw [h2] at hb
      simp only [Rows.uptoBulk] at hb
      have h3 : fewN ((List.range len0).map q) = (List.range len0).length + ((List.range len0).map fun i => (q i).1.size).sum := by
        unfold fewN
        rw [List.length_map, List.map_map]; rfl
      omega
end Go.Proofs.Ytkbjakadngnokaa

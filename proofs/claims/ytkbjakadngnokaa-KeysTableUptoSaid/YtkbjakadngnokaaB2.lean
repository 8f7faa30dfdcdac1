/-
  How an argument that is a list of texts is read, and one that is a key.
-/
import Derived.Test.YtkbjakadngnokaaB1
import Derived.Test.YtkbjakadngnokaaW3
import Derived.Lib.SmallJoins
namespace Go.Proofs.Ytkbjakadngnokaa
open Go.RowKit Go.Shelf Go.Lib Go.Sort Go.Proofs Go.ChangeShapes Go.WideShapes Go.ChangeAt
set_option maxHeartbeats 400000
set_option maxRecDepth 8000

theorem bulk_strs {H : Type} (q : Nat → ByteArray) (D : Nat → DataW H) (is : List Nat) (h : ∀ i ∈ is, D i = .lit (.string (q i).data.toList)) :
    is.length + (is.map fun i => (q i).size).sum ≤ Rows.uptoBulkAll (is.map D) := by
  induction is with
  | nil => simp
  | cons i is ih =>
    have h1 := ih (fun j hj => h j (by simp [hj]))
    have h2 := h i (by simp)
    have h3 : (q i).data.toList.length = (q i).size := rfl
    simp only [List.map_cons, List.length_cons, List.sum_cons, Rows.uptoBulkAll, Rows.uptoBulk, h2]
    omega
theorem strs_open {H : Type} {enc : TypeId × Value → H} {W : World} {base : Nat} {v : Value} {d : DataW H} {p : List MemPlace} (hok : Value.okWide Try.prog W .any base 33 v) (h : DataW.Trod enc Try.prog W 0 (fun _ => true) true 33 v d p) (hb : Rows.uptoBulk d ≤ 1048576) :
    ∃ l : List ByteArray, RdS W v l ∧ l.length + (l.map ByteArray.size).sum ≤ 1048576 := by
  obtain ⟨a0, len0, cap0, rfl⟩ := okWide_slice Try.underlying33 hok
  obtain ⟨fuel, hf⟩ := h
  rcases Go.Deep.open_slice1 Try.underlying33 cellsStr hf with ⟨hcs, hx⟩ | ⟨a, len, cap, m, n, V, D, Pl, hcs, hba, hlc, hcm, hm, hx, hcell⟩
  · simp [Value.cells] at hcs
    obtain ⟨rfl, rfl, rfl⟩ := hcs
    exact ⟨[], .inl ⟨rfl, rfl⟩, by simp⟩
  · simp [Value.cells] at hcs
    obtain ⟨rfl, rfl, rfl⟩ := hcs
    have each : ∀ i, i < len0 → ∃ q : ByteArray, V i = .string q ∧ D i = .lit (.string q.data.toList) := by
      intro i hi
      obtain ⟨c0, t0⟩ := hcell i (by rw [hm]; split <;> omega)
      obtain ⟨s, e1, e2, _⟩ := DataW.trod_string Try.underlying27 t0
      exact ⟨s, by simpa using e1, congrArg Prod.fst e2⟩
    obtain ⟨q, hq⟩ := Go.Deep.choose_lt each
    have hl : ((List.range len0).map q).length = len0 := by simp
    refine ⟨(List.range len0).map q, .inr ⟨a, cap0, by rw [hl], by rw [hl]; exact hlc, ?_⟩, ?_⟩
    · intro k x hx
      have hk : k < len0 := by have := (List.getElem?_eq_some_iff.1 hx).1; simpa using this
      have hxe : q k = x := by simpa [hk] using hx
      obtain ⟨c0, _⟩ := hcell k (by rw [hm]; split <;> omega)
      obtain ⟨e0, _⟩ := hq k hk
      obtain ⟨d0, _⟩ := hcell 0 (by rw [hm]; split <;> omega)
      have hsp : a.spot = none := by
        have h00 : a.add 0 = a := by simp [Addr.add]
        rw [h00] at d0
        unfold World.cell? at d0
        cases hs : a.spot with
        | none => rfl
        | some z =>
          rw [hs] at d0
          cases hh : W.heap[a.block]? with
          | none => simp [hh] at d0
          | some o => cases o <;> simp [hh] at d0
      have hadd : ∀ j, a.add j = ⟨a.block, a.off + j, none⟩ := by
        intro j
        unfold Addr.add
        split
        · rename_i h0; subst h0; rw [← hsp]; simp
        · rfl
      rw [hadd, e0, hxe] at c0
      exact ⟨hsp, c0⟩
    · have h1 := bulk_strs q D (List.range len0) (fun i hi => (hq i (List.mem_range.1 hi)).2)
      have h2 : d = _ := congrArg Prod.fst hx
      rw [h2] at hb
      simp only [Rows.uptoBulk] at hb
      rw [List.length_map, List.map_map]
      have h3 : (List.map (ByteArray.size ∘ q) (List.range len0)).sum = ((List.range len0).map fun i => (q i).size).sum := rfl
      omega
theorem key_open2 {H : Type} {enc : TypeId × Value → H} {W : World} {base : Nat} {v : Value} {d : DataW H} {p : List MemPlace} (hok : Value.okWide Try.prog W .any base 29 v) (h : DataW.Trod enc Try.prog W 0 (fun _ => true) true 29 v d p) :
    ∃ x : KK, v = .agg #[.string x.1, .int .i64 x.2] ∧ x.1.size + 3 ≤ Rows.uptoBulk d := by
  obtain ⟨v0, v1, y0, y1, n, rfl, rfl, _, h0, h1⟩ := Go.Joins.open_agg2 Try.underlying29 (by kernel_rfl) cellsKey hok h
  obtain ⟨s, e1, e2, _⟩ := DataW.trod_string Try.underlying27 h0
  obtain ⟨z, e3, e4, _⟩ := DataW.trod_int Try.underlying3 h1
  simp at e1 e3
  subst e1; subst e3; subst e2; subst e4
  refine ⟨(s, z), rfl, ?_⟩
  have h3 : s.data.toList.length = s.size := rfl
  simp only [Rows.uptoBulk, Rows.uptoBulkAll]
  omega
end Go.Proofs.Ytkbjakadngnokaa

/-
  IterateKeys: all keys of an object, and its own, are told, of any objects; where what it reads is of bulk at most 1048576.
-/
import Derived.Test.YtoccmiinkfhohaaP20
namespace Go.Proofs.Ytoccmiinkfhohaa
open Go.RowKit Go.Shelf Go.Lib Go.Sort Go.Proofs Go.ChangeShapes Go.WideShapes Go.ChangeAt
set_option maxHeartbeats 1000000
set_option maxRecDepth 8000

theorem cellsOq : Try.prog.cellsOf 70 = 6 := by kernel_rfl
section
variable {H : Type} {enc : TypeId × Value → H} {w : World} {base : Nat} {spare : Nat → Bool} {held : Bool}
theorem oq_open {fuel : Nat} {cs : List Value} {x : DataW H × List MemPlace} (h : DataW.trod enc Try.prog w base spare held fuel 70 cs = some x) : ∃ z : OQ, cs = encQ z ∧ z.k.1.size + 1 ≤ Rows.uptoBulk x.1 ∧ (Lit.int .i64 z.k.2).wf = true := by
  obtain ⟨xs, n, _, rfl, hl, hlen, hf⟩ := DataW.trod_struct Try.underlying70 h
  rw [cellsOq] at hl
  match xs, hlen with
  | [y0, y1, y2, y3, y4], _ =>
    have h0 := hf 0 _ rfl
    have h1 := hf 1 _ rfl
    have h2 := hf 2 _ rfl
    have h3 := hf 3 _ rfl
    have h4 := hf 4 _ rfl
    match cs, hl with
    | [c0, c1, c2, c3, c4, c5], _ =>
      obtain ⟨a, e0, _, _⟩ := DataW.trod_int Try.underlying3 h0
      obtain ⟨b, e1, _, _⟩ := DataW.trod_int Try.underlying3 h1
      obtain ⟨c, e2, _, _⟩ := DataW.trod_int Try.underlying3 h2
      obtain ⟨k, e3, g3, hw⟩ := keyc_open h3
      obtain ⟨p, e4, _, _⟩ := DataW.trod_int Try.underlying3 h4
      simp [cellsInt, cellsKey] at e0 e1 e2 e3 e4
      subst e0 e1 e2 e4
      obtain ⟨rfl, rfl⟩ := e3
      refine ⟨⟨a, b, c, k, p⟩, rfl, ?_, hw⟩
      show k.1.size + 1 ≤ _
      simp only [List.map_cons, Rows.uptoBulk, Rows.uptoBulkAll]
      omega
theorem bulk_oqs (q : Nat → OQ) (D : Nat → DataW H) (is : List Nat) (h : ∀ i ∈ is, (q i).k.1.size + 1 ≤ Rows.uptoBulk (D i)) : (is.map fun i => (q i).k.1.size + 1).sum ≤ Rows.uptoBulkAll (is.map D) := by
  induction is with
  | nil => simp
  | cons i is ih =>
    have h1 := ih (fun j hj => h j (by simp [hj]))
    have h2 := h i (by simp)
    simp only [List.map_cons, List.sum_cons, Rows.uptoBulkAll]
    omega
end
theorem oqs_open {H : Type} {enc : TypeId × Value → H} {W : World} {base : Nat} {v : Value} {d : DataW H} {p : List MemPlace} (hok : Value.okWide Try.prog W .any base 67 v) (h : DataW.Trod enc Try.prog W 0 (fun _ => true) true 67 v d p) (hb : Rows.uptoBulk d ≤ 1048576) :
    ∃ l : List OQ, RdQ W v l ∧ (l.map fun x => x.k.1.size + 1).sum ≤ 1048576 ∧ ∀ x ∈ l, okK x.k := by
  obtain ⟨a0, len0, cap0, rfl⟩ := okWide_slice Try.underlying67 hok
  obtain ⟨fuel, hf⟩ := h
  rcases Go.Deep.open_slice Try.underlying67 hf with ⟨hcs, hx⟩ | ⟨a, len, cap, m, n, D, Pl, hcs, hba, hlc, hcm, hm, hx, hcell⟩
  · simp [Value.cells] at hcs
    obtain ⟨rfl, rfl, rfl⟩ := hcs
    exact ⟨[], .inl ⟨rfl, rfl⟩, by simp, by simp⟩
  · simp [Value.cells] at hcs
    obtain ⟨rfl, rfl, rfl⟩ := hcs
    rw [cellsOq] at hcell
    have each : ∀ i, i < len0 → ∃ q : OQ, (∀ j u, (encQ q)[j]? = some u → W.cell? (a.add (i * 6 + j)) = some u) ∧ q.k.1.size + 1 ≤ Rows.uptoBulk (D i) ∧ (Lit.int .i64 q.k.2).wf = true := by
      intro i hi
      obtain ⟨cs', c0, t0⟩ := hcell i (by rw [hm]; split <;> omega)
      obtain ⟨q, rfl, g1, g2⟩ := oq_open t0
      obtain ⟨_, hl, hat⟩ := World.cells?_some c0
      refine ⟨q, fun j u hu => ?_, g1, g2⟩
      have hj : j < 6 := (List.getElem?_eq_some_iff.1 hu).1
      rw [← Go.Deep.add_add, hat j hj, hu]
    obtain ⟨q, hq⟩ := Go.Deep.choose_lt each
    have hl : ((List.range len0).map q).length = len0 := by simp
    have hbk := bulk_oqs q D (List.range len0) (fun i hi => (hq i (List.mem_range.1 hi)).2.1)
    have hd : d = _ := congrArg Prod.fst hx
    rw [hd] at hb
    simp only [Rows.uptoBulk] at hb
    have hsum : (((List.range len0).map q).map fun x => x.k.1.size + 1).sum ≤ 1048576 := by
      rw [List.map_map]
      have : ((fun x : OQ => x.k.1.size + 1) ∘ q) = fun i => (q i).k.1.size + 1 := rfl
      rw [this]
      omega
    refine ⟨(List.range len0).map q, .inr ⟨a, cap0, by rw [hl], by rw [hl]; exact hlc, ?_⟩, hsum, ?_⟩
    · intro k x hx
      have hk : k < len0 := by have := (List.getElem?_eq_some_iff.1 hx).1; simpa using this
      have hxe : q k = x := by simpa [hk] using hx
      obtain ⟨e0, _⟩ := hq k hk
      obtain ⟨d0, _⟩ := hq 0 (by omega)
      have hsp : a.spot = none := by
        have d1 := d0 0 _ rfl
        have h00 : a.add (0 * 6 + 0) = a := by simp [Addr.add]
        rw [h00] at d1
        unfold World.cell? at d1
        cases hs : a.spot with
        | none => rfl
        | some z =>
          rw [hs] at d1
          cases hh : W.heap[a.block]? with
          | none => simp [hh] at d1
          | some o => cases o <;> simp [hh] at d1
      have hadd : ∀ j, a.add j = ⟨a.block, a.off + j, none⟩ := by
        intro j
        unfold Addr.add
        split
        · rename_i h0; subst h0; rw [← hsp]; simp
        · rfl
      refine ⟨hsp, fun j u hu => ?_⟩
      have := e0 j u (by rw [hxe]; exact hu)
      rw [hadd, ← Nat.add_assoc] at this
      exact this
    · intro x hx
      obtain ⟨i, hi, rfl⟩ := List.mem_map.1 hx
      have hi' := List.mem_range.1 hi
      obtain ⟨_, g1, g2⟩ := hq i hi'
      have hle : (q i).k.1.size + 1 ≤ (((List.range len0).map q).map fun x => x.k.1.size + 1).sum := mem_le_sum (List.mem_map.2 ⟨q i, hx, rfl⟩)
      exact ⟨by omega, g2⟩
theorem oqs_few {l : List OQ} (h : (l.map fun x => x.k.1.size + 1).sum ≤ 1048576) (hk : ∀ x ∈ l, okK x.k) : fewQ l l.length ≤ 4194304 ∧ ∀ x ∈ l, x.k.1.size ≤ 4194304 ∧ okK x.k := by
  have h1 : fewQ l l.length ≤ (l.map fun x => x.k.1.size + 1).sum := by
    unfold fewQ
    rw [List.take_length]
    clear h hk
    induction l with
    | nil => simp
    | cons a l ih =>
      simp only [List.map_cons, List.sum_cons, List.length_cons]
      unfold fewT at *
      omega
  refine ⟨by omega, fun x hx => ?_⟩
  have : x.k.1.size + 1 ≤ (l.map fun x => x.k.1.size + 1).sum := mem_le_sum (List.mem_map.2 ⟨x, hx, rfl⟩)
  exact ⟨by omega, hk x hx⟩
end Go.Proofs.Ytoccmiinkfhohaa
namespace Go.Proofs.Ytoccmiinkfhohaa.iterateKeys
open Go.ChangeShapes Go.WideShapes Go.ChangeAt Go.RowKit
set_option linter.unusedVariables false

theorem own : ownKnob Try.prog.godebug = none := by kernel_rfl
set_option maxRecDepth 100000 in
theorem contract (H : Type) (enc : TypeId × Value → H) (W : World) (base : Nat) (args : Array Value) (ds gs : List (DataW H)) (before : List MemPlace)
    (hval : ∀ (j : Nat) t v, Try.f6.params[j]? = some t → args[j]? = some v → Value.okWide Try.prog W .any base t v)
    (hW : DataW.Whole enc Try.prog Try.f6.params.toList Rows.iterateKeysSpec.vars false W args.toList ds gs before) (hk : Rows.uptoSmall H (ds ++ gs) = true) :
    Calls Try.prog 6 args W fun e W' => ∃ v, e = .returned v ∧ Rows.iterateKeysSpec.post enc Try.prog Try.f6 false true false false W args v W' := by
  have hW' := hW
  obtain ⟨p, q, hA0, hV, rfl, hfz, hnd⟩ := hW
  have hA : DataW.TrodAll enc Try.prog W 0 (fun _ => true) true Try.f6.params.toList args.toList ds p := hA0
  rw [Try.params6] at hA hval
  obtain ⟨v0, vs0, d0, ds0, p0, q0, hargs, rfl, rfl, h0, r0⟩ := trodAll_cons hA
  obtain ⟨v1, vs1, d1, ds1, p1, q1, rfl, rfl, rfl, h1, r1⟩ := trodAll_cons r0
  obtain ⟨rfl, rfl, rfl⟩ := trodAll_nil r1
  obtain rfl : args = #[v0, v1] := by cases args; simp_all
  obtain ⟨rfl, rfl⟩ := trodVars_none hV
  have hb := bulk_small hk
  simp only [List.append_nil] at hW' hb
  obtain ⟨z0, rfl⟩ := okWide_int Try.underlying3 (hval 1 3 v1 rfl rfl)
  obtain ⟨l1, hr1, hs1, ho1⟩ := oqs_open (hval 0 67 v0 rfl rfl) h0 (Nat.le_trans (bulk_part (by simp)) hb)
  obtain ⟨hf1, hg1⟩ := oqs_few hs1 ho1
  have hlt0 : ∀ x ∈ p0, x.block < W.heap.size := fun x hx => by simpa using hW'.lt x (by simp [hx])
  have hlt1 : ∀ x ∈ p1, x.block < W.heap.size := fun x hx => by simpa using hW'.lt x (by simp [hx])
  clear hA0
  refine (c_IterateKeys v0 l1 hf1 hg1 z0 W hr1).mono fun e W' ⟨he, hg⟩ => ?_
  subst he
  exact ⟨_, rfl, [d0, d1], [], _, [], p0 ++ (p1 ++ ([])), [], by simpa using hW', trodAll_mk1 (shut_bool Try.underlying4 _), trodAll_cons_mk (Below.trod laidOut (by kernel_rfl) (of_decide_eq_true (by kernel_rfl)) h0 hg hlt0) (trodAll_cons_mk (Below.trod laidOut (by kernel_rfl) (of_decide_eq_true (by kernel_rfl)) h1 hg hlt1) trodAll_mk0), rfl, hg.frame _, fun h => by cases h⟩
set_option maxRecDepth 100000 in
theorem lifted (os : Os) (started : os.Started) (H : Type) (enc : TypeId × Value → H) (F : Stop.Interp) :
    ReturnsInHanded {} Try.checked os 6 .any ((Rows.OpenSpec.upto Rows.iterateKeysSpec).pre6 enc Try.prog Try.f6 Rows.iterateKeysUptoRow.domain false) (((Rows.OpenSpec.upto Rows.iterateKeysSpec).at F).post enc Try.prog Try.f6 false true false false) := by
  refine returnsInHanded_of_cond (C := Try.checked) (s := Rows.OpenSpec.upto Rows.iterateKeysSpec) (k := Rows.uptoSmall) rfl own started (by kernel_rfl) Try.func6
    (OpenSpec.witness (enc := enc) (C := Try.checked) (s := Rows.OpenSpec.upto Rows.iterateKeysSpec) (k := Rows.uptoSmall) rfl false ⟨#[], #[.slice none 0 0, .int .i64 0], []⟩ 8 (by kernel_rfl) (by kernel_rfl) (by kernel_rfl)
      (x := ([.nil, .lit (.int .i64 0)], [], [])) (by kernel_rfl) rfl (by kernel_rfl)) ?_
  intro W base args ds gs before hval hW _ hk _
  exact contract H enc W base args ds gs before hval hW hk
theorem over : Rows.iterateKeysUptoRow.holds Try.pinned (Rows.OpenSpec.upto Rows.iterateKeysSpec) :=
  OpenClaim.holds_of_cond 6 Try.f6 rfl rfl rfl rfl rfl rfl rfl ⟨rfl, rfl, rfl, rfl, rfl⟩ rfl rfl rfl rfl rfl (by kernel_rfl) Try.func6 (by kernel_rfl)
    (of_decide_eq_true (by kernel_rfl)) (by unfold Func.isWrapper; first | (rw [if_pos (by decide +kernel)]; kernel_rfl) | (rw [if_neg (by decide +kernel)]; exact ⟨rfl, rfl⟩))
    (fun os started H enc _ F => lifted os started H enc F)
theorem proved : Rows.IterateKeysUptoSaid :=
  over
end Go.Proofs.Ytoccmiinkfhohaa.iterateKeys

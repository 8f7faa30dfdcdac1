/-
  HeapDoes: objects with any properties that are laid, changed, dropped, in any order and mode, tell just what the document says; where what it reads is of bulk at most 1048576.
-/
import Derived.Test.YtoccmiinkfhohaaGreatP14
import Derived.Test.YtoccmiinkfhohaaGreatRows
import Derived.Deep.SlicePairs
import Derived.ProofKit
import Derived.OpenShut
import Derived.JoinedCond
import Derived.Carry
import Derived.Lib.SmallJoins
import Derived.Test.YtoccmiinkfhohaaGreatP15
namespace Go.Proofs.YtoccmiinkfhohaaGreat
open Go.RowKit Go.Shelf Go.Lib Go.Sort Go.Proofs Go.ChangeShapes Go.WideShapes Go.ChangeAt
set_option maxHeartbeats 1000000
set_option maxRecDepth 8000

theorem bulk_small {H : Type} {ds : List (DataW H)} (hk : Rows.uptoSmall H ds = true) : Rows.uptoBulkAll ds ≤ 1048576 := of_decide_eq_true hk
theorem bulk_part {H : Type} {d : DataW H} {l : List (DataW H)} (h : d ∈ l) : Rows.uptoBulk d ≤ Rows.uptoBulkAll l := by
  induction l with
  | nil => cases h
  | cons x r ih =>
    simp only [Rows.uptoBulkAll]
    rcases List.mem_cons.1 h with rfl | e
    · omega
    · have := ih e; omega
theorem cellsOp : Tryz.prog.cellsOf 38 = 18 := by kernel_rfl
theorem cellsValue : Tryz.prog.cellsOf 34 = 4 := by kernel_rfl
theorem cellsProp : Tryz.prog.cellsOf 36 = 13 := by kernel_rfl
theorem cellsFloat : Tryz.prog.cellsOf 32 = 1 := by kernel_rfl
section
variable {H : Type} {enc : TypeId × Value → H} {P : Program} {w : World} {base : Nat} {spare : Nat → Bool} {held : Bool}
theorem trod_float5 {t : TypeId} {k : FloatKind} {fuel : Nat} {cs : List Value} {x : DataW H × List MemPlace} (ht : P.underlying t = some (.float k)) (h : DataW.trod enc P w base spare held fuel t cs = some x) : ∃ b, cs = [.float k b] ∧ x = (.lit (.float k b), []) := by
  cases fuel with
  | zero => simp [DataW.trod] at h
  | succ n =>
    unfold DataW.trod at h
    rw [ht] at h
    split at h <;> simp_all
end
section
variable {H : Type} {enc : TypeId × Value → H} {w : World} {base : Nat} {spare : Nat → Bool} {held : Bool}
def encV (v : VV) : List Value := [.int .i64 v.k, .float .f64 v.x, .string v.s, .int .i64 v.r]
theorem value_open {fuel : Nat} {cs : List Value} {x : DataW H × List MemPlace} (h : DataW.trod enc Tryz.prog w base spare held fuel 34 cs = some x) : ∃ v : VV, cs = encV v ∧ v.s.size ≤ Rows.uptoBulk x.1 := by
  obtain ⟨y0, y1, y2, y3, n, rfl, hl, h0, h1, h2, h3⟩ := Go.Joins.trod_struct4 Tryz.underlying34 h
  rw [cellsValue] at hl
  match cs, hl with
  | [c0, c1, c2, c3], _ =>
    obtain ⟨k, e0, _, _⟩ := DataW.trod_int Tryz.underlying3 h0
    obtain ⟨f, e1, _⟩ := trod_float5 Tryz.underlying32 h1
    obtain ⟨s, e2, g2, _⟩ := DataW.trod_string Tryz.underlying29 h2
    obtain ⟨r, e3, _, _⟩ := DataW.trod_int Tryz.underlying3 h3
    simp [cellsInt, cellsFloat, cellsStr] at e0 e1 e2 e3
    subst e0 e1 e2 e3
    refine ⟨⟨k, f, s, r⟩, rfl, ?_⟩
    have h3 : s.data.toList.length = s.size := rfl
    subst g2
    simp only [Rows.uptoBulk, Rows.uptoBulkAll]
    omega
theorem prop_open {fuel : Nat} {cs : List Value} {x : DataW H × List MemPlace} (h : DataW.trod enc Tryz.prog w base spare held fuel 36 cs = some x) : ∃ p : PV, cs = encP p ∧ p.v.s.size ≤ Rows.uptoBulk x.1 := by
  obtain ⟨y0, y1, y2, y3, n, rfl, hl, h0, h1, h2, h3⟩ := Go.Joins.trod_struct4 Tryz.underlying36 h
  rw [cellsProp] at hl
  match cs, hl with
  | [c0, c1, c2, c3, c4, c5, c6, c7, c8, c9, c10, c11, c12], _ =>
    obtain ⟨v, e0, g0⟩ := value_open h0
    obtain ⟨g, e1, _⟩ := value_open h1
    obtain ⟨t, e2, _⟩ := value_open h2
    obtain ⟨r, e3, _, _⟩ := DataW.trod_int Tryz.underlying3 h3
    simp [cellsValue, cellsInt, encV] at e0 e1 e2 e3
    obtain ⟨rfl, rfl, rfl, rfl⟩ := e0
    obtain ⟨rfl, rfl, rfl, rfl⟩ := e1
    obtain ⟨rfl, rfl, rfl, rfl⟩ := e2
    subst e3
    refine ⟨⟨v, g, t, r⟩, rfl, ?_⟩
    show v.s.size ≤ _
    simp only [Rows.uptoBulk, Rows.uptoBulkAll]
    omega
theorem keyc_open {fuel : Nat} {cs : List Value} {x : DataW H × List MemPlace} (h : DataW.trod enc Tryz.prog w base spare held fuel 31 cs = some x) : ∃ k : KK, cs = [.string k.1, .int .i64 k.2] ∧ k.1.size ≤ Rows.uptoBulk x.1 ∧ (Lit.int .i64 k.2).wf = true := by
  obtain ⟨y0, y1, n, rfl, hl, h0, h1⟩ := Go.ChangeShapes.trod_struct2 Tryz.underlying31 h
  rw [cellsKey] at hl
  match cs, hl with
  | [c0, c1], _ =>
    obtain ⟨s, e0, g0, _⟩ := DataW.trod_string Tryz.underlying29 h0
    obtain ⟨r, e1, _, hw⟩ := DataW.trod_int Tryz.underlying3 h1
    simp [cellsInt, cellsStr] at e0 e1
    subst e0 e1
    refine ⟨(s, r), rfl, ?_, hw⟩
    subst g0
    have h3 : s.data.toList.length = s.size := rfl
    simp only [Rows.uptoBulk, Rows.uptoBulkAll]
    show s.size ≤ _
    omega
theorem op_open {fuel : Nat} {cs : List Value} {x : DataW H × List MemPlace} (h : DataW.trod enc Tryz.prog w base spare held fuel 38 cs = some x) : ∃ z : OP, cs = encO z ∧ z.k.1.size + z.p.v.s.size + 1 ≤ Rows.uptoBulk x.1 ∧ (Lit.int .i64 z.k.2).wf = true := by
  obtain ⟨xs, n, _, rfl, hl, hlen, hf⟩ := DataW.trod_struct Tryz.underlying38 h
  rw [cellsOp] at hl
  match xs, hlen with
  | [y0, y1, y2, y3, y4], _ =>
    have h0 := hf 0 _ rfl
    have h1 := hf 1 _ rfl
    have h2 := hf 2 _ rfl
    have h3 := hf 3 _ rfl
    have h4 := hf 4 _ rfl
    match cs, hl with
    | [c0, c1, c2, c3, c4, c5, c6, c7, c8, c9, c10, c11, c12, c13, c14, c15, c16, c17], _ =>
      obtain ⟨a, e0, _, _⟩ := DataW.trod_int Tryz.underlying3 h0
      obtain ⟨b, e1, _, _⟩ := DataW.trod_int Tryz.underlying3 h1
      obtain ⟨c, e2, _, _⟩ := DataW.trod_int Tryz.underlying3 h2
      obtain ⟨k, e3, g3, hw⟩ := keyc_open h3
      obtain ⟨p, e4, g4⟩ := prop_open h4
      simp [cellsInt, cellsKey, cellsProp, encP] at e0 e1 e2 e3 e4
      subst e0 e1 e2
      obtain ⟨rfl, rfl⟩ := e3
      obtain ⟨rfl, rfl, rfl, rfl, rfl, rfl, rfl, rfl, rfl, rfl, rfl, rfl, rfl⟩ := e4
      refine ⟨⟨a, b, c, k, p⟩, rfl, ?_, hw⟩
      show k.1.size + p.v.s.size + 1 ≤ _
      simp only [List.map_cons, Rows.uptoBulk, Rows.uptoBulkAll]
      omega
theorem bulk_ops (q : Nat → OP) (D : Nat → DataW H) (is : List Nat) (h : ∀ i ∈ is, (q i).k.1.size + (q i).p.v.s.size + 1 ≤ Rows.uptoBulk (D i)) : (is.map fun i => (q i).k.1.size + (q i).p.v.s.size + 1).sum ≤ Rows.uptoBulkAll (is.map D) := by
  induction is with
  | nil => simp
  | cons i is ih =>
    have h1 := ih (fun j hj => h j (by simp [hj]))
    have h2 := h i (by simp)
    simp only [List.map_cons, List.sum_cons, Rows.uptoBulkAll]
    omega
end
theorem ops_open {H : Type} {enc : TypeId × Value → H} {W : World} {base : Nat} {v : Value} {d : DataW H} {p : List MemPlace} (hok : Value.okWide Tryz.prog W .any base 22 v) (h : DataW.Trod enc Tryz.prog W 0 (fun _ => true) true 22 v d p) (hb : Rows.uptoBulk d ≤ 1048576) :
    ∃ l : List OP, RdO W v l ∧ (l.map fun x => x.k.1.size + x.p.v.s.size + 1).sum ≤ 1048576 ∧ ∀ x ∈ l, okK x.k := by
  obtain ⟨a0, len0, cap0, rfl⟩ := okWide_slice Tryz.underlying22 hok
  obtain ⟨fuel, hf⟩ := h
  rcases Go.Deep.open_slice Tryz.underlying22 hf with ⟨hcs, hx⟩ | ⟨a, len, cap, m, n, D, Pl, hcs, hba, hlc, hcm, hm, hx, hcell⟩
  · simp [Value.cells] at hcs
    obtain ⟨rfl, rfl, rfl⟩ := hcs
    exact ⟨[], .inl ⟨rfl, rfl⟩, by simp, by simp⟩
  · simp [Value.cells] at hcs
    obtain ⟨rfl, rfl, rfl⟩ := hcs
    rw [cellsOp] at hcell
    have each : ∀ i, i < len0 → ∃ q : OP, (∀ j u, (encO q)[j]? = some u → W.cell? (a.add (i * 18 + j)) = some u) ∧ q.k.1.size + q.p.v.s.size + 1 ≤ Rows.uptoBulk (D i) ∧ (Lit.int .i64 q.k.2).wf = true := by
      intro i hi
      obtain ⟨cs', c0, t0⟩ := hcell i (by rw [hm]; split <;> omega)
      obtain ⟨q, rfl, g1, g2⟩ := op_open t0
      obtain ⟨_, hl, hat⟩ := World.cells?_some c0
      refine ⟨q, fun j u hu => ?_, g1, g2⟩
      have hj : j < 18 := (List.getElem?_eq_some_iff.1 hu).1
      rw [← Go.Deep.add_add, hat j hj, hu]
    obtain ⟨q, hq⟩ := Go.Deep.choose_lt each
    have hl : ((List.range len0).map q).length = len0 := by simp
    have hbk := bulk_ops q D (List.range len0) (fun i hi => (hq i (List.mem_range.1 hi)).2.1)
    have hd : d = _ := congrArg Prod.fst hx
    rw [hd] at hb
    simp only [Rows.uptoBulk] at hb
    have hsum : (((List.range len0).map q).map fun x => x.k.1.size + x.p.v.s.size + 1).sum ≤ 1048576 := by
      rw [List.map_map]
      have : ((fun x : OP => x.k.1.size + x.p.v.s.size + 1) ∘ q) = fun i => (q i).k.1.size + (q i).p.v.s.size + 1 := rfl
      rw [this]
      omega
    refine ⟨(List.range len0).map q, .inr ⟨a, cap0, by rw [hl], by rw [hl]; exact hlc, ?_⟩, hsum, ?_⟩
    · intro k x hx
      have hk : k < len0 := by have := (List.getElem?_eq_some_iff.1 hx).1; simpa using this
      have hxe : q k = x := by simpa [hk] using hx
      obtain ⟨e0, _⟩ := hq k hk
      obtain ⟨d0, _⟩ := hq 0 (by omega)
      have hsp : a.spot = none := by
        have d1 := d0 0 _ rfl
        have h00 : a.add (0 * 18 + 0) = a := by simp [Addr.add]
        rw [h00] at d1
        unfold World.cell? at d1
        cases hs : a.spot with
        | none => rfl
        | some z =>
          rw [hs] at d1
          cases hh : W.heap[a.block]? with
          | none => simp [hh] at d1
          | some o => cases o <;> simp [hh] at d1
      have hadd : ∀ j, a.add j = ⟨a.block, a.off + j, none⟩ := by
        intro j
        unfold Addr.add
        split
        · rename_i h0; subst h0; rw [← hsp]; simp
        · rfl
      refine ⟨hsp, fun j u hu => ?_⟩
      have := e0 j u (by rw [hxe]; exact hu)
      rw [hadd, ← Nat.add_assoc] at this
      exact this
    · intro x hx
      obtain ⟨i, hi, rfl⟩ := List.mem_map.1 hx
      have hi' := List.mem_range.1 hi
      obtain ⟨_, g1, g2⟩ := hq i hi'
      have hle : (q i).k.1.size + (q i).p.v.s.size + 1 ≤ (((List.range len0).map q).map fun x => x.k.1.size + x.p.v.s.size + 1).sum := mem_le_sum (List.mem_map.2 ⟨q i, hx, rfl⟩)
      exact ⟨by omega, g2⟩
theorem key_open5 {H : Type} {enc : TypeId × Value → H} {W : World} {base : Nat} {v : Value} {d : DataW H} {p : List MemPlace} (hok : Value.okWide Tryz.prog W .any base 31 v) (h : DataW.Trod enc Tryz.prog W 0 (fun _ => true) true 31 v d p) :
    ∃ x : KK, v = keyV x.1 x.2 := by
  obtain ⟨v0, v1, y0, y1, n, rfl, rfl, _, h0, h1⟩ := Go.Joins.open_agg2 Tryz.underlying31 (by kernel_rfl) cellsKey hok h
  obtain ⟨s, e1, e2, _⟩ := DataW.trod_string Tryz.underlying29 h0
  obtain ⟨z, e3, e4, _⟩ := DataW.trod_int Tryz.underlying3 h1
  simp at e1 e3
  subst e1; subst e3
  exact ⟨(s, z), rfl⟩
theorem ops_few {l : List OP} (h : (l.map fun x => x.k.1.size + x.p.v.s.size + 1).sum ≤ 1048576) (hk : ∀ x ∈ l, okK x.k) : fewO l l.length ≤ 4194304 ∧ ∀ x ∈ l, (x.k.1.size ≤ 4194304 ∧ x.p.v.s.size ≤ 4194304) ∧ okK x.k := by
  have h1 : fewO l l.length ≤ (l.map fun x => x.k.1.size + x.p.v.s.size + 1).sum := by
    unfold fewO
    rw [List.take_length]
    clear h hk
    induction l with
    | nil => simp
    | cons a l ih =>
      simp only [List.map_cons, List.sum_cons, List.length_cons]
      unfold fewS at *
      omega
  refine ⟨by omega, fun x hx => ?_⟩
  have : x.k.1.size + x.p.v.s.size + 1 ≤ (l.map fun x => x.k.1.size + x.p.v.s.size + 1).sum := mem_le_sum (List.mem_map.2 ⟨x, hx, rfl⟩)
  exact ⟨⟨by omega, by omega⟩, hk x hx⟩
end Go.Proofs.YtoccmiinkfhohaaGreat
namespace Go.Proofs.YtoccmiinkfhohaaGreat.heapDoes
open Go.ChangeShapes Go.WideShapes Go.ChangeAt Go.RowKit
set_option linter.unusedVariables false

theorem own : ownKnob Tryz.prog.godebug = none := by kernel_rfl
set_option maxRecDepth 100000 in
theorem contract (H : Type) (enc : TypeId × Value → H) (W : World) (base : Nat) (args : Array Value) (ds gs : List (DataW H)) (before : List MemPlace)
    (hval : ∀ (j : Nat) t v, Tryz.f3.params[j]? = some t → args[j]? = some v → Value.okWide Tryz.prog W .any base t v)
    (hW : DataW.Whole enc Tryz.prog Tryz.f3.params.toList Rows.heapDoesSpec.vars false W args.toList ds gs before) (hk : Rows.uptoSmall H (ds ++ gs) = true) :
    Calls Tryz.prog 3 args W fun e W' => ∃ v, e = .returned v ∧ Rows.heapDoesSpec.post enc Tryz.prog Tryz.f3 false true false false W args v W' := by
  have hW' := hW
  obtain ⟨p, q, hA0, hV, rfl, hfz, hnd⟩ := hW
  have hA : DataW.TrodAll enc Tryz.prog W 0 (fun _ => true) true Tryz.f3.params.toList args.toList ds p := hA0
  rw [Tryz.params3] at hA hval
  obtain ⟨v0, vs0, d0, ds0, p0, q0, hargs, rfl, rfl, h0, r0⟩ := trodAll_cons hA
  obtain ⟨v1, vs1, d1, ds1, p1, q1, rfl, rfl, rfl, h1, r1⟩ := trodAll_cons r0
  obtain ⟨rfl, rfl, rfl⟩ := trodAll_nil r1
  obtain rfl : args = #[v0, v1] := by cases args; simp_all
  obtain ⟨rfl, rfl⟩ := trodVars_none hV
  have hb := bulk_small hk
  simp only [List.append_nil] at hW' hb
  obtain ⟨z0, rfl⟩ := okWide_int Tryz.underlying3 (hval 0 3 v0 rfl rfl)
  obtain ⟨l1, hr1, hs1, ho1⟩ := ops_open (hval 1 22 v1 rfl rfl) h1 (Nat.le_trans (bulk_part (by simp)) hb)
  obtain ⟨hf1, hg1⟩ := ops_few hs1 ho1
  have hlt0 : ∀ x ∈ p0, x.block < W.heap.size := fun x hx => by simpa using hW'.lt x (by simp [hx])
  have hlt1 : ∀ x ∈ p1, x.block < W.heap.size := fun x hx => by simpa using hW'.lt x (by simp [hx])
  clear hA0
  refine (c_HeapDoes z0 v1 l1 hf1 hg1 W hr1).mono fun e W' ⟨he, hg⟩ => ?_
  subst he
  exact ⟨_, rfl, [d0, d1], [], _, [], p0 ++ (p1 ++ ([])), [], by simpa using hW', trodAll_mk1 (shut_bool Tryz.underlying4 _), trodAll_cons_mk (Below.trod laidOut (by kernel_rfl) (of_decide_eq_true (by kernel_rfl)) h0 hg hlt0) (trodAll_cons_mk (Below.trod laidOut (by kernel_rfl) (of_decide_eq_true (by kernel_rfl)) h1 hg hlt1) trodAll_mk0), rfl, hg.frame _, fun h => by cases h⟩
set_option maxRecDepth 100000 in
theorem lifted (os : Os) (started : os.Started) (H : Type) (enc : TypeId × Value → H) (F : Stop.Interp) :
    ReturnsInHanded {} Tryz.checked os 3 .any ((Rows.OpenSpec.upto Rows.heapDoesSpec).pre6 enc Tryz.prog Tryz.f3 Rows.heapDoesUptoRow.domain false) (((Rows.OpenSpec.upto Rows.heapDoesSpec).at F).post enc Tryz.prog Tryz.f3 false true false false) := by
  refine returnsInHanded_of_cond (C := Tryz.checked) (s := Rows.OpenSpec.upto Rows.heapDoesSpec) (k := Rows.uptoSmall) rfl own started (by kernel_rfl) Tryz.func3
    (OpenSpec.witness (enc := enc) (C := Tryz.checked) (s := Rows.OpenSpec.upto Rows.heapDoesSpec) (k := Rows.uptoSmall) rfl false ⟨#[], #[.int .i64 0, .slice none 0 0], []⟩ 8 (by kernel_rfl) (by kernel_rfl) (by kernel_rfl)
      (x := ([.lit (.int .i64 0), .nil], [], [])) (by kernel_rfl) rfl (by kernel_rfl)) ?_
  intro W base args ds gs before hval hW _ hk _
  exact contract H enc W base args ds gs before hval hW hk
theorem over : Rows.heapDoesUptoRow.holds Tryz.pinned (Rows.OpenSpec.upto Rows.heapDoesSpec) :=
  OpenClaim.holds_of_cond 3 Tryz.f3 rfl rfl rfl rfl rfl rfl rfl ⟨rfl, rfl, rfl, rfl, rfl⟩ rfl rfl rfl rfl rfl (by kernel_rfl) Tryz.func3 (by kernel_rfl)
    (of_decide_eq_true (by kernel_rfl)) (by unfold Func.isWrapper; first | (rw [if_pos (by decide +kernel)]; kernel_rfl) | (rw [if_neg (by decide +kernel)]; exact ⟨rfl, rfl⟩))
    (fun os started H enc _ F => lifted os started H enc F)
theorem proved : Rows.HeapDoesUptoSaid :=
  over
end Go.Proofs.YtoccmiinkfhohaaGreat.heapDoes

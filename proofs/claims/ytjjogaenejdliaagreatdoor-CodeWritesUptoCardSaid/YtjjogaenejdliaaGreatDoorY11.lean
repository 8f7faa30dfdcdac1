/-
  Contracts: What the row's conditions say: an argument of bytes is read; the table of blanks. Plain: a module's bytes are few; what is written of a good module is read again as one that is written alike. How an argument that is a module is read. The reference's writer, by values: its num, flag, text. The reference's Args.
-/
import Derived.Test.YtjjogaenejdliaaGreatDoorY10
import Derived.Test.YtjjogaenejdliaaGreatDoorRows
import Derived.Lib.LaidU8
import Derived.OpenShut
import Derived.MakeChecks
import Derived.Deep.SlicePairs
import Derived.ProofKit
import Derived.JoinedCond
import Derived.Carry
import Derived.Lib.SmallJoins
import Derived.Test.YtjjogaenejdliaaGreatDoorY9
namespace Go.Proofs.YtjjogaenejdliaaGreatDoor
open Go.RowKit Go.Lib Go.Proofs Go.ChangeShapes Go.WideShapes Go.ChangeAt
set_option maxHeartbeats 1000000
set_option maxRecDepth 100000

theorem bulk_small {H : Type} {ds : List (DataW H)} (hk : Rows.uptoSmall H ds = true) : Rows.uptoBulkAll ds ≤ 1048576 := of_decide_eq_true hk
theorem bulk_part {H : Type} {d : DataW H} {l : List (DataW H)} (h : d ∈ l) : Rows.uptoBulk d ≤ Rows.uptoBulkAll l := by
  induction l with
  | nil => cases h
  | cons x r ih =>
    simp only [Rows.uptoBulkAll]
    rcases List.mem_cons.1 h with rfl | e
    · omega
    · have := ih e; omega
theorem laidOut : laidOutB Tryz.prog = true := by kernel_rfl
theorem cellsU8 : Tryz.prog.cellsOf 5 = 1 := by kernel_rfl
theorem add_spot {W : World} {a : Addr} {u : Value} (d0 : W.cell? a = some u) : a.spot = none := by
  unfold World.cell? at d0
  cases hs : a.spot with
  | none => rfl
  | some z =>
    rw [hs] at d0
    cases hh : W.heap[a.block]? with
    | none => simp [hh] at d0
    | some o => cases o <;> simp [hh] at d0
theorem add_eq {a : Addr} (hsp : a.spot = none) (k : Nat) : a.add k = ⟨a.block, a.off + k, none⟩ := by
  unfold Addr.add
  split
  · rename_i h0; subst h0; rw [← hsp]; simp
  · rfl
theorem ok_lt {W : World} {base : Nat} {t e : TypeId} {a : Addr} {len cap : Nat} (ht : Tryz.prog.underlying t = some (.slice e)) (h : Value.okWide Tryz.prog W .any base t (.slice (some a) len cap)) : a.block < W.heap.size := by
  simp only [Value.okWide, ht, Cell.okWide, Cell.ok] at h
  obtain ⟨_, _, _, _, row, cells, hs, _⟩ := h
  unfold World.shape? at hs
  cases hh : W.heap[a.block]? with
  | none => rw [hh] at hs; cases hs
  | some o => exact row_lt hh
theorem bytes_open {H : Type} {enc : TypeId × Value → H} {W : World} {base : Nat} {v : Value} {d : DataW H} {p : List MemPlace} (hok : Value.okWide Tryz.prog W .any base 27 v) (h : DataW.Trod enc Tryz.prog W 0 (fun _ => true) true 27 v d p) (h00 : 0 < W.heap.size) :
    ∃ (bs : List Nat) (bb : Nat), RdB W v bs ∧ Blk bb v ∧ bb < W.heap.size := by
  obtain ⟨a0, len0, cap0, rfl⟩ := okWide_slice Tryz.underlying27 hok
  have hok' := hok
  obtain ⟨fuel, hf⟩ := h
  rcases Go.Deep.open_slice Tryz.underlying27 hf with ⟨hcs, hx⟩ | ⟨a, len, cap, m, n, D, Pl, hcs, hba, hlc, hcm, hm, hx, hcell⟩
  · simp [Value.cells] at hcs
    obtain ⟨rfl, rfl, rfl⟩ := hcs
    exact ⟨[], 0, ⟨none, 0, rfl, by simp, by simp, fun k x hx => by simp at hx⟩, (fun p n c h => by cases h), h00⟩
  · simp [Value.cells] at hcs
    obtain ⟨rfl, rfl, rfl⟩ := hcs
    rw [cellsU8] at hcell
    have each : ∀ i, i < len0 → ∃ z : Nat, z < 256 ∧ W.cell? (a.add i) = some (.int .u8 (z : Int)) := by
      intro i hi
      obtain ⟨cs', c0, t0⟩ := hcell i (by rw [hm]; split <;> omega)
      obtain ⟨z, e0, _, hwf⟩ := DataW.trod_int Tryz.underlying5 t0
      subst e0
      obtain ⟨_, hl, hat⟩ := World.cells?_some c0
      have hz : 0 ≤ z ∧ z ≤ 255 := by
        simp [Lit.wf] at hwf
        exact hwf
      refine ⟨z.toNat, by omega, ?_⟩
      have := hat 0 (by simp)
      have h0 : ∀ q : Addr, q.add 0 = q := fun q => by simp [Addr.add]
      rw [h0, Nat.mul_one] at this
      rw [Int.toNat_of_nonneg hz.1]
      simpa using this
    obtain ⟨q, hq⟩ := Go.Deep.choose_lt each
    have hl : ((List.range len0).map q).length = len0 := by simp
    by_cases h0 : 0 < len0
    · have d0 := (hq 0 h0).2
      have h00' : a.add 0 = a := by simp [Addr.add]
      rw [h00'] at d0
      have hsp := add_spot d0
      have ha : a = ⟨a.block, a.off, none⟩ := by rw [← hsp]
      refine ⟨(List.range len0).map q, a.block, ⟨some a, cap0, by rw [hl], by rw [hl]; exact hlc, hcm, fun k x hx => ?_⟩, fun p n c h => by injection h with h; injection h with h; rw [← h], cell_lt d0⟩
      have hk : k < len0 := by have := (List.getElem?_eq_some_iff.1 hx).1; simpa using this
      have hxe : q k = x := by simpa [hk] using hx
      obtain ⟨g1, g2⟩ := hq k hk
      rw [hxe] at g1 g2
      exact ⟨g1, a.block, a.off, by rw [← ha], by rw [← add_eq hsp]; exact g2⟩
    · obtain rfl : len0 = 0 := by omega
      exact ⟨[], a.block, ⟨some a, cap0, rfl, by simp, hcm, fun k x hx => by simp at hx⟩, (fun p n c h => by injection h with h; injection h with h; rw [← h]), ok_lt Tryz.underlying27 hok'⟩
theorem gSp : Tryz.prog.globalNamed "strings.asciiSpace" = some 0 := by kernel_rfl
theorem tSp : (Tryz.prog.globals[0]?).map (·.type) = some 126 := by kernel_rfl
theorem cAsc : Tryz.prog.cellsOf 126 = 256 := by kernel_rfl
def spT : List Int := (List.range 256).map fun c => if Lib.isSp (UInt8.ofNat c) then 1 else 0
theorem laid_sp : (Rows.laid_strings_asciiSpace : DataW Unit) = tabData .u8 spT := by kernel_rfl
def laidL : List (String × DataW Unit) := Rows.codeReadsUptoRow.laid
theorem spc_of_reads {W : World} (h : VarReads Tryz.prog W "strings.asciiSpace" Rows.laid_strings_asciiSpace) : Spc W := by
  obtain ⟨g, t, cs, fuel, p, hg, ht, hv, hd⟩ := h
  obtain rfl := Option.some.inj (gSp.symm.trans hg)
  obtain rfl := Option.some.inj (tSp.symm.trans ht)
  rw [laid_sp] at hd
  have hz := cells_of_tab Tryz.underlying126 Tryz.underlying5 cellsU8 cAsc hd
  intro c hc
  refine (World.var?_cell hg hv _).trans ?_
  have : cs.toList[c]? = (_ : List Value)[c]? := congrArg (·[c]?) hz
  rw [Array.getElem?_toList] at this
  rw [this, List.getElem?_map]
  unfold spT
  rw [List.getElem?_map, List.getElem?_range hc]
  rfl
end Go.Proofs.YtjjogaenejdliaaGreatDoor
namespace Go.Proofs.YtjjogaenejdliaaGreatDoor
set_option linter.unusedVariables false
set_option maxHeartbeats 1000000
set_option maxRecDepth 100000

theorem leb_le : ∀ (k n : Nat), n < 128 ^ (k + 1) → (leb n).length ≤ k + 1
  | 0, n, h => by
    rw [leb, if_pos (by simpa using h)]
    simp
  | k + 1, n, h => by
    rw [leb]
    split
    · simp
    · have h1 : n / 128 < 128 ^ (k + 1) := by
        rw [Nat.div_lt_iff_lt_mul (by decide)]
        rw [Nat.pow_succ] at h
        exact h
      have := leb_le k (n / 128) h1
      simp only [List.length_cons]
      omega
theorem p63 : (2 : Nat) ^ 63 = 9223372036854775808 := by decide
theorem leb10 {n : Nat} (h : n < 2 ^ 63) : (leb n).length ≤ 10 := leb_le 9 n (Nat.lt_of_lt_of_le h (by decide))
theorem leb10z {z : Int} (h : z < 9223372036854775808) : (leb z.toNat).length ≤ 10 := leb10 (by have := p63; omega)
theorem wrFlag1 (b : Bool) : (wrFlag b).length = 1 := by cases b <;> (unfold wrFlag; rw [leb, if_pos (by decide)]; rfl)
/-- a function's numbers lie within what a number holds -/
structure RgF (f : FV) : Prop where
  params : f.params < 9223372036854775808
  regs : f.regs < 9223372036854775808
  consts : ∀ v ∈ f.consts, v.x < 2 ^ 64
  code : ∀ i ∈ f.code, i.op < 9223372036854775808 ∧ ∀ z ∈ argsI i, z < 9223372036854775808
  tries : ∀ t ∈ f.tries, (t.f < 9223372036854775808 ∧ t.t < 9223372036854775808) ∧ t.a < 9223372036854775808 ∧ t.g < 9223372036854775808
  caps : ∀ c ∈ f.caps, c.n < 9223372036854775808
/-- how much a function holds -/
def szF (f : FV) : Nat := f.name.size + ((f.consts.map fun v => v.s.size + 1).sum + (f.code.length + (f.tries.length + (f.caps.length + 1))))
theorem mem_sum {α : Type} {g : α → Nat} {l : List α} {x : α} (h : x ∈ l) : g x ≤ (l.map g).sum := by
  induction l with
  | nil => cases h
  | cons a l ih =>
    simp only [List.map_cons, List.sum_cons]
    rcases List.mem_cons.1 h with rfl | h
    · omega
    · have := ih h; omega
theorem flat_len {α : Type} {wr : α → List Nat} {g : α → Nat} {K : Nat} (l : List α) (h : ∀ x ∈ l, (wr x).length ≤ K * g x) : (l.flatMap wr).length ≤ K * (l.map g).sum := by
  induction l with
  | nil => simp
  | cons a l ih =>
    have h1 := h a (by simp)
    have h2 := ih (fun x hx => h x (by simp [hx]))
    simp only [List.flatMap_cons, List.length_append, List.map_cons, List.sum_cons, Nat.mul_add]
    omega
theorem sum_one {α : Type} (l : List α) : (l.map fun _ => 1).sum = l.length := by
  induction l with
  | nil => rfl
  | cons a l ih => simp only [List.map_cons, List.sum_cons, List.length_cons, ih]; omega
theorem wrText_len {s : ByteArray} (h : s.size < 2 ^ 63) : (wrText s).length ≤ 10 + s.size := by
  unfold wrText
  rw [List.length_append, codesB_len]
  have := leb10 h
  omega
theorem wrConst_len {v : VV} (h : v.s.size < 2 ^ 63) : (wrConst v).length ≤ 11 * (v.s.size + 1) := by
  have h1 := wrText_len h
  have h2 : (wr8 (nanB v.x)).length = 8 := rfl
  unfold wrConst
  split
  · rw [List.length_append, wrFlag1]; omega
  · rw [List.length_append, wrFlag1]; omega
theorem wrArgs_len (n : Nat) : ∀ (l : List Int) (k : Nat), (∀ z ∈ l, z < 9223372036854775808) → (wrArgs n k l).length ≤ 10 * l.length
  | [], k, _ => by simp [wrArgs]
  | z :: l, k, h => by
    have h1 := wrArgs_len n l (k + 1) (fun z hz => h z (by simp [hz]))
    have h2 := leb10z (h z (by simp))
    rw [wrArgs, List.length_append, List.length_cons]
    split
    · omega
    · simp only [List.length_nil]; omega
theorem wrIns_len {i : IV} (h : i.op < 9223372036854775808 ∧ ∀ z ∈ argsI i, z < 9223372036854775808) : (wrIns i).length ≤ 50 * 1 := by
  rw [wrIns_args i (nlOf_le4 _), List.length_append]
  have h1 := leb10z h.1
  have h2 := wrArgs_len (nlOf i.op.toNat) (argsI i) 0 h.2
  have h3 : (argsI i).length = 4 := rfl
  omega
theorem wrTry_len {t : TV4} (h : (t.f < 9223372036854775808 ∧ t.t < 9223372036854775808) ∧ t.a < 9223372036854775808 ∧ t.g < 9223372036854775808) : (wrTry t).length ≤ 40 * 1 := by
  obtain ⟨⟨h1, h2⟩, h3, h4⟩ := h
  have := leb10z h1
  have := leb10z h2
  have := leb10z h3
  have := leb10z h4
  simp only [wrTry, List.length_append]
  omega
theorem wrCap_len {c : PV2} (h : c.n < 9223372036854775808) : (wrCap c).length ≤ 11 * 1 := by
  have := leb10z h
  unfold wrCap
  rw [List.length_append, wrFlag1]
  omega
theorem szF_parts {f : FV} (h : szF f ≤ 1048576) : f.name.size ≤ 1048576 ∧ f.consts.length ≤ 1048576 ∧ f.code.length ≤ 1048576 ∧ f.tries.length ≤ 1048576 ∧ f.caps.length ≤ 1048576 ∧ ∀ v ∈ f.consts, v.s.size ≤ 1048576 := by
  unfold szF at h
  have hl : f.consts.length ≤ (f.consts.map fun v => v.s.size + 1).sum := by
    have : ∀ l : List VV, l.length ≤ (l.map fun v => v.s.size + 1).sum := fun l => by
      induction l with
      | nil => simp
      | cons a l ih => simp only [List.length_cons, List.map_cons, List.sum_cons]; omega
    exact this _
  refine ⟨by omega, by omega, by omega, by omega, by omega, fun v hv => ?_⟩
  have : v.s.size + 1 ≤ (f.consts.map fun v => v.s.size + 1).sum := mem_sum (g := fun v : VV => v.s.size + 1) hv
  omega
theorem wrFn_len {f : FV} (hR : RgF f) (h : szF f ≤ 1048576) : (wrFn f).length ≤ 80 * szF f := by
  obtain ⟨h1, h2, h3, h4, h5, h6⟩ := szF_parts h
  have e := p63
  have a1 := wrText_len (s := f.name) (by omega)
  have a2 := leb10z hR.params
  have a3 := leb10z hR.regs
  have b1 := leb10 (n := f.consts.length) (by omega)
  have b2 := leb10 (n := f.code.length) (by omega)
  have b3 := leb10 (n := f.tries.length) (by omega)
  have b4 := leb10 (n := f.caps.length) (by omega)
  have c1 := flat_len (wr := wrConst) (g := fun v : VV => v.s.size + 1) (K := 11) f.consts (fun v hv => wrConst_len (by have := h6 v hv; omega))
  have c2 := flat_len (wr := wrIns) (g := fun _ => 1) (K := 50) f.code (fun i hi => wrIns_len (hR.code i hi))
  have c3 := flat_len (wr := wrTry) (g := fun _ => 1) (K := 40) f.tries (fun t ht => wrTry_len (hR.tries t ht))
  have c4 := flat_len (wr := wrCap) (g := fun _ => 1) (K := 11) f.caps (fun c hc => wrCap_len (hR.caps c hc))
  rw [sum_one] at c2 c3 c4
  simp only [wrFn, wrMany, List.length_append, wrFlag1]
  unfold szF
  generalize (f.consts.map fun v => v.s.size + 1).sum = S at *
  omega
theorem wrMod_len {fs : List FV} (hR : ∀ f ∈ fs, RgF f) (h : (fs.map szF).sum ≤ 1048576) : (wrMod fs).length ≤ 1099511627000 := by
  have e := p63
  have hl : fs.length ≤ (fs.map szF).sum := by
    have : ∀ l : List FV, l.length ≤ (l.map szF).sum := fun l => by
      induction l with
      | nil => simp
      | cons a l ih =>
        have : 1 ≤ szF a := by unfold szF; omega
        simp only [List.length_cons, List.map_cons, List.sum_cons]
        omega
    exact this _
  have b1 := leb10 (n := fs.length) (by omega)
  have c1 := flat_len (wr := wrFn) (g := szF) (K := 80) fs (fun f hf => wrFn_len (hR f hf) (by have := mem_sum (g := szF) hf; omega))
  have hm : magic.length = 4 := rfl
  unfold wrMod wrMany
  rw [List.length_append, List.length_append]
  omega
theorem argsOk_at {n : Nat} : ∀ (l : List Int) (j k : Nat) (z : Int), argsOk n j l = true → l[k]? = some z → okAt n (j + k) z = true
  | [], j, k, z, _, hz => by simp at hz
  | a :: l, j, 0, z, h, hz => by
    rw [argsOk, Bool.and_eq_true] at h
    simp at hz
    subst hz
    exact h.1
  | a :: l, j, k + 1, z, h, hz => by
    rw [argsOk, Bool.and_eq_true] at h
    have := argsOk_at l (j + 1) k z h.2 (by simpa using hz)
    rw [show j + (k + 1) = j + 1 + k by omega]
    exact this
theorem good_of {f : FV} (hg : goodFb f = true) (hR : RgF f) (h : szF f ≤ 1048576) : GoodF f ∧ SizedF f := by
  obtain ⟨h1, h2, h3, h4, h5, h6⟩ := szF_parts h
  have e := p63
  unfold goodFb at hg
  simp only [Bool.and_eq_true, decide_eq_true_eq, List.all_eq_true, beq_iff_eq] at hg
  obtain ⟨g1, g2, g3, g4, g5, g6, g7⟩ := hg
  refine ⟨⟨g1, ⟨g2, hR.params⟩, ⟨g3, hR.regs⟩, fun v hv => ?_, fun i hi => ?_, fun t ht => ?_, fun c hc => ?_⟩, ⟨by omega, by omega, by omega, by omega, by omega, fun v hv => ⟨by have := h6 v hv; omega, hR.consts v hv⟩⟩⟩
  · have := g4 v hv
    unfold goodCb at this
    simp only [Bool.or_eq_true, Bool.and_eq_true, beq_iff_eq] at this
    exact this
  · have := g5 i hi
    unfold goodIb at this
    simp only [Bool.and_eq_true, decide_eq_true_eq] at this
    obtain ⟨a1, a2⟩ := this
    refine ⟨a1, fun k z hz => ?_⟩
    have hk := argsOk_at (argsI i) 0 k z a2 hz
    rw [Nat.zero_add] at hk
    have hz2 := (hR.code i hi).2 z (List.mem_of_getElem? hz)
    unfold okAt at hk
    split at hk
    · rename_i hkn
      simp only [decide_eq_true_eq] at hk
      exact ⟨⟨hk, hz2⟩, fun hn => by omega⟩
    · simp only [beq_iff_eq] at hk
      subst hk
      exact ⟨⟨by decide, by decide⟩, fun _ => rfl⟩
  · have := g6 t ht
    unfold goodTb at this
    simp only [Bool.and_eq_true, decide_eq_true_eq] at this
    obtain ⟨a1, a2, a3, a4⟩ := this
    obtain ⟨⟨r1, r2⟩, r3, r4⟩ := hR.tries t ht
    exact ⟨⟨⟨a1, r1⟩, ⟨a2, r2⟩⟩, ⟨a3, r3⟩, ⟨a4, r4⟩⟩
  · have := g7 c hc
    unfold goodKb at this
    simp only [decide_eq_true_eq] at this
    exact ⟨this, hR.caps c hc⟩
theorem goodF_norm {f : FV} (hg : goodFb f = true) : goodFb (normF f) = true := by
  unfold goodFb at hg ⊢
  simp only [Bool.and_eq_true, decide_eq_true_eq, List.all_eq_true, beq_iff_eq] at hg ⊢
  obtain ⟨g1, g2, g3, g4, g5, g6, g7⟩ := hg
  refine ⟨g1, g2, g3, fun v hv => ?_, g5, g6, g7⟩
  obtain ⟨u, hu, rfl⟩ := List.mem_map.1 hv
  have := g4 u hu
  unfold normC
  split
  · rename_i h4
    unfold goodCb at this
    simp only [Bool.or_eq_true, Bool.and_eq_true, beq_iff_eq] at this
    have h2 : u.s.size % 2 = 0 := by rcases this with h | ⟨_, h⟩; omega; exact h
    unfold goodCb textC
    simp [h2]
  · unfold goodCb numC
    simp
theorem leb_lt (n : Nat) : ∀ x ∈ leb n, x < 256 := by
  induction n using Nat.strongRecOn with
  | ind n ih =>
    intro x hx
    rw [leb] at hx
    split at hx
    · simp at hx; omega
    · rcases List.mem_cons.1 hx with rfl | hx
      · omega
      · exact ih (n / 128) (by omega) x hx
theorem flat_lt {α : Type} {wr : α → List Nat} {l : List α} (h : ∀ a ∈ l, ∀ x ∈ wr a, x < 256) : ∀ x ∈ l.flatMap wr, x < 256 := fun x hx => by
  obtain ⟨a, ha, hx⟩ := List.mem_flatMap.1 hx
  exact h a ha x hx
theorem app_lt {a b : List Nat} (ha : ∀ x ∈ a, x < 256) (hb : ∀ x ∈ b, x < 256) : ∀ x ∈ a ++ b, x < 256 := fun x hx => by
  rcases List.mem_append.1 hx with h | h
  · exact ha x h
  · exact hb x h
theorem text_lt (s : ByteArray) : ∀ x ∈ wrText s, x < 256 := app_lt (leb_lt _) (fun x hx => by
  unfold codesB at hx
  obtain ⟨c, _, rfl⟩ := List.mem_map.1 hx
  exact c.toNat_lt)
theorem wr8_lt (u : Nat) : ∀ x ∈ wr8 u, x < 256 := fun x hx => by
  simp only [wr8, List.mem_cons, List.not_mem_nil, or_false] at hx
  rcases hx with rfl | rfl | rfl | rfl | rfl | rfl | rfl | rfl <;> omega
theorem const_lt (v : VV) : ∀ x ∈ wrConst v, x < 256 := by
  unfold wrConst
  split
  · exact app_lt (leb_lt _) (text_lt _)
  · exact app_lt (leb_lt _) (wr8_lt _)
theorem ins_lt (i : IV) : ∀ x ∈ wrIns i, x < 256 := app_lt (leb_lt _) (flat_lt fun a _ => leb_lt a)
theorem try_lt (t : TV4) : ∀ x ∈ wrTry t, x < 256 := app_lt (leb_lt _) (app_lt (leb_lt _) (app_lt (leb_lt _) (leb_lt _)))
theorem cap_lt (c : PV2) : ∀ x ∈ wrCap c, x < 256 := app_lt (leb_lt _) (leb_lt _)
theorem many_lt {α : Type} {wr : α → List Nat} {l : List α} (h : ∀ a ∈ l, ∀ x ∈ wr a, x < 256) : ∀ x ∈ wrMany wr l, x < 256 := app_lt (leb_lt _) (flat_lt h)
theorem fn_lt (f : FV) : ∀ x ∈ wrFn f, x < 256 := app_lt (text_lt _) (app_lt (leb_lt _) (app_lt (leb_lt _) (app_lt (leb_lt _) (app_lt (leb_lt _) (app_lt (many_lt fun v _ => const_lt v) (app_lt (many_lt fun i _ => ins_lt i) (app_lt (many_lt fun t _ => try_lt t) (many_lt fun c _ => cap_lt c))))))))
theorem mod_lt (fs : List FV) : ∀ x ∈ wrMod fs, x < 256 := app_lt (by decide) (many_lt fun f _ => fn_lt f)
/-- a good module, written, read, written again -/
theorem again {fs : List FV} (hg : goodMb fs = true) (hR : ∀ f ∈ fs, RgF f) (h : (fs.map szF).sum ≤ 1048576) : rdMod (wrMod fs) = some (fs.map normF) ∧ goodMb (fs.map normF) = true ∧ wrMod (fs.map normF) = wrMod fs := by
  have e := p63
  unfold goodMb at hg
  simp only [Bool.and_eq_true, decide_eq_true_eq, List.all_eq_true] at hg
  obtain ⟨g0, g1⟩ := hg
  have hl : fs.length ≤ (fs.map szF).sum := by
    have : ∀ l : List FV, l.length ≤ (l.map szF).sum := fun l => by
      induction l with
      | nil => simp
      | cons a l ih =>
        have : 1 ≤ szF a := by unfold szF; omega
        simp only [List.length_cons, List.map_cons, List.sum_cons]
        omega
    exact this _
  refine ⟨mod_rd fs (fun h => by rw [h] at g0; simp at g0) (by omega) (fun f hf => good_of (g1 f hf) (hR f hf) (by have := mem_sum (g := szF) hf; omega)), ?_, mod_norm fs⟩
  unfold goodMb
  simp only [Bool.and_eq_true, decide_eq_true_eq, List.all_eq_true, List.length_map]
  refine ⟨g0, fun f hf => ?_⟩
  obtain ⟨u, hu, rfl⟩ := List.mem_map.1 hf
  exact goodF_norm (g1 u hu)
theorem good_all {fs : List FV} (hR : ∀ f ∈ fs, RgF f) (h : (fs.map szF).sum ≤ 1048576) (hg : goodMb fs = true) : ∀ f ∈ fs, GoodF f ∧ SizedF f := by
  unfold goodMb at hg
  simp only [Bool.and_eq_true, decide_eq_true_eq, List.all_eq_true] at hg
  exact fun f hf => good_of (hg.2 f hf) (hR f hf) (by have := mem_sum (g := szF) hf; omega)
end Go.Proofs.YtjjogaenejdliaaGreatDoor
namespace Go.Proofs.YtjjogaenejdliaaGreatDoor
open Go.RowKit Go.Lib Go.Proofs Go.ChangeShapes Go.WideShapes Go.ChangeAt
set_option linter.unusedVariables false
set_option maxHeartbeats 1000000
set_option maxRecDepth 100000

instance : Inhabited VV := ⟨⟨0, 0, ⟨#[]⟩, 0⟩⟩
instance : Inhabited IV := ⟨⟨0, 0, 0, 0, 0⟩⟩
instance : Inhabited TV4 := ⟨⟨0, 0, 0, 0⟩⟩
instance : Inhabited PV2 := ⟨⟨false, 0⟩⟩
instance : Inhabited FV := ⟨⟨⟨#[]⟩, 0, false, false, 0, [], [], [], []⟩⟩
theorem cInt : Tryz.prog.cellsOf 3 = 1 := by kernel_rfl
theorem cBool : Tryz.prog.cellsOf 4 = 1 := by kernel_rfl
theorem cStr : Tryz.prog.cellsOf 42 = 1 := by kernel_rfl
theorem cFloat : Tryz.prog.cellsOf 49 = 1 := by kernel_rfl
theorem cVals : Tryz.prog.cellsOf 43 = 1 := by kernel_rfl
theorem cInss : Tryz.prog.cellsOf 41 = 1 := by kernel_rfl
theorem cTris : Tryz.prog.cellsOf 44 = 1 := by kernel_rfl
theorem cCapts : Tryz.prog.cellsOf 45 = 1 := by kernel_rfl
theorem cFns : Tryz.prog.cellsOf 22 = 1 := by kernel_rfl
theorem cValue : Tryz.prog.cellsOf 51 = 4 := by kernel_rfl
theorem cIns : Tryz.prog.cellsOf 40 = 5 := by kernel_rfl
theorem cTri : Tryz.prog.cellsOf 96 = 4 := by kernel_rfl
theorem cCapt : Tryz.prog.cellsOf 98 = 2 := by kernel_rfl
theorem cFn : Tryz.prog.cellsOf 47 = 9 := by kernel_rfl
theorem cModule : Tryz.prog.cellsOf 24 = 1 := by kernel_rfl
theorem list2 {α : Type} {l : List α} (h : l.length = 2) : ∃ a b, l = [a, b] := by
  match l, h with
  | [a, b], _ => exact ⟨a, b, rfl⟩
theorem list4 {α : Type} {l : List α} (h : l.length = 4) : ∃ a b c d, l = [a, b, c, d] := by
  match l, h with
  | [a, b, c, d], _ => exact ⟨a, b, c, d, rfl⟩
theorem list5 {α : Type} {l : List α} (h : l.length = 5) : ∃ a b c d e, l = [a, b, c, d, e] := by
  match l, h with
  | [a, b, c, d, e], _ => exact ⟨a, b, c, d, e, rfl⟩
theorem list9 {α : Type} {l : List α} (h : l.length = 9) : ∃ a b c d e f g i j, l = [a, b, c, d, e, f, g, i, j] := by
  match l, h with
  | [a, b, c, d, e, f, g, i, j], _ => exact ⟨a, b, c, d, e, f, g, i, j, rfl⟩
theorem wf64 {z : Int} (h : (Lit.int .i64 z).wf = true) : z < 9223372036854775808 := by
  simp [Lit.wf] at h
  have := h.2
  have e : IntKind.i64.max = 9223372036854775807 := by decide
  omega
section
variable {H : Type} {enc : TypeId × Value → H} {w : World} {base : Nat} {spare : Nat → Bool} {held : Bool} {fuel : Nat} {cs : List Value} {x : DataW H × List MemPlace}
theorem trod_float6 {P : Program} {t : TypeId} {k : FloatKind} (ht : P.underlying t = some (.float k)) (h : DataW.trod enc P w base spare held fuel t cs = some x) : ∃ b, cs = [.float k b] ∧ x = (.lit (.float k b), []) ∧ (Lit.float k b).wf = true := by
  cases fuel with
  | zero => simp [DataW.trod] at h
  | succ n =>
    unfold DataW.trod at h
    rw [ht] at h
    split at h <;> simp_all
theorem value_open (h : DataW.trod enc Tryz.prog w base spare held fuel 51 cs = some x) : ∃ v : VV, cs = encVV v ∧ v.s.size + 1 ≤ Rows.uptoBulk x.1 ∧ v.x < 2 ^ 64 := by
  obtain ⟨xs, n, _, rfl, hl, hlen, hf⟩ := DataW.trod_struct Tryz.underlying51 h
  obtain ⟨c0, c1, c2, c3, rfl⟩ := list4 (hl.trans cValue)
  obtain ⟨y0, y1, y2, y3, rfl⟩ := list4 (hlen.trans rfl)
  have h0 := hf 0 _ rfl
  have h1 := hf 1 _ rfl
  have h2 := hf 2 _ rfl
  have h3 := hf 3 _ rfl
  simp [cInt, cFloat, cStr] at h0 h1 h2 h3
  obtain ⟨k, e0, _, _⟩ := DataW.trod_int Tryz.underlying3 h0
  obtain ⟨f, e1, _, w1⟩ := trod_float6 Tryz.underlying49 h1
  obtain ⟨s, e2, g2, _⟩ := DataW.trod_string Tryz.underlying42 h2
  obtain ⟨r, e3, _, _⟩ := DataW.trod_int Tryz.underlying3 h3
  injection e0 with e0
  injection e1 with e1
  injection e2 with e2
  injection e3 with e3
  subst e0 e1 e2 e3 g2
  refine ⟨⟨k, f, s, r⟩, rfl, ?_, by simpa [Lit.wf] using w1⟩
  have h3 : s.data.toList.length = s.size := rfl
  simp only [List.map_cons, List.map_nil, Rows.uptoBulk, Rows.uptoBulkAll]
  omega
theorem ins_open (h : DataW.trod enc Tryz.prog w base spare held fuel 40 cs = some x) : ∃ i : IV, cs = encI i ∧ 1 ≤ Rows.uptoBulk x.1 ∧ i.op < 9223372036854775808 ∧ ∀ z ∈ argsI i, z < 9223372036854775808 := by
  obtain ⟨xs, n, _, rfl, hl, hlen, hf⟩ := DataW.trod_struct Tryz.underlying40 h
  obtain ⟨c0, c1, c2, c3, c4, rfl⟩ := list5 (hl.trans cIns)
  obtain ⟨y0, y1, y2, y3, y4, rfl⟩ := list5 (hlen.trans rfl)
  have h0 := hf 0 _ rfl
  have h1 := hf 1 _ rfl
  have h2 := hf 2 _ rfl
  have h3 := hf 3 _ rfl
  have h4 := hf 4 _ rfl
  simp [cInt] at h0 h1 h2 h3 h4
  obtain ⟨z0, e0, _, w0⟩ := DataW.trod_int Tryz.underlying3 h0
  obtain ⟨z1, e1, _, w1⟩ := DataW.trod_int Tryz.underlying3 h1
  obtain ⟨z2, e2, _, w2⟩ := DataW.trod_int Tryz.underlying3 h2
  obtain ⟨z3, e3, _, w3⟩ := DataW.trod_int Tryz.underlying3 h3
  obtain ⟨z4, e4, _, w4⟩ := DataW.trod_int Tryz.underlying3 h4
  injection e0 with e0
  injection e1 with e1
  injection e2 with e2
  injection e3 with e3
  injection e4 with e4
  subst e0 e1 e2 e3 e4
  refine ⟨⟨z0, z1, z2, z3, z4⟩, rfl, by simp only [Rows.uptoBulk]; omega, wf64 w0, fun z hz => ?_⟩
  simp only [argsI, List.mem_cons, List.not_mem_nil, or_false] at hz
  rcases hz with rfl | rfl | rfl | rfl
  · exact wf64 w1
  · exact wf64 w2
  · exact wf64 w3
  · exact wf64 w4
theorem tri_open (h : DataW.trod enc Tryz.prog w base spare held fuel 96 cs = some x) : ∃ t : TV4, cs = encT t ∧ 1 ≤ Rows.uptoBulk x.1 ∧ (t.f < 9223372036854775808 ∧ t.t < 9223372036854775808) ∧ t.a < 9223372036854775808 ∧ t.g < 9223372036854775808 := by
  obtain ⟨xs, n, _, rfl, hl, hlen, hf⟩ := DataW.trod_struct Tryz.underlying96 h
  obtain ⟨c0, c1, c2, c3, rfl⟩ := list4 (hl.trans cTri)
  obtain ⟨y0, y1, y2, y3, rfl⟩ := list4 (hlen.trans rfl)
  have h0 := hf 0 _ rfl
  have h1 := hf 1 _ rfl
  have h2 := hf 2 _ rfl
  have h3 := hf 3 _ rfl
  simp [cInt] at h0 h1 h2 h3
  obtain ⟨z0, e0, _, w0⟩ := DataW.trod_int Tryz.underlying3 h0
  obtain ⟨z1, e1, _, w1⟩ := DataW.trod_int Tryz.underlying3 h1
  obtain ⟨z2, e2, _, w2⟩ := DataW.trod_int Tryz.underlying3 h2
  obtain ⟨z3, e3, _, w3⟩ := DataW.trod_int Tryz.underlying3 h3
  injection e0 with e0
  injection e1 with e1
  injection e2 with e2
  injection e3 with e3
  subst e0 e1 e2 e3
  exact ⟨⟨z0, z1, z2, z3⟩, rfl, by simp only [Rows.uptoBulk]; omega, ⟨wf64 w0, wf64 w1⟩, wf64 w2, wf64 w3⟩
theorem cap_open (h : DataW.trod enc Tryz.prog w base spare held fuel 98 cs = some x) : ∃ c : PV2, cs = encK c ∧ 1 ≤ Rows.uptoBulk x.1 ∧ c.n < 9223372036854775808 := by
  obtain ⟨xs, n, _, rfl, hl, hlen, hf⟩ := DataW.trod_struct Tryz.underlying98 h
  obtain ⟨c0, c1, rfl⟩ := list2 (hl.trans cCapt)
  obtain ⟨y0, y1, rfl⟩ := list2 (hlen.trans rfl)
  have h0 := hf 0 _ rfl
  have h1 := hf 1 _ rfl
  simp [cInt, cBool] at h0 h1
  obtain ⟨z0, e0, _⟩ := DataW.trod_bool Tryz.underlying4 h0
  obtain ⟨z1, e1, _, w1⟩ := DataW.trod_int Tryz.underlying3 h1
  injection e0 with e0
  injection e1 with e1
  subst e0 e1
  exact ⟨⟨z0, z1⟩, rfl, by simp only [Rows.uptoBulk]; omega, wf64 w1⟩
theorem bulk_sum {α : Type} (wt : α → Nat) (q : Nat → α) (D : Nat → DataW H) (is : List Nat) (h : ∀ i ∈ is, wt (q i) ≤ Rows.uptoBulk (D i)) : (is.map fun i => wt (q i)).sum ≤ Rows.uptoBulkAll (is.map D) := by
  induction is with
  | nil => simp
  | cons i is ih =>
    have h1 := ih (fun j hj => h j (by simp [hj]))
    have h2 := h i (by simp)
    simp only [List.map_cons, List.sum_cons, Rows.uptoBulkAll]
    omega
/-- a slice of anything, opened: El: which cells an element has -/
theorem list_open {α : Type} [Inhabited α] {sz : Nat} {El : List Value → α → Prop} {wt : α → Nat} {t e : TypeId} (ht : Tryz.prog.underlying t = some (.slice e)) (hce : Tryz.prog.cellsOf e = sz) (h0 : 0 < sz)
    (hel : ∀ fuel cs x, DataW.trod enc Tryz.prog w 0 (fun _ => true) true fuel e cs = some x → ∃ a, El cs a ∧ wt a ≤ Rows.uptoBulk x.1)
    (h : DataW.trod enc Tryz.prog w 0 (fun _ => true) true fuel t cs = some x) :
    ∃ (p : Option Addr) (c : Nat) (l : List α), cs = [.slice p l.length c] ∧ l.length ≤ c ∧ c ≤ maxLen ∧ (∀ (k : Nat) a, l[k]? = some a → ∃ b o ec, p = some ⟨b, o, none⟩ ∧ El ec a ∧ ∀ (j : Nat) u, ec[j]? = some u → w.cell? ⟨b, o + k * sz + j, none⟩ = some u) ∧ (l.map wt).sum + 1 ≤ Rows.uptoBulk x.1 := by
  rcases Go.Deep.open_slice ht h with ⟨hcs, hx⟩ | ⟨a, len, cap, m, n, D, Pl, hcs, hba, hlc, hcm, hm, hx, hcell⟩
  · subst hcs hx
    exact ⟨none, 0, [], rfl, by simp, by simp, fun k x hx => by simp at hx, by simp [Rows.uptoBulk]⟩
  · rw [hce] at hcell
    have each : ∀ i, i < len → ∃ q : α × List Value, (El q.2 q.1 ∧ q.2.length = sz ∧ ∀ j u, q.2[j]? = some u → w.cell? (a.add (i * sz + j)) = some u) ∧ wt q.1 ≤ Rows.uptoBulk (D i) := by
      intro i hi
      obtain ⟨cs', c0, t0⟩ := hcell i (by rw [hm]; split <;> omega)
      obtain ⟨q, g0, g1⟩ := hel _ _ _ t0
      obtain ⟨_, hl, hat⟩ := World.cells?_some c0
      refine ⟨(q, cs'), ⟨g0, hl, fun j u hu => ?_⟩, g1⟩
      have hj : j < sz := by
        have h1 : j < cs'.length := (List.getElem?_eq_some_iff.1 hu).1
        omega
      rw [← Go.Deep.add_add, hat j hj, hu]
    obtain ⟨q, hq⟩ := Go.Deep.choose_lt each
    have hl : ((List.range len).map fun i => (q i).1).length = len := by simp
    have hbk := bulk_sum wt (fun i => (q i).1) D (List.range len) (fun i hi => (hq i (List.mem_range.1 hi)).2)
    subst hcs
    refine ⟨some a, cap, (List.range len).map fun i => (q i).1, by rw [hl], by rw [hl]; exact hlc, hcm, fun k x' hx' => ?_, ?_⟩
    · have hk : k < len := by have := (List.getElem?_eq_some_iff.1 hx').1; simpa using this
      have hxe : (q k).1 = x' := by simpa [hk] using hx'
      obtain ⟨⟨g0, g1, g2⟩, _⟩ := hq k hk
      rw [hxe] at g0
      have hsp : a.spot = none := by
        obtain ⟨⟨_, q1, q2⟩, _⟩ := hq 0 (by omega)
        obtain ⟨u, hu⟩ : ∃ u, (q 0).2[0]? = some u := ⟨_, List.getElem?_eq_getElem (by omega)⟩
        have d0 := q2 0 u hu
        have h00 : a.add (0 * sz + 0) = a := by simp [Addr.add]
        rw [h00] at d0
        exact add_spot d0
      have ha : a = ⟨a.block, a.off, none⟩ := by rw [← hsp]
      refine ⟨a.block, a.off, (q k).2, by rw [← ha], g0, fun j u hu => ?_⟩
      have := g2 j u hu
      rw [add_eq hsp, ← Nat.add_assoc] at this
      exact this
    · rw [hx]
      simp only [Rows.uptoBulk, List.map_map]
      have : (wt ∘ fun i => (q i).1) = fun i => wt (q i).1 := rfl
      rw [this]
      omega
theorem rdl_open {α : Type} [Inhabited α] {sz : Nat} {encα : α → List Value} {wt : α → Nat} {Pr : α → Prop} {t e : TypeId} (ht : Tryz.prog.underlying t = some (.slice e)) (hce : Tryz.prog.cellsOf e = sz) (h0 : 0 < sz)
    (hel : ∀ fuel cs x, DataW.trod enc Tryz.prog w 0 (fun _ => true) true fuel e cs = some x → ∃ a, cs = encα a ∧ wt a ≤ Rows.uptoBulk x.1 ∧ Pr a)
    (h : DataW.trod enc Tryz.prog w 0 (fun _ => true) true fuel t cs = some x) :
    ∃ v l, cs = [v] ∧ RdL sz encα w v l ∧ (∀ a ∈ l, Pr a) ∧ (l.map wt).sum + 1 ≤ Rows.uptoBulk x.1 := by
  obtain ⟨p, c, l, h1, h2, h3, h4, h5⟩ := list_open (El := fun cs a => cs = encα a ∧ Pr a) (wt := wt) ht hce h0 (fun f c x hx => by
    obtain ⟨a, g1, g2, g3⟩ := hel f c x hx
    exact ⟨a, ⟨g1, g3⟩, g2⟩) h
  refine ⟨_, l, h1, ⟨p, c, rfl, h2, h3, fun k x hx => ?_⟩, fun a ha => ?_, h5⟩
  · obtain ⟨b, o, ec, g1, ⟨rfl, _⟩, g3⟩ := h4 k x hx
    exact ⟨b, o, g1, g3⟩
  · obtain ⟨k, hk⟩ := List.getElem?_of_mem ha
    obtain ⟨_, _, _, _, ⟨_, g⟩, _⟩ := h4 k a hk
    exact g
theorem fn_open (h : DataW.trod enc Tryz.prog w 0 (fun _ => true) true fuel 47 cs = some x) : ∃ f : FV, (FnC w f cs ∧ RgF f) ∧ szF f ≤ Rows.uptoBulk x.1 := by
  obtain ⟨xs, n, _, rfl, hl, hlen, hf⟩ := DataW.trod_struct Tryz.underlying47 h
  obtain ⟨c0, c1, c2, c3, c4, c5, c6, c7, c8, rfl⟩ := list9 (hl.trans cFn)
  obtain ⟨y0, y1, y2, y3, y4, y5, y6, y7, y8, rfl⟩ := list9 (hlen.trans rfl)
  have h0 := hf 0 _ rfl
  have h1 := hf 1 _ rfl
  have h2 := hf 2 _ rfl
  have h3 := hf 3 _ rfl
  have h4 := hf 4 _ rfl
  have h5 := hf 5 _ rfl
  have h6 := hf 6 _ rfl
  have h7 := hf 7 _ rfl
  have h8 := hf 8 _ rfl
  simp [cInt, cBool, cStr, cVals, cInss, cTris, cCapts] at h0 h1 h2 h3 h4 h5 h6 h7 h8
  obtain ⟨s, e0, g0, _⟩ := DataW.trod_string Tryz.underlying42 h0
  obtain ⟨z1, e1, _, w1⟩ := DataW.trod_int Tryz.underlying3 h1
  obtain ⟨b2, e2, _⟩ := DataW.trod_bool Tryz.underlying4 h2
  obtain ⟨b3, e3, _⟩ := DataW.trod_bool Tryz.underlying4 h3
  obtain ⟨z4, e4, _, w4⟩ := DataW.trod_int Tryz.underlying3 h4
  obtain ⟨v5, l5, e5, r5, p5, k5⟩ := rdl_open (wt := fun v : VV => v.s.size + 1) (Pr := fun v : VV => v.x < 2 ^ 64) Tryz.underlying43 cValue (by decide) (fun _ _ _ hx => value_open hx) h5
  obtain ⟨v6, l6, e6, r6, p6, k6⟩ := rdl_open (wt := fun _ : IV => 1) (Pr := fun i : IV => i.op < 9223372036854775808 ∧ ∀ z ∈ argsI i, z < 9223372036854775808) Tryz.underlying41 cIns (by decide) (fun _ _ _ hx => ins_open hx) h6
  obtain ⟨v7, l7, e7, r7, p7, k7⟩ := rdl_open (wt := fun _ : TV4 => 1) (Pr := fun t : TV4 => (t.f < 9223372036854775808 ∧ t.t < 9223372036854775808) ∧ t.a < 9223372036854775808 ∧ t.g < 9223372036854775808) Tryz.underlying44 cTri (by decide) (fun _ _ _ hx => tri_open hx) h7
  obtain ⟨v8, l8, e8, r8, p8, k8⟩ := rdl_open (wt := fun _ : PV2 => 1) (Pr := fun c : PV2 => c.n < 9223372036854775808) Tryz.underlying45 cCapt (by decide) (fun _ _ _ hx => cap_open hx) h8
  injection e0 with e0
  injection e1 with e1
  injection e2 with e2
  injection e3 with e3
  injection e4 with e4
  injection e5 with e5
  injection e6 with e6
  injection e7 with e7
  injection e8 with e8
  subst e0 e1 e2 e3 e4 e5 e6 e7 e8 g0
  refine ⟨⟨s, z1, b2, b3, z4, l5, l6, l7, l8⟩, ⟨⟨_, _, _, _, rfl, ⟨r5, r6⟩, r7, r8⟩, ⟨wf64 w1, wf64 w4, p5, p6, p7, p8⟩⟩, ?_⟩
  rw [sum_one] at k6 k7 k8
  have hs : s.data.toList.length = s.size := rfl
  unfold szF
  simp only [List.map_cons, List.map_nil, Rows.uptoBulk, Rows.uptoBulkAll]
  omega
theorem module_open {W : World} {v : Value} {d : DataW H} {p : List MemPlace} (hok : Value.okWide Tryz.prog W .any base 24 v) (h : DataW.Trod enc Tryz.prog W 0 (fun _ => true) true 24 v d p) :
    ∃ (u : Value) (fs : List FV), v = .agg #[u] ∧ RdFs W u fs ∧ (∀ f ∈ fs, RgF f) ∧ (fs.map szF).sum ≤ Rows.uptoBulk d := by
  obtain ⟨cs, rfl, hsz⟩ := okWide_struct Tryz.underlying24 hok
  obtain ⟨l⟩ := cs
  obtain ⟨fuel, hf⟩ := h
  obtain ⟨y0, n, hx, hl, h0⟩ := trod_struct1 Tryz.underlying24 hf
  have hl1 : l.length = 1 := hsz.trans cModule
  obtain ⟨c0, rfl⟩ : ∃ c, l = [c] := by
    match l, hl1 with
    | [c], _ => exact ⟨c, rfl⟩
  simp [cFns] at h0
  obtain ⟨pp, c, fs, e0, g1, g2, g3, g4⟩ := list_open (El := fun cs f => FnC W f cs ∧ RgF f) (wt := szF) Tryz.underlying22 cFn (by decide) (fun _ _ _ hx => fn_open hx) h0
  injection e0 with e0
  subst e0
  simp only [Prod.mk.injEq] at hx
  refine ⟨_, fs, rfl, ⟨pp, c, rfl, g1, g2, fun k f hk => ?_⟩, fun f hf => ?_, ?_⟩
  · obtain ⟨b, o, ec, q1, ⟨q2, _⟩, q4⟩ := g3 k f hk
    exact ⟨b, o, ec, q1, q2, q4⟩
  · obtain ⟨k, hk⟩ := List.getElem?_of_mem hf
    obtain ⟨_, _, _, _, ⟨_, g⟩, _⟩ := g3 k f hk
    exact g
  · rw [hx.1]
    simp only [Rows.uptoBulk, Rows.uptoBulkAll]
    omega
end
end Go.Proofs.YtjjogaenejdliaaGreatDoor
namespace Go.Proofs.YtjjogaenejdliaaGreatDoor
open Go.RowKit Go.Lib
set_option linter.unusedVariables false
set_option linter.unusedSimpArgs false
set_option maxHeartbeats 2000000
set_option maxRecDepth 100000

/-- bs lies in v, whose block is o -/
def LS (o : Option Nat) (v : Value) (w : World) (bs : List Nat) : Prop := v.ownBlock = o ∧ w.ownsRow 0 5 1 v bs.length (bs.map byteV)
/-- what a step turns: the bytes' block alone -/
structure LT (o o' : Option Nat) (w w' : World) : Prop where
  kb : KB (fun r => o = some r) w w'
  own : o' = o ∨ ∃ k, o' = some k ∧ w.heap.size ≤ k
section
variable {o o' o1 o2 : Option Nat} {v : Value} {w w' w1 w2 : World} {bs : List Nat}
theorem LS.own_lt (h : LS o v w bs) : ∀ k, o = some k → k < w.heap.size := by
  obtain ⟨rfl, h3⟩ := h
  exact Go.Proofs.YtjjogaenejdliaaGreatDoor.own_lt h3
theorem LT.refl (o : Option Nat) (w : World) : LT o o w w := ⟨KB.refl _ _, .inl rfl⟩
theorem LT.trans (h : LT o o1 w w1) (h' : LT o1 o2 w1 w2) : LT o o2 w w2 := by
  refine ⟨⟨h'.kb.os.trans h.kb.os, h'.kb.tape.trans h.kb.tape, h'.kb.output.trans h.kb.output, Nat.le_trans h.kb.size h'.kb.size, fun r hr hn => ?_⟩, ?_⟩
  · refine (h'.kb.block r (Nat.lt_of_lt_of_le hr h.kb.size) (fun e => ?_)).trans (h.kb.block r hr hn)
    rcases h.own with g | ⟨k, g, hk⟩
    · rw [g] at e; exact hn e
    · rw [g] at e; injection e with e; omega
  · rcases h'.own with g | ⟨k, g, hk⟩
    · rw [g]; exact h.own
    · exact .inr ⟨k, g, Nat.le_trans h.kb.size hk⟩
theorem LT.of_below (hb : Below w.heap.size w w') : LT o o w w' := ⟨KB.of_below hb, .inl rfl⟩
theorem LT.of_drew (h : LT o o' w.drew w') : LT o o' w w' := ⟨⟨h.kb.os, h.kb.tape, h.kb.output, h.kb.size, h.kb.block⟩, h.own⟩
theorem LT.keep (h : LT o o' w w') {b : Nat} {x : Obj} (hx : w.heap[b]? = some x) (h2 : o ≠ some b) : w'.heap[b]? = some x := (h.kb.block b (row_lt hx) h2).trans hx
/-- a block apart from the bytes stays so -/
theorem LT.apart (h : LT o o' w w') {b : Nat} (hb : b < w.heap.size) (h2 : o ≠ some b) : o' ≠ some b := by
  rcases h.own with g | ⟨k, g, hk⟩
  · rw [g]; exact h2
  · rw [g]; intro e; injection e with e; omega
theorem LS.below (h : LS o v w bs) (hb : Below w.heap.size w w') : LS o v w' bs := ⟨h.1, own_turn h.2 (fun k _ _ hl => hb.block k hl)⟩
theorem LS.drew (h : LS o v w bs) : LS o v w.drew bs := ⟨h.1, h.2.drew⟩
theorem LT.below0 {B : Nat} {w0 : World} (h : LT o o' w w') (ho : ∀ k, o = some k → B ≤ k) (hB : B ≤ w0.heap.size) (hb : Below B w0 w) (hs : B ≤ w.heap.size) : Below B w0 w' :=
  hb.trans (h.kb.below hs (fun r e => ho r e))
theorem LT.from0 {B : Nat} (h : LT o o' w w') (ho : ∀ k, o = some k → B ≤ k) (hB : B ≤ w.heap.size) : ∀ k, o' = some k → B ≤ k := by
  intro k hk
  rcases h.own with g | ⟨j, g, hj⟩
  · exact ho k (by rw [← g]; exact hk)
  · rw [g] at hk; injection hk with hk; omega
/-- bytes put behind, and what that turned -/
theorem ls_app {news : List Nat} {n : Nat} {y w5 : World} {v u : Value} {ob : Obj} (hl : bs.length = n)
    (hown5 : w5.ownsRow 0 5 1 u (n + news.length) (bs.map byteV ++ news.map byteV)) (hg5 : (y.alloc ob).grownBy w5 v.ownBlock) (hat : u.ownBlock = v.ownBlock ∨ ∃ k, u.ownBlock = some k ∧ y.heap.size ≤ k) :
    LS u.ownBlock u w5 (bs ++ news) ∧ LT v.ownBlock u.ownBlock y w5 := by
  have hk9 : KB (fun r => v.ownBlock = some r) y w5 := ⟨hg5.os, hg5.tape, hg5.output, by have := hg5.size; simp at this; omega, fun r hr hn => (hg5.block r (by simp; omega) (fun e => hn e.symm)).trans (Below.heap_alloc _ _ _ hr)⟩
  refine ⟨⟨rfl, ?_⟩, ⟨hk9, hat⟩⟩
  rw [List.map_append, List.length_append, hl]
  exact hown5
theorem ls_app1 {X n gg cap : Nat} {y w5 : World} {v : Value} {ob : Obj} (hl : bs.length = n)
    (hown5 : w5.ownsRow 0 5 1 (.slice (some ⟨gg, 0, none⟩) (n + 1) cap) (n + 1) (bs.map byteV ++ [.int .u8 (X : Int)])) (hg5 : (y.alloc ob).grownBy w5 v.ownBlock) (hat : v.ownBlock = some gg ∨ gg = y.heap.size + 1) :
    LS (some gg) (.slice (some ⟨gg, 0, none⟩) (n + 1) cap) w5 (bs ++ [X]) ∧ LT v.ownBlock (some gg) y w5 :=
  ls_app (news := [X]) hl hown5 hg5 (by
    rcases hat with h | h
    · exact .inl h.symm
    · exact .inr ⟨gg, rfl, by omega⟩)
/-- what a writing function answers: the bytes with l behind -/
def LPost (o : Option Nat) (w : World) (bs l : List Nat) (e : Ending) (w' : World) : Prop := ∃ o' v', e = .returned v' ∧ LS o' v' w' (bs ++ l) ∧ LT o o' w w'
theorem c_QnumW (h : LS o v w bs) (m : Nat) (hm : (m : Int) < 9223372036854775808) (hN : bs.length + (leb m).length ≤ 1099511627776) : Calls Tryz.prog 19 #[v, .int .i64 (m : Int)] w (LPost o w bs (leb m)) := by
  obtain ⟨i0, hi0, hz0, hz1, hz2⟩ := info_parts infoU8
  have hl0 := own_form2 h.2
  obtain ⟨p0, c0, rfl⟩ := hl0
  replace h := Lib.hid h
  replace hN := Lib.hid hN
  go_enter Tryz.func19, Tryz.ntmps19
  go_wp2_with fail
  go_loopg [0, 5] m (fun g v0 v5 wr => ∃ (k : Nat) (acc : List Nat) (o' : Option Nat), k ≤ g ∧ k ≤ m ∧ v5 = .int .u64 (k : Int) ∧ leb m = acc ++ leb k ∧ LS o' v0 wr (bs ++ acc) ∧ LT o o' w wr)
  case atStart => exact ⟨m, [], o, Nat.le_refl _, Nat.le_refl _, by go_num, rfl, by rw [List.append_nil]; exact h.out, LT.refl _ _⟩
  case round =>
    obtain ⟨k, acc, o', hkg, hkm, rfl, hacc, hLS, hLT⟩ := hrel
    have hlen := hN.out
    rw [hacc, List.length_append] at hlen
    have hpos := leb_len_le k
    obtain ⟨rfl, hown⟩ := hLS
    obtain ⟨p, c, rfl⟩ := own_form2 hown
    have hnl : (bs ++ acc).length ≤ 1099511627776 := by rw [List.length_append]; omega
    obtain ⟨N, hN2⟩ : ∃ N, (bs ++ acc).length = N := ⟨_, rfl⟩
    rw [hN2] at hown hnl hLT ⊢
    replace hN2 := Lib.hid hN2
    replace hacc := Lib.hid hacc
    replace hLT := Lib.hid hLT
    clear hlen
    by_cases h128 : 128 ≤ k
    · have hd1 : decide ((128 : Int) ≤ (k : Int)) = true := by simp; omega
      have hstep : leb k = (k % 128 + 128) :: leb (k / 128) := by rw [leb, if_neg (by omega)]
      replace hstep := Lib.hid hstep
      have hX0 : ((k % 128 : Nat) : Int) = (k : Int) % 128 := by omega
      generalize hX : k % 128 + 128 = X at *
      have hXi : (k : Int) % 128 + 128 = (X : Int) := by omega
      have hXl : X < 256 := by omega
      have hown8 := hown.alloc (.cells #[byteV X] 5)
      have hnx := World.news_of_block (cs := #[byteV X]) (t := 5) (fr := (0, 0)) (heap_alloc_new wr (.cells #[byteV X] 5))
      unfold byteV at hown8 hnx
      go_wp2_with (at_builtin; go_loud (refine wpList_append_lies _ (by rfl) _ _ _ (by rfl) 0 5 i0 _ 1 1 Tryz.underlying27 hi0 hz0 hz1 hz2 rfl (by omega) (.slice p N c) N ((bs ++ acc).map byteV) (by rfl) hown8 ⟨wr.heap.size, 0, none⟩ 1 1 _ (by rfl) (by rfl) hnx (fun u hu => by simp at hu; subst hu; rfl) (by omega) (by unfold maxLen; omega) (by omega) (by omega) (wr.heap.size + 1) (by simp) ?_; intro gg cap w5 hown5 hg5 hat5 hlt5; have hfin := ls_app1 (v := .slice p N c) hN2.out hown5 hg5 hat5; replace hfin := Lib.hid hfin; clear hg5 hown5 hat5 hlt5 hown8 hnx))
      go_roundg (k / 128)
      case measure => omega
      case rel => exact ⟨k / 128, acc ++ [X], _, Nat.le_refl _, by omega, congrArg _ (by omega), by rw [hacc.out, hstep.out]; simp, by rw [← List.append_assoc]; exact hfin.out.1, hLT.out.trans hfin.out.2⟩
    · have hd1 : decide ((128 : Int) ≤ (k : Int)) = false := by simp; omega
      have hstep : leb k = [k] := by rw [leb, if_pos (by omega)]
      replace hstep := Lib.hid hstep
      have hmod : (k : Int) % 256 = (k : Int) := by omega
      have hown8 := hown.alloc (.cells #[byteV k] 5)
      have hnx := World.news_of_block (cs := #[byteV k]) (t := 5) (fr := (0, 0)) (heap_alloc_new wr (.cells #[byteV k] 5))
      unfold byteV at hown8 hnx
      go_wp2_with (at_builtin; go_loud (refine wpList_append_lies _ (by rfl) _ _ _ (by rfl) 0 5 i0 _ 1 1 Tryz.underlying27 hi0 hz0 hz1 hz2 rfl (by omega) (.slice p N c) N ((bs ++ acc).map byteV) (by rfl) hown8 ⟨wr.heap.size, 0, none⟩ 1 1 _ (by rfl) (by rfl) hnx (fun u hu => by simp at hu; subst hu; rfl) (by omega) (by unfold maxLen; omega) (by omega) (by omega) (wr.heap.size + 1) (by simp) ?_; intro gg cap w5 hown5 hg5 hat5 hlt5; have hfin := ls_app1 (v := .slice p N c) hN2.out hown5 hg5 hat5; replace hfin := Lib.hid hfin; clear hg5 hown5 hat5 hlt5 hown8 hnx))
      go_ret
      exact ⟨_, _, rfl, by rw [hacc.out, hstep.out, ← List.append_assoc]; exact hfin.out.1, hLT.out.trans hfin.out.2⟩
/-- a string's bytes put behind -/
theorem ls_appS {news : List Nat} {n : Nat} {y w5 : World} {v u : Value} (hl : bs.length = n)
    (hown5 : w5.ownsRow 0 5 1 u (n + news.length) (bs.map byteV ++ news.map byteV)) (hg5 : y.grownBy w5 v.ownBlock) (hat : u.ownBlock = v.ownBlock ∨ u.ownBlock = some y.heap.size) :
    LS u.ownBlock u w5 (bs ++ news) ∧ LT v.ownBlock u.ownBlock y w5 := by
  refine ⟨⟨rfl, ?_⟩, ⟨⟨hg5.os, hg5.tape, hg5.output, hg5.size, fun r hr hn => hg5.block r hr (fun e => hn e.symm)⟩, ?_⟩⟩
  · rw [List.map_append, List.length_append, hl]
    exact hown5
  · rcases hat with h | h
    · exact .inl h
    · exact .inr ⟨_, h, Nat.le_refl _⟩
theorem c_QtextW (h : LS o v w bs) (s : ByteArray) (hs : (s.size : Int) < 9223372036854775808) (hN : bs.length + (wrText s).length ≤ 1099511627776) : Calls Tryz.prog 42 #[v, .string s] w (LPost o w bs (wrText s)) := by
  have hlen : (wrText s).length = (leb s.size).length + s.size := by unfold wrText; rw [List.length_append, codesB_len]
  rw [hlen] at hN
  have hC := c_QnumW h s.size hs (by omega)
  obtain ⟨i0, hi0, hz0, hz1, hz2⟩ := info_parts infoU8
  obtain ⟨p0, c0, rfl⟩ := own_form2 h.2
  replace hN := Lib.hid hN
  replace hC := Lib.hid hC
  clear h hlen
  go_enter Tryz.func42, Tryz.ntmps42
  go_wp2_with fail
  refine hC.out.mono ?_
  rintro e y ⟨o', v, rfl, hW, hLT⟩
  obtain ⟨rfl, hown⟩ := hW
  obtain ⟨p, c, rfl⟩ := own_form2 hown
  obtain ⟨N, hN2⟩ : ∃ N, (bs ++ leb s.size).length = N := ⟨_, rfl⟩
  rw [hN2] at hown hLT ⊢
  have hNs : N + s.size ≤ 1099511627776 := by have := hN.out; rw [← hN2, List.length_append]; omega
  replace hN2 := Lib.hid hN2
  replace hLT := Lib.hid hLT
  clear hC
  go_wp2_with (at_builtin; go_loud (refine wpList_append_lies_string (by rfl) _ _ _ _ (by rfl) 0 5 i0 Tryz.underlying27 Tryz.underlying9 hi0 hz0 hz1 hz2 (.slice p N c) N ((bs ++ leb s.size).map byteV) (by rfl) hown s (by rfl) (by unfold maxLen; omega) (by omega) (by omega) ?_; intro u w5 hown5 hg5 hat5; obtain ⟨pu, cu, rfl⟩ := own_form2 hown5; have hfin := ls_appS (v := .slice p N c) (news := codesB s) (n := N) (u := .slice pu (N + s.size) cu) hN2.out (by rw [codesB_len, ← strCells_codes]; exact hown5) hg5 hat5; replace hfin := Lib.hid hfin; clear hg5 hown5 hat5 hown))
  go_ret
  refine ⟨_, _, rfl, ?_, hLT.out.trans hfin.out.2⟩
  have := hfin.out.1
  rw [List.append_assoc] at this
  exact this
def flN (b : Bool) : Nat := if b then 1 else 0
theorem wrFlag_eq (b : Bool) : wrFlag b = leb (flN b) := rfl
theorem c_QflagW (b : Bool) (w : World) : Calls Tryz.prog 43 #[.bool b] w fun e w' => e = .returned (.int .i64 ((flN b : Nat) : Int)) ∧ w' = w := by
  cases b with
  | true =>
    go_enter Tryz.func43, Tryz.ntmps43
    go_wp2
    go_ret
    exact ⟨rfl, rfl⟩
  | false =>
    go_enter Tryz.func43, Tryz.ntmps43
    go_wp2
    go_ret
    exact ⟨rfl, rfl⟩
end
end Go.Proofs.YtjjogaenejdliaaGreatDoor
namespace Go.Proofs.YtjjogaenejdliaaGreatDoor
open Go.RowKit Go.Lib
set_option linter.unusedVariables false
set_option linter.unusedSimpArgs false
set_option maxHeartbeats 2000000
set_option maxRecDepth 100000

def argV (i : IV) : Array Value := #[.int .i64 i.a, .int .i64 i.b, .int .i64 i.c, .int .i64 i.d]
theorem c_QArgs (i : IV) (w : World) : Calls Tryz.prog 40 #[.agg (encI i).toArray] w fun e w' => e = .returned (.slice (some ⟨w.heap.size + 1, 0, none⟩) 4 4) ∧ w'.heap[w.heap.size + 1]? = some (.cells (argV i) 3 (0, 0)) ∧ Below w.heap.size w w' := by
  obtain ⟨W1, hW1⟩ : ∃ W1, w.alloc (.cells (encI i).toArray 40) = W1 := ⟨_, rfl⟩
  have hb1 : Below w.heap.size w W1 := by rw [← hW1]; exact (Below.refl _ w).alloc (Nat.le_refl _) _
  have d1 : W1.heap[w.heap.size]? = some (.cells (encI i).toArray 40 (0, 0)) := by rw [← hW1]; exact heap_alloc_new w _
  have hs1 : W1.heap.size = w.heap.size + 1 := by rw [← hW1]; exact Array.size_push _
  obtain ⟨W2, hW2⟩ : ∃ W2, W1.alloc (.cells (argV i) 3) = W2 := ⟨_, rfl⟩
  have hb2 : Below w.heap.size w W2 := by rw [← hW2]; exact hb1.alloc hb1.size _
  have d2 : W2.heap[w.heap.size + 1]? = some (.cells (argV i) 3 (0, 0)) := by rw [← hW2, ← hs1]; exact heap_alloc_new W1 _
  obtain ⟨⟨a0, a1, a2, a3, a4⟩, -⟩ := row5 d1
  unfold encI at hW1 ⊢
  unfold argV at hW2
  replace d2 := Lib.hid d2
  replace hb2 := Lib.hid hb2
  clear d1 hb1
  go_enter Tryz.func40, Tryz.ntmps40
  go_wp2
  go_ret
  exact ⟨rfl, d2.out, hb2.out⟩
end Go.Proofs.YtjjogaenejdliaaGreatDoor

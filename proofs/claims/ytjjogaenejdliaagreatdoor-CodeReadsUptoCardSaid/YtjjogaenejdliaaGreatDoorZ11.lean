/-
  CodeReads: any bytes are read as the module that they are, or refused; where what it reads is of bulk at most 1048576 (the card ties the library's tables to its text).
-/
import Derived.Test.YtjjogaenejdliaaGreatDoorZ10
import Derived.Test.YtjjogaenejdliaaGreatDoorRows
import Derived.Lib.LaidU8
import Derived.OpenShut
import Derived.MakeChecks
import Derived.Deep.SlicePairs
import Derived.ProofKit
import Derived.JoinedCond
import Derived.Carry
import Derived.Lib.SmallJoins
import Derived.Test.YtjjogaenejdliaaGreatDoorCards
import Derived.Test.YtjjogaenejdliaaGreatDoorTie
import Derived.Lay
import Derived.Deep.DeepHandedRow
import Derived.ChangeMaps5
import Derived.LaidMore
import Derived.SevenTiedAt
namespace Go.Proofs.YtjjogaenejdliaaGreatDoor
open Go.RowKit Go.Lib Go.Proofs Go.ChangeShapes Go.WideShapes Go.ChangeAt
set_option maxHeartbeats 1000000
set_option maxRecDepth 100000

theorem bulk_small {H : Type} {ds : List (DataW H)} (hk : Rows.uptoSmall H ds = true) : Rows.uptoBulkAll ds ≤ 1048576 := of_decide_eq_true hk
theorem bulk_part {H : Type} {d : DataW H} {l : List (DataW H)} (h : d ∈ l) : Rows.uptoBulk d ≤ Rows.uptoBulkAll l := by
  induction l with
  | nil => cases h
  | cons x r ih =>
    simp only [Rows.uptoBulkAll]
    rcases List.mem_cons.1 h with rfl | e
    · omega
    · have := ih e; omega
theorem laidOut : laidOutB Tryz.prog = true := by kernel_rfl
theorem cellsU8 : Tryz.prog.cellsOf 5 = 1 := by kernel_rfl
theorem add_spot {W : World} {a : Addr} {u : Value} (d0 : W.cell? a = some u) : a.spot = none := by
  unfold World.cell? at d0
  cases hs : a.spot with
  | none => rfl
  | some z =>
    rw [hs] at d0
    cases hh : W.heap[a.block]? with
    | none => simp [hh] at d0
    | some o => cases o <;> simp [hh] at d0
theorem add_eq {a : Addr} (hsp : a.spot = none) (k : Nat) : a.add k = ⟨a.block, a.off + k, none⟩ := by
  unfold Addr.add
  split
  · rename_i h0; subst h0; rw [← hsp]; simp
  · rfl
theorem ok_lt {W : World} {base : Nat} {t e : TypeId} {a : Addr} {len cap : Nat} (ht : Tryz.prog.underlying t = some (.slice e)) (h : Value.okWide Tryz.prog W .any base t (.slice (some a) len cap)) : a.block < W.heap.size := by
  simp only [Value.okWide, ht, Cell.okWide, Cell.ok] at h
  obtain ⟨_, _, _, _, row, cells, hs, _⟩ := h
  unfold World.shape? at hs
  cases hh : W.heap[a.block]? with
  | none => rw [hh] at hs; cases hs
  | some o => exact row_lt hh
theorem bytes_open {H : Type} {enc : TypeId × Value → H} {W : World} {base : Nat} {v : Value} {d : DataW H} {p : List MemPlace} (hok : Value.okWide Tryz.prog W .any base 27 v) (h : DataW.Trod enc Tryz.prog W 0 (fun _ => true) true 27 v d p) (h00 : 0 < W.heap.size) :
    ∃ (bs : List Nat) (bb : Nat), RdB W v bs ∧ Blk bb v ∧ bb < W.heap.size := by
  obtain ⟨a0, len0, cap0, rfl⟩ := okWide_slice Tryz.underlying27 hok
  have hok' := hok
  obtain ⟨fuel, hf⟩ := h
  rcases Go.Deep.open_slice Tryz.underlying27 hf with ⟨hcs, hx⟩ | ⟨a, len, cap, m, n, D, Pl, hcs, hba, hlc, hcm, hm, hx, hcell⟩
  · simp [Value.cells] at hcs
    obtain ⟨rfl, rfl, rfl⟩ := hcs
    exact ⟨[], 0, ⟨none, 0, rfl, by simp, by simp, fun k x hx => by simp at hx⟩, (fun p n c h => by cases h), h00⟩
  · simp [Value.cells] at hcs
    obtain ⟨rfl, rfl, rfl⟩ := hcs
    rw [cellsU8] at hcell
    have each : ∀ i, i < len0 → ∃ z : Nat, z < 256 ∧ W.cell? (a.add i) = some (.int .u8 (z : Int)) := by
      intro i hi
      obtain ⟨cs', c0, t0⟩ := hcell i (by rw [hm]; split <;> omega)
      obtain ⟨z, e0, _, hwf⟩ := DataW.trod_int Tryz.underlying5 t0
      subst e0
      obtain ⟨_, hl, hat⟩ := World.cells?_some c0
      have hz : 0 ≤ z ∧ z ≤ 255 := by
        simp [Lit.wf] at hwf
        exact hwf
      refine ⟨z.toNat, by omega, ?_⟩
      have := hat 0 (by simp)
      have h0 : ∀ q : Addr, q.add 0 = q := fun q => by simp [Addr.add]
      rw [h0, Nat.mul_one] at this
      rw [Int.toNat_of_nonneg hz.1]
      simpa using this
    obtain ⟨q, hq⟩ := Go.Deep.choose_lt each
    have hl : ((List.range len0).map q).length = len0 := by simp
    by_cases h0 : 0 < len0
    · have d0 := (hq 0 h0).2
      have h00' : a.add 0 = a := by simp [Addr.add]
      rw [h00'] at d0
      have hsp := add_spot d0
      have ha : a = ⟨a.block, a.off, none⟩ := by rw [← hsp]
      refine ⟨(List.range len0).map q, a.block, ⟨some a, cap0, by rw [hl], by rw [hl]; exact hlc, hcm, fun k x hx => ?_⟩, fun p n c h => by injection h with h; injection h with h; rw [← h], cell_lt d0⟩
      have hk : k < len0 := by have := (List.getElem?_eq_some_iff.1 hx).1; simpa using this
      have hxe : q k = x := by simpa [hk] using hx
      obtain ⟨g1, g2⟩ := hq k hk
      rw [hxe] at g1 g2
      exact ⟨g1, a.block, a.off, by rw [← ha], by rw [← add_eq hsp]; exact g2⟩
    · obtain rfl : len0 = 0 := by omega
      exact ⟨[], a.block, ⟨some a, cap0, rfl, by simp, hcm, fun k x hx => by simp at hx⟩, (fun p n c h => by injection h with h; injection h with h; rw [← h]), ok_lt Tryz.underlying27 hok'⟩
theorem gSp : Tryz.prog.globalNamed "strings.asciiSpace" = some 0 := by kernel_rfl
theorem tSp : (Tryz.prog.globals[0]?).map (·.type) = some 126 := by kernel_rfl
theorem cAsc : Tryz.prog.cellsOf 126 = 256 := by kernel_rfl
def spT : List Int := (List.range 256).map fun c => if Lib.isSp (UInt8.ofNat c) then 1 else 0
theorem laid_sp : (Rows.laid_strings_asciiSpace : DataW Unit) = tabData .u8 spT := by kernel_rfl
def laidL : List (String × DataW Unit) := Rows.codeReadsUptoRow.laid
theorem spc_of_reads {W : World} (h : VarReads Tryz.prog W "strings.asciiSpace" Rows.laid_strings_asciiSpace) : Spc W := by
  obtain ⟨g, t, cs, fuel, p, hg, ht, hv, hd⟩ := h
  obtain rfl := Option.some.inj (gSp.symm.trans hg)
  obtain rfl := Option.some.inj (tSp.symm.trans ht)
  rw [laid_sp] at hd
  have hz := cells_of_tab Tryz.underlying126 Tryz.underlying5 cellsU8 cAsc hd
  intro c hc
  refine (World.var?_cell hg hv _).trans ?_
  have : cs.toList[c]? = (_ : List Value)[c]? := congrArg (·[c]?) hz
  rw [Array.getElem?_toList] at this
  rw [this, List.getElem?_map]
  unfold spT
  rw [List.getElem?_map, List.getElem?_range hc]
  rfl
end Go.Proofs.YtjjogaenejdliaaGreatDoor
namespace Go.Proofs.YtjjogaenejdliaaGreatDoor.codeReads
open Go.ChangeShapes Go.WideShapes Go.ChangeAt Go.RowKit Go.ChangeMaps
set_option linter.unusedVariables false

theorem own : ownKnob Tryz.prog.godebug = none := by kernel_rfl
set_option maxRecDepth 100000 in
theorem contract (H : Type) (enc : TypeId × Value → H) (W : World) (base : Nat) (args : Array Value) (ds gs : List (DataW H)) (before : List MemPlace)
    (hval : ∀ (j : Nat) t v, Tryz.f4.params[j]? = some t → args[j]? = some v → Value.okWide Tryz.prog W .any base t v)
    (hW : DataW.Whole enc Tryz.prog Tryz.f4.params.toList Rows.codeReadsSpec.vars false W args.toList ds gs before) (hL : laidMetH Tryz.prog laidL W) :
    Calls Tryz.prog 4 args W fun e W' => ∃ v, e = .returned v ∧ Rows.codeReadsSpec.post enc Tryz.prog Tryz.f4 false true false false W args v W' := by
  have hW' := hW
  obtain ⟨p, q, hA0, hV, rfl, hfz, hnd⟩ := hW
  have hA : DataW.TrodAll enc Tryz.prog W 0 (fun _ => true) true Tryz.f4.params.toList args.toList ds p := hA0
  rw [Tryz.params4] at hA hval
  obtain ⟨v0, vs0, d0, ds0, p0, q0, hargs, rfl, rfl, h0, r0⟩ := trodAll_cons hA
  obtain ⟨rfl, rfl, rfl⟩ := trodAll_nil r0
  obtain rfl : args = #[v0] := by cases args; simp_all
  obtain ⟨rfl, rfl⟩ := trodVars_none hV
  simp only [List.append_nil] at hW'
  rw [MakeChecks.laidMetH_plain _ _ _ (by kernel_rfl)] at hL
  have hT := spc_of_reads (Lib.laidMet.reads hL (n := "strings.asciiSpace") (d := Rows.laid_strings_asciiSpace) (.tail _ (.tail _ (.tail _ (.tail _ (.tail _ (.tail _ (.tail _ (.tail _ (.head _))))))))))
  have h00 : 0 < W.heap.size := Nat.lt_of_le_of_lt (Nat.zero_le _) (cell_lt (hT 0 (by decide)))
  obtain ⟨bs, bb, hr, hk, hb⟩ := bytes_open (hval 0 27 v0 rfl rfl) h0 h00
  have hlt0 : ∀ x ∈ p0, x.block < W.heap.size := fun x hx => by simpa using hW'.lt x (by simp [hx])
  clear hA0
  refine (c_CodeReads bs v0 W hr hk hb hT).mono fun e W' ⟨he, hg⟩ => ?_
  subst he
  exact ⟨_, rfl, [d0], [], _, [], p0 ++ ([]), [], by simpa using hW', trodAll_mk1 (shut_bool Tryz.underlying4 _), trodAll_cons_mk (Below.trod laidOut (by kernel_rfl) (of_decide_eq_true (by kernel_rfl)) h0 hg hlt0) trodAll_mk0, rfl, hg.frame _, fun h => by cases h⟩
theorem laid_met (os : Os) : laidMet Tryz.prog laidL ((World.laidAll Tryz.prog os laidL).forCall (fun _ _ => 0) ⟨#[], #[.slice none 0 0], []⟩).memory :=
  laidMet_laidAll _ (by kernel_rfl) (by kernel_rfl)
set_option maxRecDepth 100000 in
theorem reads (os : Os) {H : Type} (enc : TypeId × Value → H) : ∃ places, DataW.whole enc Tryz.prog ((World.laidAll Tryz.prog os laidL).forCall (fun _ _ => 0) ⟨#[], #[.slice none 0 0], []⟩).memory Tryz.f4.params.toList Rows.codeReadsSpec.vars false #[Value.slice none 0 0].toList 8 = some ([.nil], [], places) :=
  ⟨[], by kernel_rfl⟩
set_option maxRecDepth 100000 in
theorem lifted (os : Os) (started : os.Started) (H : Type) (enc : TypeId × Value → H) (F : Stop.Interp) :
    ReturnsInHanded {} Tryz.checked os 4 .any ((Rows.OpenSpec.upto Rows.codeReadsSpec).preRow enc Tryz.prog Tryz.f4 Rows.codeReadsUptoRow.domain false laidL) (((Rows.OpenSpec.upto Rows.codeReadsSpec).at F).post enc Tryz.prog Tryz.f4 false true false false) := by
  obtain ⟨places, hx⟩ := reads os enc
  refine returnsInHanded_of_row (C := Tryz.checked) (s := Rows.OpenSpec.upto Rows.codeReadsSpec) own started (by kernel_rfl) Tryz.func4
    ⟨World.laidAll Tryz.prog os laidL, fun _ _ => 0, ⟨#[], #[.slice none 0 0], []⟩, World.laidAll_os _ _ _, World.shaped_of_ZipB (by kernel_rfl) (by kernel_rfl),
      rfl, (Input.okWide_of_okWideB (by kernel_rfl)).2,
      OpenSpec.preRow_of_cond 8 hx (by kernel_rfl) (fun k hk => by cases hk; kernel_rfl) (by kernel_rfl) (by rw [MakeChecks.laidMetH_plain _ _ _ (by kernel_rfl)]; exact laid_met os),
      by
        simp only [Assume.holds]
        exact ⟨by simp, by simp, fun _ => Modest.zero, by simp, by simp⟩⟩ ?_
  intro W base args ds gs before hval hW _ hcond _ hL _ _
  exact contract H enc W base args ds gs before hval hW hL
theorem over : Rows.CodeReadsUptoSaid :=
  OpenClaim.holds_of_cond 4 Tryz.f4 rfl rfl rfl rfl rfl rfl rfl ⟨rfl, rfl, rfl, rfl, rfl⟩ rfl rfl rfl rfl rfl (by kernel_rfl) Tryz.func4 (by kernel_rfl)
    (of_decide_eq_true (by kernel_rfl)) (by unfold Func.isWrapper; first | (rw [if_pos (by decide +kernel)]; kernel_rfl) | (rw [if_neg (by decide +kernel)]; exact ⟨rfl, rfl⟩))
    (fun os started H enc _ F => by rw [OpenClaim.pre_eq_preRow]; exact lifted os started H enc F)
theorem plain (f : FuncId) (fn : Func) (hf : Tryz.pinned.checked.prog.funcNamed "lintel/lintellaw11.CodeReads" = some f) (hfn : Tryz.pinned.checked.prog.funcs[f]? = some fn) :
    true = Tryz.pinned.checked.prog.looks [] ∧ ∀ (j : Nat) t, fn.params[j]? = some t → Tryz.pinned.checked.prog.wantsStandIn t = false := by
  obtain rfl : f = 4 := Option.some.inj ((show Tryz.prog.funcNamed "lintel/lintellaw11.CodeReads" = some 4 by kernel_rfl).symm.trans hf) |>.symm
  obtain rfl : fn = Tryz.f4 := (Option.some.inj (Tryz.func4.symm.trans hfn)).symm
  refine ⟨by kernel_rfl, fun j t ht => ?_⟩
  rw [Tryz.params4] at ht
  have hm : t ∈ [27] := by simpa using Array.mem_of_getElem? ht
  have hall : ([27].all fun u => !Tryz.prog.wantsStandIn u) = true := by kernel_rfl
  exact (show Tryz.prog.wantsStandIn t = false by simpa using List.all_eq_true.1 hall t hm)
theorem proved : Rows.CodeReadsUptoCardSaid :=
  Claim7.holds_tied_plain_at .later [] _ _ _ _ over (fun _ h => by cases h) (by kernel_rfl) (fun _ h => by cases h) codeReadsUpto_row_tie rfl ⟨rfl, rfl⟩ (by kernel_rfl) rfl plain (by kernel_rfl)
end Go.Proofs.YtjjogaenejdliaaGreatDoor.codeReads

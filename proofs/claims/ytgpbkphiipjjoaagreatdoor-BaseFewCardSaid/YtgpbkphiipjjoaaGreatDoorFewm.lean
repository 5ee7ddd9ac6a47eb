/- What is proved: of every input the law BaseFew answers true, and its arguments read as they did. Its conditions: the package-level variables that the row lists hold what the program's text lays them. -/
import Derived.Test.YtgpbkphiipjjoaaGreatDoorMe

namespace Go.Proofs.YtgpbkphiipjjoaaGreatDoor.Pv
open Go Go.ChangeShapes Go.WideShapes Go.ChangeAt Go.RowKit
set_option maxRecDepth 100000
set_option linter.unusedSimpArgs false

theorem own : ownKnob Tryz.prog.godebug = none := by kernel_rfl
theorem mixed : Tryz.prog.follows .mixedOrders = true := by kernel_rfl

theorem glob_of_laid {W : World} (h0 : laidMetH Tryz.prog Rows.baseFewRow.laid W) : Glob W.heap := by
  have h : laidMet Tryz.prog Rows.baseFewRow.laid W := h0
  have h3 := h.tail.tail.tail
  obtain ⟨a1, s1, hv1, -, -, -⟩ := laid_sentinel (P := Tryz.prog) (g := 1) (ti := 130) (tp := 169) (te := 171) (ts := 9) h3 (by kernel_rfl) (by kernel_rfl) Tryz.underlying130 err_row Tryz.underlying169 Tryz.underlying171 rfl rfl (by kernel_rfl) (by kernel_rfl) (by kernel_rfl)
  obtain ⟨a0, s0, hv0, -, -, -⟩ := laid_sentinel (P := Tryz.prog) (g := 0) (ti := 130) (tp := 169) (te := 171) (ts := 9) h3.tail (by kernel_rfl) (by kernel_rfl) Tryz.underlying130 err_row Tryz.underlying169 Tryz.underlying171 rfl rfl (by kernel_rfl) (by kernel_rfl) (by kernel_rfl)
  have h2 := h.tail.tail
  refine ⟨⟨_, _, hv0⟩, ⟨_, _, hv1⟩, ?_⟩
  have ht : Lib.TabIs Tryz.prog W "internal/strconv.uint64pow10" .u64 Lib.pow10Tab := Lib.tabIs_of_head (P := Tryz.prog) (W := W) (g := 3) (t := 173) (n := 20) (e := 150) (by kernel_rfl) (by kernel_rfl) (by kernel_rfl) (by kernel_rfl) (by kernel_rfl) (by kernel_rfl) h2
  exact ht

/-- THE CONTRACT, FOR EVERY ARGUMENT -/
theorem few_contract (H : Type) (enc : TypeId × Value → H) (W : World) (base : Nat) (args : Array Value) (ds gs : List (DataW H)) (before : List MemPlace)
    (hval : ∀ (j : Nat) t v, Tryz.f4.params[j]? = some t → args[j]? = some v → Value.okWide Tryz.prog W .any base t v)
    (hW : DataW.Whole enc Tryz.prog Tryz.f4.params.toList Rows.baseFewSpec.vars false W args.toList ds gs before) (hL : laidMetH Tryz.prog Rows.baseFewRow.laid W) :
    Calls Tryz.prog 4 args W fun e W' => ∃ v, e = .returned v ∧ Rows.baseFewSpec.post enc Tryz.prog Tryz.f4 false true false false W args v W' := by
  have hW' := hW
  obtain ⟨p, q, hA0, hV, rfl, hfz, hnd⟩ := hW
  have hA : DataW.TrodAll enc Tryz.prog W 0 (fun _ => true) true Tryz.f4.params.toList args.toList ds p := hA0
  rw [Tryz.params4] at hA hval
  obtain ⟨v0, vs0, d0, ds0, p0, q0, hargs, rfl, rfl, h0, r0⟩ := trodAll_cons hA
  obtain ⟨v1, vs1, d1, ds1, p1, q1, rfl, rfl, rfl, h1, r1⟩ := trodAll_cons r0
  obtain ⟨rfl, rfl, rfl⟩ := trodAll_nil r1
  obtain rfl : args = #[v0, v1] := by cases args; simp_all
  obtain ⟨rfl, rfl⟩ := trodVars_none hV
  obtain ⟨l, rl, wl, again0⟩ := arg_ints (k := .u8) (e := 5) (by kernel_rfl) (by kernel_rfl) (by kernel_rfl) (hval 0 22 v0 rfl rfl) h0
  obtain ⟨n, rfl, rfl, wn, again1⟩ := arg_int (k := .u8) (by kernel_rfl) (hval 1 5 v1 rfl rfl) h1
  clear hA0
  have hl : ∀ x, x ∈ l → 0 ≤ x ∧ x < 65536 := fun x hx => by
    have := wl x hx
    simp only [Lit.wf, Bool.and_eq_true, decide_eq_true_eq, show IntKind.u8.min = 0 from rfl, show IntKind.u8.max = 255 from rfl] at this
    omega
  have hn : 0 ≤ n ∧ n < 256 := by
    simp only [Lit.wf, Bool.and_eq_true, decide_eq_true_eq, show IntKind.u8.min = 0 from rfl, show IntKind.u8.max = 255 from rfl] at wn
    omega
  have walk : Calls Tryz.prog 4 #[v0, .int .u8 n] W fun e w' => e = .returned (.bool true) ∧ Old W w' :=
    law_calls Tryz.func4 (by kernel_rfl) (by kernel_rfl) (BaseFew_ret W.heap (glob_of_laid hL) mixed l false hl n hn)
      ⟨rfl, fun i hi => by
        match i, hi with
        | 0, _ => exact .d _ _ rl
        | 1, _ => exact .d _ _ (.int _ _)⟩
  refine walk.mono fun e W' ⟨he, hg⟩ => ?_
  subst he
  exact ⟨_, rfl, post_old (pa := p0 ++ []) (pv := []) hW' (fun _ _ _ => trodAll_cons_mk (shut_bool (t := 4) (by kernel_rfl) _) trodAll_mk0)
    (fun sp hsp => by
      have h2 := again0 W' sp hg (fun p hp => hsp p (by simp [hp]))
      exact trodAll_cons_mk h2 (trodAll_cons_mk (again1 W' sp) trodAll_mk0))
    (fun _ _ => rfl) (by simp) hg (ok_one (t := 4) (by kernel_rfl) rfl (okWide_bool_mk (by kernel_rfl) _))⟩

/-- A WORLD FOR THE WITNESS: the settled one, with what the listed variables' initialisers lay. -/
def litCell : DataW Unit → Value
  | .lit (.int k n) => .int k n
  | _ => .bool false
def dataCells : DataW Unit → Array Value
  | .agg l => (l.map litCell).toArray
  | _ => #[]
def layCells (h : Array Obj) (g : Nat) (cs : Array Value) : Array Obj := h.modify g fun
  | .cells _ t frozen => .cells cs t frozen
  | o => o
noncomputable def low : Nat := (World.holding Tryz.prog default ⟨#[], #[], []⟩).heap.size
noncomputable def laidWorld (os : Os) : World :=
  let w0 := World.holding Tryz.prog os ⟨#[.cells #[.string { data := #[105, 110, 118, 97, 108, 105, 100, 32, 115, 121, 110, 116, 97, 120] }] 171, .cells #[.string { data := #[118, 97, 108, 117, 101, 32, 111, 117, 116, 32, 111, 102, 32, 114, 97, 110, 103, 101] }] 171], #[], []⟩
  { w0 with heap := layCells (layCells (layCells (layCells (layCells w0.heap 0 #[.iface 169 (.pointer (some ⟨low, 0, none⟩))]) 1 #[.iface 169 (.pointer (some ⟨low + 1, 0, none⟩))])
      3 (dataCells Rows.laid_internal_strconv_uint64pow10)) 4 (dataCells Rows.laid_math_bits_deBruijn32tab)) 5 (dataCells Rows.laid_math_bits_deBruijn64tab) }
theorem laid_met (os : Os) (args : Array Value) : laidMet Tryz.prog Rows.baseFewRow.laid ((laidWorld os).forCall (fun _ _ => 0) ⟨#[], args, []⟩).memory :=
  laidMet_of_run' 8 (by kernel_rfl) (by kernel_rfl)
theorem few_reads (os : Os) {H : Type} (enc : TypeId × Value → H) : ∃ places, DataW.whole enc Tryz.prog ((laidWorld os).forCall (fun _ _ => 0) ⟨#[], #[.slice none 0 0, .int .u8 0], []⟩).memory Tryz.f4.params.toList Rows.baseFewSpec.vars false #[.slice none 0 0, .int .u8 0].toList 8 = some ([.nil, .lit (.int .u8 0)], [], places) :=
  ⟨[], by kernel_rfl⟩

theorem few_lifted (os : Os) (started : os.Started) (H : Type) (enc : TypeId × Value → H) (F : Stop.Interp) :
    ReturnsInHanded {} Tryz.checked os 4 .any ((OpenSpec.ofChange Rows.baseFewSpec).preRow enc Tryz.prog Tryz.f4 Rows.baseFewRow.domain false Rows.baseFewRow.laid) (((OpenSpec.ofChange Rows.baseFewSpec).at F).post enc Tryz.prog Tryz.f4 false true false false) := by
  obtain ⟨places, hx⟩ := few_reads os enc
  refine returnsInHanded_of_row (C := Tryz.checked) (s := OpenSpec.ofChange Rows.baseFewSpec) own started (by kernel_rfl) Tryz.func4
    (witness_row_at (enc := enc) (C := Tryz.checked) false (laidWorld os) #[.slice none 0 0, .int .u8 0] rfl (by kernel_rfl) (by kernel_rfl) (by kernel_rfl)
      (OpenSpec.preRow_of_cond 8 hx (by kernel_rfl) (fun k hk => by cases hk) (by kernel_rfl) (laid_met os _))) ?_
  intro W base args ds gs before hval hW _ _ _ hL _ _
  exact few_contract H enc W base args ds gs before hval hW hL

theorem few_said : Rows.BaseFewSaid :=
  OpenClaim.holds_of_cond 4 Tryz.f4 rfl rfl rfl rfl rfl rfl rfl ⟨rfl, rfl, rfl, rfl, rfl⟩ rfl rfl rfl rfl rfl (by kernel_rfl) Tryz.func4 (by kernel_rfl)
    (of_decide_eq_true (by kernel_rfl)) (by unfold Func.isWrapper; first | (rw [if_pos (by decide +kernel)]; kernel_rfl) | (rw [if_neg (by decide +kernel)]; exact ⟨rfl, rfl⟩))
    (fun os started H enc _ F => by rw [OpenClaim.pre_eq_preRow]; exact few_lifted os started H enc F)

theorem few_plain (f : FuncId) (fn : Func) (hf : Tryz.pinned.checked.prog.funcNamed "parterre/parterrelaw10.BaseFew" = some f) (hfn : Tryz.pinned.checked.prog.funcs[f]? = some fn) :
    true = Tryz.pinned.checked.prog.looks [] ∧ ∀ (j : Nat) t, fn.params[j]? = some t → Tryz.pinned.checked.prog.wantsStandIn t = false := by
  obtain rfl : f = 4 := Option.some.inj ((show Tryz.prog.funcNamed "parterre/parterrelaw10.BaseFew" = some 4 by kernel_rfl).symm.trans hf) |>.symm
  obtain rfl : fn = Tryz.f4 := (Option.some.inj (Tryz.func4.symm.trans hfn)).symm
  refine ⟨by kernel_rfl, fun j t ht => ?_⟩
  rw [Tryz.params4] at ht
  have hm := Array.mem_of_getElem? ht
  simp only [List.mem_toArray, List.mem_cons, List.not_mem_nil, or_false] at hm
  rcases hm with rfl | rfl
  · exact (show Tryz.prog.wantsStandIn 22 = false by kernel_rfl)
  · exact (show Tryz.prog.wantsStandIn 5 = false by kernel_rfl)

end Go.Proofs.YtgpbkphiipjjoaaGreatDoor.Pv
namespace Go.Proofs.YtgpbkphiipjjoaaGreatDoor
open Go
/-- THE CARD: of every input BaseFew answers true. -/
theorem few_card : Rows.BaseFewCardSaid :=
  Claim7.holds_tied_plain_at .later [] _ _ _ _ Pv.few_said (fun _ h => by cases h) (by kernel_rfl) (fun _ h => by cases h) baseFew_row_tie rfl ⟨rfl, rfl⟩ (by kernel_rfl) rfl Pv.few_plain (by kernel_rfl)
#print axioms few_card
end Go.Proofs.YtgpbkphiipjjoaaGreatDoor

/- Equality: of numbers, truth values, texts, structs and arrays of these; of what may be nil. -/
import Derived.Test.YtgpbkphiipjjoaaGreatDoorMa
import Derived.Laws.StructEq
import Derived.Laws.LoneSync


section
namespace Go.Proofs.YtgpbkphiipjjoaaGreatDoor.Pv
open Go

inductive EK where
  | int
  | str
  | bool

def ekOf (P : Program) (t : TypeId) : Option EK :=
  match P.underlying t with
  | some (.int _) => some .int
  | some .string => some .str
  | some .bool => some .bool
  | _ => none

/-- the kinds of the cells, in order; none: some part is of another kind -/
def ekParts (P : Program) : List (TypeId × Nat) → Nat → Option (List EK)
  | [], _ => some []
  | (t, off) :: r, i => if off = i then (match ekOf P t, ekParts P r (i + 1) with
    | some k, some l => some (k :: l)
    | _, _ => none) else none

def eqKinds (P : Program) (t : TypeId) : Option (Bool × List EK) :=
  match P.underlying t with
  | some (.struct fs) => if !P.stoodInHeld t && fs.all (·.name != "_") && !P.eqGuardType P.depth t then (ekParts P (fs.toList.map fun f => (f.type, f.offset)) 0).map (true, ·) else none
  | some (.array n e) => match P.info? e with
    | some i => if i.size = 1 && !P.eqGuardType P.depth t then (ekParts P ((List.range n).map fun k => (e, k)) 0).map (true, ·) else none
    | none => none
  | _ => (ekOf P t).map fun k => (false, [k])

def cellBeq : D → D → Bool
  | .int _ a, .int _ b => decide (a = b)
  | .str a, .str b => decide (a = b)
  | .bool a, .bool b => a == b
  | _, _ => false
def aggBeq : List D → List D → Bool
  | [], [] => true
  | x :: xs, y :: ys => cellBeq x y && aggBeq xs ys
  | _, _ => false
def cellFits : EK → D → D → Bool
  | .int, .int k _, .int k' _ => decide (k = k')
  | .str, .str _, .str _ => true
  | .bool, .bool _, .bool _ => true
  | _, _, _ => false
def fits2 : List EK → List D → List D → Bool
  | [], [], [] => true
  | k :: ks, x :: xs, y :: ys => cellFits k x y && fits2 ks xs ys
  | _, _, _ => false

/-- what '==' tells of two data of a type -/
def eqD (P : Program) (t : TypeId) (x y : D) : Option Bool :=
  match eqKinds P t with
  | some (true, ks) => match x, y with
    | .agg xs, .agg ys => if fits2 ks xs ys then some (aggBeq xs ys) else none
    | _, _ => none
  | some (false, ks) => match ks with
    | [k] => if cellFits k x y then some (cellBeq x y) else none
    | _ => none
  | none => none

section
variable {P : Program}

theorem run_eq_cell {t : TypeId} {k : EK} (hk : ekOf P t = some k) {x y : D} (hf : cellFits k x y = true) {w : World} {I : Nat → Prop} {u v : Value} (hx : RD w I x u) (hy : RD w I y v) (d : Nat) :
    (Op.equalIn (d + 1) t u v).run P w = .ok (cellBeq x y) w := by
  unfold ekOf at hk
  split at hk <;> try (cases hk; done)
  all_goals
    rename_i hu
    injection hk with hk; subst hk
  · cases x <;> simp only [cellFits, Bool.false_eq_true] at hf
    cases y <;> simp only [cellFits, decide_eq_true_eq, Bool.false_eq_true] at hf
    subst hf
    cases hx; cases hy
    rw [run_equalIn_int _ _ _ _ _ _ _ hu, int_beq]; rfl
  · cases x <;> simp only [cellFits, Bool.false_eq_true] at hf
    cases y <;> simp only [cellFits, Bool.false_eq_true] at hf
    cases hx with
    | str _ a ha hl1 => cases hy with
      | str _ b hb hl2 =>
        rw [run_equalIn_string _ _ _ _ _ hu, ByteArray.toList_eq, ByteArray.toList_eq, ha, hb]
        simp only [cellBeq]
        congr 1
        rename_i l m
        by_cases q : l = m <;> simp [q]
  · cases x <;> simp only [cellFits, Bool.false_eq_true] at hf
    cases y <;> simp only [cellFits, Bool.false_eq_true] at hf
    cases hx; cases hy
    rw [run_equalIn_bool' _ _ _ _ _ hu]; rfl

theorem cellFits_agg (k : EK) (xs ys : List D) : cellFits k (.agg xs) (.agg ys) = false := by cases k <;> rfl
theorem run_eq_nil {t : TypeId} {ms : Array (String × TypeId)} (hu : P.underlying t = some (.interface ms)) (d : Nat) (w : World) : (Op.equalIn (d + 1) t .nilIface .nilIface).run P w = .ok true w := by simp [Op.equalIn, Go.run_underlying hu]
theorem run_eq_nil1 {t u : TypeId} {v : Value} {ms : Array (String × TypeId)} (hu : P.underlying t = some (.interface ms)) (d : Nat) (w : World) : (Op.equalIn (d + 1) t (.iface u v) .nilIface).run P w = .ok false w := by simp [Op.equalIn, Go.run_underlying hu]
theorem run_eq_nil2 {t u : TypeId} {v : Value} {ms : Array (String × TypeId)} (hu : P.underlying t = some (.interface ms)) (d : Nat) (w : World) : (Op.equalIn (d + 1) t .nilIface (.iface u v)).run P w = .ok false w := by simp [Op.equalIn, Go.run_underlying hu]
theorem run_binEq {t : TypeId} {x y : Value} {b : Bool} {w : World} (h : (Op.equalIn 10000 t x y).run P w = .ok b w) (hx : (match x, y with | .nilIface, _ => true | .iface _ _, _ => true | .bool _, .bool _ => true | _, _ => false) = true) :
    (binOp .eql t x y).run P w = .ok (.bool b) w ∧ (binOp .neq t x y).run P w = .ok (.bool (!b)) w := by
  cases x
  case bool q =>
    cases y
    case bool r => exact ⟨by simp only [binOp]; simp [Op.equal, Op.maxDepth, h], by simp only [binOp]; simp [Op.equal, Op.maxDepth, h]⟩
    all_goals exact Bool.noConfusion hx
  case nilIface => exact ⟨by simp only [binOp]; simp [Op.equal, Op.maxDepth, h], by simp only [binOp]; simp [Op.equal, Op.maxDepth, h]⟩
  case iface q1 q2 => exact ⟨by simp only [binOp]; simp [Op.equal, Op.maxDepth, h], by simp only [binOp]; simp [Op.equal, Op.maxDepth, h]⟩
  all_goals exact Bool.noConfusion hx

/-- a scalar part of an aggregate -/
theorem run_part1 {t : TypeId} {k : EK} (hk : ekOf P t = some k) {arr : Array Value} {off : Nat} (h : off < arr.size) {w : World} : (part t arr off).run P w = .ok (arr.getD off default) w := by
  have hi : (isAgg t).run P w = .ok false w := by
    unfold ekOf at hk
    split at hk <;> try (cases hk; done)
    all_goals
      rename_i hu
      simp [isAgg, Go.run_underlying hu]
  simp only [part, Sem.run_bind, hi, Result.andThen_ok, Bool.false_eq_true, if_false]
  simp [h, Array.getD_eq_getD_getElem?]

theorem rd_agg {w : World} {I : Nat → Prop} {cs : List D} {v : Value} (h : RD w I (.agg cs) v) : ∃ vs, v = .agg vs ∧ vs.size = cs.length ∧ ∀ i, i < cs.length → RD w I (cs.getD i default) (vs.getD i default) := by
  cases h with
  | agg _ vs h1 hs h2 => exact ⟨vs, rfl, h1, h2⟩

theorem fits2_len : ∀ {ks : List EK} {xs ys : List D}, fits2 ks xs ys = true → xs.length = ks.length ∧ ys.length = ks.length
  | [], [], [], _ => ⟨rfl, rfl⟩
  | k :: ks, x :: xs, y :: ys, h => by
    simp only [fits2, Bool.and_eq_true] at h
    have := fits2_len h.2
    simp [this.1, this.2]
  | [], _ :: _, _, h | [], [], _ :: _, h | _ :: _, [], _, h | _ :: _, _ :: _, [], h => by simp [fits2] at h

/-- the rest of a struct's fields -/
theorem run_eqFields {w : World} {I : Nat → Prop} {us vs : Array Value} (d : Nat) : ∀ (fs : List Field) (i : Nat) (ks : List EK) (xs ys : List D), (∀ f, f ∈ fs → (f.name != "_") = true) →
    ekParts P (fs.map fun f => (f.type, f.offset)) i = some ks → fits2 ks xs ys = true → i + xs.length ≤ us.size → i + ys.length ≤ vs.size →
    (∀ j, j < xs.length → RD w I (xs.getD j default) (us.getD (i + j) default)) → (∀ j, j < ys.length → RD w I (ys.getD j default) (vs.getD (i + j) default)) →
    (Op.eqFields (d + 1) us vs fs).run P w = .ok (aggBeq xs ys) w
  | [], i, ks, xs, ys, _, hk, hf, _, _, _, _ => by
    simp only [List.map_nil, ekParts, Option.some.injEq] at hk; subst hk
    obtain ⟨h1, h2⟩ := fits2_len hf
    cases xs <;> cases ys <;> simp at h1 h2
    simp [Op.eqFields, aggBeq]
  | f :: fs, i, ks, xs, ys, hn, hk, hf, l1, l2, r1, r2 => by
    simp only [List.map_cons, ekParts] at hk
    split at hk
    · rename_i hoff
      split at hk
      · rename_i k l hkf hkr
        injection hk with hk; subst hk
        cases xs with
        | nil => simp [fits2] at hf
        | cons x xs =>
          cases ys with
          | nil => simp [fits2] at hf
          | cons y ys =>
            simp only [fits2, Bool.and_eq_true] at hf
            have hname : f.name ≠ "_" := by simpa using hn f List.mem_cons_self
            simp only [List.length_cons] at l1 l2 r1 r2
            have q1 : (part f.type us f.offset).run P w = .ok (us.getD i default) w := by rw [hoff]; exact run_part1 hkf (by omega)
            have q2 : (part f.type vs f.offset).run P w = .ok (vs.getD i default) w := by rw [hoff]; exact run_part1 hkf (by omega)
            have q3 := run_eq_cell hkf hf.1 (r1 0 (by omega)) (r2 0 (by omega)) d
            simp only [Nat.add_zero] at q3
            simp only [Op.eqFields, hname, ne_eq, not_false_eq_true, if_true, Sem.run_bind, q1, q2, Result.andThen_ok, q3, aggBeq]
            cases hb : cellBeq x y with
            | false => simp
            | true =>
              simp only [Bool.not_true, Bool.false_eq_true, if_false, Bool.true_and]
              refine run_eqFields (I := I) d fs (i + 1) l xs ys (fun g hg => hn g (List.mem_cons_of_mem _ hg)) hkr hf.2 (by omega) (by omega) (fun j hj => ?_) (fun j hj => ?_)
              · have := r1 (j + 1) (by omega); rw [List.getD_cons_succ] at this; rw [show i + 1 + j = i + (j + 1) by omega]; exact this
              · have := r2 (j + 1) (by omega); rw [List.getD_cons_succ] at this; rw [show i + 1 + j = i + (j + 1) by omega]; exact this
      · cases hk
    · cases hk

/-- the loop over an array's elements, as a row of fields -/
def eqElems (d : Nat) (e : TypeId) (us vs : Array Value) : List Nat → Sem Bool
  | [] => pure true
  | i :: r => do
    let a ← part e us (i * 1)
    let b ← part e vs (i * 1)
    let q ← Op.equalIn d e a b
    if (!q) = true then pure false else eqElems d e us vs r

theorem run_equalIn_array (w : World) (d n : Nat) (t e : TypeId) (us vs : Array Value) (ht : P.underlying t = some (.array n e)) {i : TypeInfo} (hi : P.info? e = some i) (h1 : i.size = 1) :
    (Op.equalIn (d + 1) t (.agg us) (.agg vs)).run P w = (eqElems d e us vs (List.range' 0 n)).run P w := by
  have hs : (sizeOf e).run P w = .ok 1 w := by simp [sizeOf, typeInfo, hi, h1]
  simp only [Op.equalIn, Sem.run_bind, run_underlying ht, Result.andThen_ok, hs, Std.Legacy.Range.forIn_eq_forIn_range', Std.Legacy.Range.size]
  have hn : (n - 0 + 1 - 1) / 1 = n := by simp
  rw [hn]
  generalize (List.range' 0 n) = l
  clear hn hs ht
  induction l generalizing w with
  | nil => simp [eqElems]
  | cons j r ih =>
    simp only [List.forIn_cons, eqElems, Sem.run_bind, Sem.run_ite]
    generalize (part e us (j * 1)).run P w = r1
    cases r1 with
    | ok a w1 =>
      simp only [Result.andThen_ok]
      generalize hr2 : (part e vs (j * 1)).run P w1 = r2
      cases r2 with
      | ok b w2 =>
        simp only [Result.andThen_ok]
        generalize hr3 : (Op.equalIn d e a b).run P w2 = r3
        cases r3 with
        | ok q w3 =>
          cases q
          · simp only [Result.andThen_ok, Bool.not_false, if_true, Sem.run_pure]
          · simp only [Result.andThen_ok, Bool.not_true, Bool.false_eq_true, if_false, Sem.run_pure]
            exact ih w3
        | halt x w3 => simp [Result.andThen]
      | halt x w2 => simp [Result.andThen]
    | halt x w1 => simp [Result.andThen]

theorem run_eqElems {w : World} {I : Nat → Prop} {us vs : Array Value} (d : Nat) (e : TypeId) : ∀ (n i : Nat) (ks : List EK) (xs ys : List D),
    ekParts P ((List.range' i n).map fun k => (e, k)) i = some ks → fits2 ks xs ys = true → i + xs.length ≤ us.size → i + ys.length ≤ vs.size →
    (∀ j, j < xs.length → RD w I (xs.getD j default) (us.getD (i + j) default)) → (∀ j, j < ys.length → RD w I (ys.getD j default) (vs.getD (i + j) default)) →
    (eqElems (d + 1) e us vs (List.range' i n)).run P w = .ok (aggBeq xs ys) w
  | 0, i, ks, xs, ys, hk, hf, _, _, _, _ => by
    simp only [List.range'_zero, List.map_nil, ekParts, Option.some.injEq] at hk; subst hk
    obtain ⟨h1, h2⟩ := fits2_len hf
    cases xs <;> cases ys <;> simp at h1 h2
    simp [eqElems, aggBeq]
  | n + 1, i, ks, xs, ys, hk, hf, l1, l2, r1, r2 => by
    rw [List.range'_succ] at hk ⊢
    simp only [List.map_cons, ekParts, if_true] at hk
    split at hk
    · rename_i k l hkf hkr
      injection hk with hk; subst hk
      cases xs with
      | nil => simp [fits2] at hf
      | cons x xs =>
        cases ys with
        | nil => simp [fits2] at hf
        | cons y ys =>
          simp only [fits2, Bool.and_eq_true] at hf
          simp only [List.length_cons] at l1 l2 r1 r2
          have q1 : (part e us (i * 1)).run P w = .ok (us.getD i default) w := by rw [Nat.mul_one]; exact run_part1 hkf (by omega)
          have q2 : (part e vs (i * 1)).run P w = .ok (vs.getD i default) w := by rw [Nat.mul_one]; exact run_part1 hkf (by omega)
          have q3 := run_eq_cell hkf hf.1 (r1 0 (by omega)) (r2 0 (by omega)) d
          simp only [Nat.add_zero] at q3
          simp only [eqElems, Sem.run_bind, q1, q2, Result.andThen_ok, q3, aggBeq]
          cases hb : cellBeq x y with
          | false => simp
          | true =>
            simp only [Bool.not_true, Bool.false_eq_true, if_false, Bool.true_and]
            refine run_eqElems (I := I) d e n (i + 1) l xs ys hkr hf.2 (by omega) (by omega) (fun j hj => ?_) (fun j hj => ?_)
            · have := r1 (j + 1) (by omega); rw [List.getD_cons_succ] at this; rw [show i + 1 + j = i + (j + 1) by omega]; exact this
            · have := r2 (j + 1) (by omega); rw [List.getD_cons_succ] at this; rw [show i + 1 + j = i + (j + 1) by omega]; exact this
    · cases hk

/-- no two nil values of an interface type lie in a type of this kind -/
theorem eqKinds_guard {t : TypeId} {ks : List EK} (h : eqKinds P t = some (true, ks)) : P.eqGuardType P.depth t = false := by
  unfold eqKinds at h
  split at h
  · split at h
    · rename_i hc; simp only [Bool.and_eq_true, Bool.not_eq_true'] at hc; exact hc.2
    · cases h
  · split at h
    · split at h
      · rename_i hc; simp only [Bool.and_eq_true, Bool.not_eq_true'] at hc; exact hc.2
      · cases h
    · cases h
  · simp at h

theorem run_eqD {t : TypeId} {x y : D} {b : Bool} (h : eqD P t x y = some b) {w : World} {I : Nat → Prop} {u v : Value} (hx : RD w I x u) (hy : RD w I y v) (d : Nat) :
    (Op.equalIn (d + 2) t u v).run P w = .ok b w := by
  unfold eqD at h
  split at h
  · rename_i ks hk
    split at h
    · rename_i xs ys
      split at h
      · rename_i hf
        injection h with h; subst h
        obtain ⟨us, rfl, n1, r1⟩ := rd_agg hx
        obtain ⟨vs, rfl, n2, r2⟩ := rd_agg hy
        unfold eqKinds at hk
        split at hk
        · rename_i fs hu
          split at hk
          · rename_i hc
            simp only [Bool.and_eq_true, Bool.not_eq_true'] at hc
            simp only [Option.map_eq_some_iff, Prod.mk.injEq, true_and] at hk
            obtain ⟨ks', hk, rfl⟩ := hk
            have hfs : P.fieldsOf t = fs := by simp [Program.fieldsOf, hu]
            rw [run_equalIn_struct w _ t us vs (by rw [hfs]; exact hu) hc.1.1, hfs]
            refine run_eqFields (I := I) d fs.toList 0 _ xs ys (fun f hm => ?_) hk hf (by omega) (by omega) (fun j hj => by rw [Nat.zero_add]; exact r1 j hj) (fun j hj => by rw [Nat.zero_add]; exact r2 j hj)
            have := hc.1.2
            rw [Array.all_eq_true'] at this
            exact this f (by simpa using hm)
          · cases hk
        · rename_i n e hu
          split at hk
          · rename_i i hi
            split at hk
            · rename_i hc
              simp only [Bool.and_eq_true, decide_eq_true_eq] at hc
              simp only [Option.map_eq_some_iff, Prod.mk.injEq, true_and] at hk
              obtain ⟨ks', hk, rfl⟩ := hk
              rw [run_equalIn_array w _ n t e us vs hu hi hc.1]
              refine run_eqElems (I := I) d e n 0 _ xs ys (by rw [← List.range_eq_range']; exact hk) hf (by omega) (by omega) (fun j hj => by rw [Nat.zero_add]; exact r1 j hj) (fun j hj => by rw [Nat.zero_add]; exact r2 j hj)
            · cases hk
          · cases hk
        · simp at hk
      · cases h
    · cases h
  · rename_i ks hk
    split at h
    · split at h
      · rename_i k hf
        injection h with h; subst h
        unfold eqKinds at hk
        split at hk
        · split at hk <;> simp at hk
        · split at hk
          · split at hk <;> simp at hk
          · cases hk
        · simp only [Option.map_eq_some_iff, Prod.mk.injEq, List.cons.injEq, and_true, true_and] at hk
          obtain ⟨k', hk, rfl⟩ := hk
          exact run_eq_cell hk hf hx hy (d + 1)
      · cases h
    · cases h
  · cases h

/-! ### the operations '==' and '!=' of what 'pbin' leaves out -/
def nilOf : PV → Option Bool
  | .d (.raw .nilIface) => some true
  | .d (.ifc _ _) => some false
  | .ifc _ _ => some false
  | _ => none

def isIfaceTy (P : Program) (t : TypeId) : Bool := match P.underlying t with | some (.interface _) => true | _ => false

def peq (P : Program) (t : TypeId) (x y : Operand) (p q : PV) : Option Bool :=
  match p, q with
  | .d (.agg xs), .d (.agg ys) => eqD P t (.agg xs) (.agg ys)
  | .d (.bool a), .d (.bool b) => eqD P t (.bool a) (.bool b)
  | p, q => if isIfaceTy P t then (match x, y with
    | _, .const .nilIface => nilOf p
    | .const .nilIface, _ => nilOf q
    | _, _ => none) else none

def peqOp (P : Program) (op : BinOp) (t : TypeId) (x y : Operand) (p q : PV) : Option PV :=
  match op with
  | .eql => (peq P t x y p q).map fun b => .d (.bool b)
  | .neq => (peq P t x y p q).map fun b => .d (.bool (!b))
  | _ => none

end

section
variable {P : Program} {B : Array Obj} {o : Oper} {a : PA} {h : List PObj}
theorem st_eq {op : BinOp} {t t' : TypeId} {x y : Operand} {v : PV} (ho : o.op = .binOp op t x y t') (hp : peqOp P op t x y (a.eval x) (a.eval y) = some v) : PStep P B o a h v h := by
  refine pstep_of fun e w act s ra => ?_
  have hx := ra.eval x
  have hy := ra.eval y
  unfold execOp
  rw [ho]
  suffices hh : ∃ b, peq P t x y (a.eval x) (a.eval y) = some b ∧ (eqGuard op t x y (act.eval x) (act.eval y)).run P w = .ok () w ∧ (binOp .eql t (act.eval x) (act.eval y)).run P w = .ok (.bool b) w ∧ (binOp .neq t (act.eval x) (act.eval y)).run P w = .ok (.bool (!b)) w by
    obtain ⟨b, h1, h2, h3, h4⟩ := hh
    unfold peqOp at hp
    split at hp
    · rw [h1] at hp; injection hp with hp; subst hp
      exact ⟨.bool b, step_value (by simp only [Sem.run_bind, h2, Result.andThen_ok, h3]), .d _ _ (.bool _)⟩
    · rw [h1] at hp; injection hp with hp; subst hp
      exact ⟨.bool (!b), step_value (by simp only [Sem.run_bind, h2, Result.andThen_ok, h4]), .d _ _ (.bool _)⟩
    · cases hp
  have hsome : ∃ b, peq P t x y (a.eval x) (a.eval y) = some b := by
    unfold peqOp at hp
    split at hp
    · obtain ⟨b, hb, _⟩ := Option.map_eq_some_iff.1 hp; exact ⟨b, hb⟩
    · obtain ⟨b, hb, _⟩ := Option.map_eq_some_iff.1 hp; exact ⟨b, hb⟩
    · cases hp
  obtain ⟨b, hb⟩ := hsome
  refine ⟨b, hb, ?_⟩
  unfold peq at hb
  split at hb
  · rename_i xs ys hex hey
    rw [hex] at hx; rw [hey] at hy
    obtain ⟨us, hus, _⟩ := rd_agg (rv_d hx)
    obtain ⟨vs, hvs, _⟩ := rd_agg (rv_d hy)
    have hg : P.eqGuardType P.depth t = false := by
      unfold eqD at hb
      split at hb
      · rename_i ks hk; exact eqKinds_guard hk
      · split at hb
        · split at hb
          · rename_i k hf; rw [cellFits_agg] at hf; cases hf
          · cases hb
        · cases hb
      · cases hb
    have hr := run_eqD hb (rv_d hx) (rv_d hy) 9998
    rw [hus, hvs] at hr ⊢
    exact ⟨run_eqGuard_agg _ _ _ _ _ _ _ hg, by rw [run_eql_struct, hr]; rfl, by rw [run_neq_struct, hr]; rfl⟩
  · rename_i p q hex hey
    rw [hex] at hx; rw [hey] at hy
    have hr := run_eqD hb (rv_d hx) (rv_d hy) 9998
    generalize act.eval x = ax at hx hr ⊢
    generalize act.eval y = ay at hy hr ⊢
    cases rv_d hx with
    | bool _ => cases rv_d hy with
      | bool _ =>
        obtain ⟨h1, h2⟩ := run_binEq hr rfl
        exact ⟨by cases op <;> simp [eqGuard], h1, h2⟩
  · split at hb
    · rename_i hi
      obtain ⟨ms, hu⟩ : ∃ ms, P.underlying t = some (.interface ms) := by
        unfold isIfaceTy at hi
        split at hi
        · rename_i ms hu; exact ⟨ms, hu⟩
        · cases hi
      have ev : act.eval (.const .nilIface) = .nilIface := rfl
      have form : ∀ {p : PV} {v : Value} {b : Bool}, nilOf p = some b → RV w e p v → (b = true ∧ v = .nilIface) ∨ (b = false ∧ ∃ t u, v = .iface t u) := by
        intro p v b hn hr
        unfold nilOf at hn
        split at hn <;> first | (cases hn; done) | (injection hn with hn; subst hn)
        · cases rv_d hr; exact .inl ⟨rfl, rfl⟩
        · cases rv_d hr; exact .inr ⟨rfl, _, _, rfl⟩
        · cases hr; exact .inr ⟨rfl, _, _, rfl⟩
      split at hb
      · rw [ev] at hy ⊢
        rcases form hb hx with ⟨rfl, hv⟩ | ⟨rfl, t1, u1, hv⟩
        · rw [hv]
          obtain ⟨h1, h2⟩ := run_binEq (run_eq_nil hu 9999 w) rfl
          exact ⟨by cases op <;> simp [eqGuard], h1, h2⟩
        · rw [hv]
          obtain ⟨h1, h2⟩ := run_binEq (run_eq_nil1 (u := t1) (v := u1) hu 9999 w) rfl
          exact ⟨by cases op <;> simp [eqGuard], h1, h2⟩
      · rw [ev] at hx ⊢
        rcases form hb hy with ⟨rfl, hv⟩ | ⟨rfl, t1, u1, hv⟩
        · rw [hv]
          obtain ⟨h1, h2⟩ := run_binEq (run_eq_nil hu 9999 w) rfl
          exact ⟨by cases op <;> simp [eqGuard], h1, h2⟩
        · rw [hv]
          obtain ⟨h1, h2⟩ := run_binEq (run_eq_nil2 (u := t1) (v := u1) hu 9999 w) rfl
          exact ⟨by cases op <;> simp [eqGuard], h1, h2⟩
      · cases hb
    · cases hb
end
end Go.Proofs.YtgpbkphiipjjoaaGreatDoor.Pv
end

/- Maps. -/
section
namespace Go.Proofs.YtgpbkphiipjjoaaGreatDoor.Pv
open Go

section
variable {P : Program}

theorem zero_rv {t : TypeId} {d : TD} {td : TypeDesc} {i : TypeInfo} {z : Value} (T : TyIs P t d td i z) (w : World) (e : Env) : RV w e (zeroElem d) z := by
  unfold zeroElem
  have hag := T.ag
  split
  · rename_i hk
    rw [hk] at hag
    cases z <;> simp only [aggV, Bool.false_eq_true] at hag
    rename_i cs
    have hz := T.z
    have hf := T.flat
    simp only [Value.cells] at hz hf
    rw [← hz]
    refine .d _ _ (.agg _ _ (by simp) (fun j hj => ?_) (fun j hj => ?_))
    · have hj' : j < cs.size := by simpa using hj
      have := hf j hj'
      simp only [List.getD_eq_getElem?_getD, List.getElem?_map, Array.getElem?_toList, Array.getElem?_eq_getElem hj', Option.map_some, Option.getD_some]
      rw [Array.getD_eq_getD_getElem?, Array.getElem?_eq_getElem hj'] at this
      exact cD_scalar _ this
    · have hj' : j < cs.size := by simpa using hj
      simp only [List.getD_eq_getElem?_getD, List.getElem?_map, Array.getElem?_toList, Array.getElem?_eq_getElem hj', Option.map_some, Option.getD_some, Array.getD_eq_getD_getElem?]
      exact RD.const _ _ _
  · rename_i hk
    have hk : d.k.agg = false := by simpa using hk
    rw [hk] at hag
    have hz := T.z
    have hc : z.cells = #[z] := by cases z <;> first | rfl | simp [aggV] at hag
    rw [hc] at hz
    rw [← hz]
    exact .d _ _ (RD.const _ _ _)

theorem cellFits_self {k : EK} {x y : D} (h : cellFits k x y = true) (hb : cellBeq x y = true) : x = y := by
  cases k <;> cases x <;> simp only [cellFits, Bool.false_eq_true] at h <;> cases y <;> simp only [cellFits, Bool.false_eq_true, decide_eq_true_eq] at h <;> simp [cellBeq] at hb
  · rw [h, hb]
  · rw [hb]
  · rw [hb]
theorem fits2_self : ∀ {ks : List EK} {xs ys : List D}, fits2 ks xs ys = true → aggBeq xs ys = true → xs = ys
  | [], [], [], _, _ => rfl
  | k :: ks, x :: xs, y :: ys, h, hb => by
    simp only [fits2, aggBeq, Bool.and_eq_true] at h hb
    rw [cellFits_self h.1 hb.1, fits2_self h.2 hb.2]
  | [], _ :: _, _, h, _ | [], [], _ :: _, h, _ | _ :: _, [], _, h, _ | _ :: _, _ :: _, [], h, _ => by simp [fits2] at h
theorem eqD_true {t : TypeId} {x y : D} (h : eqD P t x y = some true) : x = y := by
  unfold eqD at h
  split at h
  · split at h
    · split at h
      · rename_i hf; injection h with h; rw [fits2_self hf h]
      · cases h
    · cases h
  · split at h
    · split at h
      · rename_i hf; injection h with h; exact cellFits_self hf h
      · cases h
    · cases h
  · cases h

/-! ### keys -/
def keyBeq (k : D) : PV → Bool
  | .d x => match k, x with
    | .agg xs, .agg ys => aggBeq xs ys
    | k, x => cellBeq k x
  | _ => false
def KFits (P : Program) (kt : TypeId) (k : D) : PV → Prop
  | .d x => (eqD P kt k x).isSome = true
  | _ => False
def pfind (k : D) : List PV → Nat → Option Nat
  | [], _ => none
  | q :: r, i => if keyBeq k q then some i else pfind k r (i + 1)

theorem keyBeq_eq {kt : TypeId} {k x : D} (h : (eqD P kt k x).isSome = true) : eqD P kt k x = some (keyBeq k (.d x)) := by
  obtain ⟨b, hb⟩ := Option.isSome_iff_exists.1 h
  rw [hb]
  unfold eqD at hb
  split at hb
  · split at hb
    · split at hb
      · injection hb with hb; rw [← hb]; rfl
      · cases hb
    · cases hb
  · split at hb
    · split at hb
      · rename_i k' hf
        injection hb with hb
        rw [← hb]
        congr 1
        cases k <;> cases x <;> first | rfl | (rw [cellFits_agg] at hf; cases hf)
      · cases hb
    · cases hb
  · cases hb

theorem pfind_lt : ∀ {ks : List PV} {k : D} {i j : Nat}, pfind k ks i = some j → i ≤ j ∧ j < i + ks.length ∧ keyBeq k (ks.getD (j - i) .junk) = true
  | [], _, _, _, h => by simp [pfind] at h
  | q :: r, k, i, j, h => by
    unfold pfind at h
    split at h
    · rename_i hb
      injection h with h; subst h
      refine ⟨Nat.le_refl _, by simp, ?_⟩
      simpa using hb
    · obtain ⟨h1, h2, h3⟩ := pfind_lt h
      refine ⟨by omega, by simp; omega, ?_⟩
      rw [show j - i = (j - (i + 1)) + 1 by omega, List.getD_cons_succ]; exact h3

theorem run_forIn_unit {α : Type} {w : World} (g : α → PUnit → Sem (ForInStep PUnit)) : ∀ (l : List α), (∀ x, x ∈ l → ∀ u, (g x u).run P w = .ok (.yield .unit) w) → (forIn l PUnit.unit g).run P w = .ok .unit w
  | [], _ => by simp
  | x :: r, h => by
    simp only [List.forIn_cons, Sem.run_bind, h x List.mem_cons_self, Result.andThen_ok]
    exact run_forIn_unit g r (fun y hy => h y (List.mem_cons_of_mem _ hy))

theorem run_checkKey1 {t : TypeId} {k : EK} (hk : ekOf P t = some k) {x : D} (hf : cellFits k x x = true) {w : World} {I : Nat → Prop} {u : Value} (hx : RD w I x u) (em : Bool) (n : Nat) : (Instr.checkKey em (n + 1) t u).run P w = .ok () w := by
  unfold ekOf at hk
  split at hk <;> try (cases hk; done)
  all_goals
    rename_i hu
    simp [Instr.checkKey, Go.run_underlying hu]

theorem ekParts_at : ∀ (l : List (TypeId × Nat)) (i : Nat) (ks : List EK), ekParts P l i = some ks → l.length = ks.length ∧ ∀ (j : Nat) (t : TypeId) (off : Nat), l[j]? = some (t, off) → off = i + j ∧ ∃ k, ks[j]? = some k ∧ ekOf P t = some k
  | [], i, ks, h => by simp [ekParts] at h; subst h; exact ⟨rfl, fun j t off hj => by simp at hj⟩
  | (t, off) :: r, i, ks, h => by
    unfold ekParts at h
    split at h
    · rename_i ho
      split at h
      · rename_i k l hk hl
        injection h with h; subst h
        obtain ⟨h1, h2⟩ := ekParts_at r (i + 1) l hl
        refine ⟨by simp [h1], fun j t' off' hj => ?_⟩
        cases j with
        | zero => simp at hj; obtain ⟨rfl, rfl⟩ := hj; exact ⟨by omega, k, by simp, hk⟩
        | succ j =>
          obtain ⟨q1, k', q2, q3⟩ := h2 j t' off' (by simpa using hj)
          exact ⟨by omega, k', by simpa using q2, q3⟩
      · cases h
    · cases h

theorem fits2_at : ∀ {ks : List EK} {xs ys : List D}, fits2 ks xs ys = true → ∀ (j : Nat) (k : EK), ks[j]? = some k → cellFits k (xs.getD j default) (ys.getD j default) = true
  | [], [], [], _, j, k, h => by simp at h
  | k :: ks, x :: xs, y :: ys, hf, j, k', h => by
    simp only [fits2, Bool.and_eq_true] at hf
    cases j with
    | zero => simp at h; subst h; exact hf.1
    | succ j => simp at h; exact fits2_at hf.2 j k' h
  | [], _ :: _, _, h, _, _, _ | [], [], _ :: _, h, _, _, _ | _ :: _, [], _, h, _, _, _ | _ :: _, _ :: _, [], h, _, _, _ => by simp [fits2] at h

/-- a key of this type may be one -/
theorem run_checkKey_data {kt : TypeId} {k : D} (h : (eqD P kt k k).isSome = true) {w : World} {I : Nat → Prop} {u : Value} (hu : RD w I k u) (em : Bool) (n : Nat) : (Instr.checkKey em (n + 2) kt u).run P w = .ok () w := by
  obtain ⟨b, hb⟩ := Option.isSome_iff_exists.1 h
  unfold eqD at hb
  split at hb
  · rename_i ks hk
    split at hb
    · rename_i xs
      split at hb
      · rename_i hf
        obtain ⟨hl1, _⟩ := fits2_len hf
        obtain ⟨us, rfl, n1, r1⟩ := rd_agg hu
        unfold eqKinds at hk
        split at hk
        · rename_i fs hut
          split at hk
          · simp only [Option.map_eq_some_iff, Prod.mk.injEq, true_and] at hk
            obtain ⟨ks', hk, rfl⟩ := hk
            obtain ⟨el, ea⟩ := ekParts_at _ _ _ hk
            unfold Instr.checkKey
            simp only [Sem.run_bind, Go.run_underlying hut, Result.andThen_ok]
            rw [← Array.forIn_toList]
            refine Eq.trans (congrArg (fun r => Result.andThen r _) (run_forIn_unit (w := w) _ _ (fun f hm u => ?_))) rfl
            split
            · obtain ⟨j, hj⟩ := List.mem_iff_getElem?.1 hm
              obtain ⟨q1, k', q2, q3⟩ := ea j f.type f.offset (by simp at hj ⊢; exact ⟨f, hj, rfl, rfl⟩)
              have hjl : j < xs.length := by rw [hl1]; exact (List.getElem?_eq_some_iff.1 q2).1
              have hp : (part f.type us f.offset).run P w = .ok (us.getD j default) w := by rw [q1, Nat.zero_add]; exact run_part1 q3 (by omega)
              simp only [Sem.run_bind, hp, Result.andThen_ok, run_checkKey1 q3 (fits2_at hf j k' q2) (r1 j hjl) em n, Sem.run_pure]
            · simp only [Sem.run_pure]
          · cases hk
        · rename_i m e hut
          split at hk
          · rename_i i hi
            split at hk
            · rename_i hc
              simp only [Bool.and_eq_true, decide_eq_true_eq] at hc
              simp only [Option.map_eq_some_iff, Prod.mk.injEq, true_and] at hk
              obtain ⟨ks', hk, rfl⟩ := hk
              obtain ⟨el, ea⟩ := ekParts_at _ _ _ hk
              have hs : (sizeOf e).run P w = .ok 1 w := by simp [sizeOf, typeInfo, hi, hc.1]
              unfold Instr.checkKey
              simp only [Sem.run_bind, Go.run_underlying hut, Result.andThen_ok, Std.Legacy.Range.forIn_eq_forIn_range', Std.Legacy.Range.size]
              refine Eq.trans (congrArg (fun r => Result.andThen r _) (run_forIn_unit (w := w) _ _ (fun j hm u => ?_))) rfl
              have hjm : j < m := by
                rw [List.mem_range'_1] at hm
                have : (m - 0 + 1 - 1) / 1 = m := by simp
                omega
              obtain ⟨q1, k', q2, q3⟩ := ea j e j (by simp [hjm])
              have hjl : j < xs.length := by rw [hl1]; exact (List.getElem?_eq_some_iff.1 q2).1
              have hp : (part e us (j * 1)).run P w = .ok (us.getD j default) w := by rw [Nat.mul_one]; exact run_part1 q3 (by omega)
              simp only [Sem.run_bind, hs, hp, Result.andThen_ok, run_checkKey1 q3 (fits2_at hf j k' q2) (r1 j hjl) em n, Sem.run_pure]
            · cases hk
          · cases hk
        · simp at hk
      · cases hb
    · cases hb
  · rename_i ks hk
    split at hb
    · split at hb
      · rename_i k' hf
        unfold eqKinds at hk
        split at hk
        · split at hk <;> simp at hk
        · split at hk
          · split at hk <;> simp at hk
          · cases hk
        · simp only [Option.map_eq_some_iff, Prod.mk.injEq, List.cons.injEq, and_true, true_and] at hk
          obtain ⟨k'', hk, rfl⟩ := hk
          exact run_checkKey1 hk hf hu em (n + 1)
      · cases hb
    · cases hb
  · cases hb

/-- an entry is looked for -/
theorem run_findAsking {kt : TypeId} {k : D} {w : World} {e : Env} {u : Value} (hu : RV w e (.d k) u) : ∀ (es : List MapEntry) (ks : List PV) (i : Nat), ks.length = es.length → (∀ q, q ∈ ks → KFits P kt k q) →
    (∀ j, j < es.length → RV w e (ks.getD j .junk) (es.getD j default).key) → (Instr.findAsking kt u es i).run P w = .ok ((pfind k ks i).map fun j => (j, (es.getD (j - i) default).val)) w
  | [], ks, i, hl, _, _ => by
    have : ks = [] := List.eq_nil_of_length_eq_zero (by simpa using hl)
    subst this
    simp [Instr.findAsking, pfind]
  | x :: es, ks, i, hl, hf, hr => by
    cases ks with
    | nil => simp at hl
    | cons q ks =>
      have h0 := hr 0 (by simp)
      have hq := hf q List.mem_cons_self
      simp only [List.getD_cons_zero] at h0
      cases q with
      | d y =>
        have he := run_eqD (keyBeq_eq hq) (rv_d hu) (rv_d h0) 9998
        simp only [Instr.findAsking, Sem.run_bind, Op.equal, Op.maxDepth, he, Result.andThen_ok, pfind]
        cases hb : keyBeq k (.d y) with
        | true => simp
        | false =>
          simp only [Bool.false_eq_true, if_false]
          rw [run_findAsking hu es ks (i + 1) (by simpa using hl) (fun q hm => hf q (List.mem_cons_of_mem _ hm)) (fun j hj => by have := hr (j + 1) (by simpa using hj); simpa using this)]
          congr 1
          cases hp : pfind k ks (i + 1) with
          | none => rfl
          | some j =>
            have := (pfind_lt hp).1
            simp only [Option.map_some]
            rw [show j - i = (j - (i + 1)) + 1 by omega, List.getD_cons_succ]
      | _ => exact hq.elim

theorem findNow_eq {kt : TypeId} {td : TypeDesc} (hut : P.underlying kt = some td) {k : D} {w : World} {e : Env} {u : Value} (hu : RV w e (.d k) u) : ∀ (es : List MapEntry) (ks : List PV) (i : Nat) (r : Option (Nat × Value)), ks.length = es.length → (∀ q, q ∈ ks → KFits P kt k q) →
    (∀ j, j < es.length → RV w e (ks.getD j .junk) (es.getD j default).key) → Instr.findNow td u es i = some r → r = (pfind k ks i).map fun j => (j, (es.getD (j - i) default).val)
  | [], ks, i, r, hl, _, _, h => by
    have : ks = [] := List.eq_nil_of_length_eq_zero (by simpa using hl)
    subst this
    simp [Instr.findNow] at h; subst h; simp [pfind]
  | x :: es, ks, i, r, hl, hf, hr, h => by
    cases ks with
    | nil => simp at hl
    | cons q ks =>
      have h0 := hr 0 (by simp)
      have hq := hf q List.mem_cons_self
      simp only [List.getD_cons_zero] at h0
      cases q with
      | d y =>
        have he := run_eqD (keyBeq_eq hq) (rv_d hu) (rv_d h0) 0
        -- what is told at once is what '==' tells
        have now : ∀ b, Instr.sameNow td u x.key = some b → b = keyBeq k (.d y) := by
          intro b hb
          generalize x.key = xk at he hb
          unfold Instr.sameNow at hb
          split at hb
          · rename_i k1 k2 a1 k3 a2
            split at hb
            · rename_i hk
              subst hk
              injection hb with hb
              rw [run_equalIn_int _ _ _ _ _ _ _ hut] at he
              injection he with he; rw [← he, ← hb]
            · cases hb
          · rename_i s1 s2
            injection hb with hb
            rw [run_equalIn_string _ _ _ _ _ hut] at he
            injection he with he; rw [← he, ← hb, beq_toListBytes]
          · injection hb with hb
            rw [run_equalIn_bool' _ _ _ _ _ hut] at he
            injection he with he; rw [← he, ← hb]
          · cases hb
        unfold Instr.findNow at h
        simp only [pfind]
        split at h
        · rename_i hs
          have := now true hs
          rw [← this]
          injection h with h; subst h; simp
        · rename_i hs
          have := now false hs
          rw [← this]
          simp only [Bool.false_eq_true, if_false]
          rw [findNow_eq hut hu es ks (i + 1) r (by simpa using hl) (fun q hm => hf q (List.mem_cons_of_mem _ hm)) (fun j hj => by have := hr (j + 1) (by simpa using hj); simpa using this) h]
          cases hp : pfind k ks (i + 1) with
          | none => rfl
          | some j =>
            have := (pfind_lt hp).1
            simp only [Option.map_some]
            rw [show j - i = (j - (i + 1)) + 1 by omega, List.getD_cons_succ]
        · cases h
      | _ => exact hq.elim

theorem eqD_und {kt : TypeId} {k x : D} (h : (eqD P kt k x).isSome = true) : ∃ td, P.underlying kt = some td := by
  cases hu : P.underlying kt with
  | some td => exact ⟨td, rfl⟩
  | none => simp [eqD, eqKinds, ekOf, hu] at h

theorem run_findKey_data {kt : TypeId} {k : D} (hkk : (eqD P kt k k).isSome = true) {w : World} {e : Env} {u : Value} (hu : RV w e (.d k) u) (es : List MapEntry) (ks : List PV) (hl : ks.length = es.length) (hf : ∀ q, q ∈ ks → KFits P kt k q)
    (hr : ∀ j, j < es.length → RV w e (ks.getD j .junk) (es.getD j default).key) : (Instr.findKey kt u es).run P w = .ok ((pfind k ks 0).map fun j => (j, (es.getD j default).val)) w := by
  obtain ⟨td, hut⟩ := eqD_und hkk
  simp only [Instr.findKey, Sem.run_bind, Go.run_underlying hut, Result.andThen_ok]
  split
  · rename_i r hn
    rw [findNow_eq hut hu es ks 0 r hl hf hr hn]; rfl
  · exact run_findAsking hu es ks 0 hl hf hr

end

/-! ### the operations on maps -/
def mget (k : D) (ks vs : List PV) (z : PV) : PV := match pfind k ks 0 with | some i => vs.getD i .junk | none => z
def mhas (k : D) (ks : List PV) : Bool := (pfind k ks 0).isSome
def mput (k : D) (v : PV) (ks vs : List PV) : PObj := match pfind k ks 0 with | some i => .map ks (vs.set i v) | none => .map (ks ++ [.d k]) (vs ++ [v])

def allKF (P : Program) (kt : TypeId) (k : D) : List PV → Prop
  | [] => True
  | q :: r => KFits P kt k q ∧ allKF P kt k r
theorem allKF_mem {P : Program} {kt : TypeId} {k : D} : ∀ {ks : List PV}, allKF P kt k ks → ∀ q, q ∈ ks → KFits P kt k q
  | [], _, q, h => by simp at h
  | x :: r, h, q, hq => by
    rcases List.mem_cons.1 hq with rfl | hq
    · exact h.1
    · exact allKF_mem h.2 q hq
theorem allKF_of {P : Program} {kt : TypeId} {k : D} : ∀ {ks : List PV}, (∀ q, q ∈ ks → KFits P kt k q) → allKF P kt k ks
  | [], _ => trivial
  | x :: r, h => ⟨h x List.mem_cons_self, allKF_of fun q hq => h q (List.mem_cons_of_mem _ hq)⟩
def AllFit (P : Program) (kt : TypeId) (k : D) (ks : List PV) : Prop := (eqD P kt k k).isSome = true ∧ allKF P kt k ks

def plookup (P : Program) (d : TD) (x k : PV) (co : Bool) (h : List PObj) : Option (Prop × PV) :=
  match d.k, k with
  | .map kt et, .d k => match tyOf P et with
    | some de => match x with
      | .mp id => match h[id]? with
        | some (.map ks vs) => some (AllFit P kt k ks, if co then .tup [mget k ks vs (zeroElem de), .d (.bool (mhas k ks))] else mget k ks vs (zeroElem de))
        | _ => none
      | _ => none
    | none => none
  | _, _ => none

def pmapUpd (P : Program) (d : TD) (x k v : PV) (h : List PObj) : Option (Prop × List PObj) :=
  match d.k, k with
  | .map kt _, .d k => match x with
    | .mp id => match h[id]? with
      | some (.map ks vs) => some (AllFit P kt k ks, h.set id (mput k v ks vs))
      | _ => none
    | _ => none
  | _, _ => none

section
variable {P : Program} {B : Array Obj} {o : Oper} {a : PA} {h : List PObj}

theorem st_lookup {t : TypeId} {x k : Operand} {co : Bool} {d : TD} {c : Prop} {v : PV} (ho : o.op = .lookup t x k co) (hd : tyOf P t = some d) (hp : plookup P d (a.eval x) (a.eval k) co h = some (c, v)) (hc : c) : PStep P B o a h v h := by
  refine pstep_of fun e w act s ra => ?_
  obtain ⟨td, i, z, T⟩ := tyOf_spec hd
  have hx := ra.eval x
  have hk := ra.eval k
  suffices hh : ∃ u, (Instr.lookup t (act.eval x) (act.eval k) co).run P w = .ok u w ∧ RV w e v u by
    obtain ⟨u, h1, h2⟩ := hh
    exact ⟨u, by unfold execOp; rw [ho]; exact step_value h1, h2⟩
  generalize act.eval x = ax at hx ⊢
  generalize act.eval k = ak at hk ⊢
  generalize a.eval x = px at hx hp
  generalize a.eval k = pk at hk hp
  unfold plookup at hp
  split at hp
  · rename_i kt et k hdk
    have := kind_map T.k hdk; subst this
    split at hp
    · rename_i de hde
      obtain ⟨td', i', z', T'⟩ := tyOf_spec hde
      split at hp
      · rename_i id
        split at hp
        · rename_i ks vs hh
          simp only [Option.some.injEq, Prod.mk.injEq] at hp
          obtain ⟨hcc, rfl⟩ := hp
          rw [← hcc] at hc
          obtain ⟨hkk, hfit⟩ := hc
          have hfit := allKF_mem hfit
          obtain ⟨b, es, clock, h1, h2, h3, h4, h5, h6, h7, h8, h9⟩ := s.obj id _ hh
          cases hx with
          | mp _ b' hid hG =>
            rw [hG] at h1; injection h1 with h1; injection h1 with h1; injection h1 with h1; subst h1
            have hck := run_checkKey_data hkk (rv_d hk) (w := w) es.isEmpty 9998
            have hfk := run_findKey_data hkk hk es.toList ks (by simpa using h4) hfit (fun j hj => by
              have := h8 j (by simpa using hj)
              simpa [Array.getD_eq_getD_getElem?, List.getD_eq_getElem?_getD] using this)
            have hget : ∀ j, pfind k ks 0 = some j → RV w e (vs.getD j .junk) (es.toList.getD j default).val := fun j hj => by
              have := h9 j (by have := pfind_lt hj; omega)
              simpa [Array.getD_eq_getD_getElem?, List.getD_eq_getElem?_getD] using this
            simp only [Instr.lookup, Sem.run_bind, T.run_underlying, Result.andThen_ok, run_getMap h3, Sem.run_pure, hck, hfk]
            unfold mget mhas
            cases hpf : pfind k ks 0 with
            | some j =>
              simp only [Option.map_some, Sem.run_pure, Result.andThen_ok, Option.isSome_some]
              cases co with
              | true => exact ⟨_, rfl, .tup _ _ rfl (fun q hq => by match q, hq with | 0, _ => exact hget j hpf | 1, _ => exact .d _ _ (.bool _))⟩
              | false => exact ⟨_, rfl, hget j hpf⟩
            | none =>
              simp only [Option.map_none, Sem.run_bind, T'.run_zeroValue, Sem.run_pure, Result.andThen_ok, Option.isSome_none]
              cases co with
              | true => exact ⟨_, rfl, .tup _ _ rfl (fun q hq => by match q, hq with | 0, _ => exact zero_rv T' w e | 1, _ => exact .d _ _ (.bool _))⟩
              | false => exact ⟨_, rfl, zero_rv T' w e⟩
        · cases hp
      · cases hp
    · cases hp
  · cases hp

theorem sameBits_cell {w : World} {I : Nat → Prop} {x : D} {k : EK} (hf : cellFits k x x = true) {u v : Value} (hu : RD w I x u) (hv : RD w I x v) (n : Nat) : Instr.sameBits n u v = true := by
  cases k <;> cases x <;> simp only [cellFits, Bool.false_eq_true] at hf
  · cases hu; cases hv; cases n <;> simp [Instr.sameBits]
  · cases hu with
    | str _ s1 e1 hl1 => cases hv with
      | str _ s2 e2 hl2 =>
        have : s1 = s2 := by
          obtain ⟨d1⟩ := s1; obtain ⟨d2⟩ := s2
          simp only at e1 e2
          congr 1
          exact Array.toList_inj.1 (by rw [e1, e2])
        subst this
        cases n <;> simp [Instr.sameBits, beq_toListBytes]
  · cases hu; cases hv; cases n <;> simp [Instr.sameBits]

theorem sameBits_data {kt : TypeId} {k : D} (hkk : (eqD P kt k k).isSome = true) {w : World} {I : Nat → Prop} {u v : Value} (hu : RD w I k u) (hv : RD w I k v) : Instr.sameBits 10000 u v = true := by
  obtain ⟨b, hb⟩ := Option.isSome_iff_exists.1 hkk
  unfold eqD at hb
  split at hb
  · rename_i ks hk
    split at hb
    · rename_i xs
      split at hb
      · rename_i hf
        obtain ⟨hl1, _⟩ := fits2_len hf
        obtain ⟨us, rfl, n1, r1⟩ := rd_agg hu
        obtain ⟨vs, rfl, n2, r2⟩ := rd_agg hv
        simp only [Instr.sameBits, Bool.and_eq_true, beq_iff_eq, List.all_eq_true]
        refine ⟨by omega, fun p hp => ?_⟩
        obtain ⟨j, hj⟩ := List.mem_iff_getElem?.1 hp
        rw [List.getElem?_zip_eq_some] at hj
        obtain ⟨hj1, hj2⟩ := hj
        have hjl : j < us.size := by
          have := (List.getElem?_eq_some_iff.1 hj1).1; simpa using this
        obtain ⟨k', hk'⟩ : ∃ k', ks[j]? = some k' := ⟨ks[j], List.getElem?_eq_getElem (by omega)⟩
        have q1 := r1 j (by omega)
        have q2 := r2 j (by omega)
        simp only [Array.getElem?_toList] at hj1 hj2
        rw [Array.getD_eq_getD_getElem?, hj1] at q1
        rw [Array.getD_eq_getD_getElem?, hj2] at q2
        exact sameBits_cell (fits2_at hf j k' hk') q1 q2 9999
      · cases hb
    · cases hb
  · split at hb
    · split at hb
      · rename_i k' hf
        exact sameBits_cell hf hu hv 10000
      · cases hb
    · cases hb
  · cases hb

theorem pmapUpd_sound {t : TypeId} {px pk pv : PV} {d : TD} {c : Prop} {h' : List PObj} (hd : tyOf P t = some d) (hp : pmapUpd P d px pk pv h = some (c, h')) (hc : c)
    {e : Env} {w : World} (s : Sim B e h w) {ax ak av : Value} (hx : RV w e px ax) (hk : RV w e pk ak) (hv : RV w e pv av) :
    ∃ w', (Instr.mapUpdate t ax ak av).run P w = .ok () w' ∧ Sim B e h' w' ∧ Ext e.n e w e w' := by
  obtain ⟨td, i, z, T⟩ := tyOf_spec hd
  unfold pmapUpd at hp
  split at hp
  · rename_i kt et k hdk
    have := kind_map T.k hdk; subst this
    split at hp
    · rename_i id
      split at hp
      · rename_i ks vs hh
        simp only [Option.some.injEq, Prod.mk.injEq] at hp
        obtain ⟨hcc, rfl⟩ := hp
        rw [← hcc] at hc
        obtain ⟨hkk, hfit⟩ := hc
        have hfit := allKF_mem hfit
        obtain ⟨b, es, clock, h1, h2, h3, h4, h5, h6, h7, h8, h9⟩ := s.obj id _ hh
        cases hx with
        | mp _ b' hid hG =>
          have h1' := h1
          rw [hG] at h1; injection h1 with h1; injection h1 with h1; injection h1 with h1; subst h1
          have hck := run_checkKey_data hkk (rv_d hk) (w := w) false 9998
          have h8' : ∀ j, j < es.toList.length → RV w e (ks.getD j .junk) (es.toList.getD j default).key := fun j hj => by
            have := h8 j (by simpa using hj)
            simpa [Array.getD_eq_getD_getElem?, List.getD_eq_getElem?_getD] using this
          have hfk := run_findKey_data hkk hk es.toList ks (by simpa using h4) hfit h8'
          have hset : ∀ (ob : Obj), (setObj b' ob).run P w = .ok () { w with heap := w.heap.setIfInBounds b' ob } := fun ob => by simp [setObj, Sem.run, h3]
          have hbl : b' < w.heap.size := (Array.getElem?_eq_some_iff.1 h3).1
          have put : ∀ (ks' vs' : List PV) (es' : Array MapEntry) (clock' : Nat), ks'.length = es'.size → vs'.length = es'.size → (∀ i, i < es'.size → (es'.getD i default).born = i) → clock' = es'.size →
              (∀ i, i < es'.size → RV w e (ks'.getD i .junk) (es'.getD i default).key) → (∀ i, i < es'.size → RV w e (vs'.getD i .junk) (es'.getD i default).val) →
              Sim B e (h.set id (.map ks' vs')) { w with heap := w.heap.setIfInBounds b' (.map es' clock') } ∧ Ext e.n e w e { w with heap := w.heap.setIfInBounds b' (.map es' clock') } := by
            intro ks' vs' es' clock' q1 q2 q3 q4 q5 q6
            refine sim_set s hh rfl (.inr rfl) (fun b hb => ?_) (by simp) rfl rfl rfl (fun up => ?_)
            · have : b ≠ b' := fun hbb => hb ⟨rfl, _, hG, by rw [hbb]; rfl⟩
              simp [Array.getElem?_setIfInBounds, this.symm]
            · exact ⟨b', es', clock', h1', h2, by simp [hbl], q1, q2, q3, q4, fun i hi => up _ _ (q5 i hi), fun i hi => up _ _ (q6 i hi)⟩
          simp only [Instr.mapUpdate, Sem.run_bind, T.run_underlying, Result.andThen_ok, run_getMap h3, hck, hfk]
          unfold mput
          cases hpf : pfind k ks 0 with
          | some j =>
            obtain ⟨_, hjl, hjb⟩ := pfind_lt hpf
            have hje : j < es.size := by omega
            have hkj := h8 j hje
            have hq := hfit _ (getD_mem (l := ks) (i := j) (by omega))
            rw [Nat.sub_zero] at hjb
            -- the key that is there is this key
            have same : ks.getD j .junk = .d k := by
              generalize ks.getD j .junk = q at hq hjb
              cases q with
              | d y =>
                have := keyBeq_eq hq
                rw [hjb] at this
                rw [eqD_true this]
              | _ => exact hq.elim
            rw [same] at hkj
            have hsb := sameBits_data hkk (rv_d hkj) (rv_d hk)
            have hes : es[j]? = some es[j] := Array.getElem?_eq_getElem hje
            have hkey : (es.getD j default).key = es[j].key := by simp [Array.getD_eq_getD_getElem?, hes]
            simp only [Option.map_some, hes, Option.getD_some, Instr.keyThatStays]
            rw [hkey] at hsb hkj
            simp only [Sem.run_bind, hsb, if_true, Sem.run_pure, Result.andThen_ok, hset]
            have getm : ∀ i, i < es.size → (es.modify j fun en => { en with key := ak, val := av }).getD i default = if i = j then { es[j] with key := ak, val := av } else es.getD i default := fun i hi => by
              simp only [Array.getD_eq_getD_getElem?, Array.getElem?_modify]
              by_cases hij : j = i
              · subst hij; simp [hes]
              · rw [if_neg hij, if_neg (fun e => hij e.symm)]
            refine ⟨_, rfl, put ks (vs.set j pv) _ clock (by simpa using h4) (by simpa using h5) (fun i hi => ?_) (by simpa using h7) (fun i hi => ?_) (fun i hi => ?_)⟩
            · have hi' : i < es.size := by simpa using hi
              rw [getm i hi']
              by_cases hij : i = j
              · rw [if_pos hij]; subst hij
                have := h6 i hi'
                simpa [Array.getD_eq_getD_getElem?, hes] using this
              · rw [if_neg hij]; exact h6 i hi'
            · have hi' : i < es.size := by simpa using hi
              rw [getm i hi']
              by_cases hij : i = j
              · rw [if_pos hij]; subst hij; rw [same]; exact hk
              · rw [if_neg hij]; exact h8 i hi'
            · have hi' : i < es.size := by simpa using hi
              rw [getm i hi']
              by_cases hij : i = j
              · rw [if_pos hij]; subst hij
                rw [List.getD_eq_getElem?_getD, List.getElem?_set_self (by omega)]; exact hv
              · rw [if_neg hij]
                rw [List.getD_eq_getElem?_getD, List.getElem?_set_ne (fun e => hij e.symm), ← List.getD_eq_getElem?_getD]; exact h9 i hi'
          | none =>
            simp only [Option.map_none, hset]
            have getp : ∀ i, i < es.size + 1 → (es.push { key := ak, val := av, born := clock }).getD i default = if i = es.size then { key := ak, val := av, born := clock } else es.getD i default := fun i hi => by
              simp only [Array.getD_eq_getD_getElem?, Array.getElem?_push]
              by_cases hij : i = es.size
              · simp [hij]
              · simp [hij]
            have gka : ∀ (l : List PV) (x : PV) (i : Nat), l.length = es.size → i < es.size + 1 → (l ++ [x]).getD i .junk = if i = es.size then x else l.getD i .junk := fun l x i hl hi => by
              simp only [List.getD_eq_getElem?_getD, List.getElem?_append]
              by_cases hij : i = es.size
              · simp [hij, hl]
              · rw [if_pos (by omega), if_neg hij]
            refine ⟨_, rfl, put (ks ++ [.d k]) (vs ++ [pv]) _ (clock + 1) (by simp [h4]) (by simp [h5]) (fun i hi => ?_) (by simp [h7]) (fun i hi => ?_) (fun i hi => ?_)⟩
            · have hi' : i < es.size + 1 := by simpa using hi
              rw [getp i hi']
              split
              · rename_i hij; rw [hij]; exact h7
              · exact h6 i (by omega)
            · have hi' : i < es.size + 1 := by simpa using hi
              rw [getp i hi', gka _ _ i h4 hi']
              split
              · exact hk
              · exact h8 i (by omega)
            · have hi' : i < es.size + 1 := by simpa using hi
              rw [getp i hi', gka _ _ i h5 hi']
              split
              · exact hv
              · exact h9 i (by omega)
      · cases hp
    · cases hp
  · cases hp

theorem st_mapUpd {t : TypeId} {x k v : Operand} {d : TD} {c : Prop} {h' : List PObj} (ho : o.op = .mapUpdate t x k v ∨ o.op = .insert t x k v) (hd : tyOf P t = some d) (hp : pmapUpd P d (a.eval x) (a.eval k) (a.eval v) h = some (c, h')) (hc : c) : PStep P B o a h .junk h' := by
  intro e w act s ra
  obtain ⟨w', h1, h2, h3⟩ := pmapUpd_sound hd hp hc s (ra.eval x) (ra.eval k) (ra.eval v)
  refine ⟨e, w', undef, .inr ⟨?_, rfl⟩, h2, .junk _, h3⟩
  unfold execOp
  rcases ho with ho | ho <;> rw [ho] <;> exact step_unit h1

theorem st_makeMap {t : TypeId} (ho : o.op = .makeMap t none) : PStep P B o a h (.mp h.length) (h ++ [.map [] []]) := by
  intro e w act s ra
  have hx := ext_new s 0 (.map (some w.heap.size)) (.map #[] 0)
  have s' := sim_new s (o := .map [] []) (v := .map (some w.heap.size)) (ob := .map #[] 0) rfl
    ⟨w.heap.size, #[], 0, by simp [Env.new, PObj.ver], fun hI => by have := s.im _ hI; omega, by show (w.heap.push _)[w.heap.size]? = _; simp, rfl, rfl, fun i hi => by simp at hi, rfl, fun i hi => by simp at hi, fun i hi => by simp at hi⟩
    (fun b hb => by simp [blockOf] at hb; exact hb.symm)
  refine ⟨_, _, .map (some w.heap.size), .inl ?_, s', ?_, hx⟩
  · unfold execOp; rw [ho]
    exact step_value (by simp [Instr.makeMap, newObj, Sem.run])
  · rw [← s.n]; exact .mp _ _ (by simp [Env.new]) (by simp [Env.new, PObj.ver])

end
end Go.Proofs.YtgpbkphiipjjoaaGreatDoor.Pv
end

/- Iterators: over texts, over maps. -/
section
namespace Go.Proofs.YtgpbkphiipjjoaaGreatDoor.Pv
open Go

/-- the rune that begins at a byte, and how many bytes it has -/
def decL (l : List UInt8) (pos : Nat) : Nat × Nat := Utf8.decode ⟨l.toArray⟩ pos

theorem ba_eq {s : ByteArray} {l : List UInt8} (h : s.data.toList = l) : s = ⟨l.toArray⟩ := by
  obtain ⟨d⟩ := s; simp only at h; subst h; simp

def prange (d : TD) (x : PV) (h : List PObj) : Option PObj :=
  match d.k with
  | .string => match x with
    | .d (.str l) => some (.siter l 0)
    | _ => none
  | .map _ _ => match x with
    | .mp id => match h[id]? with
      | some (.map ks _) => some (.miter id ks.length [])
      | _ => none
    | _ => none
  | _ => none

/-- the next rune -/
def pnextS (x : PV) (h : List PObj) : Option (PV × List PObj) :=
  match x with
  | .it id => match h[id]? with
    | some (.siter l pos) => some (if pos < l.length then .tup [.d (.bool true), .d (.int .i64 pos), .d (.int .i32 (decL l pos).1)] else .tup [.d (.bool false)],
        if pos < l.length then h.set id (.siter l (pos + (decL l pos).2)) else h)
    | _ => none
  | _ => none

/-- the entry at which the iterator stands -/
def pentry (x : PV) (h : List PObj) : Option (Prop × PV) :=
  match x with
  | .it id => match h[id]? with
    | some (.miter mid n seen) => match h[mid]? with
      | some (.map ks vs) => match seen.getLast? with
        | some i => some (n = ks.length ∧ i < n, .tup [ks.getD i .junk, vs.getD i .junk])
        | none => none
      | _ => none
    | _ => none
  | _ => none

section
variable {P : Program} {B : Array Obj} {o : Oper} {a : PA} {h : List PObj}

theorem it_new {e : Env} {w : World} (s : Sim B e h w) {po : PObj} {ob : Obj} (hr : RObj (w.alloc ob) (e.new po.ver (.pointer (some ⟨w.heap.size, 0, none⟩))) e.n po) (hver : po.ver = 0) :
    Sim B (e.new po.ver (.pointer (some ⟨w.heap.size, 0, none⟩))) (h ++ [po]) (w.alloc ob) ∧ RV (w.alloc ob) (e.new po.ver (.pointer (some ⟨w.heap.size, 0, none⟩))) (.it h.length) (.pointer (some ⟨w.heap.size, 0, none⟩)) := by
  refine ⟨sim_new s rfl hr (fun b hb => by simp [blockOf] at hb; exact hb.symm), ?_⟩
  rw [← s.n]
  exact .it _ _ (by simp [Env.new]) (by simp [Env.new, hver])

theorem st_range {t : TypeId} {x : Operand} {d : TD} {po : PObj} (ho : o.op = .range t x) (hd : tyOf P t = some d) (hp : prange d (a.eval x) h = some po) : PStep P B o a h (.it h.length) (h ++ [po]) := by
  intro e w act s ra
  obtain ⟨td, i, z, T⟩ := tyOf_spec hd
  have hx := ra.eval x
  suffices hh : ∃ ob, (Instr.range t (act.eval x)).run P w = .ok (.pointer (some ⟨w.heap.size, 0, none⟩)) (w.alloc ob) ∧ po.ver = 0 ∧ RObj (w.alloc ob) (e.new po.ver (.pointer (some ⟨w.heap.size, 0, none⟩))) e.n po by
    obtain ⟨ob, h1, h2, h3⟩ := hh
    obtain ⟨s', rv⟩ := it_new s h3 h2
    exact ⟨_, _, _, .inl (by unfold execOp; rw [ho]; exact step_value h1), s', rv, ext_new s _ _ _⟩
  generalize act.eval x = ax at hx ⊢
  generalize a.eval x = px at hx hp
  have fresh : ¬ e.I w.heap.size := fun hI => by have := s.im _ hI; omega
  have top : ∀ ob : Obj, (w.alloc ob).heap[w.heap.size]? = some ob := fun ob => by show (w.heap.push ob)[w.heap.size]? = _; simp
  unfold prange at hp
  split at hp
  · rename_i hk
    have := kind_string T.k hk; subst this
    split at hp
    · rename_i l
      injection hp with hp; subst hp
      cases rv_d hx with
      | str _ sb hl hlim =>
        refine ⟨.stringIter sb 0, ?_, rfl, w.heap.size, sb, by simp [Env.new, PObj.ver], fresh, top _, hl⟩
        simp [Instr.range, T.run_underlying, newObj, Sem.run]
    · cases hp
  · rename_i kt et hk
    have := kind_map T.k hk; subst this
    split at hp
    · rename_i id
      split at hp
      · rename_i ks vs hh
        injection hp with hp; subst hp
        obtain ⟨b, es, clock, h1, h2, h3, h4, h5, h6, h7, h8, h9⟩ := s.obj id _ hh
        cases hx with
        | mp _ b' hid hG =>
          have hG' := hG
          rw [hG] at h1; injection h1 with h1; injection h1 with h1; injection h1 with h1; subst h1
          refine ⟨.mapIter (some b') clock #[] clock, ?_, rfl, w.heap.size, b', by simp [Env.new, PObj.ver], fresh, ?_, ?_⟩
          · simp [Instr.range, T.run_underlying, run_getMap h3, newObj, Sem.run]
          · rw [top, h7, h4]
          · exact .mp _ _ (by simp [Env.new]; omega) (by simp only [Env.new]; rw [if_neg (by omega)]; exact hG')
      · cases hp
    · cases hp
  · cases hp

theorem st_nextS {x : Operand} {v : PV} {h' : List PObj} (ho : o.op = .next x true) (hp : pnextS (a.eval x) h = some (v, h')) : PStep P B o a h v h' := by
  intro e w act s ra
  have hx := ra.eval x
  suffices hh : ∃ w' u, (Instr.next (act.eval x) true o.type).run P w = .ok u w' ∧ Sim B e h' w' ∧ RV w' e v u ∧ Ext e.n e w e w' by
    obtain ⟨w', u, h1, h2, h3, h4⟩ := hh
    exact ⟨e, w', u, .inl (by unfold execOp; rw [ho]; exact step_value h1), h2, h3, h4⟩
  generalize act.eval x = ax at hx ⊢
  generalize a.eval x = px at hx hp
  unfold pnextS at hp
  split at hp
  · rename_i id
    split at hp
    · rename_i l pos hh
      simp only [Option.some.injEq, Prod.mk.injEq] at hp
      obtain ⟨rfl, rfl⟩ := hp
      obtain ⟨b, sb, h1, h2, h3, h4⟩ := s.obj id _ hh
      cases hx with
      | it _ b' hid hG =>
        have h1' := h1
        rw [hG] at h1; injection h1 with h1; injection h1 with h1; injection h1 with h1; injection h1 with h1; subst h1
        have hg : (getObj b').run P w = .ok (.stringIter sb pos) w := by simp [getObj, Sem.run, h3]
        have hbl : b' < w.heap.size := (Array.getElem?_eq_some_iff.1 h3).1
        have hsz := str_size h4
        by_cases hlt : pos < l.length
        · rw [if_pos hlt, if_pos hlt]
          have hset : (setObj b' (.stringIter sb (pos + (decL l pos).2))).run P w = .ok () { w with heap := w.heap.setIfInBounds b' (.stringIter sb (pos + (decL l pos).2)) } := by simp [setObj, Sem.run, h3]
          have hdec : Utf8.decode sb pos = decL l pos := by unfold decL; rw [ba_eq h4]
          obtain ⟨s', x'⟩ := sim_set (w' := { w with heap := w.heap.setIfInBounds b' (.stringIter sb (pos + (decL l pos).2)) }) (o' := .siter l (pos + (decL l pos).2)) s hh rfl (.inr rfl)
            (fun c hc => by
              have : c ≠ b' := fun hcb => hc ⟨rfl, _, hG, by rw [hcb]; rfl⟩
              simp [Array.getElem?_setIfInBounds, this.symm]) (by simp) rfl rfl rfl
            (fun up => ⟨b', sb, h1', h2, by simp [hbl], h4⟩)
          refine ⟨_, _, ?_, s', .tup _ #[.bool true, .int .i64 pos, .int .i32 (decL l pos).1] rfl (fun j hj => ?_), x'⟩
          · simp only [Instr.next, Sem.run_bind, hg, Result.andThen_ok, hsz, hlt, if_true, hdec]
            simp only [Sem.run_bind, hset, Result.andThen_ok, Sem.run_pure, goInt]
          · match j, hj with
            | 0, _ => exact .d _ _ (.bool _)
            | 1, _ => exact .d _ _ (.int _ _)
            | 2, _ => exact .d _ _ (.int _ _)
        · rw [if_neg hlt, if_neg hlt]
          refine ⟨w, .tuple #[.bool false], ?_, s, .tup _ _ rfl (fun j hj => ?_), Ext.refl (Nat.le_refl _) _⟩
          · simp only [Instr.next, Sem.run_bind, hg, Result.andThen_ok, hsz, hlt, if_false, Sem.run_pure]
          · match j, hj with
            | 0, _ => exact .d _ _ (.bool _)
    · cases hp
  · cases hp

theorem find_born {es : Array MapEntry} (hb : ∀ i, i < es.size → (es.getD i default).born = i) {i : Nat} (hi : i < es.size) : es.find? (·.born == i) = some es[i] := by
  have at_ : ∀ j (hj : j < es.size), es[j].born = j := fun j hj => by
    have := hb j hj; simpa [Array.getD_eq_getD_getElem?, hj] using this
  cases hf : es.find? (·.born == i) with
  | none =>
    rw [Array.find?_eq_none] at hf
    have := hf es[i] (Array.getElem_mem hi)
    simp [at_ i hi] at this
  | some x =>
    have h1 := Array.find?_some hf
    have h2 := Array.mem_of_find?_eq_some hf
    obtain ⟨j, hj, rfl⟩ := Array.mem_iff_getElem.1 h2
    simp only [beq_iff_eq] at h1
    rw [at_ j hj] at h1
    subst h1; rfl

theorem st_entry {x : Operand} {c : Prop} {v : PV} (ho : o.op = .entry x) (hp : pentry (a.eval x) h = some (c, v)) (hc : c) : PStep P B o a h v h := by
  refine pstep_of fun e w act s ra => ?_
  have hx := ra.eval x
  suffices hh : ∃ u, (Instr.entry (act.eval x)).run P w = .ok u w ∧ RV w e v u by
    obtain ⟨u, h1, h2⟩ := hh
    exact ⟨u, by unfold execOp; rw [ho]; exact step_value h1, h2⟩
  generalize act.eval x = ax at hx ⊢
  generalize a.eval x = px at hx hp
  unfold pentry at hp
  split at hp
  · rename_i id
    split at hp
    · rename_i mid n seen hh
      split at hp
      · rename_i ks vs hm
        split at hp
        · rename_i i hi
          simp only [Option.some.injEq, Prod.mk.injEq] at hp
          obtain ⟨hcc, rfl⟩ := hp
          rw [← hcc] at hc
          obtain ⟨hn, hin⟩ := hc
          obtain ⟨b, m, h1, h2, h3, h4⟩ := s.obj id _ hh
          obtain ⟨bm, es, clock, k1, k2, k3, k4, k5, k6, k7, k8, k9⟩ := s.obj mid _ hm
          cases h4 with
          | mp _ _ _ hGm =>
            rw [hGm] at k1; injection k1 with k1; injection k1 with k1; injection k1 with k1; subst k1
            cases hx with
            | it _ b' hid hG =>
              rw [hG] at h1; injection h1 with h1; injection h1 with h1; injection h1 with h1; injection h1 with h1; subst h1
              have hg : (getObj b').run P w = .ok (.mapIter (some m) n seen.toArray n) w := by simp [getObj, Sem.run, h3]
              have hie : i < es.size := by omega
              have hback : seen.toArray.back? = some i := by simpa using hi
              have hfind := find_born k6 hie
              have hcl : clock = n := by omega
              refine ⟨.tuple #[es[i].key, es[i].val], ?_, .tup _ _ rfl (fun j hj => ?_)⟩
              · simp only [Instr.entry, Sem.run_bind, hg, Result.andThen_ok, hback, run_getMap k3, hcl, bne_self_eq_false, Bool.false_eq_true, if_false, hfind, Sem.run_pure]
              · have e1 := k8 i hie
                have e2 := k9 i hie
                simp only [Array.getD_eq_getD_getElem?, Array.getElem?_eq_getElem hie, Option.getD_some] at e1 e2
                match j, hj with
                | 0, _ => exact e1
                | 1, _ => exact e2
        · cases hp
      · cases hp
    · cases hp
  · cases hp

/-- THE NEXT ENTRY OF A MAP: any that has not been seen -/
def nextM (x : PV) (h : List PObj) (K : PV → List PObj → Prop) : Prop :=
  match x with
  | .it id => match h[id]? with
    | some (.miter mid n seen) => match h[mid]? with
      | some (.map ks vs) => n = ks.length ∧ (∀ i, i < n → i ∉ seen → K (.tup [.d (.bool true), ks.getD i .junk, vs.getD i .junk]) (h.set id (.miter mid n (seen ++ [i])))) ∧
          ((∀ i, i < n → i ∈ seen) → K (.tup [.d (.bool false)]) h)
      | _ => False
    | _ => False
  | _ => False

theorem run_choose_lt {w : World} {n : Nat} (hn : 0 < n) : ∃ j w', j < n ∧ (choose (.mapNext n)).run P w = .ok j w' ∧ (w' = w ∨ w' = w.drew) := by
  by_cases h1 : n ≤ 1
  · exact ⟨0, w, hn, by simp [choose, Sem.run, Question.forced, h1], .inl rfl⟩
  · exact ⟨_, w.drew, Nat.mod_lt (w.tape w.drawn (.mapNext n)) hn, by simp only [choose, Sem.run, Question.forced, h1, decide_false, Bool.false_eq_true, if_false, Question.cut]; rfl, .inr rfl⟩

theorem sim_drew' {e : Env} {w w' : World} (s : Sim B e h w) (hw : w' = w ∨ w' = w.drew) : Sim B e h w' ∧ Ext e.n e w e w' := by
  rcases hw with rfl | rfl
  · exact ⟨s, Ext.refl (Nat.le_refl _) _⟩
  · exact sim_drew s

theorem run_nextM {e : Env} {w : World} (s : Sim B e h w) {x : PV} {ax : Value} (hx : RV w e x ax) {K : PV → List PObj → Prop} (k : nextM x h K) (ty : TypeId) :
    ∃ w' u v h', (Instr.next ax false ty).run P w = .ok u w' ∧ K v h' ∧ Sim B e h' w' ∧ RV w' e v u ∧ Ext e.n e w e w' := by
  unfold nextM at k
  split at k
  · rename_i id
    split at k
    · rename_i mid n seen hh
      split at k
      · rename_i ks vs hm
        obtain ⟨hn, hk1, hk2⟩ := k
        obtain ⟨b, m, h1, h2, h3, h4⟩ := s.obj id _ hh
        have h4' := h4
        obtain ⟨bm, es, clock, k1, k2, k3, k4, k5, k6, k7, k8, k9⟩ := s.obj mid _ hm
        cases h4 with
        | mp _ _ _ hGm =>
          rw [hGm] at k1; injection k1 with k1; injection k1 with k1; injection k1 with k1; subst k1
          cases hx with
          | it _ b' hid hG =>
            have h1' := h1
            rw [hG] at h1; injection h1 with h1; injection h1 with h1; injection h1 with h1; injection h1 with h1; subst h1
            have hg : (getObj b').run P w = .ok (.mapIter (some m) n seen.toArray n) w := by simp [getObj, Sem.run, h3]
            have born : ∀ j (hj : j < es.size), es[j].born = j := fun j hj => by
              have := k6 j hj; simpa [Array.getD_eq_getD_getElem?, hj] using this
            have hbl : b' < w.heap.size := (Array.getElem?_eq_some_iff.1 h3).1
            have hnew : ((es.filter fun en => !seen.toArray.contains en.born).filter (·.born ≥ n)) = #[] := by
              rw [Array.filter_eq_empty_iff]
              intro en hen
              have hen := Array.mem_of_mem_filter hen
              obtain ⟨j, hj, rfl⟩ := Array.mem_iff_getElem.1 hen
              rw [born j hj]; simp; omega
            have hold : ((es.filter fun en => !seen.toArray.contains en.born).filter (·.born < n)) = (es.filter fun en => !seen.toArray.contains en.born) := by
              rw [Array.filter_eq_self]
              intro en hen
              have hen := Array.mem_of_mem_filter hen
              obtain ⟨j, hj, rfl⟩ := Array.mem_iff_getElem.1 hen
              rw [born j hj]; simp; omega
            have hgone : (!seen.toArray.isEmpty && !es.isEmpty && es.all (·.born ≥ n)) = false := by
              by_cases he : es.size = 0
              · have : es = #[] := Array.eq_empty_of_size_eq_zero he
                subst this; simp
              · have : es.all (·.born ≥ n) = false := by
                  rw [Array.all_eq_false]
                  refine ⟨0, by omega, ?_⟩
                  rw [born 0 (by omega)]; simp; omega
                rw [this]; simp
            generalize hL : (es.filter fun en => !seen.toArray.contains en.born) = L at hnew hold
            have inL : ∀ en, en ∈ L → ∃ j, ∃ hj : j < es.size, en = es[j] ∧ j ∉ seen := fun en hen => by
              rw [← hL] at hen
              obtain ⟨hm1, hm2⟩ := Array.mem_filter.1 hen
              obtain ⟨j, hj, rfl⟩ := Array.mem_iff_getElem.1 hm1
              rw [born j hj] at hm2
              exact ⟨j, hj, rfl, by simpa using hm2⟩
            have hcand : ((if L.isEmpty then #[none] else #[]) ++ (L ++ #[]).map some) = if L.isEmpty then #[none] else L.map some := by
              by_cases he : L.isEmpty
              · have : L = #[] := by simpa using he
                subst this; simp
              · simp [he]
            generalize hC : (if L.isEmpty then #[none] else L.map some) = C at hcand
            have hCpos : 0 < C.size := by
              rw [← hC]; split
              · simp
              · rename_i he
                have : L.size ≠ 0 := fun h => he (by simpa [Array.isEmpty] using h)
                simp; omega
            obtain ⟨j, w1, hj, hch, hw1⟩ := run_choose_lt (P := P) (w := w) hCpos
            obtain ⟨s1, x1⟩ := sim_drew' s hw1
            have hheap : w1.heap = w.heap := by rcases hw1 with rfl | rfl <;> rfl
            by_cases he : L.isEmpty
            · rw [if_pos he] at hC
              subst hC
              have : j = 0 := by simpa using hj
              subst this
              refine ⟨w1, .tuple #[.bool false], _, h, ?_, hk2 (fun i hi => ?_), s1, .tup _ _ rfl (fun q hq => by match q, hq with | 0, _ => exact .d _ _ (.bool _)), x1⟩
              · simp only [Instr.next, Sem.run_bind, hg, Result.andThen_ok, run_getMap k3, hgone, Bool.false_eq_true, if_false, hL, hold, hnew, hcand, hch, List.getElem?_toArray, List.getElem?_cons_zero, Sem.run_pure]
              · refine Classical.byContradiction fun hni => ?_
                have hLe : L = #[] := by simpa using he
                have : es[i]'(by omega) ∈ L := by
                  rw [← hL]
                  exact Array.mem_filter.2 ⟨Array.getElem_mem _, by rw [born i (by omega)]; simpa using hni⟩
                rw [hLe] at this; simp at this
            · rw [if_neg he] at hC
              subst hC
              have hjL : j < L.size := by simpa using hj
              obtain ⟨i, hi, hen, hni⟩ := inL L[j] (Array.getElem_mem hjL)
              have hcj : (L.map some)[j]? = some (some es[i]) := by simp [hjL, hen]
              have h3' : w1.heap[b']? = some (.mapIter (some m) n seen.toArray n) := by rw [hheap]; exact h3
              have hset : (setObj b' (.mapIter (some m) n (seen.toArray.push es[i].born) clock)).run P w1 = .ok () { w1 with heap := w1.heap.setIfInBounds b' (.mapIter (some m) n (seen.toArray.push es[i].born) clock) } := by simp [setObj, Sem.run, h3']
              obtain ⟨s', x'⟩ := sim_set (w' := { w1 with heap := w1.heap.setIfInBounds b' (.mapIter (some m) n (seen.toArray.push es[i].born) clock) }) (o' := .miter mid n (seen ++ [i])) s1 hh rfl (.inr rfl)
                (fun c hc => by
                  have : c ≠ b' := fun hcb => hc ⟨rfl, _, hG, by rw [hcb]; rfl⟩
                  simp [Array.getElem?_setIfInBounds, this.symm]) (by simp) rfl rfl rfl
                (fun up => ⟨b', m, h1', h2, by
                  have hbl1 : b' < w1.heap.size := by rw [hheap]; exact hbl
                  have hcn : clock = n := by omega
                  simp [hbl1, born i hi, hcn], up _ _ (h4'.ext x1)⟩)
              have e1 := k8 i hi
              have e2 := k9 i hi
              simp only [Array.getD_eq_getD_getElem?, Array.getElem?_eq_getElem hi, Option.getD_some] at e1 e2
              refine ⟨_, .tuple #[.bool true, es[i].key, es[i].val], _, _, ?_, hk1 i (by omega) hni, s', .tup _ _ rfl (fun q hq => ?_), x1.trans x' (Nat.le_refl _)⟩
              · simp only [Instr.next, Sem.run_bind, hg, Result.andThen_ok, run_getMap k3, hgone, Bool.false_eq_true, if_false, hL, hold, hnew, hcand, hch, hcj, hset, Sem.run_pure]
              · match q, hq with
                | 0, _ => exact .d _ _ (.bool _)
                | 1, _ => exact (e1.ext x1).ext x'
                | 2, _ => exact (e2.ext x1).ext x'
      · exact k.elim
    · exact k.elim
  · exact k.elim

end
end Go.Proofs.YtgpbkphiipjjoaaGreatDoor.Pv
end

/- Numbers in cells of the code's own; an address as an unsafe.Pointer. -/
section
namespace Go.Proofs.YtgpbkphiipjjoaaGreatDoor.Pv
open Go

section
variable {P : Program} {B : Array Obj}

theorem own_cell {e : Env} {h : List PObj} {w : World} (s : Sim B e h w) {id off : Nat} {cs : List PV} {k : IntKind} {n : Int} {ax : Value} (hh : h[id]? = some (.cells cs)) (hc : cs[off]? = some (.d (.int k n))) (hv : RV w e (.ptr id off) ax) :
    ∃ b, ax = .pointer (some ⟨b, off, none⟩) ∧ w.cell? ⟨b, off, none⟩ = some (.int k n) ∧ w.frozen? ⟨b, off, none⟩ = false ∧
      ∀ m : Int, Sim B e (h.set id (.cells (cs.set off (.d (.int k m))))) (w.setCell ⟨b, off, none⟩ (.int k m)) ∧ Ext e.n e w e (w.setCell ⟨b, off, none⟩ (.int k m)) := by
  cases hv with
  | ptr _ _ b hid hG =>
    obtain ⟨b', arr, E, g1, g2, g3, g4, g5, g6⟩ := s.obj id _ hh
    rw [hG] at g1; injection g1 with g1; injection g1 with g1; injection g1 with g1; injection g1 with g1; subst g1
    have hlt : off < cs.length := (List.getElem?_eq_some_iff.1 hc).1
    have hcd : cs.getD off .junk = .d (.int k n) := by rw [List.getD_eq_getElem?_getD, hc]; rfl
    have hr := g6 off hlt
    rw [hcd] at hr
    have hval : arr.getD off default = .int k n := by
      generalize arr.getD off default = vv at hr ⊢
      cases rv_d hr; rfl
    have hlies : lies e id (.cells cs) b := ⟨rfl, _, hG, rfl⟩
    refine ⟨b, rfl, ?_, ?_, fun m => ?_⟩
    · rw [cell_of g3 (by omega), hval]
    · unfold World.frozen?; simp [g3]
    · rw [setCell_eq_setRow w b off arr E (0, 0) (.int k m) g3]
      refine sim_set s hh (o' := .cells _) rfl (.inr rfl) (fun k hk => setRow_other _ _ _ _ (fun e => hk (e ▸ hlies))) (setRow_size _ _ _) rfl rfl rfl (fun up => ?_)
      refine ⟨b, _, E, hG, g2, setRow_heap _ _ _ _ _ _ g3, by simp [g4], fun j hj => ?_, fun j hj => ?_⟩
      · rw [getD_set hj]; split
        · rfl
        · exact g5 j (by simpa using hj)
      · have hj' : j < cs.length := by simpa using hj
        rw [getD_set hj]
        by_cases hjo : j = off
        · subst hjo
          rw [if_pos rfl]
          have : (arr.setIfInBounds j (.int k m)).getD j default = .int k m := by
            rw [Array.getD_eq_getD_getElem?, Array.getElem?_setIfInBounds]; simp [g4, hj']
          rw [this]; exact .d _ _ (.int k m)
        · rw [if_neg hjo]
          have : (arr.setIfInBounds off (.int k m)).getD j default = arr.getD j default := by
            rw [Array.getD_eq_getD_getElem?, Array.getElem?_setIfInBounds, if_neg (fun e => hjo e.symm), ← Array.getD_eq_getD_getElem?]
          rw [this]; exact up _ _ (g6 j hj')

/-- an address as an unsafe.Pointer -/
theorem st_unsafe {o : Oper} {a : PA} {h : List PObj} {s d t : TypeId} {x : Operand} {id off : Nat} {cs : List PV} {k : IntKind} {n : Int} (ho : o.op = .convert s d x) (hs : P.underlying s = some (.pointer t)) (hd : P.underlying d = some .unsafePointer)
    (hsz : (P.info? t).map (fun i => decide (i.size = 0)) = some false) (hx : a.eval x = .ptr id off) (hh : h[id]? = some (.cells cs)) (hc : cs[off]? = some (.d (.int k n))) : PStep P B o a h (.ptr id off) h := by
  intro e w act sm ra
  have hv := ra.eval x
  rw [hx] at hv
  have hv' := hv
  obtain ⟨b, hb, c1, c2, c3⟩ := own_cell sm hh hc hv
  rw [hb] at hv'
  refine ⟨e, w, _, .inl ?_, sm, hv', Ext.refl (Nat.le_refl _) _⟩
  unfold execOp
  rw [ho]
  exact step_value (s := convert s d (act.eval x)) (by rw [hb]; exact run_convert_to_unsafe hs hd hsz c1)


def convU (P : Program) (t t' : TypeId) : Bool :=
  match P.underlying t, P.underlying t' with
  | some (.pointer e), some .unsafePointer => (P.info? e).map (fun i => decide (i.size = 0)) == some false
  | _, _ => false
theorem convU_spec {P : Program} {t t' : TypeId} (h : convU P t t' = true) : ∃ e, P.underlying t = some (.pointer e) ∧ P.underlying t' = some .unsafePointer ∧ (P.info? e).map (fun i => decide (i.size = 0)) = some false := by
  unfold convU at h
  split at h
  · rename_i e h1 h2
    exact ⟨e, h1, h2, by simpa using h⟩
  · cases h
end
end Go.Proofs.YtgpbkphiipjjoaaGreatDoor.Pv
end


/- The words for a row whose order is open; one step that reckons. -/
import Derived.Test.YtgpbkphiipjjoaaGreatDoorMb4


section
namespace Go.Proofs.YtgpbkphiipjjoaaGreatDoor.Pv
open Go

section
variable {P : Program} {B : Array Obj} {ops : Array Oper} {Q : PPost} {pls : List Pl} {r : List Oper} {a : PA} {h : List PObj} {past : List (List PObj)} {pend : List (Nat × (List PObj → Prop))}
def vcDK (P : Program) (B : Array Obj) (ops : Array Oper) (Q : PPost) (pls : List Pl) (r : List Oper) (a : PA) (h : List PObj) (past : List (List PObj)) (pend : List (Nat × (List PObj → Prop))) : Prop := vcD P B ops Q pls r a h past pend
theorem vdk_app : vcDK P B ops Q pls r a h past pend = vcD P B ops Q pls r a h past pend := rfl
/-- a call of a function of data alone, in an open row -/
def exQ (P : Program) (B : Array Obj) (g : FuncId) (args : List PV) (R : D → Prop) : Prop := ∃ v : D, PRet P B g args v ∧ R v
def kD (next : PA → List PObj → List (List PObj) → List (Nat × (List PObj → Prop)) → Prop) (a : PA) (dst : Option Tmp) (h : List PObj) (past : List (List PObj)) (pend : List (Nat × (List PObj → Prop))) (v : D) : Prop := next (a.put dst (.d v)) h past pend
theorem kD_app {next : PA → List PObj → List (List PObj) → List (Nat × (List PObj → Prop)) → Prop} {dst : Option Tmp} {v : D} : kD next a dst h past pend v = next (a.put dst (.d v)) h past pend := rfl
theorem exQ.use {g : FuncId} {args : List PV} {v : D} {R : D → Prop} (c : PRet P B g args v) (k : R v) : exQ P B g args R := ⟨v, c, k⟩
/-- any other call in an open row -/
def exE (P : Program) (B : Array Obj) (g : FuncId) (args : List PV) (h : List PObj) (pend : List (Nat × (List PObj → Prop))) (R : PV → List PObj → Prop) : Prop :=
  ∃ (v : PV) (h' : List PObj), PCalls P B g args h (fun r h2 => r = .ret v ∧ h2 = h') ∧ pendOk pend h' ∧ R v h'
def kE (next : PA → List PObj → List (List PObj) → List (Nat × (List PObj → Prop)) → Prop) (a : PA) (dst : Option Tmp) (h : List PObj) (past : List (List PObj)) (pend : List (Nat × (List PObj → Prop))) (v : PV) (h' : List PObj) : Prop := next (a.put dst v) h' (h :: past) (pendNext pend)
theorem kE_app {next : PA → List PObj → List (List PObj) → List (Nat × (List PObj → Prop)) → Prop} {dst : Option Tmp} {v : PV} {h' : List PObj} : kE next a dst h past pend v h' = next (a.put dst v) h' (h :: past) (pendNext pend) := rfl
theorem exE.use {g : FuncId} {args : List PV} {v : PV} {h' : List PObj} {R : PV → List PObj → Prop} (c : PCalls P B g args h (fun r h2 => r = .ret v ∧ h2 = h')) (p : pendOk pend h') (k : R v h') : exE P B g args h pend R := ⟨v, h', c, p, k⟩
/-- a call that reads, in an open row -/
def exR (P : Program) (B : Array Obj) (g : FuncId) (args : List PV) (h : List PObj) (back : Nat) (past : List (List PObj)) (R : PV → Prop) : Prop := ∃ u : PV, rc P B g args u h ∧ pastOk back past (rc P B g args u) ∧ R u
def kR (next : PA → List PObj → List (List PObj) → List (Nat × (List PObj → Prop)) → Prop) (a : PA) (dst : Option Tmp) (h : List PObj) (past : List (List PObj)) (pend : List (Nat × (List PObj → Prop))) (fwd : Nat) (P : Program) (B : Array Obj) (g : FuncId) (args : List PV) (u : PV) : Prop := next (a.put dst u) h past ((fwd, rc P B g args u) :: pend)
theorem kR_app {next : PA → List PObj → List (List PObj) → List (Nat × (List PObj → Prop)) → Prop} {dst : Option Tmp} {fwd : Nat} {g : FuncId} {args : List PV} {u : PV} : kR next a dst h past pend fwd P B g args u = next (a.put dst u) h past ((fwd, rc P B g args u) :: pend) := rfl
theorem exR.use {g : FuncId} {args : List PV} {u : PV} {back : Nat} {R : PV → Prop} (c : PCalls P B g args h fun r h' => r = .ret u ∧ h' = h) (p : pastOk back past (rc P B g args u)) (k : R u) : exR P B g args h back past R := ⟨u, c, p, k⟩
theorem vd_nil {pls : List Pl} : vcD P B ops Q pls [] a h past pend = Q .normal a h := by cases pls <;> rfl
theorem vd_run (pl : Pl) (dst : Option Tmp) (op : Op) (t : TypeId) (pos : String) (aft : Array Edge) :
    vcD P B ops Q (pl :: pls) (⟨dst, op, t, pos, aft, none⟩ :: r) a h past pend = vd1 P B ⟨dst, op, t, pos, aft, none⟩ a h past pend (vcDK P B ops Q pls r) pl := rfl
def vcDd (P : Program) (B : Array Obj) (ops : Array Oper) (Q : PPost) (pl : Pl) (pls : List Pl) (r : List Oper) (o : Oper) (h : List PObj) (past : List (List PObj)) (pend : List (Nat × (List PObj → Prop))) (b want : Bool) (a : PA) (d : Nat) : Prop :=
  (b = want → vd1 P B o (a.put (some d) (.d (.bool want))) h past pend (vcDK P B ops Q pls r) pl) ∧
  (b = (!want) → dstOk o (a.put (some d) (.d (.bool (!want)))).N ∧ vcD P B ops Q pls r ((a.put (some d) (.d (.bool (!want)))).put o.dst (.d (.tup []))) h past pend)
section
variable {d : Nat} (pl : Pl) (dst : Option Tmp) (op : Op) (t : TypeId) (pos : String) (aft : Array Edge) (g : Option (Nat × Bool))
theorem vh_tt : vcDd P B ops Q pl pls r ⟨dst, op, t, pos, aft, g⟩ h past pend true true a d = vd1 P B ⟨dst, op, t, pos, aft, g⟩ (a.put (some d) (.d (.bool true))) h past pend (vcDK P B ops Q pls r) pl := by simp [vcDd]
theorem vh_ff : vcDd P B ops Q pl pls r ⟨dst, op, t, pos, aft, g⟩ h past pend false false a d = vd1 P B ⟨dst, op, t, pos, aft, g⟩ (a.put (some d) (.d (.bool false))) h past pend (vcDK P B ops Q pls r) pl := by simp [vcDd]
theorem vh_tf : vcDd P B ops Q pl pls r ⟨dst, op, t, pos, aft, g⟩ h past pend true false a d = (dstOk ⟨dst, op, t, pos, aft, g⟩ a.N ∧ vcD P B ops Q pls r ((a.put (some d) (.d (.bool true))).put dst (.d (.tup []))) h past pend) := by simp [vcDd, put_N]
theorem vh_ft : vcDd P B ops Q pl pls r ⟨dst, op, t, pos, aft, g⟩ h past pend false true a d = (dstOk ⟨dst, op, t, pos, aft, g⟩ a.N ∧ vcD P B ops Q pls r ((a.put (some d) (.d (.bool false))).put dst (.d (.tup []))) h past pend) := by simp [vcDd, put_N]
theorem vh_eq (b want : Bool) : vcDd P B ops Q pl pls r ⟨dst, op, t, pos, aft, g⟩ h past pend b want a d = ((b = want → vd1 P B ⟨dst, op, t, pos, aft, g⟩ (a.put (some d) (.d (.bool want))) h past pend (vcDK P B ops Q pls r) pl) ∧
    (b = (!want) → dstOk ⟨dst, op, t, pos, aft, g⟩ a.N ∧ vcD P B ops Q pls r ((a.put (some d) (.d (.bool (!want)))).put dst (.d (.tup []))) h past pend)) := by simp only [vcDd, put_N]
end
theorem vd_guard (pl : Pl) (dst : Option Tmp) (op : Op) (t : TypeId) (pos : String) (aft : Array Edge) (j : Nat) (want : Bool) :
    vcD P B ops Q (pl :: pls) (⟨dst, op, t, pos, aft, some (j, want)⟩ :: r) a h past pend = match (ops[j]?).bind (·.dst) with
    | some d => match a.t d with
      | .d (.bool b) => vcDd P B ops Q pl pls r ⟨dst, op, t, pos, aft, some (j, want)⟩ h past pend b want a d
      | .d (.tup _) => dstOk ⟨dst, op, t, pos, aft, some (j, want)⟩ a.N ∧ vcD P B ops Q pls r (a.put dst (.d (.tup []))) h past pend
      | _ => False
    | none => False := rfl

variable {next : PA → List PObj → List (List PObj) → List (Nat × (List PObj → Prop)) → Prop} (dst : Option Tmp) (t : TypeId) (pos : String) (aft : Array Edge) (g : Option (Nat × Bool))
theorem d1_qcall (f : Operand) (args : Array Operand) (ts : Array TypeId) :
    vd1 P B ⟨dst, .call { callee := .value f, args := args, argTypes := ts }, t, pos, aft, g⟩ a h past pend next .q = (dstOk ⟨dst, .call { callee := .value f, args := args, argTypes := ts }, t, pos, aft, g⟩ a.N ∧ match fnOf (a.eval f) with
      | some (g, first, caps) => exQ P B g (first ++ args.toList.map a.eval ++ caps) (kD next a dst h past pend)
      | none => False) := rfl
def notVal : Op → Bool
  | .call { callee := .value _, args := _, argTypes := _ } => false
  | _ => true
theorem notVal_spec {op : Op} (h : notVal op = true) : ∀ f args ts, op ≠ .call { callee := .value f, args := args, argTypes := ts } := by
  intro f args ts e; rw [e] at h; simp [notVal] at h
theorem nv_move (x : Operand) : notVal (.move x) = true := by simp only [notVal]
theorem nv_assign (x : Operand) : notVal (.assign x) = true := by simp only [notVal]
theorem nv_pick (c x y : Operand) : notVal (.pick c x y) = true := by simp only [notVal]
theorem nv_alloc (t : TypeId) : notVal (.alloc t) = true := by simp only [notVal]
theorem nv_box (t : TypeId) (x : Operand) : notVal (.box t x) = true := by simp only [notVal]
theorem nv_build (t : TypeId) (ps : Array (Nat × Operand)) : notVal (.build t ps) = true := by simp only [notVal]
theorem nv_buildSlice (t : TypeId) (n : Nat) (ps : Array (Nat × Operand)) : notVal (.buildSlice t n ps) = true := by simp only [notVal]
theorem nv_insert (t : TypeId) (m k v : Operand) : notVal (.insert t m k v) = true := by simp only [notVal]
theorem nv_load (t : TypeId) (x : Operand) : notVal (.load t x) = true := by simp only [notVal]
theorem nv_store (t : TypeId) (x y : Operand) : notVal (.store t x y) = true := by simp only [notVal]
theorem nv_nilCheck (x : Operand) : notVal (.nilCheck x) = true := by simp only [notVal]
theorem nv_binOp (o : BinOp) (t u : TypeId) (x y : Operand) : notVal (.binOp o t x y u) = true := by simp only [notVal]
theorem nv_unOp (o : UnOp) (t : TypeId) (x : Operand) : notVal (.unOp o t x) = true := by simp only [notVal]
theorem nv_convert (t u : TypeId) (x : Operand) : notVal (.convert t u x) = true := by simp only [notVal]
theorem nv_makeInterface (t : TypeId) (x : Operand) : notVal (.makeInterface t x) = true := by simp only [notVal]
theorem nv_makeFunc (f : Fn) (x y : Array Operand) : notVal (.makeFunc f x y) = true := by simp only [notVal]
theorem nv_makeMap (t : TypeId) (r : Option Operand) : notVal (.makeMap t r) = true := by simp only [notVal]
theorem nv_makeSlice (t : TypeId) (x y : Operand) : notVal (.makeSlice t x y) = true := by simp only [notVal]
theorem nv_slice (t : TypeId) (x : Operand) (l h m : Option Operand) : notVal (.slice t x l h m) = true := by simp only [notVal]
theorem nv_fieldAddr (t : TypeId) (x : Operand) (f : Nat) : notVal (.fieldAddr t x f) = true := by simp only [notVal]
theorem nv_field (t : TypeId) (x : Operand) (f : Nat) : notVal (.field t x f) = true := by simp only [notVal]
theorem nv_indexAddr (t : TypeId) (x y : Operand) : notVal (.indexAddr t x y) = true := by simp only [notVal]
theorem nv_index (t : TypeId) (x y : Operand) : notVal (.index t x y) = true := by simp only [notVal]
theorem nv_lookup (t : TypeId) (x y : Operand) (c : Bool) : notVal (.lookup t x y c) = true := by simp only [notVal]
theorem nv_mapUpdate (t : TypeId) (m k v : Operand) : notVal (.mapUpdate t m k v) = true := by simp only [notVal]
theorem nv_range (t : TypeId) (x : Operand) : notVal (.range t x) = true := by simp only [notVal]
theorem nv_nextS (x : Operand) : notVal (.next x true) = true := by simp only [notVal]
theorem nv_entry (x : Operand) : notVal (.entry x) = true := by simp only [notVal]
theorem nv_extract (x : Operand) (i : Nat) : notVal (.extract x i) = true := by simp only [notVal]
theorem nv_append (a : Array Operand) (ts : Array TypeId) : notVal (.call { callee := .builtin .append, args := a, argTypes := ts }) = true := by simp only [notVal]
theorem nv_min (a : Array Operand) (ts : Array TypeId) : notVal (.call { callee := .builtin .min, args := a, argTypes := ts }) = true := by simp only [notVal]
theorem nv_max (a : Array Operand) (ts : Array TypeId) : notVal (.call { callee := .builtin .max, args := a, argTypes := ts }) = true := by simp only [notVal]
theorem nv_copy (a : Array Operand) (ts : Array TypeId) : notVal (.call { callee := .builtin .copy, args := a, argTypes := ts }) = true := by simp only [notVal]
theorem nv_delete (a : Array Operand) (ts : Array TypeId) : notVal (.call { callee := .builtin .delete, args := a, argTypes := ts }) = true := by simp only [notVal]
theorem nv_cap (a : Array Operand) (ts : Array TypeId) : notVal (.call { callee := .builtin .cap, args := a, argTypes := ts }) = true := by simp only [notVal]
theorem nv_len (a : Array Operand) (ts : Array TypeId) : notVal (.call { callee := .builtin .len, args := a, argTypes := ts }) = true := by simp only [notVal]
theorem d1_q (op : Op) (hop : notVal op = true) :
    vd1 P B ⟨dst, op, t, pos, aft, g⟩ a h past pend next .q = (dstOk ⟨dst, op, t, pos, aft, g⟩ a.N ∧ match pstep P a.eval h op with
      | some (c, u, _) => c ∧ next (a.put dst u) h past pend
      | none => False) := by
  have hop := notVal_spec hop
  simp only [vd1]
  rfl
theorem d1_r (back fwd : Nat) (op : Op) (hop : notVal op = true) :
    vd1 P B ⟨dst, op, t, pos, aft, g⟩ a h past pend next (.r back fwd) = (dstOk ⟨dst, op, t, pos, aft, g⟩ a.N ∧ match pstep P a.eval h op with
      | some (c, u, h') => c ∧ h' = h ∧ pastOk back past (qs P a.eval op u) ∧ next (a.put dst u) h past ((fwd, qs P a.eval op u) :: pend)
      | none => False) := by
  have hop := notVal_spec hop
  simp only [vd1]
  rfl
theorem d1_rcall (back fwd : Nat) (f : Operand) (args : Array Operand) (ts : Array TypeId) :
    vd1 P B ⟨dst, .call { callee := .value f, args := args, argTypes := ts }, t, pos, aft, g⟩ a h past pend next (.r back fwd) = (dstOk ⟨dst, .call { callee := .value f, args := args, argTypes := ts }, t, pos, aft, g⟩ a.N ∧ match fnOf (a.eval f) with
      | some (g, first, caps) => exR P B g (first ++ args.toList.map a.eval ++ caps) h back past (kR next a dst h past pend fwd P B g (first ++ args.toList.map a.eval ++ caps))
      | none => False) := rfl
theorem d1_ecall (f : Operand) (args : Array Operand) (ts : Array TypeId) :
    vd1 P B ⟨dst, .call { callee := .value f, args := args, argTypes := ts }, t, pos, aft, g⟩ a h past pend next .e = (dstOk ⟨dst, .call { callee := .value f, args := args, argTypes := ts }, t, pos, aft, g⟩ a.N ∧ match fnOf (a.eval f) with
      | some (g, first, caps) => exE P B g (first ++ args.toList.map a.eval ++ caps) h pend (kE next a dst h past pend)
      | none => False) := rfl
theorem d1_e (op : Op) (hop : notVal op = true) :
    vd1 P B ⟨dst, op, t, pos, aft, g⟩ a h past pend next .e = (dstOk ⟨dst, op, t, pos, aft, g⟩ a.N ∧ match pstep P a.eval h op with
      | some (c, u, h') => c ∧ pendOk pend h' ∧ next (a.put dst u) h' (h :: past) (pendNext pend)
      | none => False) := by
  have hop := notVal_spec hop
  simp only [vd1]
  rfl
theorem po_nil (h : List PObj) : pendOk [] h = True := rfl
theorem po_zero (p : List PObj → Prop) (r : List (Nat × (List PObj → Prop))) (h : List PObj) : pendOk ((0, p) :: r) h = pendOk r h := rfl
theorem po_succ (n : Nat) (p : List PObj → Prop) (r : List (Nat × (List PObj → Prop))) (h : List PObj) : pendOk ((n + 1, p) :: r) h = (p h ∧ pendOk r h) := rfl
theorem po_1 (p : List PObj → Prop) (r : List (Nat × (List PObj → Prop))) (h : List PObj) : pendOk ((1, p) :: r) h = (p h ∧ pendOk r h) := rfl
theorem po_2 (p : List PObj → Prop) (r : List (Nat × (List PObj → Prop))) (h : List PObj) : pendOk ((2, p) :: r) h = (p h ∧ pendOk r h) := rfl
theorem po_3 (p : List PObj → Prop) (r : List (Nat × (List PObj → Prop))) (h : List PObj) : pendOk ((3, p) :: r) h = (p h ∧ pendOk r h) := rfl
theorem pn_nil : pendNext [] = [] := rfl
theorem pn_zero (p : List PObj → Prop) (r : List (Nat × (List PObj → Prop))) : pendNext ((0, p) :: r) = pendNext r := rfl
theorem pn_1 (p : List PObj → Prop) (r : List (Nat × (List PObj → Prop))) : pendNext ((1, p) :: r) = (0, p) :: pendNext r := rfl
theorem pn_2 (p : List PObj → Prop) (r : List (Nat × (List PObj → Prop))) : pendNext ((2, p) :: r) = (1, p) :: pendNext r := rfl
theorem pn_3 (p : List PObj → Prop) (r : List (Nat × (List PObj → Prop))) : pendNext ((3, p) :: r) = (2, p) :: pendNext r := rfl
theorem pk_zero (l : List (List PObj)) (p : List PObj → Prop) : pastOk 0 l p = True := rfl
theorem pk_nil (n : Nat) (p : List PObj → Prop) : pastOk n [] p = True := by cases n <;> rfl
theorem pk_1 (h : List PObj) (l : List (List PObj)) (p : List PObj → Prop) : pastOk 1 (h :: l) p = (p h ∧ True) := by simp [pastOk]
theorem pk_2 (h : List PObj) (l : List (List PObj)) (p : List PObj → Prop) : pastOk 2 (h :: l) p = (p h ∧ pastOk 1 l p) := rfl
theorem pk_3 (h : List PObj) (l : List (List PObj)) (p : List PObj → Prop) : pastOk 3 (h :: l) p = (p h ∧ pastOk 2 l p) := rfl
theorem qs_eq (P : Program) (ρ : Operand → PV) (op : Op) (u : PV) (h : List PObj) : qs P ρ op u h = match pstep P ρ h op with
  | some (c, u', h') => c ∧ u' = u ∧ h' = h
  | none => False := rfl

theorem mget_nil (k : D) (z : PV) : mget k [] [] z = z := rfl
theorem pfind_shift (k : D) : ∀ (l : List PV) (i : Nat), pfind k l (i + 1) = (pfind k l i).map (· + 1)
  | [], _ => rfl
  | q :: r, i => by unfold pfind; split <;> simp [pfind_shift k r]
theorem af_eq (P : Program) (kt : TypeId) (k : D) (ks : List PV) : AllFit P kt k ks = ((eqD P kt k k).isSome = true ∧ allKF P kt k ks) := rfl
theorem akf_nil (P : Program) (kt : TypeId) (k : D) : allKF P kt k [] = True := rfl
theorem akf_cons (P : Program) (kt : TypeId) (k : D) (q : PV) (r : List PV) : allKF P kt k (q :: r) = (KFits P kt k q ∧ allKF P kt k r) := rfl
theorem kf_d (P : Program) (kt : TypeId) (k x : D) : KFits P kt k (.d x) = ((eqD P kt k x).isSome = true) := rfl
theorem pfind_nil (k : D) (i : Nat) : pfind k [] i = none := rfl
theorem pfind_cons (k : D) (q : PV) (r : List PV) (i : Nat) : pfind k (q :: r) i = if keyBeq k q then some i else pfind k r (i + 1) := rfl
theorem mget_cons (k : D) (q v : PV) (ks vs : List PV) (z : PV) : mget k (q :: ks) (v :: vs) z = if keyBeq k q then v else mget k ks vs z := by
  unfold mget
  rw [show pfind k (q :: ks) 0 = if keyBeq k q then some 0 else pfind k ks (0 + 1) from rfl]
  cases keyBeq k q with
  | true => rfl
  | false =>
    simp only [Bool.false_eq_true, if_false, pfind_shift]
    cases pfind k ks 0 <;> simp
theorem mhas_nil (k : D) : mhas k [] = false := rfl
theorem mhas_cons (k : D) (q : PV) (ks : List PV) : mhas k (q :: ks) = (keyBeq k q || mhas k ks) := by
  unfold mhas
  conv => lhs; unfold pfind
  cases h : keyBeq k q with
  | true => simp
  | false => simp [pfind_shift]
theorem keyBeq_int (k k' : IntKind) (a b : Int) : keyBeq (.int k a) (.d (.int k' b)) = decide (a = b) := rfl
theorem keyBeq_str (a b : List UInt8) : keyBeq (.str a) (.d (.str b)) = decide (a = b) := rfl
theorem keyBeq_agg (a b : List D) : keyBeq (.agg a) (.d (.agg b)) = aggBeq a b := rfl

end
end Go.Proofs.YtgpbkphiipjjoaaGreatDoor.Pv
end

/- A whole body at once, as far as it has no loops. -/
section
namespace Go.Proofs.YtgpbkphiipjjoaaGreatDoor.Pv
open Go

def vcC (P : Program) (B : Array Obj) (m : Nat) : Code → PPost → PA → List PObj → Prop
  | .skip, Q, a, h => Q .normal a h
  | .ret, Q, a, h => Q .ret a h
  | .exit i, Q, a, h => Q (.exit i) a h
  | .label _, Q, a, h => Q .normal a h
  | .seq x y, Q, a, h => vcC P B m x (thenP (fun a h => vcC P B m y Q a h) Q) a h
  | .cond c x y, Q, a, h => match a.eval c with
    | .d (.bool b) => (b = true → vcC P B m x Q a h) ∧ (b = false → vcC P B m y Q a h)
    | _ => False
  | .block i c, Q, a, h => vcC P B m c (blockP i Q) a h
  | .region i ops d, Q, a, h => match d with
    | false => vcOps P B ops Q ops.toList a h
    | true => PWp P B m (.region i ops true) Q a h
  | .loop c, Q, a, h => PWp P B m (.loop c) Q a h
  | .goto i, Q, a, h => PWp P B m (.goto i) Q a h
  | .rangeFunc f ps x y, Q, a, h => PWp P B m (.rangeFunc f ps x y) Q a h
  | .scope c, Q, a, h => PWp P B m (.scope c) Q a h
  | .refuse s, Q, a, h => PWp P B m (.refuse s) Q a h

section
variable {P : Program} {B : Array Obj} {m : Nat}
theorem vcC_sound : ∀ (c : Code) (Q : PPost) (a : PA) (h : List PObj), vcC P B m c Q a h → PWp P B m c Q a h
  | .skip, Q, a, h, k => pwp_skip k
  | .ret, Q, a, h, k => pwp_ret k
  | .exit i, Q, a, h, k => pwp_exit k
  | .label _, Q, a, h, k => pwp_label k
  | .seq x y, Q, a, h, k => pwp_seq ((vcC_sound x _ a h k).mono fun ex a h q => by
      cases ex <;> first | exact q | exact vcC_sound y Q a h q)
  | .cond c x y, Q, a, h, k => by
    unfold vcC at k
    split at k
    · rename_i b hb
      exact pwp_cond hb (fun hb => vcC_sound x Q a h (k.1 hb)) (fun hb => vcC_sound y Q a h (k.2 hb))
    · exact k.elim
  | .block i c, Q, a, h, k => pwp_block (vcC_sound c _ a h k)
  | .region i ops d, Q, a, h, k => by
    cases d with
    | false =>
      obtain ⟨l⟩ := ops
      exact pwp_ops k
    | true => exact k
  | .loop c, Q, a, h, k => k
  | .goto i, Q, a, h, k => k
  | .rangeFunc f ps x y, Q, a, h, k => k
  | .scope c, Q, a, h, k => k
  | .refuse s, Q, a, h, k => k

variable {Q : PPost} {a : PA} {h : List PObj}
/-- what follows, behind a word that is opened only where it is reached -/
def vcK (P : Program) (B : Array Obj) (m : Nat) (c : Code) (Q : PPost) (a : PA) (h : List PObj) : Prop := vcC P B m c Q a h
theorem vk_app (c : Code) : vcK P B m c Q a h = vcC P B m c Q a h := rfl
theorem vc_skip : vcC P B m .skip Q a h = Q .normal a h := rfl
theorem vc_ret : vcC P B m .ret Q a h = Q .ret a h := rfl
theorem vc_exit (i : Nat) : vcC P B m (.exit i) Q a h = Q (.exit i) a h := rfl
theorem vc_label (i : Nat) : vcC P B m (.label i) Q a h = Q .normal a h := rfl
theorem vc_seq (x y : Code) : vcC P B m (.seq x y) Q a h = vcC P B m x (thenP (vcK P B m y Q) Q) a h := rfl
/-- either way -/
def vcE (P : Program) (B : Array Obj) (m : Nat) (x y : Code) (Q : PPost) (a : PA) (h : List PObj) (b : Bool) : Prop := (b = true → vcC P B m x Q a h) ∧ (b = false → vcC P B m y Q a h)
theorem ve_t (x y : Code) : vcE P B m x y Q a h true = vcC P B m x Q a h := by simp [vcE]
theorem ve_f (x y : Code) : vcE P B m x y Q a h false = vcC P B m y Q a h := by simp [vcE]
theorem ve_eq (x y : Code) (b : Bool) : vcE P B m x y Q a h b = ((b = true → vcC P B m x Q a h) ∧ (b = false → vcC P B m y Q a h)) := rfl
theorem vc_cond (c : Operand) (x y : Code) : vcC P B m (.cond c x y) Q a h = match a.eval c with
    | .d (.bool b) => vcE P B m x y Q a h b
    | _ => False := rfl
theorem vc_block (i : Nat) (c : Code) : vcC P B m (.block i c) Q a h = vcC P B m c (blockP i Q) a h := rfl
theorem vc_region (i : Nat) (l : List Oper) : vcC P B m (.region i l.toArray false) Q a h = vcOps P B l.toArray Q l a h := rfl
theorem vc_drawn (i : Nat) (l : List Oper) : vcC P B m (.region i l.toArray true) Q a h = PWp P B m (.region i l.toArray true) Q a h := rfl
theorem vc_loop (c : Code) : vcC P B m (.loop c) Q a h = PWp P B m (.loop c) Q a h := rfl
theorem vc_rangeFunc (f : Operand) (ps : Array Tmp) (x y : Code) : vcC P B m (.rangeFunc f ps x y) Q a h = PWp P B m (.rangeFunc f ps x y) Q a h := rfl

theorem fin_ret {A V : D} {h l : List PObj} : ((∃ x, PRes.ret (PV.d A) = PRes.ret (PV.d x) ∧ DW x V) ∧ ∃ X, h ++ l = h ++ X) = DW A V := by
  apply propext
  constructor
  · rintro ⟨⟨x, h1, h2⟩, _⟩; injection h1 with h1; injection h1 with h1; rw [h1]; exact h2
  · intro h; exact ⟨⟨A, rfl, h⟩, l, rfl⟩
theorem fin_ret0 {A V : D} {h : List PObj} : ((∃ x, PRes.ret (PV.d A) = PRes.ret (PV.d x) ∧ DW x V) ∧ ∃ X, h = h ++ X) = DW A V := by
  apply propext
  constructor
  · rintro ⟨⟨x, h1, h2⟩, _⟩; injection h1 with h1; injection h1 with h1; rw [h1]; exact h2
  · intro h; exact ⟨⟨A, rfl, h⟩, [], by simp⟩

/-- a frame of which the listed slots alone are known, behind a piece of code -/
theorem pwp_mid (L : List (Nat × PV)) (F : Prop) (H : List PObj) {x y : Code} (hb : HB h → HB H) (hl : m ≤ H.length) (hL : LB H.length L) (hd : DB H.length a.ds)
    (k : PWp P B m x (thenP (fun a' h' => Match a' L ∧ F ∧ a'.N = a.N ∧ a'.ds = a.ds ∧ ∃ X, h' = H ++ X) Q) a h) (k2 : F → PWp P B m y Q ⟨look L, a.N, a.ds⟩ H) : PWp P B m (.seq x y) Q a h := by
  intro hm e w act s ra
  have hH := hb s.hb
  refine pwp_seq (k.mono fun ex a' h' q => ?_) hm e w act s ra
  cases ex with
  | normal =>
    obtain ⟨q1, qF, q2, q3, X, rfl⟩ := q
    intro hm' e' w' act' s' ra'
    have ra2 := ra'.look (n := H.length) q1 hL (by rw [q3]; exact hd)
    rw [q2, q3] at ra2
    have k3 := k2 qF hl (e'.cut H.length) w' act' (s'.cut hH) ra2
    exact wp_mono k3 fun _ _ _ l => by
      obtain ⟨px, e2, a2, h2, r1, r2, r3, r4, r5⟩ := l
      refine ⟨px, e2, a2, h2, r1, r2, r3, r4, ?_⟩
      exact ⟨r5.I, r5.mem, r5.G, r5.n, r5.size, r5.os, r5.tape, r5.output⟩
  | _ => exact q
end
end Go.Proofs.YtgpbkphiipjjoaaGreatDoor.Pv
end


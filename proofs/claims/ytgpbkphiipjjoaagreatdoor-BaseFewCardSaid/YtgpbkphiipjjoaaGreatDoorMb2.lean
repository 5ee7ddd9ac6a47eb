/- The words by which the walk over data reckons: one equation for each form. -/
import Derived.Test.YtgpbkphiipjjoaaGreatDoorMb1


section
namespace Go.Proofs.YtgpbkphiipjjoaaGreatDoor.Pv
open Go

/-- the arguments' places -/
def argAt : List PV → Nat → PV
  | [], _ => .junk
  | p :: _, 0 => p
  | _ :: r, n + 1 => argAt r n
theorem argAt_eq : ∀ (l : List PV) (n : Nat), l.getD n .junk = argAt l n
  | [], n => by simp [argAt]
  | p :: r, 0 => rfl
  | p :: r, n + 1 => by rw [List.getD_cons_succ]; exact argAt_eq r n

def PA.start (args : List PV) (N : Nat) : PA := ⟨argAt args, N, []⟩
theorem init_start (args : List PV) (N : Nat) : PA.init args N = PA.start args N := by
  unfold PA.init PA.start; congr 1; funext i; exact argAt_eq args i

section
variable {P : Program} {B : Array Obj}

theorem rv_presC {e : Env} {w : World} {h : List PObj} {a : PA} {act : Act} (s : Sim B e h w) (ra : RA w e a act) {fn : Func} {c : Prop} {v : PV} (hv : presC P a.t h fn.results.toList = some (c, v)) (hc : c) :
    ∃ u, (results fn act.tmps).run P w = .ok u w ∧ RV w e v u := by
  have hr : fn.results = fn.results.toList.toArray := by simp
  rw [results_eq]
  generalize fn.results.toList = l at *
  rw [hr]
  unfold presC at hv
  split at hv
  · simp only [Option.some.injEq, Prod.mk.injEq] at hv
    obtain ⟨_, rfl⟩ := hv
    exact ⟨.tuple #[], by simp, .d _ _ (.tup _ _ rfl (fun i hi => by simp at hi))⟩
  · rename_i r
    obtain ⟨u, h1, h2⟩ := run_resV s ra hv hc
    exact ⟨u, by simp [Sem.run_bind, h1], h2⟩
  · rename_i r q
    split at hv
    · rename_i c1 u c2 v' e1 e2
      simp only [Option.some.injEq, Prod.mk.injEq] at hv
      obtain ⟨hcc, rfl⟩ := hv
      rw [← hcc] at hc
      obtain ⟨u1, h1, h2⟩ := run_resV s ra e1 hc.1
      obtain ⟨u2, h3, h4⟩ := run_resV s ra e2 hc.2
      refine ⟨.tuple #[u1, u2], by simp [Sem.run_bind, h1, h3], rv_mkTup (.tup _ _ rfl (fun i hi => ?_))⟩
      match i, hi with
      | 0, _ => exact h2
      | 1, _ => exact h4
    · cases hv
  · rename_i r q p
    split at hv
    · rename_i c1 u c2 v' c3 x' e1 e2 e3
      simp only [Option.some.injEq, Prod.mk.injEq] at hv
      obtain ⟨hcc, rfl⟩ := hv
      rw [← hcc] at hc
      obtain ⟨u1, h1, h2⟩ := run_resV s ra e1 hc.1
      obtain ⟨u2, h3, h4⟩ := run_resV s ra e2 hc.2.1
      obtain ⟨u3, h5, h6⟩ := run_resV s ra e3 hc.2.2
      refine ⟨.tuple #[u1, u2, u3], by simp [Sem.run_bind, h1, h3, h5], rv_mkTup (.tup _ _ rfl (fun i hi => ?_))⟩
      match i, hi with
      | 0, _ => exact h2
      | 1, _ => exact h4
      | 2, _ => exact h6
    · cases hv
  · cases hv

/-- A FUNCTION's CONTRACT OUT OF ITS BODY -/
theorem pcalls_of_wpC {f : FuncId} {fn : Func} {c : Code} {args : List PV} {h : List PObj} {K : PRes → List PObj → Prop} (hf : P.funcs[f]? = some fn) (hb : fn.body = some c)
    (hn : (fn.name == "runtime.NumGoroutine") = false) (hN : args.length ≤ fn.ntmps)
    (k : HB h → PWp P B h.length c (bodyC P fn.results.toList K) (PA.init args fn.ntmps) h) : PCalls P B f args h K := by
  refine fun e w vs s r => .inl ⟨run_callFunc ⟨fn, hf, hn, by rw [hb]; rfl⟩ vs w, ?_⟩
  refine calls_of_wp hf hb (wp_mono (k s.hb (Nat.le_refl _) e w _ s (ra_init r hN)) fun ex act w' l => ?_)
  obtain ⟨px, e', a', h', q, rx, s', ra', ext⟩ := l
  have hx : Ext e.n e w e' w' := by rw [s.n]; exact ext
  have hd : a'.ds = [] → act.defers = [] := fun h0 => by
    have := ra'.len; rw [h0] at this; exact List.length_eq_zero_iff.1 (by simpa using this)
  have fin : ∀ {q : a'.ds = [] ∧ match presC P a'.t h' fn.results.toList with | some (c, v) => c ∧ K (.ret v) h' | none => False},
      act.defers = [] ∧ ∃ u, (results fn act.tmps).run P w' = .ok u w' ∧ ∃ r e' h', K r h' ∧ RR w' e' r (.returned u) ∧ Sim B e' h' w' ∧ Ext e.n e w e' w' := fun {q} => by
    obtain ⟨h0, q⟩ := q
    split at q
    · rename_i c v hv
      obtain ⟨u, hu, ru⟩ := rv_presC s' ra' hv q.1
      exact ⟨hd h0, u, hu, _, e', h', q.2, ru, s', hx⟩
    · exact q.elim
  cases px <;> cases ex <;> try (first | exact rx.elim | exact q.elim)
  · exact fin (q := q)
  · exact fin (q := q)
  · obtain ⟨h0, hK⟩ := q
    exact ⟨hd h0, _, e', h', hK, rx, s', hx⟩

theorem pcalls_start {f : FuncId} {fn : Func} {N : Nat} {c : Code} {rl : List ResultVar} {args : List PV} {h : List PObj} {K : PRes → List PObj → Prop} (hf : P.funcs[f]? = some fn) (hN : fn.ntmps = N) (hb : fn.body = some c)
    (hn : (fn.name == "runtime.NumGoroutine") = false) (hr : fn.results = rl.toArray) (hl : args.length ≤ N)
    (k : HB h → PWp P B h.length c (bodyC P rl K) (PA.start args N) h) : PCalls P B f args h K := by
  subst hN
  refine pcalls_of_wpC hf hb hn hl (fun hb => ?_)
  rw [init_start, hr]
  exact k hb
end

theorem start_t (args : List PV) (N i : Nat) : (PA.start args N).t i = argAt args i := rfl
theorem start_N (args : List PV) (N : Nat) : (PA.start args N).N = N := rfl
theorem start_ds (args : List PV) (N : Nat) : (PA.start args N).ds = [] := rfl
theorem put_t (a : PA) (d i : Nat) (p : PV) : (a.put (some d) p).t i = if i = d then p else a.t i := rfl
theorem put_none (a : PA) (p : PV) : a.put none p = a := rfl
theorem put_N (a : PA) (d : Option Tmp) (p : PV) : (a.put d p).N = a.N := by cases d <;> rfl
theorem put_ds (a : PA) (d : Option Tmp) (p : PV) : (a.put d p).ds = a.ds := by cases d <;> rfl
theorem mk_t (t : Nat → PV) (N : Nat) (ds : List PDef) (i : Nat) : (PA.mk t N ds).t i = t i := rfl
theorem mk_N (t : Nat → PV) (N : Nat) (ds : List PDef) : (PA.mk t N ds).N = N := rfl
theorem mk_ds (t : Nat → PV) (N : Nat) (ds : List PDef) : (PA.mk t N ds).ds = ds := rfl
theorem rs_t (a : PA) (h : List PObj) (i : Nat) : (a.rs h).t i = rsvA h (a.t i) := rfl
theorem rs_N (a : PA) (h : List PObj) : (a.rs h).N = a.N := rfl
theorem rs_ds (a : PA) (h : List PObj) : (a.rs h).ds = a.ds := rfl
theorem ev_tmp (a : PA) (t : Nat) : a.eval (.tmp t) = a.t t := rfl
theorem ev_func (a : PA) (f : Nat) : a.eval (.func f) = .d (.fn (.func f) [] []) := rfl
theorem ev_global (a : PA) (g : Nat) : a.eval (.global g) = .d (.raw (.pointer (some ⟨g, 0, none⟩))) := rfl
theorem ev_int (a : PA) (k : IntKind) (n : Int) : a.eval (.const (.int k n)) = .d (.int k n) := rfl
theorem ev_bool (a : PA) (b : Bool) : a.eval (.const (.bool b)) = .d (.bool b) := rfl
theorem ev_string (a : PA) (l : List UInt8) : a.eval (.const (.string ⟨l.toArray⟩)) = if l.length ≤ 9223372036854775807 then .d (.str l) else .d (.raw (.string ⟨l.toArray⟩)) := by
  show cPV (.string ⟨l.toArray⟩) = _
  simp only [cPV, cD, List.toList_toArray]
  split <;> rfl
theorem ev_slice (a : PA) : a.eval (.const (.slice none 0 0)) = .d (.sl [] true) := rfl
theorem ev_map (a : PA) (r : Option Nat) : a.eval (.const (.map r)) = .d (.raw (.map r)) := rfl
theorem ev_ptr (a : PA) (r : Option Addr) : a.eval (.const (.pointer r)) = .d (.raw (.pointer r)) := rfl
theorem ev_agg (a : PA) (cs : Array Value) : a.eval (.const (.agg cs)) = if cs.all scalarV then .d (.agg (cs.toList.map cD)) else .junk := rfl
theorem data_mk (l : List UInt8) : (ByteArray.mk l.toArray).data.toList = l := by simp

theorem flat_agg (cs : List PV) : flat (.agg cs) = some cs := rfl
theorem flat_dagg (cs : List D) : flat (.d (.agg cs)) = some (cs.map .d) := rfl
theorem flat_int (k : IntKind) (n : Int) : flat (.d (.int k n)) = some [.d (.int k n)] := rfl
theorem flat_bool (b : Bool) : flat (.d (.bool b)) = some [.d (.bool b)] := rfl
theorem flat_str (l : List UInt8) : flat (.d (.str l)) = some [.d (.str l)] := rfl
theorem flat_sl (l : List D) (c : Bool) : flat (.d (.sl l c)) = some [.d (.sl l c)] := rfl
theorem flat_ip (x : D) : flat (.d (.ip x)) = some [.d (.ip x)] := rfl
theorem flat_vm (x y : List D) : flat (.d (.vm x y)) = some [.d (.vm x y)] := rfl
theorem flat_dfn (f : Fn) (x y : List D) : flat (.d (.fn f x y)) = some [.d (.fn f x y)] := rfl
theorem flat_difc (t : TypeId) (x : D) : flat (.d (.ifc t x)) = some [.d (.ifc t x)] := rfl
theorem flat_nilFunc : flat (.d (.raw .nilFunc)) = some [.d (.raw .nilFunc)] := rfl
theorem flat_nilMap : flat (.d (.raw (.map none))) = some [.d (.raw (.map none))] := rfl
theorem flat_nilPtr : flat (.d (.raw (.pointer none))) = some [.d (.raw (.pointer none))] := rfl
theorem flat_nilIface : flat (.d (.raw .nilIface)) = some [.d (.raw .nilIface)] := rfl
theorem flat_ptr (i o : Nat) : flat (.ptr i o) = some [.ptr i o] := rfl
theorem flat_row (i o : Nat) : flat (.row i o) = some [.row i o] := rfl
theorem flat_mp (i : Nat) : flat (.mp i) = some [.mp i] := rfl
theorem flat_fn (f : Fn) (x y : List PV) : flat (.fn f x y) = some [.fn f x y] := rfl
theorem flat_ifc (t : TypeId) (x : PV) : flat (.ifc t x) = some [.ifc t x] := rfl

theorem allD_nil : allD [] = some [] := rfl
theorem allD_d (x : D) (r : List PV) : allD (.d x :: r) = (allD r).map (x :: ·) := rfl
theorem allD_ptr (i o : Nat) (r : List PV) : allD (.ptr i o :: r) = none := rfl
theorem allD_row (i o : Nat) (r : List PV) : allD (.row i o :: r) = none := rfl
theorem allD_mp (i : Nat) (r : List PV) : allD (.mp i :: r) = none := rfl
theorem allD_fn (f : Fn) (x y : List PV) (r : List PV) : allD (.fn f x y :: r) = none := rfl
theorem allD_agg (x : List PV) (r : List PV) : allD (.agg x :: r) = none := rfl
theorem allD_tup (x : List PV) (r : List PV) : allD (.tup x :: r) = none := rfl
theorem allD_junk (r : List PV) : allD (.junk :: r) = none := rfl
theorem allD_ifc (t : TypeId) (x : PV) (r : List PV) : allD (.ifc t x :: r) = none := rfl

theorem rsv_d (h : List PObj) (x : D) : rsv h (.d x) = .d x := rfl
theorem rsv_ptr (h : List PObj) (i o : Nat) : rsv h (.ptr i o) = .ptr i o := rfl
theorem rsv_mp (h : List PObj) (i : Nat) : rsv h (.mp i) = .mp i := rfl
theorem rsv_fn (h : List PObj) (f : Fn) (x y : List PV) : rsv h (.fn f x y) = .fn f x y := rfl
theorem rsv_junk (h : List PObj) : rsv h .junk = .junk := rfl
theorem rsv_row (h : List PObj) (id n : Nat) : rsv h (.row id n) = match h[id]? with
    | some (.frz ds) => if n = ds.length then .d (.sl ds false) else .row id n
    | _ => .row id n := rfl
theorem rsvA_d (h : List PObj) (x : D) : rsvA h (.d x) = .d x := rfl
theorem rsvA_ptr (h : List PObj) (i o : Nat) : rsvA h (.ptr i o) = .ptr i o := rfl
theorem rsvA_mp (h : List PObj) (i : Nat) : rsvA h (.mp i) = .mp i := rfl
theorem rsvA_row (h : List PObj) (i n : Nat) : rsvA h (.row i n) = rsv h (.row i n) := rfl
theorem rsvA_agg (h : List PObj) (cs : List PV) : rsvA h (.agg cs) = mkAgg (cs.map (rsv h)) := rfl
theorem rsvA_tup (h : List PObj) (cs : List PV) : rsvA h (.tup cs) = mkTup (cs.map (rsv h)) := rfl
theorem rsvA_fn (h : List PObj) (f : Fn) (x y : List PV) : rsvA h (.fn f x y) = mkFn f (x.map (rsv h)) (y.map (rsv h)) := rfl
theorem rsvA_junk (h : List PObj) : rsvA h .junk = .junk := rfl

theorem mkAgg_some {l : List PV} {ds : List D} (h : allD l = some ds) : mkAgg l = .d (.agg ds) := by simp [mkAgg, h]
theorem mkAgg_none {l : List PV} (h : allD l = none) : mkAgg l = .agg l := by simp [mkAgg, h]

theorem fnOf_d (g : FuncId) (x y : List D) : fnOf (.d (.fn (.func g) x y)) = some (g, x.map .d, y.map .d) := rfl
theorem fnOf_p (g : FuncId) (x y : List PV) : fnOf (.fn (.func g) x y) = some (g, x, y) := rfl

section
variable (P : Program) (ρ : Operand → PV) (h : List PObj)
theorem ps_move (x : Operand) : pstep P ρ h (.move x) = some (True, ρ x, h) := rfl
theorem ps_assign (x : Operand) : pstep P ρ h (.assign x) = some (True, ρ x, h) := rfl
theorem ps_pick (c x y : Operand) : pstep P ρ h (.pick c x y) = match ρ c with
    | .d (.bool b) => some (True, if b then ρ x else ρ y, h)
    | _ => none := rfl
theorem ps_alloc (t : TypeId) : pstep P ρ h (.alloc t) = match tyOf P t with
    | some d => some (True, .ptr h.length 0, h ++ [.cells (d.zero.map .d)])
    | none => none := rfl
theorem ps_box (t : TypeId) (x : Operand) : pstep P ρ h (.box t x) = match flat (ρ x) with
    | some cs => some (True, .ptr h.length 0, h ++ [.cells cs])
    | none => none := rfl
theorem ps_load (t : TypeId) (x : Operand) : pstep P ρ h (.load t x) = match tyOf P t with
    | some d => match pload d (ρ x) h with
      | some (c, v) => some (c, v, h)
      | none => none
    | none => none := rfl
theorem ps_store (t : TypeId) (x y : Operand) : pstep P ρ h (.store t x y) = match tyOf P t with
    | some d => match pstore d (ρ x) (ρ y) h with
      | some (c, h') => some (c, .junk, h')
      | none => none
    | none => none := rfl
theorem ps_nilCheck (x : Operand) : pstep P ρ h (.nilCheck x) = match ρ x with
    | .ptr id off => some (True, .ptr id off, h)
    | .d (.ip y) => some (True, .d (.ip y), h)
    | _ => none := rfl
theorem ps_bin (op : BinOp) (t t' : TypeId) (x y : Operand) : pstep P ρ h (.binOp op t x y t') = match pbin op (ρ x) (ρ y) with
    | some (c, v) => some (c, v, h)
    | none => match peqOp P op t x y (ρ x) (ρ y) with
      | some v => some (True, v, h)
      | none => none := rfl
theorem ps_not (t : TypeId) (x : Operand) : pstep P ρ h (.unOp .not t x) = match ρ x with
    | .d (.bool b) => some (True, .d (.bool (!b)), h)
    | _ => none := rfl
theorem ps_convert (t t' : TypeId) (x : Operand) : pstep P ρ h (.convert t t' x) = match ρ x with
    | .ptr id off => if convU P t t' = true then (match h[id]? with
      | some (.cells cs) => match cs[off]? with
        | some (.d (.int _ _)) => some (True, .ptr id off, h)
        | _ => none
      | _ => none) else none
    | _ => match tyOf P t, tyOf P t' with
      | some _, some d' => match d'.k, ρ x with
        | .int k', .d (.int _ n) => some (True, .d (.int k' (k'.wrap n)), h)
        | _, _ => none
      | _, _ => none := rfl
theorem ps_fieldAddr (t : TypeId) (x : Operand) (f : Nat) : pstep P ρ h (.fieldAddr t x f) = match tyOf P t with
    | some d => match pfaddr P d f (ρ x) with
      | some v => some (True, v, h)
      | none => none
    | none => none := rfl
theorem ps_field (t : TypeId) (x : Operand) (f : Nat) : pstep P ρ h (.field t x f) = match tyOf P t with
    | some d => match pfield P d f (ρ x) with
      | some v => some (True, v, h)
      | none => none
    | none => none := rfl
theorem ps_indexAddr (t : TypeId) (x y : Operand) : pstep P ρ h (.indexAddr t x y) = match tyOf P t with
    | some d => match ρ x with
      | .row id n => match h[id]? with
        | some (.row _ _ es) => match piaddr P d (ρ x) (ρ y) with
          | some (c, v) => some (n = es.length ∧ c, v, h)
          | none => none
        | _ => none
      | _ => match piaddr P d (ρ x) (ρ y) with
        | some (c, v) => some (c, v, h)
        | none => none
    | none => none := rfl
theorem ps_index (t : TypeId) (x y : Operand) : pstep P ρ h (.index t x y) = match tyOf P t with
    | some d => match pindex P d (ρ x) (ρ y) with
      | some (c, v) => some (c, v, h)
      | none => none
    | none => none := rfl
theorem ps_slice (t : TypeId) (x : Operand) (lo hi mx : Option Operand) : pstep P ρ h (.slice t x lo hi mx) = match tyOf P t with
    | some d => match pslice d.k (ρ x) (lo.map ρ) (hi.map ρ) (mx.map ρ) with
      | some (c, v) => match d.k, ρ x with
        | .slice et, .d (.sl es _) => match tyOf P et with
          | some de => some (AllN de.size es ∧ c, v, h)
          | none => none
        | .slice _, _ => none
        | _, _ => some (c, v, h)
      | none => none
    | none => none := rfl
theorem ps_extract (x : Operand) (i : Nat) : pstep P ρ h (.extract x i) = match pextract (ρ x) i with
    | some v => some (True, v, h)
    | none => none := rfl
theorem ps_makeFunc (f : Fn) (first caps : Array Operand) : pstep P ρ h (.makeFunc f first caps) = some (True, mkFn f (first.toList.map ρ) (caps.toList.map ρ), h) := rfl
theorem ps_makeInterface (t : TypeId) (x : Operand) : pstep P ρ h (.makeInterface t x) = match tyOf P t with
    | some d => match d.k with
      | .iface => none
      | _ => some (True, (match ρ x with | .d y => .d (.ifc t y) | y => .ifc t y), h)
    | none => none := rfl
theorem ps_build (t : TypeId) (parts : Array (Nat × Operand)) : pstep P ρ h (.build t parts) = match tyOf P t with
    | some d => match pbuild d (parts.toList.map fun (p : Nat × Operand) => (p.1, ρ p.2)) with
      | some v => some (True, v, h)
      | none => none
    | none => none := rfl
theorem ps_buildSlice (t : TypeId) (len : Nat) (parts : Array (Nat × Operand)) : pstep P ρ h (.buildSlice t len parts) = match tyOf P t with
    | some d => match pbuildSlice P d len (parts.toList.map fun (p : Nat × Operand) => (p.1, ρ p.2)) with
      | some v => some (True, v, h)
      | none => none
    | none => none := rfl
theorem ps_makeSlice (t : TypeId) (x y : Operand) : pstep P ρ h (.makeSlice t x y) = match tyOf P t with
    | some d => match pmake P d (ρ x) (ρ y) with
      | some (c, E, sz, es) => some (c, .row h.length es.length, h ++ [.row E sz es])
      | none => none
    | none => none := rfl
theorem ps_builtin (b : Builtin) (args : Array Operand) (ts : Array TypeId) : pstep P ρ h (.call { callee := .builtin b, args := args, argTypes := ts }) = pbuiltin P ρ h b args.toList ts.toList := rfl
theorem ps_makeMap (t : TypeId) : pstep P ρ h (.makeMap t none) = some (True, .mp h.length, h ++ [.map [] []]) := rfl
theorem ps_mapUpdate (t : TypeId) (m k v : Operand) : pstep P ρ h (.mapUpdate t m k v) = match tyOf P t with
    | some d => match pmapUpd P d (ρ m) (ρ k) (ρ v) h with
      | some (c, h') => some (c, .junk, h')
      | none => none
    | none => none := rfl
theorem ps_insert (t : TypeId) (m k v : Operand) : pstep P ρ h (.insert t m k v) = match tyOf P t with
    | some d => match pmapUpd P d (ρ m) (ρ k) (ρ v) h with
      | some (c, h') => some (c, .junk, h')
      | none => none
    | none => none := rfl
theorem ps_lookup (t : TypeId) (x k : Operand) (co : Bool) : pstep P ρ h (.lookup t x k co) = match tyOf P t with
    | some d => match plookup P d (ρ x) (ρ k) co h with
      | some (c, v) => some (c, v, h)
      | none => none
    | none => none := rfl
theorem ps_range (t : TypeId) (x : Operand) : pstep P ρ h (.range t x) = match tyOf P t with
    | some d => match prange d (ρ x) h with
      | some po => some (True, .it h.length, h ++ [po])
      | none => none
    | none => none := rfl
theorem ps_next (x : Operand) : pstep P ρ h (.next x true) = match pnextS (ρ x) h with
    | some (v, h') => some (True, v, h')
    | none => none := rfl
theorem ps_entry (x : Operand) : pstep P ρ h (.entry x) = match pentry (ρ x) h with
    | some (c, v) => some (c, v, h)
    | none => none := rfl
theorem pb_len (x : Operand) (t : TypeId) : pbuiltin P ρ h .len [x] [t] = match tyOf P t with
    | some d => match plen d.k (ρ x) h with
      | some v => some (True, v, h)
      | none => none
    | none => none := rfl
theorem pb_min (x y : Operand) (t u : TypeId) : pbuiltin P ρ h .min [x, y] [t, u] = match pmm false (ρ x) (ρ y) with
    | some v => some (True, v, h)
    | none => none := rfl
theorem pb_max (x y : Operand) (t u : TypeId) : pbuiltin P ρ h .max [x, y] [t, u] = match pmm true (ρ x) (ρ y) with
    | some v => some (True, v, h)
    | none => none := rfl
theorem pb_append (x y : Operand) (t : TypeId) : pbuiltin P ρ h .append [x, y] [t, t] = match tyOf P t with
    | some d => match ρ x with
      | .row _ _ => pappendRow P d (ρ x) (ρ y) h
      | _ => match pappendNew P d (ρ x) (ρ y) with
        | some (c, E, sz, es) => if isE2 (ρ x) (ρ y) = true then some (True, ρ x, h) else some (c, .row h.length es.length, h ++ [.row E sz es])
        | none => none
    | none => none := by simp only [pbuiltin, if_true]; rfl
end

/-! ### objects by their places -/
theorem hget_own (h l : List PObj) (i : Nat) : (h ++ l)[h.length + i]? = l[i]? := by
  rw [List.getElem?_append_right (by omega)]; congr 1; omega
theorem hget_own0 (h l : List PObj) : (h ++ l)[h.length]? = l[0]? := hget_own h l 0
theorem hset_own (h l : List PObj) (i : Nat) (x : PObj) : (h ++ l).set (h.length + i) x = h ++ l.set i x := by
  rw [List.set_append, if_neg (by omega)]; congr 2; omega
theorem hset_own0 (h l : List PObj) (x : PObj) : (h ++ l).set h.length x = h ++ l.set 0 x := hset_own h l 0 x
theorem hget_ownS (h : List PObj) (j : Nat) (c : PObj) (l : List PObj) (i : Nat) : (h.set j c ++ l)[h.length + i]? = l[i]? := by
  have := hget_own (h.set j c) l i; rwa [List.length_set] at this
theorem hget_ownS0 (h : List PObj) (j : Nat) (c : PObj) (l : List PObj) : (h.set j c ++ l)[h.length]? = l[0]? := hget_ownS h j c l 0
theorem hset_ownS (h : List PObj) (j : Nat) (c : PObj) (l : List PObj) (i : Nat) (x : PObj) : (h.set j c ++ l).set (h.length + i) x = h.set j c ++ l.set i x := by
  have := hset_own (h.set j c) l i x; rwa [List.length_set] at this
theorem hset_ownS0 (h : List PObj) (j : Nat) (c : PObj) (l : List PObj) (x : PObj) : (h.set j c ++ l).set h.length x = h.set j c ++ l.set 0 x := hset_ownS h j c l 0 x
theorem hget_old {h : List PObj} {i : Nat} {x : PObj} (hi : h[i]? = some x) (l : List PObj) : (h ++ l)[i]? = some x := by
  rw [List.getElem?_append_left (List.getElem?_eq_some_iff.1 hi).1]; exact hi
theorem hset_old {h : List PObj} {i : Nat} (hi : i < h.length) (l : List PObj) (x : PObj) : (h ++ l).set i x = h.set i x ++ l := by
  rw [List.set_append, if_pos hi]

section
variable {P : Program} {B : Array Obj}
/-- what follows, behind words that are opened only where they are reached -/
def vcOpsK (P : Program) (B : Array Obj) (ops : Array Oper) (Q : PPost) (r : List Oper) (a : PA) (h : List PObj) : Prop := vcOps P B ops Q r a h
def pK (Q : PPost) (a : PA) (p : PV) (h : List PObj) : Prop := Q (.panic p) a h
def kC (K : PA → List PObj → Prop) (a : PA) (dst : Option Tmp) (v : PV) (h : List PObj) : Prop := K (a.put dst v) h
theorem vok_app {ops : Array Oper} {Q : PPost} {r : List Oper} {a : PA} {h : List PObj} : vcOpsK P B ops Q r a h = vcOps P B ops Q r a h := rfl
theorem pK_app {Q : PPost} {a : PA} {p : PV} {h : List PObj} : pK Q a p h = Q (.panic p) a h := rfl
theorem kC_app {K : PA → List PObj → Prop} {a : PA} {dst : Option Tmp} {v : PV} {h : List PObj} : kC K a dst v h = K (a.put dst v) h := rfl
theorem vo_nil {ops : Array Oper} {Q : PPost} {a : PA} {h : List PObj} : vcOps P B ops Q [] a h = Q .normal a h := rfl
/-- an operation without a guard -/
theorem vo_run {ops : Array Oper} {Q : PPost} {r : List Oper} {a : PA} {h : List PObj} (dst : Option Tmp) (op : Op) (t : TypeId) (pos : String) (aft : Array Edge) :
    vcOps P B ops Q (⟨dst, op, t, pos, aft, none⟩ :: r) a h = vc1 P B ⟨dst, op, t, pos, aft, none⟩ a h (vcOpsK P B ops Q r) (pK Q a) := rfl
/-- a guarded operation, its guard's value known or not -/
def vcGd (P : Program) (B : Array Obj) (ops : Array Oper) (Q : PPost) (r : List Oper) (o : Oper) (h : List PObj) (b want : Bool) (a : PA) (d : Nat) : Prop :=
  (b = want → vc1 P B o (a.put (some d) (.d (.bool want))) h (vcOpsK P B ops Q r) (pK Q (a.put (some d) (.d (.bool want))))) ∧
  (b = (!want) → dstOk o (a.put (some d) (.d (.bool (!want)))).N ∧ vcOps P B ops Q r ((a.put (some d) (.d (.bool (!want)))).put o.dst (.d (.tup []))) h)
section
variable {ops : Array Oper} {Q : PPost} {r : List Oper} {h : List PObj} {a : PA} {d : Nat} (dst : Option Tmp) (op : Op) (t : TypeId) (pos : String) (aft : Array Edge) (g : Option (Nat × Bool))
theorem vg_tt : vcGd P B ops Q r ⟨dst, op, t, pos, aft, g⟩ h true true a d = vc1 P B ⟨dst, op, t, pos, aft, g⟩ (a.put (some d) (.d (.bool true))) h (vcOpsK P B ops Q r) (pK Q (a.put (some d) (.d (.bool true)))) := by simp [vcGd]
theorem vg_ff : vcGd P B ops Q r ⟨dst, op, t, pos, aft, g⟩ h false false a d = vc1 P B ⟨dst, op, t, pos, aft, g⟩ (a.put (some d) (.d (.bool false))) h (vcOpsK P B ops Q r) (pK Q (a.put (some d) (.d (.bool false)))) := by simp [vcGd]
theorem vg_tf : vcGd P B ops Q r ⟨dst, op, t, pos, aft, g⟩ h true false a d = (dstOk ⟨dst, op, t, pos, aft, g⟩ a.N ∧ vcOps P B ops Q r ((a.put (some d) (.d (.bool true))).put dst (.d (.tup []))) h) := by simp [vcGd, put_N]
theorem vg_ft : vcGd P B ops Q r ⟨dst, op, t, pos, aft, g⟩ h false true a d = (dstOk ⟨dst, op, t, pos, aft, g⟩ a.N ∧ vcOps P B ops Q r ((a.put (some d) (.d (.bool false))).put dst (.d (.tup []))) h) := by simp [vcGd, put_N]
theorem vg_eq (b want : Bool) : vcGd P B ops Q r ⟨dst, op, t, pos, aft, g⟩ h b want a d = ((b = want → vc1 P B ⟨dst, op, t, pos, aft, g⟩ (a.put (some d) (.d (.bool want))) h (vcOpsK P B ops Q r) (pK Q (a.put (some d) (.d (.bool want))))) ∧
    (b = (!want) → dstOk ⟨dst, op, t, pos, aft, g⟩ a.N ∧ vcOps P B ops Q r ((a.put (some d) (.d (.bool (!want)))).put dst (.d (.tup []))) h)) := by simp only [vcGd, put_N]
end
theorem vo_guard {ops : Array Oper} {Q : PPost} {r : List Oper} {a : PA} {h : List PObj} (dst : Option Tmp) (op : Op) (t : TypeId) (pos : String) (aft : Array Edge) (j : Nat) (want : Bool) :
    vcOps P B ops Q (⟨dst, op, t, pos, aft, some (j, want)⟩ :: r) a h = match (ops[j]?).bind (·.dst) with
    | some d => match a.t d with
      | .d (.bool b) => vcGd P B ops Q r ⟨dst, op, t, pos, aft, some (j, want)⟩ h b want a d
      | .d (.tup _) => dstOk ⟨dst, op, t, pos, aft, some (j, want)⟩ a.N ∧ vcOps P B ops Q r (a.put dst (.d (.tup []))) h
      | _ => False
    | none => False := rfl
theorem dst_some (d : Nat) (op : Op) (t : TypeId) (pos : String) (aft : Array Edge) (g : Option (Nat × Bool)) (N : Nat) : dstOk ⟨some d, op, t, pos, aft, g⟩ N = (d < N) := rfl
theorem dst_none (op : Op) (t : TypeId) (pos : String) (aft : Array Edge) (g : Option (Nat × Bool)) (N : Nat) : dstOk ⟨none, op, t, pos, aft, g⟩ N = True := rfl
theorem v1_call {K : PA → List PObj → Prop} {Kp : PV → List PObj → Prop} {a : PA} {h : List PObj} (dst : Option Tmp) (f : Operand) (args : Array Operand) (ts : Array TypeId) (t : TypeId) (pos : String) (aft : Array Edge) (g : Option (Nat × Bool)) :
    vc1 P B ⟨dst, .call { callee := .value f, args := args, argTypes := ts }, t, pos, aft, g⟩ a h K Kp = (dstOk ⟨dst, .call { callee := .value f, args := args, argTypes := ts }, t, pos, aft, g⟩ a.N ∧ match fnOf (a.eval f) with
      | some (g, first, caps) => PCalls P B g (first ++ args.toList.map a.eval ++ caps) h (retK (kC K a dst) Kp)
      | none => False) := rfl
/-- a length is in its bounds -/
def lenThen (v : PV) (X : Prop) : Prop := match v with
  | .d (.int .i64 n) => 0 ≤ n ∧ n ≤ 9223372036854775807 → X
  | _ => X
theorem lenThen_int (n : Int) (X : Prop) : lenThen (.d (.int .i64 n)) X = (0 ≤ n ∧ n ≤ 9223372036854775807 → X) := rfl
/-- any other operation but a length -/
def plainOp : Op → Bool
  | .call { callee := .value _, args := _, argTypes := _ } => false
  | .call { callee := .builtin .len, args := _, argTypes := _ } => false
  | .next _ false => false
  | .defer { callee := .value _, args := _, argTypes := _ } => false
  | _ => true
theorem pl_move (x : Operand) : plainOp (.move x) = true := by simp only [plainOp]
theorem pl_assign (x : Operand) : plainOp (.assign x) = true := by simp only [plainOp]
theorem pl_pick (c x y : Operand) : plainOp (.pick c x y) = true := by simp only [plainOp]
theorem pl_alloc (t : TypeId) : plainOp (.alloc t) = true := by simp only [plainOp]
theorem pl_box (t : TypeId) (x : Operand) : plainOp (.box t x) = true := by simp only [plainOp]
theorem pl_build (t : TypeId) (ps : Array (Nat × Operand)) : plainOp (.build t ps) = true := by simp only [plainOp]
theorem pl_buildSlice (t : TypeId) (n : Nat) (ps : Array (Nat × Operand)) : plainOp (.buildSlice t n ps) = true := by simp only [plainOp]
theorem pl_insert (t : TypeId) (m k v : Operand) : plainOp (.insert t m k v) = true := by simp only [plainOp]
theorem pl_load (t : TypeId) (x : Operand) : plainOp (.load t x) = true := by simp only [plainOp]
theorem pl_store (t : TypeId) (x y : Operand) : plainOp (.store t x y) = true := by simp only [plainOp]
theorem pl_nilCheck (x : Operand) : plainOp (.nilCheck x) = true := by simp only [plainOp]
theorem pl_binOp (o : BinOp) (t u : TypeId) (x y : Operand) : plainOp (.binOp o t x y u) = true := by simp only [plainOp]
theorem pl_unOp (o : UnOp) (t : TypeId) (x : Operand) : plainOp (.unOp o t x) = true := by simp only [plainOp]
theorem pl_convert (t u : TypeId) (x : Operand) : plainOp (.convert t u x) = true := by simp only [plainOp]
theorem pl_makeInterface (t : TypeId) (x : Operand) : plainOp (.makeInterface t x) = true := by simp only [plainOp]
theorem pl_makeFunc (f : Fn) (x y : Array Operand) : plainOp (.makeFunc f x y) = true := by simp only [plainOp]
theorem pl_makeMap (t : TypeId) (r : Option Operand) : plainOp (.makeMap t r) = true := by simp only [plainOp]
theorem pl_makeSlice (t : TypeId) (x y : Operand) : plainOp (.makeSlice t x y) = true := by simp only [plainOp]
theorem pl_slice (t : TypeId) (x : Operand) (l h m : Option Operand) : plainOp (.slice t x l h m) = true := by simp only [plainOp]
theorem pl_fieldAddr (t : TypeId) (x : Operand) (f : Nat) : plainOp (.fieldAddr t x f) = true := by simp only [plainOp]
theorem pl_field (t : TypeId) (x : Operand) (f : Nat) : plainOp (.field t x f) = true := by simp only [plainOp]
theorem pl_indexAddr (t : TypeId) (x y : Operand) : plainOp (.indexAddr t x y) = true := by simp only [plainOp]
theorem pl_index (t : TypeId) (x y : Operand) : plainOp (.index t x y) = true := by simp only [plainOp]
theorem pl_lookup (t : TypeId) (x y : Operand) (c : Bool) : plainOp (.lookup t x y c) = true := by simp only [plainOp]
theorem pl_mapUpdate (t : TypeId) (m k v : Operand) : plainOp (.mapUpdate t m k v) = true := by simp only [plainOp]
theorem pl_range (t : TypeId) (x : Operand) : plainOp (.range t x) = true := by simp only [plainOp]
theorem pl_nextS (x : Operand) : plainOp (.next x true) = true := by simp only [plainOp]
theorem pl_entry (x : Operand) : plainOp (.entry x) = true := by simp only [plainOp]
theorem pl_extract (x : Operand) (i : Nat) : plainOp (.extract x i) = true := by simp only [plainOp]
theorem pl_append (a : Array Operand) (ts : Array TypeId) : plainOp (.call { callee := .builtin .append, args := a, argTypes := ts }) = true := by simp only [plainOp]
theorem pl_min (a : Array Operand) (ts : Array TypeId) : plainOp (.call { callee := .builtin .min, args := a, argTypes := ts }) = true := by simp only [plainOp]
theorem pl_max (a : Array Operand) (ts : Array TypeId) : plainOp (.call { callee := .builtin .max, args := a, argTypes := ts }) = true := by simp only [plainOp]
theorem pl_copy (a : Array Operand) (ts : Array TypeId) : plainOp (.call { callee := .builtin .copy, args := a, argTypes := ts }) = true := by simp only [plainOp]
theorem pl_delete (a : Array Operand) (ts : Array TypeId) : plainOp (.call { callee := .builtin .delete, args := a, argTypes := ts }) = true := by simp only [plainOp]
theorem pl_cap (a : Array Operand) (ts : Array TypeId) : plainOp (.call { callee := .builtin .cap, args := a, argTypes := ts }) = true := by simp only [plainOp]
theorem v1_op {K : PA → List PObj → Prop} {Kp : PV → List PObj → Prop} {a : PA} {h : List PObj} (dst : Option Tmp) (op : Op) (t : TypeId) (pos : String) (aft : Array Edge) (g : Option (Nat × Bool)) (hop : plainOp op = true) :
    vc1 P B ⟨dst, op, t, pos, aft, g⟩ a h K Kp = (dstOk ⟨dst, op, t, pos, aft, g⟩ a.N ∧ match pstep P a.eval h op with
      | some (c, v, h') => c ∧ K (a.put dst v) h'
      | none => False) := by
  unfold vc1
  congr 1
  split
  · rename_i hh; simp only at hh; rw [hh] at hop; simp [plainOp] at hop
  · rename_i hh; simp only at hh; rw [hh] at hop; simp [plainOp] at hop
  · rename_i hh; simp only at hh; rw [hh] at hop; simp [plainOp] at hop
  · dsimp only
    have hf : ∀ v, fact op v = True := fun v => by
      unfold fact
      split
      · simp [plainOp] at hop
      · rfl
    cases hp : pstep P a.eval h op with
    | none => rfl
    | some r =>
      obtain ⟨c, v, h'⟩ := r
      simp only [hf, true_implies]
theorem v1_len {K : PA → List PObj → Prop} {Kp : PV → List PObj → Prop} {a : PA} {h : List PObj} (dst : Option Tmp) (x : Operand) (u : TypeId) (t : TypeId) (pos : String) (aft : Array Edge) (g : Option (Nat × Bool)) :
    vc1 P B ⟨dst, .call { callee := .builtin .len, args := #[x], argTypes := #[u] }, t, pos, aft, g⟩ a h K Kp = (dstOk ⟨dst, .call { callee := .builtin .len, args := #[x], argTypes := #[u] }, t, pos, aft, g⟩ a.N ∧ match tyOf P u with
      | some d => match plen d.k (a.eval x) h with
        | some v => lenThen v (K (a.put dst v) h)
        | none => False
      | none => False) := by
  unfold vc1
  congr 1
  dsimp only
  have hp : pstep P a.eval h (.call { callee := .builtin .len, args := #[x], argTypes := #[u] }) = match tyOf P u with
    | some d => match plen d.k (a.eval x) h with
      | some v => some (True, v, h)
      | none => none
    | none => none := rfl
  rw [hp]
  cases hd : tyOf P u with
  | none => rfl
  | some d =>
    simp only
    cases hl : plen d.k (a.eval x) h with
    | none => rfl
    | some v =>
      simp only [true_and]
      unfold fact lenThen
      cases v with
      | d y =>
        cases y with
        | int k n => cases k <;> simp
        | _ => simp
      | _ => simp
theorem dfr_t (a : PA) (d : PDef) : (a.dfr d).t = a.t := rfl
theorem dfr_N (a : PA) (d : PDef) : (a.dfr d).N = a.N := rfl
theorem dfr_ds (a : PA) (d : PDef) : (a.dfr d).ds = d :: a.ds := rfl
theorem v1_defer {K : PA → List PObj → Prop} {Kp : PV → List PObj → Prop} {a : PA} {h : List PObj} (dst : Option Tmp) (f : Operand) (args : Array Operand) (ts : Array TypeId) (t : TypeId) (pos : String) (aft : Array Edge) (g : Option (Nat × Bool)) :
    vc1 P B ⟨dst, .defer { callee := .value f, args := args, argTypes := ts }, t, pos, aft, g⟩ a h K Kp = (dstOk ⟨dst, .defer { callee := .value f, args := args, argTypes := ts }, t, pos, aft, g⟩ a.N ∧ match fnOf (a.eval f) with
      | some (g, first, caps) => K ((a.dfr ⟨g, first ++ args.toList.map a.eval ++ caps⟩).put dst (.d (.tup []))) h
      | none => False) := rfl
theorem v1_next {K : PA → List PObj → Prop} {Kp : PV → List PObj → Prop} {a : PA} {h : List PObj} (dst : Option Tmp) (x : Operand) (t : TypeId) (pos : String) (aft : Array Edge) (g : Option (Nat × Bool)) :
    vc1 P B ⟨dst, .next x false, t, pos, aft, g⟩ a h K Kp = (dstOk ⟨dst, .next x false, t, pos, aft, g⟩ a.N ∧ nextM (a.eval x) h (kC K a dst)) := rfl
end

end Go.Proofs.YtgpbkphiipjjoaaGreatDoor.Pv

namespace Go.Proofs.YtgpbkphiipjjoaaGreatDoor.Pv
open Go
/-! ### what is known of a datum may be less: whether a slice may be appended to in place is forgotten -/
mutual
def D.fg : D → D
  | .int k n => .int k n
  | .bool b => .bool b
  | .str l => .str l
  | .raw v => .raw v
  | .sl es _ => .sl (D.fgL es) false
  | .ip e => .ip e.fg
  | .vm ks vs => .vm (D.fgL ks) (D.fgL vs)
  | .fn f x y => .fn f (D.fgL x) (D.fgL y)
  | .ifc t x => .ifc t x.fg
  | .agg cs => .agg (D.fgL cs)
  | .tup vs => .tup (D.fgL vs)
def D.fgL : List D → List D
  | [] => []
  | x :: r => x.fg :: D.fgL r
end

theorem fgL_map : ∀ l : List D, D.fgL l = l.map D.fg
  | [] => rfl
  | x :: r => by rw [D.fgL, List.map_cons, fgL_map r]
theorem fgL_len (l : List D) : (D.fgL l).length = l.length := by rw [fgL_map]; simp
theorem fgL_getD (l : List D) (i : Nat) : (D.fgL l).getD i default = (l.getD i default).fg := by
  rw [fgL_map]
  simp only [List.getD_eq_getElem?_getD, List.getElem?_map]
  cases l[i]? <;> rfl
theorem fg_scalar (x : D) : x.fg.scalar = x.scalar := by cases x <;> rfl
theorem fg_ncells (x : D) : x.fg.ncells = x.ncells := by cases x <;> simp [D.fg, D.ncells, fgL_len]
theorem fg_cell (x : D) (j : Nat) : x.fg.cell j = (x.cell j).fg := by cases x <;> simp only [D.fg, D.cell]; exact fgL_getD _ _

theorem RD.fg {w : World} {I : Nat → Prop} {x : D} {v : Value} (h : RD w I x v) : RD w I x.fg v := by
  induction h with
  | int k n => exact .int k n
  | bool b => exact .bool b
  | str l s h h2 => exact .str l s h h2
  | raw v => exact .raw v
  | ip e b off u hb hs hu _ ih =>
    rw [D.fg]
    exact .ip e.fg b off u hb (fun j hj => by rw [fg_ncells] at hj; rw [fg_cell, fg_scalar]; exact hs j hj) (fun j hj => by rw [fg_ncells] at hj; exact hu j hj) (fun j hj => by rw [fg_ncells] at hj; rw [fg_cell]; exact ih j hj)
  | slnil p cap clip h => rw [D.fg, D.fgL]; exact .slnil p cap false (fun h => by cases h)
  | sl es clip b off cap sz u hb h1 h2 h3 hs hu _ ih =>
    rw [D.fg]
    have hl := fgL_len es
    have := RD.sl (w := w) (I := I) (D.fgL es) false b off cap sz u hb (by omega) (fun h => by cases h) (fun i hi => by rw [fgL_getD, fg_ncells]; exact h3 i (by omega))
      (fun i j hi hj => by rw [fgL_getD, fg_cell, fg_scalar]; exact hs i j (by omega) hj) (fun i j hi hj => hu i j (by omega) hj) (fun i j hi hj => by rw [fgL_getD, fg_cell]; exact ih i j (by omega) hj)
    rw [hl] at this; exact this
  | vm ks vs b es clock hb he h1 h2 _ _ ih1 ih2 =>
    rw [D.fg]
    exact .vm _ _ b es clock hb he (by rw [fgL_len]; exact h1) (by rw [fgL_len]; exact h2) (fun i hi => by rw [fgL_getD]; exact ih1 i hi) (fun i hi => by rw [fgL_getD]; exact ih2 i hi)
  | fn f first caps fs cs h1 h2 _ _ ih1 ih2 =>
    rw [D.fg]
    exact .fn f _ _ fs cs (by rw [fgL_len]; exact h1) (by rw [fgL_len]; exact h2) (fun i hi => by rw [fgL_len] at hi; rw [fgL_getD]; exact ih1 i hi) (fun i hi => by rw [fgL_len] at hi; rw [fgL_getD]; exact ih2 i hi)
  | ifc t x v _ ih => exact .ifc t x.fg v ih
  | agg cs vs h1 hs _ ih =>
    rw [D.fg]
    exact .agg _ vs (by rw [fgL_len]; exact h1) (fun i hi => by rw [fgL_len] at hi; rw [fgL_getD, fg_scalar]; exact hs i hi) (fun i hi => by rw [fgL_len] at hi; rw [fgL_getD]; exact ih i hi)
  | tup xs vs h1 _ ih =>
    rw [D.fg]
    exact .tup _ vs (by rw [fgL_len]; exact h1) (fun i hi => by rw [fgL_len] at hi; rw [fgL_getD]; exact ih i hi)

def PV.fgd : PV → PV
  | .d x => .d x.fg
  | p => p
theorem RV.fgd {w : World} {e : Env} {p : PV} {v : Value} (h : RV w e p v) : RV w e p.fgd v := by
  cases h with
  | d x v h => exact .d _ _ h.fg
  | ptr id off b h g => exact .ptr id off b h g
  | row id n v h g => exact .row id n v h g
  | rp id n i sz off b len cap h g => exact .rp id n i sz off b len cap h g
  | mp id b h g => exact .mp id b h g
  | it id b h g => exact .it id b h g
  | fn f first caps fs cs h1 h2 h3 h4 => exact .fn f first caps fs cs h1 h2 h3 h4
  | agg cs vs h1 hs h2 => exact .agg cs vs h1 hs h2
  | tup xs vs h1 h2 => exact .tup xs vs h1 h2
  | ifc t y v h => exact .ifc t y v h
  | junk v => exact .junk v

/-- y tells less than x, or the same -/
def DW (x y : D) : Prop := x = y ∨ x.fg = y
theorem DW.rd {x y : D} (h : DW x y) {w : World} {I : Nat → Prop} {v : Value} (r : RD w I x v) : RD w I y v := by
  rcases h with rfl | rfl
  · exact r
  · exact r.fg
theorem DW.refl (x : D) : DW x x := .inl rfl

section
variable {P : Program} {B : Array Obj}
theorem PCalls.fgargs {f : FuncId} {args args' : List PV} {h : List PObj} {K : PRes → List PObj → Prop} (c : PCalls P B f args' h K) (e : args.map PV.fgd = args') : PCalls P B f args h K := by
  subst e
  refine fun e w vs s r => c e w vs s ⟨by simpa using r.1, fun i hi => ?_⟩
  have hi' : i < args.length := by simpa using hi
  have := (r.2 i hi').fgd
  simp only [List.getD_eq_getElem?_getD, List.getElem?_map, List.getElem?_eq_getElem hi', Option.map_some, Option.getD_some] at this ⊢
  exact this

/-- A FUNCTION OF DATA ALONE: it gives v, and leaves all as it was -/
def PRet (P : Program) (B : Array Obj) (f : FuncId) (args : List PV) (v : D) : Prop := ∀ h, PCalls P B f args h fun r h' => r = .ret (.d v) ∧ h' = h

theorem PRet.use {f : FuncId} {args : List PV} {v : D} {h : List PObj} {K Kp : PV → List PObj → Prop} (c : PRet P B f args v) (k : K (.d v) h) : PCalls P B f args h (retK K Kp) :=
  (c h).mono fun r h' ⟨hr, hh⟩ => by subst hr; subst hh; exact k
/-- of arguments that tell more -/
theorem PRet.fgargs {f : FuncId} {args args' : List PV} {v : D} (c : PRet P B f args' v) (e : args.map PV.fgd = args') : PRet P B f args v := fun h => (c h).fgargs e

theorem rc_start {f : FuncId} {fn : Func} {N : Nat} {c : Code} {rl : List ResultVar} {args : List PV} {h : List PObj} {v : D} (hf : P.funcs[f]? = some fn) (hN : fn.ntmps = N) (hb : fn.body = some c)
    (hn : (fn.name == "runtime.NumGoroutine") = false) (hr : fn.results = rl.toArray) (hl : args.length ≤ N)
    (k : HB h → PWp P B h.length c (bodyC P rl fun r h2 => (∃ x, r = .ret (.d x) ∧ DW x v) ∧ ∃ X, h2 = h ++ X) (PA.start args N) h) : PCalls P B f args h fun r h' => r = .ret (.d v) ∧ h' = h := by
  have := (pcalls_start hf hN hb hn hr hl k).cut (K' := fun r h2 => (∃ x, r = .ret (.d x) ∧ DW x v) ∧ h2 = h) fun hb r h' ⟨⟨x, hr, hx⟩, X, hX⟩ => ⟨h, X, hX, Nat.le_refl _, hb, by subst hr; exact .d _, ⟨x, hr, hx⟩, rfl⟩
  refine fun e w vs s r => (this e w vs s r).mono fun en w' hk => ?_
  obtain ⟨r, e', h', ⟨⟨x, rfl, hx⟩, hh⟩, hr, s', x'⟩ := hk
  refine ⟨.ret (.d v), e', h', ⟨rfl, hh⟩, ?_, s', x'⟩
  cases en <;> try exact hr.elim
  exact .d _ _ (hx.rd (rv_d hr))

theorem pret_start {f : FuncId} {fn : Func} {N : Nat} {c : Code} {rl : List ResultVar} {args : List PV} {v : D} (hf : P.funcs[f]? = some fn) (hN : fn.ntmps = N) (hb : fn.body = some c)
    (hn : (fn.name == "runtime.NumGoroutine") = false) (hr : fn.results = rl.toArray) (hl : args.length ≤ N)
    (k : ∀ h, HB h → PWp P B h.length c (bodyC P rl fun r h2 => (∃ x, r = .ret (.d x) ∧ DW x v) ∧ ∃ X, h2 = h ++ X) (PA.start args N) h) : PRet P B f args v :=
  fun h => rc_start hf hN hb hn hr hl (k h)

/-- a call that is known at these objects -/
theorem rc_use {f : FuncId} {args : List PV} {v : D} {h : List PObj} {K Kp : PV → List PObj → Prop} (c : PCalls P B f args h fun r h' => r = .ret (.d v) ∧ h' = h) (k : K (.d v) h) : PCalls P B f args h (retK K Kp) :=
  c.mono fun r h' ⟨hr, hh⟩ => by subst hr; subst hh; exact k

theorem PRet.cast {f : FuncId} {args : List PV} {v v' : D} (c : PRet P B f args v) (e : v = v') : PRet P B f args v' := by subst e; exact c
end

/-! ### the words for a row whose order is open -/
end Go.Proofs.YtgpbkphiipjjoaaGreatDoor.Pv
end


/- A row of operations whose order is open: what it gives is what it gives in the order of the text, where the operations that turn something stand in one forced order, and the others tell the same whenever they may run. -/
import Derived.Test.YtgpbkphiipjjoaaGreatDoorMb2
import Derived.Orders


section
namespace Go.Proofs.YtgpbkphiipjjoaaGreatDoor.Pv
open Go

theorem pstep_congr {P : Program} {ρ ρ' : Operand → PV} {h : List PObj} (op : Op) (hx : ∀ x, x ∈ op.operands → ρ x = ρ' x) : pstep P ρ h op = pstep P ρ' h op := by
  have pairs : ∀ ps : Array (Nat × Operand), (∀ x, x ∈ (ps.toList.map (·.2)).toArray → ρ x = ρ' x) →
      (ps.toList.map fun (p : Nat × Operand) => (p.1, ρ p.2)) = (ps.toList.map fun (p : Nat × Operand) => (p.1, ρ' p.2)) := fun ps hp =>
    List.map_congr_left fun p hm => by
      have : ρ p.2 = ρ' p.2 := hp p.2 (by simpa using ⟨p.1, by simpa using hm⟩)
      rw [this]
  have lists : ∀ ps : Array Operand, (∀ x, x ∈ ps → ρ x = ρ' x) → ps.toList.map ρ = ps.toList.map ρ' := fun ps hp => List.map_congr_left fun p hm => hp p (by simpa using hm)
  cases op <;> simp only [Op.operands] at hx <;> simp only [pstep]
  case build t ps => rw [pairs ps hx]
  case buildSlice t n ps => rw [pairs ps hx]
  case makeFunc fn first captured => rw [lists first (fun x h => hx x (by simp [h])), lists captured (fun x h => hx x (by simp [h]))]
  case slice t x lo hi mx => cases lo <;> cases hi <;> cases mx <;> simp_all
  case call c =>
    obtain ⟨callee, args, ts⟩ := c
    cases callee with
    | builtin b =>
      simp only [Call.operands] at hx
      have hx' : ∀ x, x ∈ args.toList → ρ x = ρ' x := fun x h => hx x (by simpa using h)
      clear hx pairs lists
      simp only
      generalize args.toList = al at hx' ⊢
      generalize ts.toList = tl
      unfold pbuiltin
      split
      · rename_i x t; rw [hx' x (by simp)]
      · rename_i x y t u; rw [hx' x (by simp), hx' y (by simp)]
      · rename_i x y t u; rw [hx' x (by simp), hx' y (by simp)]
      · rename_i x y t u; rw [hx' x (by simp), hx' y (by simp)]
      · rfl
    | _ => rfl
  case unOp o t x => cases o <;> simp_all
  case makeMap t r => cases r <;> rfl
  case next x b => cases b <;> simp_all
  all_goals (first | rfl | (simp_all; done))

/-- the temporaries that an operation reads -/
def readsOf (l : List Oper) (o : Oper) : List Tmp :=
  (o.op.operands.toList.filterMap fun x => match x with | .tmp t => some t | _ => none) ++
  (match o.guard with | some (j, _) => (match (l[j]?).bind (·.dst) with | some d => [d] | none => []) | none => [])

def aftB (o : Oper) (j : Nat) : Bool := o.after.toList.any fun e => Region.binds .any e && e.on == j

/-- the order of the text is one of the orders, and what it tells of each operation's operands is so in all orders -/
def drawOk (l : List Oper) (effs : List Nat) : Bool :=
  (l.zipIdx.all fun (o, i) =>
    (o.after.toList.all fun e => !Region.binds .any e || decide (e.on < i)) &&
    (match o.guard with | some (j, _) => aftB o j && ((l[j]?).bind (·.dst)).isSome | none => true) &&
    (l.zipIdx.all fun (o', j) => match o'.dst with
      | some t => i == j || ((!(readsOf l o).contains t || aftB o j || aftB o' i) && o.dst != some t)
      | none => true)) &&
  (effs.all fun e => decide (e < l.length)) &&
  ((effs.zip effs.tail).all fun (e, e') => decide (e < e') && (match l[e']? with | some o => aftB o e | none => false))

/-- one quiet operation: it tells v, and turns nothing -/
def qf (P : Program) (B : Array Obj) (o : Oper) (a : PA) (v : PV) (h : List PObj) : Prop :=
  match o.op with
  | .call { callee := .value f, args := args, argTypes := _ } => match fnOf (a.eval f) with
    | some (g, first, caps) => PCalls P B g (first ++ args.toList.map a.eval ++ caps) h fun r h' => r = .ret v ∧ h' = h
    | none => False
  | op => match pstep P a.eval h op with
    | some (c, u, h') => c ∧ u = v ∧ h' = h
    | none => False

/-- one operation that turns something -/
def ef (P : Program) (B : Array Obj) (o : Oper) (a : PA) (v : PV) (h h' : List PObj) : Prop :=
  match o.op with
  | .call { callee := .value f, args := args, argTypes := _ } => match fnOf (a.eval f) with
    | some (g, first, caps) => PCalls P B g (first ++ args.toList.map a.eval ++ caps) h fun r h2 => r = .ret v ∧ h2 = h'
    | none => False
  | op => match pstep P a.eval h op with
    | some (c, u, h2) => c ∧ u = v ∧ h2 = h'
    | none => False

section
variable {P : Program} {B : Array Obj}

theorem eval_congr {a a' : PA} {x : Operand} (h : ∀ t, x = .tmp t → a.t t = a'.t t) : a.eval x = a'.eval x := by
  cases x with
  | tmp t => exact h t rfl
  | _ => rfl

theorem ef_other {o : Oper} {a : PA} {v : PV} {h h' : List PObj} (hne : ∀ f args ts, o.op ≠ .call { callee := .value f, args := args, argTypes := ts }) :
    ef P B o a v h h' = match pstep P a.eval h o.op with
    | some (c, u, h2) => c ∧ u = v ∧ h2 = h'
    | none => False := by
  unfold ef
  split
  · rename_i f args ts hop; exact (hne _ _ _ hop).elim
  · rfl
theorem ef_call {o : Oper} {a : PA} {v : PV} {h h' : List PObj} {f : Operand} {args : Array Operand} {ts : Array TypeId} (hop : o.op = .call { callee := .value f, args := args, argTypes := ts }) :
    ef P B o a v h h' = match fnOf (a.eval f) with
    | some (g, first, caps) => PCalls P B g (first ++ args.toList.map a.eval ++ caps) h fun r h2 => r = .ret v ∧ h2 = h'
    | none => False := by
  unfold ef; rw [hop]

theorem ef_congr {o : Oper} {a a' : PA} {v : PV} {h h' : List PObj} (hx : ∀ t, Operand.tmp t ∈ o.op.operands → a.t t = a'.t t) (k : ef P B o a v h h') : ef P B o a' v h h' := by
  have he : ∀ x, x ∈ o.op.operands → a.eval x = a'.eval x := fun x hm => eval_congr fun t ht => hx t (ht ▸ hm)
  by_cases hc : ∃ f args ts, o.op = .call { callee := .value f, args := args, argTypes := ts }
  · obtain ⟨f, args, ts, hop⟩ := hc
    rw [ef_call hop] at k ⊢
    rw [hop] at he
    have hf : a.eval f = a'.eval f := he f (by simp [Op.operands, Call.operands])
    have ha : args.toList.map a.eval = args.toList.map a'.eval := List.map_congr_left fun x hm => he x (by simp [Op.operands, Call.operands]; right; simpa using hm)
    rw [hf, ha] at k
    exact k
  · have hne : ∀ f args ts, o.op ≠ .call { callee := .value f, args := args, argTypes := ts } := fun f args ts h => hc ⟨f, args, ts, h⟩
    rw [ef_other hne] at k ⊢
    rw [pstep_congr (P := P) (h := h) o.op he] at k
    exact k

theorem qf_ef {o : Oper} {a : PA} {v : PV} {h : List PObj} : qf P B o a v h ↔ ef P B o a v h h := Iff.rfl

/-- doing it -/
theorem pop_ef {m : Nat} {o : Oper} {a : PA} {v : PV} {h h' : List PObj} {K : PA → List PObj → Prop} {Q : PPost} (hd : ∀ d, o.dst = some d → d < a.N) (k : ef P B o a v h h') (hk : K (a.put o.dst v) h') : POp P B m o K Q a h := by
  unfold ef at k
  split at k
  · rename_i f args ts hop
    split at k
    · rename_i g first caps hf
      refine pop_call hop hd hf (k.mono fun r h2 ⟨hr, hh⟩ => ?_)
      subst hr; subst hh; exact hk
    · exact k.elim
  · split at k
    · rename_i c u h2 hp
      obtain ⟨hc, rfl, rfl⟩ := k
      exact pop_step (pstep_sound hp hc) hd hk
    · exact k.elim

/-- what is known of all operations of a row: the frames and the objects in the order of the text -/
structure Cert (P : Program) (B : Array Obj) (l : List Oper) (effs : List Nat) (S : Nat → PA) (H : Nat → List PObj) (v : Nat → PV) : Prop where
  step : ∀ (i : Nat) (o : Oper), l[i]? = some o → S (i + 1) = (S i).put o.dst (v i)
  dst : ∀ (i : Nat) (o : Oper) (d : Nat), l[i]? = some o → o.dst = some d → d < (S 0).N
  guard : ∀ (i : Nat) (o : Oper) (j : Nat) (want : Bool) (d : Nat), l[i]? = some o → o.guard = some (j, want) → (l[j]?).bind (·.dst) = some d → (∃ b, (S i).t d = .d (.bool b) ∧ (b ≠ want → v i = .d (.tup []))) ∨ (∃ l, (S i).t d = .d (.tup l) ∧ v i = .d (.tup []))
  quiet : ∀ (i : Nat) (o : Oper), l[i]? = some o → i ∉ effs → (∀ (j : Nat) (want : Bool) (d : Nat), o.guard = some (j, want) → (l[j]?).bind (·.dst) = some d → (S i).t d = .d (.bool want)) →
    ∀ k, k ≤ effs.length → (∀ (m e : Nat), effs[m]? = some e → aftB o e = true → m < k) → (∀ (m e : Nat) (oe : Oper), effs[m]? = some e → l[e]? = some oe → aftB oe i = true → k ≤ m) → qf P B o (S i) (v i) (H k)
  eff : ∀ (m e : Nat) (o : Oper), effs[m]? = some e → l[e]? = some o → o.guard = none ∧ ef P B o (S e) (v e) (H m) (H (m + 1))

end
end Go.Proofs.YtgpbkphiipjjoaaGreatDoor.Pv

namespace Go.Proofs.YtgpbkphiipjjoaaGreatDoor.Pv
open Go
section
variable {P : Program} {B : Array Obj}

/-- a frame in which just the listed operations have been done -/
def FP (l : List Oper) (v : Nat → PV) (a : PA) (done : Nat → Prop) (fr : PA) : Prop :=
  (∀ (j : Nat) (o : Oper) (t : Nat), l[j]? = some o → done j → o.dst = some t → fr.t t = v j) ∧
  (∀ t : Nat, (∀ (j : Nat) (o : Oper), l[j]? = some o → done j → o.dst ≠ some t) → fr.t t = a.t t) ∧ fr.N = a.N ∧ fr.ds = a.ds

structure DrawOk (l : List Oper) (effs : List Nat) : Prop where
  back : ∀ (i : Nat) (o : Oper), l[i]? = some o → ∀ e, e ∈ o.after → Region.binds .any e = true → e.on < i
  guard : ∀ (i : Nat) (o : Oper) (j : Nat) (want : Bool), l[i]? = some o → o.guard = some (j, want) → aftB o j = true ∧ ∃ d, (l[j]?).bind (·.dst) = some d
  reads : ∀ (i j : Nat) (o o' : Oper) (t : Nat), l[i]? = some o → l[j]? = some o' → o'.dst = some t → i ≠ j → (t ∈ readsOf l o → aftB o j = true ∨ aftB o' i = true) ∧ o.dst ≠ some t
  lt : ∀ e, e ∈ effs → e < l.length
  chain : ∀ (m e e' : Nat) (o : Oper), effs[m]? = some e → effs[m + 1]? = some e' → l[e']? = some o → aftB o e = true

theorem drawOk_spec {l : List Oper} {effs : List Nat} (h : drawOk l effs = true) : DrawOk l effs := by
  simp only [drawOk, Bool.and_eq_true, List.all_eq_true] at h
  obtain ⟨⟨h1, h2⟩, h3⟩ := h
  have at_ : ∀ (i : Nat) (o : Oper), l[i]? = some o → (o, i) ∈ l.zipIdx := fun i o ho => by
    rw [List.mem_zipIdx_iff_getElem?]; exact ho
  refine ⟨fun i o ho e he hb => ?_, fun i o j want ho hg => ?_, fun i j o o' t ho ho' ht hij => ?_, fun e he => by simpa using h2 e he, fun m e e' o he he' ho => ?_⟩
  · have := (h1 _ (at_ i o ho)).1.1 e (by simpa using he)
    simp [hb] at this; exact this
  · have := (h1 _ (at_ i o ho)).1.2
    simp only [hg] at this
    simp only [Bool.and_eq_true] at this
    exact ⟨this.1, Option.isSome_iff_exists.1 this.2⟩
  · have := (h1 _ (at_ i o ho)).2 _ (at_ j o' ho')
    simp only [ht] at this
    simp only [Bool.or_eq_true, Bool.and_eq_true, beq_iff_eq, hij, false_or, Bool.not_eq_true', bne_iff_ne, ne_eq] at this
    refine ⟨fun hm => ?_, this.2⟩
    rcases this.1 with (q | q) | q
    · have hc : (readsOf l o).contains t = true := by simpa using hm
      rw [hc] at q; cases q
    · exact .inl q
    · exact .inr q
  · have hz : (e, e') ∈ effs.zip effs.tail := by
      rw [List.mem_iff_getElem?]
      refine ⟨m, ?_⟩
      rw [List.getElem?_zip_eq_some]
      exact ⟨he, by rw [List.getElem?_tail]; exact he'⟩
    have := h3 _ hz
    simp only [ho, Bool.and_eq_true] at this
    exact this.2

theorem cert_frames {l : List Oper} {effs : List Nat} {S : Nat → PA} {H : Nat → List PObj} {v : Nat → PV} (C : Cert P B l effs S H v) (D : DrawOk l effs) : ∀ i, i ≤ l.length → FP l v (S 0) (fun j => j < i) (S i)
  | 0, _ => ⟨fun j o t _ h => absurd h (by omega), fun t _ => rfl, rfl, rfl⟩
  | i + 1, hi => by
    obtain ⟨f1, f2, f3, f4⟩ := cert_frames C D i (by omega)
    obtain ⟨o, ho⟩ : ∃ o, l[i]? = some o := ⟨l[i], List.getElem?_eq_getElem (by omega)⟩
    have hs := C.step i o ho
    refine ⟨fun j o' t ho' hj ht => ?_, fun t hno => ?_, by rw [hs, put_N]; exact f3, by rw [hs, put_ds]; exact f4⟩
    · rw [hs]
      by_cases hji : j = i
      · subst hji
        rw [ho] at ho'; injection ho' with ho'; subst ho'
        rw [ht, put_t, if_pos rfl]
      · have hne := (D.reads i j o o' t ho ho' ht (fun e => hji e.symm)).2
        have hprev := f1 j o' t ho' (by omega) ht
        cases hd : o.dst with
        | none => rw [put_none]; exact hprev
        | some d => rw [put_t, if_neg (fun e => hne (by rw [hd, e]))]; exact hprev
    · rw [hs]
      have hprev := f2 t (fun j o' ho' hj => hno j o' ho' (by omega))
      cases hd : o.dst with
      | none => rw [put_none]; exact hprev
      | some d => rw [put_t, if_neg (fun e => hno i o ho (by omega) (by rw [hd, e]))]; exact hprev

theorem mem_reads {l : List Oper} {o : Oper} {t : Nat} (h : Operand.tmp t ∈ o.op.operands) : t ∈ readsOf l o := by
  unfold readsOf
  exact List.mem_append_left _ (List.mem_filterMap.2 ⟨.tmp t, by simpa using h, rfl⟩)

theorem aftB_spec {o : Oper} {j : Nat} (h : aftB o j = true) : ∃ e, e ∈ o.after ∧ Region.binds .any e = true ∧ e.on = j := by
  unfold aftB at h
  simp only [List.any_eq_true, Bool.and_eq_true, beq_iff_eq] at h
  obtain ⟨e, he, hb, hj⟩ := h
  exact ⟨e, by simpa using he, hb, hj⟩

theorem cnt_set {n : Nat} {listed : Array Bool} {i : Nat} (hs : listed.size = n) (hi : i < n) (h : listed.getD i true = false) :
    ((List.range n).filter fun j => !(listed.setIfInBounds i true).getD j true).length < ((List.range n).filter fun j => !listed.getD j true).length := by
  have sub : ∀ (L : List Nat), ((L.filter fun j => !(listed.setIfInBounds i true).getD j true).length ≤ (L.filter fun j => !listed.getD j true).length) ∧
      (i ∈ L → (L.filter fun j => !(listed.setIfInBounds i true).getD j true).length < (L.filter fun j => !listed.getD j true).length) := by
    intro L
    induction L with
    | nil => exact ⟨Nat.le_refl _, fun h => by simp at h⟩
    | cons x L ih =>
      by_cases hx : x = i
      · subst hx
        have e1 : (listed.setIfInBounds x true).getD x true = true := by simp [Array.getD_eq_getD_getElem?, hs, hi]
        simp only [List.filter_cons, e1, h, Bool.not_true, Bool.not_false, if_true, Bool.false_eq_true, if_false, List.length_cons]
        exact ⟨by omega, fun _ => by omega⟩
      · have e1 : (listed.setIfInBounds i true).getD x true = listed.getD x true := getD_set_ne true (fun e => hx e.symm)
        simp only [List.filter_cons, e1]
        cases listed.getD x true
        · simp only [Bool.not_false, if_true, List.length_cons]
          exact ⟨by omega, fun hm => by
            have := ih.2 ((List.mem_cons.1 hm).resolve_left (fun e => hx e.symm)); omega⟩
        · simp only [Bool.not_true, Bool.false_eq_true, if_false]
          exact ⟨ih.1, fun hm => ih.2 ((List.mem_cons.1 hm).resolve_left (fun e => hx e.symm))⟩
  exact (sub (List.range n)).2 (List.mem_range.2 hi)

theorem cert_any {l : List Oper} {effs : List Nat} {S : Nat → PA} {H : Nat → List PObj} {v : Nat → PV} (C : Cert P B l effs S H v) (D : DrawOk l effs) (hnd : ∀ (m m' e : Nat), effs[m]? = some e → effs[m']? = some e → m = m')
    {m : Nat} {Q : PPost} {e0 : Env} {w0 : World} (hQ : Q .normal (S l.length) (H effs.length)) (hmn : m ≤ e0.n) :
    ∀ (fuel : Nat) (listed : Array Bool) (k : Nat) (fr : PA) (act : Act) (w : World) (e : Env), listed.size = l.length → ((List.range l.length).filter fun j => !listed.getD j true).length ≤ fuel →
      (∀ (i : Nat) (o : Oper), l[i]? = some o → listed.getD i false = true → ∀ ed, ed ∈ o.after → Region.binds .any ed = true → listed.getD ed.on false = true) →
      k ≤ effs.length → (∀ (q ei : Nat), effs[q]? = some ei → (listed.getD ei false = true ↔ q < k)) →
      FP l v (S 0) (fun j => listed.getD j false = true) fr → Sim B e (H k) w → RA w e fr act → Ext m e0 w0 e w →
      wpAny P .any l.toArray (lift B m Q e0 w0) fuel listed act w := by
  intro fuel
  have all_of_none : ∀ (listed : Array Bool), listed.size = l.length → Region.ready .any l.toArray listed = [] → ∀ i, i < l.length → listed.getD i false = true := by
    intro listed hs hr i
    induction i using Nat.strongRecOn with
    | _ i ih =>
      intro hi
      cases hl : listed.getD i false with
      | true => rfl
      | false =>
        have hmem : i ∈ Region.ready .any l.toArray listed := by
          rw [mem_ready]
          refine ⟨?_, l[i], by simp [hi], fun ed he hb => ?_⟩
          · rw [Array.getD_eq_getD_getElem?, Array.getElem?_eq_getElem (by omega)] at hl ⊢; exact hl
          · have := D.back i l[i] (by simp [hi]) ed he hb
            exact ih _ this (by omega)
        rw [hr] at hmem; simp at hmem
  have fin : ∀ (listed : Array Bool) (k : Nat) (fr : PA) (act : Act) (w : World) (e : Env), listed.size = l.length → (∀ i, i < l.length → listed.getD i false = true) → k ≤ effs.length →
      (∀ (q ei : Nat), effs[q]? = some ei → (listed.getD ei false = true ↔ q < k)) → FP l v (S 0) (fun j => listed.getD j false = true) fr → Sim B e (H k) w → RA w e fr act → Ext m e0 w0 e w → lift B m Q e0 w0 .normal act w := by
    intro listed k fr act w e hs hall hk hcount hf s ra hx
    have hk' : k = effs.length := by
      rcases Nat.lt_or_ge k effs.length with h | h
      · have hg : effs[k]? = some effs[k] := List.getElem?_eq_getElem h
        have := (hcount k _ hg).1 (hall _ (D.lt _ (List.getElem_mem h)))
        omega
      · omega
    subst hk'
    have hfr : fr = S l.length := by
      obtain ⟨f1, f2, f3, f4⟩ := hf
      obtain ⟨g1, g2, g3, g4⟩ := cert_frames C D l.length (Nat.le_refl _)
      have ht : ∀ t, fr.t t = (S l.length).t t := fun t => by
        by_cases hex : ∃ (j : Nat) (o : Oper), l[j]? = some o ∧ o.dst = some t
        · obtain ⟨j, o, ho, hd⟩ := hex
          have hj : j < l.length := (List.getElem?_eq_some_iff.1 ho).1
          rw [f1 j o t ho (hall j hj) hd, g1 j o t ho hj hd]
        · have hno : ∀ (j : Nat) (o : Oper), l[j]? = some o → o.dst ≠ some t := fun j o ho hd => hex ⟨j, o, ho, hd⟩
          rw [f2 t (fun j o ho _ => hno j o ho), g2 t (fun j o ho _ => hno j o ho)]
      obtain ⟨t1, N1, d1⟩ := fr
      generalize S l.length = sn at *
      obtain ⟨t2, N2, d2⟩ := sn
      simp only at f3 f4 g3 g4 ht
      have : t1 = t2 := funext ht
      subst this
      rw [PA.mk.injEq]; exact ⟨rfl, f3.trans g3.symm, f4.trans g4.symm⟩
    subst hfr
    exact ⟨.normal, e, _, _, hQ, trivial, s, ra, hx⟩
  induction fuel with
  | zero =>
    intro listed k fr act w e hs hc hclosed hk hcount hf s ra hx
    have hall : ∀ i, i < l.length → listed.getD i false = true := fun i hi => by
      have hnil : ((List.range l.length).filter fun j => !listed.getD j true) = [] := List.eq_nil_of_length_eq_zero (by omega)
      have := List.filter_eq_nil_iff.1 hnil i (List.mem_range.2 hi)
      rw [Array.getD_eq_getD_getElem?, Array.getElem?_eq_getElem (by omega)] at this ⊢
      simpa using this
    refine ⟨?_, fin listed k fr act w e hs hall hk hcount hf s ra hx⟩
    cases hr : Region.ready .any l.toArray listed with
    | nil => rfl
    | cons i r =>
      have hmem : i ∈ Region.ready .any l.toArray listed := by rw [hr]; simp
      rw [mem_ready] at hmem
      obtain ⟨h0, o, ho, _⟩ := hmem
      have hi : i < l.length := by
        have := (Array.getElem?_eq_some_iff.1 ho).1; simpa using this
      have := hall i hi
      rw [Array.getD_eq_getD_getElem?, Array.getElem?_eq_getElem (by omega)] at this h0
      rw [Option.getD_some] at this h0; rw [this] at h0; cases h0
  | succ fuel ih =>
    intro listed k fr act w e hs hc hclosed hk hcount hf s ra hx
    refine ⟨fun hr => fin listed k fr act w e hs (all_of_none listed hs hr) hk hcount hf s ra hx, fun i hi => ?_⟩
    rw [mem_ready] at hi
    obtain ⟨h0, o, ho, hready⟩ := hi
    have ho' : l[i]? = some o := by simpa using ho
    have hilt : i < l.length := (List.getElem?_eq_some_iff.1 ho').1
    have hunl : listed.getD i false = false := by
      rw [Array.getD_eq_getD_getElem?, Array.getElem?_eq_getElem (by omega)] at h0 ⊢; exact h0
    obtain ⟨g1, g2, g3, g4⟩ := cert_frames C D i (by omega)
    obtain ⟨f1, f2, f3, f4⟩ := hf
    -- what the operation reads is what it reads in the order of the text
    have agree : ∀ t, t ∈ readsOf l o → fr.t t = (S i).t t := by
      intro t ht
      by_cases hex : ∃ (j : Nat) (oj : Oper), l[j]? = some oj ∧ oj.dst = some t ∧ j ≠ i
      · obtain ⟨j, oj, hoj, hdj, hji⟩ := hex
        have only : ∀ (j' : Nat) (o'' : Oper), l[j']? = some o'' → o''.dst = some t → j' = j := fun j' o'' h1 h2 => by
          by_cases hjj : j' = j
          · exact hjj
          · exact absurd h2 (D.reads j' j o'' oj t h1 hoj hdj hjj).2
        rcases (D.reads i j o oj t ho' hoj hdj (fun e => hji e.symm)).1 ht with q | q
        · obtain ⟨ed, he, hb, rfl⟩ := aftB_spec q
          have hl := hready ed he hb
          have hlt := D.back i o ho' ed he hb
          rw [f1 _ oj t hoj hl hdj, g1 _ oj t hoj hlt hdj]
        · obtain ⟨ed, he, hb, hon⟩ := aftB_spec q
          have hlt := D.back j oj hoj ed he hb
          have hnl : ¬ listed.getD j false = true := fun hl => by
            have := hclosed j oj hoj hl ed he hb
            rw [hon, hunl] at this; cases this
          rw [f2 t (fun j' o'' h1 h2 h3 => hnl (only j' o'' h1 h3 ▸ h2)), g2 t (fun j' o'' h1 h2 h3 => by have := only j' o'' h1 h3; omega)]
      · have hno : ∀ (j' : Nat) (o'' : Oper), l[j']? = some o'' → o''.dst = some t → j' = i := fun j' o'' h1 h2 => by
          by_cases hjj : j' = i
          · exact hjj
          · exact (hex ⟨j', o'', h1, h2, hjj⟩).elim
        rw [f2 t (fun j' o'' h1 h2 h3 => by have := hno j' o'' h1 h3; rw [this] at h2; exact Bool.noConfusion (hunl.symm.trans h2)), g2 t (fun j' o'' h1 h2 h3 => by have := hno j' o'' h1 h3; omega)]
    have agreeO : ∀ t, Operand.tmp t ∈ o.op.operands → (S i).t t = fr.t t := fun t ht => (agree t (mem_reads ht)).symm
    have hdst : ∀ d, o.dst = some d → d < fr.N := fun d hd => by rw [f3]; exact C.dst i o d ho' hd
    -- behind it
    have next : ∀ (k' : Nat) (e' : Env) (w' : World) (act' : Act), k' ≤ effs.length → (∀ (q ei : Nat), effs[q]? = some ei → ((listed.setIfInBounds i true).getD ei false = true ↔ q < k')) →
        Sim B e' (H k') w' → RA w' e' (fr.put o.dst (v i)) act' → Ext m e0 w0 e' w' → wpAny P .any l.toArray (lift B m Q e0 w0) fuel (listed.setIfInBounds i true) act' w' := by
      intro k' e' w' act' hk' hcount' s' ra' hx'
      have set_iff : ∀ j, (listed.setIfInBounds i true).getD j false = true ↔ j = i ∨ listed.getD j false = true := fun j => by
        by_cases hji : j = i
        · subst hji
          simp [Array.getD_eq_getD_getElem?, hs, hilt]
        · rw [getD_set_ne false (fun e => hji e.symm)]
          exact ⟨.inr, fun h => h.resolve_left hji⟩
      refine ih _ k' _ act' w' e' (by simp [hs]) (by have := cnt_set hs hilt h0; omega) (fun j oj hoj hlj ed he hb => ?_) hk' hcount' ⟨fun j oj t hoj hlj htj => ?_, fun t hno => ?_, by rw [put_N]; exact f3, by rw [put_ds]; exact f4⟩ s' ra' hx'
      · rw [set_iff] at hlj ⊢
        rcases hlj with rfl | hlj
        · rw [ho'] at hoj; injection hoj with hoj; subst hoj
          exact .inr (hready ed he hb)
        · exact .inr (hclosed j oj hoj hlj ed he hb)
      · have hlj' := (set_iff j).1 hlj
        by_cases hji : j = i
        · subst hji
          rw [ho'] at hoj; injection hoj with hoj; subst hoj
          rw [htj, put_t, if_pos rfl]
        · have hne := (D.reads i j o oj t ho' hoj htj (fun e => hji e.symm)).2
          have hprev := f1 j oj t hoj (hlj'.resolve_left hji) htj
          cases hd : o.dst with
          | none => rw [put_none]; exact hprev
          | some d => rw [put_t, if_neg (fun e => hne (by rw [hd, e]))]; exact hprev
      · have hprev := f2 t (fun j oj hoj hlj => hno j oj hoj ((set_iff j).2 (.inr hlj)))
        cases hd : o.dst with
        | none => rw [put_none]; exact hprev
        | some d => rw [put_t, if_neg (fun e => hno i o ho' ((set_iff i).2 (.inl rfl)) (by rw [hd, e]))]; exact hprev
    have hmk : m ≤ (H k).length := by rw [← s.n]; exact hx.n
    have quietCount : i ∉ effs → ∀ (q ei : Nat), effs[q]? = some ei → ((listed.setIfInBounds i true).getD ei false = true ↔ q < k) := fun hni q ei hq => by
      have : ei ≠ i := fun e => hni (e ▸ List.mem_of_getElem? hq)
      rw [getD_set_ne false (fun e => this e.symm)]; exact hcount q ei hq
    -- to do it
    have run : ∀ (k' : Nat), k' ≤ effs.length → (∀ (q ei : Nat), effs[q]? = some ei → ((listed.setIfInBounds i true).getD ei false = true ↔ q < k')) → ef P B o (S i) (v i) (H k) (H k') →
        o.wp P act w (wpAny P .any l.toArray (lift B m Q e0 w0) fuel (listed.setIfInBounds i true)) (lift B m Q e0 w0) := by
      intro k' hk' hcount' hef
      have hp := pop_ef (m := m) (K := fun a' h' => a' = fr.put o.dst (v i) ∧ h' = H k') (Q := Q) hdst (ef_congr agreeO hef) ⟨rfl, rfl⟩
      refine upon_mono (fun act' w' n => ?_) (fun ex act' w' q => lift_trans hx q) (hp hmk e w act s ra)
      obtain ⟨e', a', h', ⟨rfl, rfl⟩, s', ra', hx'⟩ := n
      exact next k' e' w' act' hk' hcount' s' ra' (hx.trans hx' (Nat.le_refl _))
    unfold wpOp
    rw [ho]
    simp only
    by_cases hie : i ∈ effs
    · obtain ⟨q, hq⟩ := List.mem_iff_getElem?.1 hie
      obtain ⟨hg, hef⟩ := C.eff q i o hq ho'
      have hqk : k = q := by
        have h1 : ¬ q < k := fun h => by have := (hcount q i hq).2 h; rw [hunl] at this; cases this
        cases q with
        | zero => omega
        | succ q =>
          have hlt : q + 1 < effs.length := (List.getElem?_eq_some_iff.1 hq).1
          have hprev : effs[q]? = some effs[q] := List.getElem?_eq_getElem (by omega)
          obtain ⟨ed, he, hb, hon⟩ := aftB_spec (D.chain q _ i o hprev hq ho')
          have := hready ed he hb
          rw [hon] at this
          have := (hcount q _ hprev).1 this
          omega
      subst hqk
      rw [if_pos (by simp [Region.wanted, hg])]
      refine .inl (run (k + 1) (by have := (List.getElem?_eq_some_iff.1 hq).1; omega) (fun q' ei hq' => ?_) hef)
      by_cases hei : ei = i
      · subst hei
        have := hnd _ _ _ hq hq'
        subst this
        simp [Array.getD_eq_getD_getElem?, hs, hilt]
      · rw [getD_set_ne false (fun e => hei e.symm), hcount q' ei hq']
        constructor
        · intro h; omega
        · intro h
          rcases Nat.lt_or_ge q' k with h' | h'
          · exact h'
          · have : q' = k := by omega
            subst this
            rw [hq] at hq'; injection hq' with hq'; exact (hei hq'.symm).elim
    · have hquiet : (∀ (j : Nat) (want : Bool) (d : Nat), o.guard = some (j, want) → (l[j]?).bind (·.dst) = some d → (S i).t d = .d (.bool want)) → ef P B o (S i) (v i) (H k) (H k) := fun hgd =>
        C.quiet i o ho' hie hgd k hk (fun q ei hq ha => by
          obtain ⟨ed, he, hb, hon⟩ := aftB_spec ha
          have := hready ed he hb
          rw [hon] at this
          exact (hcount q ei hq).1 this) (fun q ei oe hq hoe ha => by
          obtain ⟨ed, he, hb, hon⟩ := aftB_spec ha
          rcases Nat.lt_or_ge q k with h | h
          · have hl := (hcount q ei hq).2 h
            have := hclosed ei oe hoe hl ed he hb
            rw [hon, hunl] at this; cases this
          · exact h)
      cases hg : o.guard with
      | none =>
        rw [if_pos (by simp [Region.wanted, hg])]
        exact .inl (run k hk (quietCount hie) (hquiet (fun j want d hj => by rw [hg] at hj; cases hj)))
      | some jw =>
        obtain ⟨j, want⟩ := jw
        obtain ⟨haj, d, hd⟩ := D.guard i o j want ho' hg
        have hrd : d ∈ readsOf l o := by
          unfold readsOf
          refine List.mem_append_right _ ?_
          simp [hg, hd]
        rcases C.guard i o j want d ho' hg hd with ⟨b, hb, hbj⟩ | ⟨lt, hb, hvj⟩
        · have hfb : fr.t d = .d (.bool b) := by rw [agree d hrd]; exact hb
          have hy := yielded_of (ops := l.toArray) ra (j := j) (by simpa using hd) hfb
          by_cases hw : b = want
          · subst hw
            rw [if_pos (by simp [Region.wanted, hg, hy])]
            exact .inl (run k hk (quietCount hie) (hquiet (fun j' want' d' hj hd' => by
              rw [hg] at hj; injection hj with hj; injection hj with h1 h2; subst h1; subst h2
              rw [hd] at hd'; injection hd' with hd'; subst hd'; exact hb)))
          · rw [if_neg (by simp [Region.wanted, hg, hy, hw])]
            have hvj := hbj hw
            refine next k e w _ hk (quietCount hie) s ?_ hx
            rw [hvj]
            exact ra.put _ hdst (rv_undef _ _)
        · have hfb : fr.t d = .d (.tup lt) := by rw [agree d hrd]; exact hb
          have hy := yielded_tup (ops := l.toArray) ra (j := j) (by simpa using hd) hfb
          rw [if_neg (by simp [Region.wanted, hg, hy])]
          refine next k e w _ hk (quietCount hie) s ?_ hx
          rw [hvj]
          exact ra.put _ hdst (rv_undef _ _)

theorem pwp_cert {l : List Oper} {effs : List Nat} {S : Nat → PA} {H : Nat → List PObj} {v : Nat → PV} (C : Cert P B l effs S H v) (D : DrawOk l effs) (hnd : ∀ (m m' e : Nat), effs[m]? = some e → effs[m']? = some e → m = m')
    {m : Nat} {Q : PPost} {id : Nat} (hmix : P.follows .mixedOrders = true) (hQ : Q .normal (S l.length) (H effs.length)) : PWp P B m (.region id l.toArray true) Q (S 0) (H 0) := by
  intro hm e w act s ra
  refine wp_region_any hmix ?_
  obtain ⟨s1, x1⟩ := sim_drew s
  have hmn : m ≤ e.n := by rw [s.n]; exact hm
  have hz : ∀ j, (Array.replicate l.length false).getD j false = false := fun j => by
    simp only [Array.getD_eq_getD_getElem?, Array.getElem?_replicate]; split <;> rfl
  have := cert_any C D hnd (m := m) (Q := Q) (e0 := e) (w0 := w) hQ hmn l.length (Array.replicate l.length false) 0 (S 0) act w.drew e (by simp) (by
      refine Nat.le_trans (List.length_filter_le _ _) (by simp)) (fun i o _ h => by rw [hz] at h; cases h) (Nat.zero_le _) (fun q ei _ => by rw [hz]; simp)
      ⟨fun j o t _ h => Bool.noConfusion ((hz j).symm.trans h), fun t _ => rfl, rfl, rfl⟩ s1 (ra.ext x1) (x1.weaken hmn)
  simpa using this

end
end Go.Proofs.YtgpbkphiipjjoaaGreatDoor.Pv
end


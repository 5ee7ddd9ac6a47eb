/- What is to be shown of a row of operations whose order is open. -/
import Derived.Test.YtgpbkphiipjjoaaGreatDoorMb3


section
namespace Go.Proofs.YtgpbkphiipjjoaaGreatDoor.Pv
open Go

/-- what an operation is to the row: one that reads nothing that turns, one that reads (and holds so many effects back and on), one that turns something -/
inductive Pl where
  | q
  | r (back fwd : Nat)
  | e

def Pl.isE : Pl → Bool
  | .e => true
  | _ => false

def pureOp : Op → Bool
  | .move _ => true
  | .assign _ => true
  | .pick _ _ _ => true
  | .binOp _ _ _ _ _ => true
  | .unOp _ _ _ => true
  | .fieldAddr _ _ _ => true
  | .field _ _ _ => true
  | .index _ _ _ => true
  | .slice _ _ _ _ _ => true
  | .extract _ _ => true
  | .makeFunc _ _ _ => true
  | .makeInterface _ _ => true
  | .build _ _ => true
  | .buildSlice _ _ _ => true
  | .nilCheck _ => true
  | .call { callee := .builtin .min, args := _, argTypes := _ } => true
  | .call { callee := .builtin .max, args := _, argTypes := _ } => true
  | _ => false

def valCall : Op → Bool
  | .call { callee := .value _, args := _, argTypes := _ } => true
  | _ => false

def effsFrom : Nat → List Pl → List Nat
  | _, [] => []
  | i, .e :: r => i :: effsFrom (i + 1) r
  | i, _ :: r => effsFrom (i + 1) r

def kOf (pls : List Pl) (j : Nat) : Nat := (pls.take j).countP Pl.isE

def planOk (l : List Oper) (pls : List Pl) : Bool :=
  pls.length == l.length && (l.zipIdx.all fun (o, i) => match pls.getD i .e with
    | .q => pureOp o.op || valCall o.op
    | .r back fwd => (decide (kOf pls i ≤ back) || (match (effsFrom 0 pls)[kOf pls i - back - 1]? with | some e => aftB o e | none => false)) &&
        (decide ((effsFrom 0 pls).length ≤ kOf pls i + fwd) || (match (effsFrom 0 pls)[kOf pls i + fwd]? with | some e => (match l[e]? with | some oe => aftB oe i | none => false) | none => false))
    | .e => o.guard.isNone)

def pendOk : List (Nat × (List PObj → Prop)) → List PObj → Prop
  | [], _ => True
  | (0, _) :: r, h => pendOk r h
  | (_ + 1, p) :: r, h => p h ∧ pendOk r h
def pendNext : List (Nat × (List PObj → Prop)) → List (Nat × (List PObj → Prop))
  | [] => []
  | (0, _) :: r => pendNext r
  | (n + 1, p) :: r => (n, p) :: pendNext r
def pastOk : Nat → List (List PObj) → (List PObj → Prop) → Prop
  | 0, _, _ => True
  | _ + 1, [], _ => True
  | n + 1, h :: r, p => p h ∧ pastOk n r p

/-- the same reading at other objects -/
def qs (P : Program) (ρ : Operand → PV) (op : Op) (u : PV) (h : List PObj) : Prop :=
  match pstep P ρ h op with
  | some (c, u', h') => c ∧ u' = u ∧ h' = h
  | none => False

/-- a call that reads what may turn, and turns nothing -/
def rc (P : Program) (B : Array Obj) (g : FuncId) (args : List PV) (u : PV) (h : List PObj) : Prop := PCalls P B g args h fun r h' => r = .ret u ∧ h' = h

/-- one operation of an open row -/
def vd1 (P : Program) (B : Array Obj) (o : Oper) (a : PA) (h : List PObj) (past : List (List PObj)) (pend : List (Nat × (List PObj → Prop)))
    (next : PA → List PObj → List (List PObj) → List (Nat × (List PObj → Prop)) → Prop) : Pl → Prop
  | .q => dstOk o a.N ∧ match o.op with
    | .call { callee := .value f, args := args, argTypes := _ } => match fnOf (a.eval f) with
      | some (g, first, caps) => ∃ v : D, PRet P B g (first ++ args.toList.map a.eval ++ caps) v ∧ next (a.put o.dst (.d v)) h past pend
      | none => False
    | op => match pstep P a.eval h op with
      | some (c, u, _) => c ∧ next (a.put o.dst u) h past pend
      | none => False
  | .r back fwd => dstOk o a.N ∧ match o.op with
    | .call { callee := .value f, args := args, argTypes := _ } => match fnOf (a.eval f) with
      | some (g, first, caps) => ∃ u : PV, rc P B g (first ++ args.toList.map a.eval ++ caps) u h ∧ pastOk back past (rc P B g (first ++ args.toList.map a.eval ++ caps) u) ∧
          next (a.put o.dst u) h past ((fwd, rc P B g (first ++ args.toList.map a.eval ++ caps) u) :: pend)
      | none => False
    | op => match pstep P a.eval h op with
      | some (c, u, h') => c ∧ h' = h ∧ pastOk back past (qs P a.eval op u) ∧ next (a.put o.dst u) h past ((fwd, qs P a.eval op u) :: pend)
      | none => False
  | .e => dstOk o a.N ∧ match o.op with
    | .call { callee := .value f, args := args, argTypes := _ } => match fnOf (a.eval f) with
      | some (g, first, caps) => ∃ (v : PV) (h' : List PObj), PCalls P B g (first ++ args.toList.map a.eval ++ caps) h (fun r h2 => r = .ret v ∧ h2 = h') ∧ pendOk pend h' ∧ next (a.put o.dst v) h' (h :: past) (pendNext pend)
      | none => False
    | op => match pstep P a.eval h op with
      | some (c, u, h') => c ∧ pendOk pend h' ∧ next (a.put o.dst u) h' (h :: past) (pendNext pend)
      | none => False

def vcD (P : Program) (B : Array Obj) (ops : Array Oper) (Q : PPost) : List Pl → List Oper → PA → List PObj → List (List PObj) → List (Nat × (List PObj → Prop)) → Prop
  | _, [], a, h, _, _ => Q .normal a h
  | [], _ :: _, _, _, _, _ => False
  | pl :: pls, o :: r, a, h, past, pend =>
    vcG ops o a (fun a => vd1 P B o a h past pend (fun a' h' past' pend' => vcD P B ops Q pls r a' h' past' pend') pl) (fun a => dstOk o a.N ∧ vcD P B ops Q pls r (a.put o.dst (.d (.tup []))) h past pend)

section
variable {P : Program} {B : Array Obj}

theorem pure_step {op : Op} (hp : pureOp op = true) {ρ : Operand → PV} {h : List PObj} {c : Prop} {u : PV} {h' : List PObj} (k : pstep P ρ h op = some (c, u, h')) :
    h' = h ∧ ∀ h2, pstep P ρ h2 op = some (c, u, h2) := by
  cases op <;> simp only [pureOp, Bool.false_eq_true] at hp
  case call cc =>
    obtain ⟨callee, args, ts⟩ := cc
    cases callee with
    | builtin b =>
      cases b <;> simp only [pureOp, Bool.false_eq_true] at hp <;> simp only [pstep] at k ⊢ <;>
      · generalize args.toList = al at k ⊢
        generalize ts.toList = tl at k ⊢
        unfold pbuiltin at k ⊢
        split at k
        all_goals (try (rename_i hb; cases hb))
        all_goals first
          | (split at k
             · rename_i v hv
               simp only [Option.some.injEq, Prod.mk.injEq] at k; obtain ⟨rfl, rfl, rfl⟩ := k
               exact ⟨rfl, fun h2 => by simp only [hv]⟩
             · cases k)
          | cases k
    | _ => simp [pureOp] at hp
  case move x => simp only [pstep, Option.some.injEq, Prod.mk.injEq] at k ⊢; obtain ⟨rfl, rfl, rfl⟩ := k; simp
  case assign x => simp only [pstep, Option.some.injEq, Prod.mk.injEq] at k ⊢; obtain ⟨rfl, rfl, rfl⟩ := k; simp
  case makeFunc f x y => simp only [pstep, Option.some.injEq, Prod.mk.injEq] at k ⊢; obtain ⟨rfl, rfl, rfl⟩ := k; simp
  case unOp o t x =>
    cases o <;> simp only [pstep] at k ⊢ <;> first
      | cases k
      | (split at k
         · rename_i b hb
           simp only [Option.some.injEq, Prod.mk.injEq] at k; obtain ⟨rfl, rfl, rfl⟩ := k
           exact ⟨rfl, fun h2 => rfl⟩
         · cases k)
  all_goals
    simp only [pstep] at k ⊢
    repeat' (split at k)
    all_goals first
      | (simp only [Option.some.injEq, Prod.mk.injEq] at k
         obtain ⟨rfl, rfl, rfl⟩ := k
         exact ⟨rfl, fun h2 => by simp_all⟩)
      | cases k

end
end Go.Proofs.YtgpbkphiipjjoaaGreatDoor.Pv
end

/- The rule for a row of operations whose order is open. -/
section
namespace Go.Proofs.YtgpbkphiipjjoaaGreatDoor.Pv
open Go

theorem kOf_zero (pls : List Pl) : kOf pls 0 = 0 := rfl
theorem kOf_succ {pls : List Pl} {i : Nat} {pl : Pl} (h : pls[i]? = some pl) : kOf pls (i + 1) = kOf pls i + (if pl.isE then 1 else 0) := by
  unfold kOf
  rw [List.take_add_one, h, List.countP_append]
  congr 1
  simp [List.countP_cons]
theorem kOf_cons (pl : Pl) (pls : List Pl) (j : Nat) : kOf (pl :: pls) (j + 1) = (if pl.isE then 1 else 0) + kOf pls j := by
  unfold kOf
  rw [List.take_succ_cons, List.countP_cons]; omega
theorem effs_get : ∀ (pls : List Pl) (s m e : Nat), (effsFrom s pls)[m]? = some e → ∃ j, e = s + j ∧ pls[j]? = some .e ∧ kOf pls j = m
  | [], s, m, e, h => by simp [effsFrom] at h
  | .e :: r, s, 0, e, h => by
    simp [effsFrom] at h
    exact ⟨0, by omega, rfl, rfl⟩
  | .e :: r, s, m + 1, e, h => by
    simp only [effsFrom, List.getElem?_cons_succ] at h
    obtain ⟨j, h1, h2, h3⟩ := effs_get r (s + 1) m e h
    exact ⟨j + 1, by omega, h2, by rw [kOf_cons, h3]; simp [Pl.isE]; omega⟩
  | .q :: r, s, m, e, h => by
    simp only [effsFrom] at h
    obtain ⟨j, h1, h2, h3⟩ := effs_get r (s + 1) m e h
    exact ⟨j + 1, by omega, h2, by rw [kOf_cons, h3]; simp [Pl.isE]⟩
  | .r _ _ :: r, s, m, e, h => by
    simp only [effsFrom] at h
    obtain ⟨j, h1, h2, h3⟩ := effs_get r (s + 1) m e h
    exact ⟨j + 1, by omega, h2, by rw [kOf_cons, h3]; simp [Pl.isE]⟩
theorem effs_at : ∀ (pls : List Pl) (s j : Nat), pls[j]? = some .e → (effsFrom s pls)[kOf pls j]? = some (s + j)
  | [], s, j, h => by simp at h
  | pl :: r, s, 0, h => by
    simp at h; subst h; simp [effsFrom, kOf_zero]
  | pl :: r, s, j + 1, h => by
    simp only [List.getElem?_cons_succ] at h
    have := effs_at r (s + 1) j h
    rw [kOf_cons]
    cases pl with
    | e => simp only [Pl.isE, if_true, effsFrom]; rw [Nat.add_comm 1, List.getElem?_cons_succ, this]; congr 1; omega
    | q => simp only [Pl.isE, Bool.false_eq_true, if_false, effsFrom, Nat.zero_add, this]; congr 1; omega
    | r _ _ => simp only [Pl.isE, Bool.false_eq_true, if_false, effsFrom, Nat.zero_add, this]; congr 1; omega
theorem effs_len : ∀ (pls : List Pl) (s : Nat), (effsFrom s pls).length = kOf pls pls.length
  | [], s => rfl
  | .e :: r, s => by simp only [effsFrom, List.length_cons, kOf_cons, effs_len r]; simp [Pl.isE]; omega
  | .q :: r, s => by simp only [effsFrom, List.length_cons, kOf_cons, effs_len r]; simp [Pl.isE]
  | .r _ _ :: r, s => by simp only [effsFrom, List.length_cons, kOf_cons, effs_len r]; simp [Pl.isE]
theorem kOf_le (pls : List Pl) (j : Nat) : kOf pls j ≤ kOf pls pls.length := by
  unfold kOf
  rw [List.take_length]
  exact (List.take_sublist j pls).countP_le

section
variable {P : Program} {B : Array Obj}

structure Suf (P : Program) (B : Array Obj) (l : List Oper) (pls : List Pl) (i k N : Nat) (S : Nat → PA) (H : Nat → List PObj) (v : Nat → PV) (pend : List (Nat × (List PObj → Prop))) : Prop where
  step : ∀ (j : Nat) (o : Oper), i ≤ j → l[j]? = some o → S (j + 1) = (S j).put o.dst (v j)
  dst : ∀ (j : Nat) (o : Oper) (d : Nat), i ≤ j → l[j]? = some o → o.dst = some d → d < N
  guard : ∀ (j : Nat) (o : Oper) (jj : Nat) (want : Bool) (d : Nat), i ≤ j → l[j]? = some o → o.guard = some (jj, want) → (l[jj]?).bind (·.dst) = some d → (∃ b, (S j).t d = .d (.bool b) ∧ (b ≠ want → v j = .d (.tup []))) ∨ (∃ lt, (S j).t d = .d (.tup lt) ∧ v j = .d (.tup []))
  quiet : ∀ (j : Nat) (o : Oper) (pl : Pl), i ≤ j → l[j]? = some o → pls[j]? = some pl → pl.isE = false → (∀ (jj : Nat) (want : Bool) (d : Nat), o.guard = some (jj, want) → (l[jj]?).bind (·.dst) = some d → (S j).t d = .d (.bool want)) →
    ∀ m, m ≤ (effsFrom 0 pls).length → (∀ back fwd, pl = .r back fwd → kOf pls j ≤ m + back ∧ m ≤ kOf pls j + fwd) → qf P B o (S j) (v j) (H m)
  eff : ∀ (j : Nat) (o : Oper), i ≤ j → l[j]? = some o → pls[j]? = some .e → o.guard = none ∧ ef P B o (S j) (v j) (H (kOf pls j)) (H (kOf pls j + 1))
  pend : ∀ (n : Nat) (p : List PObj → Prop), (n, p) ∈ pend → ∀ m, k < m → m ≤ k + n → m ≤ (effsFrom 0 pls).length → p (H m)

theorem suf_cons {l : List Oper} {pls : List Pl} {i k k' N : Nat} {S : Nat → PA} {H : Nat → List PObj} {v : Nat → PV} {pend pend' : List (Nat × (List PObj → Prop))} {a : PA} {o : Oper} {pl : Pl} {u : PV}
    (s : Suf P B l pls (i + 1) k' N S H v pend') (hS : S (i + 1) = a.put o.dst u) (ho : l[i]? = some o) (hpl : pls[i]? = some pl)
    (hd : ∀ d, o.dst = some d → d < N)
    (hg : ∀ (jj : Nat) (want : Bool) (d : Nat), o.guard = some (jj, want) → (l[jj]?).bind (·.dst) = some d → (∃ b, a.t d = .d (.bool b) ∧ (b ≠ want → u = .d (.tup []))) ∨ (∃ lt, a.t d = .d (.tup lt) ∧ u = .d (.tup [])))
    (hq : pl.isE = false → (∀ (jj : Nat) (want : Bool) (d : Nat), o.guard = some (jj, want) → (l[jj]?).bind (·.dst) = some d → a.t d = .d (.bool want)) →
      ∀ m, m ≤ (effsFrom 0 pls).length → (∀ back fwd, pl = .r back fwd → kOf pls i ≤ m + back ∧ m ≤ kOf pls i + fwd) → qf P B o a u (H m))
    (he : pl = .e → o.guard = none ∧ ef P B o a u (H (kOf pls i)) (H (kOf pls i + 1)))
    (hp : ∀ (n : Nat) (p : List PObj → Prop), (n, p) ∈ pend → ∀ m, k < m → m ≤ k + n → m ≤ (effsFrom 0 pls).length → p (H m)) :
    Suf P B l pls i k N (fun j => if j = i then a else S j) H (fun j => if j = i then u else v j) pend := by
  have split : ∀ j, i ≤ j → j = i ∨ (i + 1 ≤ j ∧ j ≠ i) := fun j h => by omega
  refine ⟨fun j o' hj ho' => ?_, fun j o' d hj ho' hd' => ?_, fun j o' jj want d hj ho' hg' hb => ?_, fun j o' pl' hj ho' hpl' hne hgd m hm hw => ?_, fun j o' hj ho' hpl' => ?_, hp⟩
  · rcases split j hj with rfl | ⟨h1, h2⟩
    · rw [ho] at ho'; injection ho' with ho'; subst ho'
      rw [if_neg (by omega), if_pos rfl, if_pos rfl]; exact hS
    · rw [if_neg (by omega), if_neg h2, if_neg h2]; exact s.step j o' h1 ho'
  · rcases split j hj with rfl | ⟨h1, h2⟩
    · rw [ho] at ho'; injection ho' with ho'; subst ho'; exact hd d hd'
    · exact s.dst j o' d h1 ho' hd'
  · rcases split j hj with rfl | ⟨h1, h2⟩
    · rw [ho] at ho'; injection ho' with ho'; subst ho'
      rw [if_pos rfl, if_pos rfl]; exact hg jj want d hg' hb
    · rw [if_neg h2, if_neg h2]; exact s.guard j o' jj want d h1 ho' hg' hb
  · rcases split j hj with rfl | ⟨h1, h2⟩
    · rw [ho] at ho'; injection ho' with ho'; subst ho'
      rw [hpl] at hpl'; injection hpl' with hpl'; subst hpl'
      simp only [if_true] at hgd ⊢
      exact hq hne hgd m hm hw
    · simp only [if_neg h2] at hgd ⊢
      exact s.quiet j o' pl' h1 ho' hpl' hne hgd m hm hw
  · rcases split j hj with rfl | ⟨h1, h2⟩
    · rw [ho] at ho'; injection ho' with ho'; subst ho'
      rw [hpl] at hpl'; injection hpl' with hpl'
      simp only [if_true]
      exact he hpl'
    · simp only [if_neg h2]
      exact s.eff j o' h1 ho' hpl'

theorem pendNext_mem : ∀ {pend : List (Nat × (List PObj → Prop))} {n : Nat} {p : List PObj → Prop}, (n + 1, p) ∈ pend → (n, p) ∈ pendNext pend
  | (0, q) :: r, n, p, h => by
    rcases List.mem_cons.1 h with h | h
    · injection h with h1 h2; omega
    · exact pendNext_mem (pend := r) h
  | (m + 1, q) :: r, n, p, h => by
    rcases List.mem_cons.1 h with h | h
    · injection h with h1 h2; injection h1 with h1; subst h1; subst h2; exact List.mem_cons_self
    · exact List.mem_cons_of_mem _ (pendNext_mem (pend := r) h)
theorem pendOk_mem : ∀ {pend : List (Nat × (List PObj → Prop))} {n : Nat} {p : List PObj → Prop} {h : List PObj}, pendOk pend h → (n + 1, p) ∈ pend → p h
  | (0, q) :: r, n, p, h, k, hm => by
    rcases List.mem_cons.1 hm with hm | hm
    · injection hm with h1 h2; omega
    · exact pendOk_mem (pend := r) k hm
  | (m + 1, q) :: r, n, p, h, k, hm => by
    rcases List.mem_cons.1 hm with hm | hm
    · injection hm with h1 h2; subst h2; exact k.1
    · exact pendOk_mem (pend := r) k.2 hm
theorem pastOk_get : ∀ {n : Nat} {past : List (List PObj)} {p : List PObj → Prop}, pastOk n past p → ∀ i, i < n → i < past.length → p (past.getD i [])
  | 0, _, _, _, i, h, _ => absurd h (by omega)
  | n + 1, [], _, _, i, _, h => absurd h (by simp)
  | n + 1, x :: r, p, k, 0, _, _ => k.1
  | n + 1, x :: r, p, k, i + 1, h1, h2 => pastOk_get (past := r) k.2 i (by omega) (by simpa using h2)

theorem not_val {op : Op} (h : valCall op = false) : ∀ f args ts, op ≠ .call { callee := .value f, args := args, argTypes := ts } := by
  intro f args ts e; rw [e] at h; simp [valCall] at h

theorem qs_qf {o : Oper} {a : PA} {u : PV} {h : List PObj} (hv : valCall o.op = false) (k : qs P a.eval o.op u h) : qf P B o a u h := by
  rw [qf_ef, ef_other (not_val hv)]; exact k

theorem vcD_suf {l : List Oper} {pls : List Pl} {Q : PPost} (hlen : pls.length = l.length)
    (hop : ∀ (i : Nat) (o : Oper) (pl : Pl), l[i]? = some o → pls[i]? = some pl → match pl with | .q => (pureOp o.op || valCall o.op) = true | .r _ _ => True | .e => o.guard = none) :
    ∀ (r : List Oper) (ps : List Pl) (i : Nat) (a : PA) (h : List PObj) (past : List (List PObj)) (pend : List (Nat × (List PObj → Prop))), i ≤ l.length → l.drop i = r → pls.drop i = ps → kOf pls i = past.length →
      vcD P B l.toArray Q ps r a h past pend →
      ∃ (S : Nat → PA) (H : Nat → List PObj) (v : Nat → PV), S i = a ∧ H past.length = h ∧ (∀ m, m < past.length → H m = past.getD (past.length - 1 - m) []) ∧ Suf P B l pls i past.length a.N S H v pend ∧ Q .normal (S l.length) (H (effsFrom 0 pls).length)
  | [], ps, i, a, h, past, pend, hi, hl, hps, hk, k => by
    have hil : i = l.length := by
      have := congrArg List.length hl
      simp only [List.length_drop, List.length_nil] at this; omega
    have hE : (effsFrom 0 pls).length = past.length := by rw [effs_len, hlen, ← hil, hk]
    have ge : ∀ (j : Nat) (o : Oper), i ≤ j → l[j]? = some o → False := fun j o hj ho => by
      have := (List.getElem?_eq_some_iff.1 ho).1; omega
    refine ⟨fun _ => a, fun m => if m < past.length then past.getD (past.length - 1 - m) [] else h, fun _ => .junk, rfl, by simp, fun m hm => by simp [hm], ?_, by rw [hE]; simpa [vcD] using k⟩
    exact ⟨fun j o hj ho => (ge j o hj ho).elim, fun j o d hj ho => (ge j o hj ho).elim, fun j o jj want d hj ho => (ge j o hj ho).elim, fun j o pl hj ho => (ge j o hj ho).elim, fun j o hj ho => (ge j o hj ho).elim,
      fun n p _ m h1 _ h3 => by omega⟩
  | o :: r, ps, i, a, h, past, pend, hi, hl, hps, hk, k => by
    have ho : l[i]? = some o := by
      have := congrArg (fun l => l[0]?) hl
      simpa using this
    have hl' : l.drop (i + 1) = r := by
      have := congrArg List.tail hl
      simpa [List.tail_drop] using this
    have hilt : i < l.length := (List.getElem?_eq_some_iff.1 ho).1
    have hi' : i + 1 ≤ l.length := hilt
    cases ps with
    | nil => simp [vcD] at k
    | cons pl ps =>
      have hpl : pls[i]? = some pl := by
        have := congrArg (fun l => l[0]?) hps
        simpa using this
      have hps' : pls.drop (i + 1) = ps := by
        have := congrArg List.tail hps
        simpa [List.tail_drop] using this
      have hk' := kOf_succ hpl
      have hop' := hop i o pl ho hpl
      have kle : kOf pls i ≤ (effsFrom 0 pls).length := by rw [effs_len]; exact kOf_le _ _
      -- run it
      have run : (∀ (jj : Nat) (want : Bool) (d : Nat), o.guard = some (jj, want) → (l[jj]?).bind (·.dst) = some d → ∃ b, a.t d = .d (.bool b) ∧ b = want) →
          vd1 P B o a h past pend (fun a' h' past' pend' => vcD P B l.toArray Q ps r a' h' past' pend') pl →
          ∃ (S : Nat → PA) (H : Nat → List PObj) (v : Nat → PV), S i = a ∧ H past.length = h ∧ (∀ m, m < past.length → H m = past.getD (past.length - 1 - m) []) ∧ Suf P B l pls i past.length a.N S H v pend ∧ Q .normal (S l.length) (H (effsFrom 0 pls).length) := by
        intro hgd k
        have hg : ∀ (u : PV) (jj : Nat) (want : Bool) (d : Nat), o.guard = some (jj, want) → (l[jj]?).bind (·.dst) = some d → (∃ b, a.t d = .d (.bool b) ∧ (b ≠ want → u = .d (.tup []))) ∨ (∃ lt, a.t d = .d (.tup lt) ∧ u = .d (.tup [])) := fun u jj want d h1 h2 => by
          obtain ⟨b, hb, hw⟩ := hgd jj want d h1 h2; exact .inl ⟨b, hb, fun h => absurd hw h⟩
        have fin : ∀ (u : PV) (past' : List (List PObj)) (h' : List PObj) (pend' : List (Nat × (List PObj → Prop))), kOf pls (i + 1) = past'.length → (∀ d, o.dst = some d → d < a.N) →
            vcD P B l.toArray Q ps r (a.put o.dst u) h' past' pend' →
            (∀ H : Nat → List PObj, H past'.length = h' → (∀ m, m < past'.length → H m = past'.getD (past'.length - 1 - m) []) → (H past.length = h ∧ (∀ m, m < past.length → H m = past.getD (past.length - 1 - m) [])) ∧
              (∀ (pendH : ∀ (n : Nat) (p : List PObj → Prop), (n, p) ∈ pend' → ∀ m, past'.length < m → m ≤ past'.length + n → m ≤ (effsFrom 0 pls).length → p (H m)),
              (pl.isE = false → ∀ m, m ≤ (effsFrom 0 pls).length → (∀ back fwd, pl = .r back fwd → kOf pls i ≤ m + back ∧ m ≤ kOf pls i + fwd) → qf P B o a u (H m)) ∧
              (pl = .e → o.guard = none ∧ ef P B o a u (H (kOf pls i)) (H (kOf pls i + 1))) ∧
              (∀ (n : Nat) (p : List PObj → Prop), (n, p) ∈ pend → ∀ m, past.length < m → m ≤ past.length + n → m ≤ (effsFrom 0 pls).length → p (H m)))) →
            ∃ (S : Nat → PA) (H : Nat → List PObj) (v : Nat → PV), S i = a ∧ H past.length = h ∧ (∀ m, m < past.length → H m = past.getD (past.length - 1 - m) []) ∧ Suf P B l pls i past.length a.N S H v pend ∧ Q .normal (S l.length) (H (effsFrom 0 pls).length) := by
          intro u past' h' pend' hk2 hd k2 hH
          obtain ⟨S, H, v, s1, s2, s3, s4, s5⟩ := vcD_suf hlen hop r ps (i + 1) (a.put o.dst u) h' past' pend' hi' hl' hps' hk2 k2
          obtain ⟨⟨t1, t2⟩, t3⟩ := hH H s2 s3
          obtain ⟨t3, t4, t5⟩ := t3 s4.pend
          rw [put_N] at s4
          refine ⟨_, H, _, ?_, t1, t2, suf_cons s4 s1 ho hpl hd (hg u) (fun hq _ => t3 hq) t4 t5, ?_⟩
          · simp
          · simp only [if_neg (show ¬ l.length = i by omega)]; exact s5
        cases pl with
        | q =>
          obtain ⟨hd, k⟩ := k
          have hk2 : kOf pls (i + 1) = past.length := by rw [hk', hk]; rfl
          split at k
          · rename_i f args ts hopf
            split at k
            · rename_i g first caps hf
              obtain ⟨v, hv, k⟩ := k
              refine fin (.d v) past h pend hk2 (dstOk_spec hd) k (fun H h1 h2 => ⟨⟨h1, h2⟩, fun pendH => ⟨fun _ m _ _ => ?_, (fun h => by cases h), pendH⟩⟩)
              rw [qf_ef, ef_call hopf, hf]
              exact (hv (H m)).mono fun r h' ⟨x, y⟩ => ⟨x, y⟩
            · exact k.elim
          · rename_i hne
            have hv : valCall o.op = false := by
              cases ho' : valCall o.op with
              | false => rfl
              | true =>
                unfold valCall at ho'
                split at ho'
                · rename_i f args ts he; exact (hne _ _ _ he).elim
                · cases ho'
            have hpure : pureOp o.op = true := by simpa [hv] using hop'
            split at k
            · rename_i c u h' hp
              obtain ⟨hc, k⟩ := k
              refine fin u past h pend hk2 (dstOk_spec hd) k (fun H h1 h2 => ⟨⟨h1, h2⟩, fun pendH => ⟨fun _ m _ _ => ?_, (fun h => by cases h), pendH⟩⟩)
              have := (pure_step hpure hp).2 (H m)
              refine qs_qf hv ?_
              unfold qs; rw [this]; exact ⟨hc, rfl, rfl⟩
            · exact k.elim
        | r back fwd =>
          obtain ⟨hd, k⟩ := k
          have hk2 : kOf pls (i + 1) = past.length := by rw [hk', hk]; rfl
          have common : ∀ (u : PV) (p : List PObj → Prop), (∀ h2, p h2 → qf P B o a u h2) → p h → pastOk back past p → vcD P B l.toArray Q ps r (a.put o.dst u) h past ((fwd, p) :: pend) →
              ∃ (S : Nat → PA) (H : Nat → List PObj) (v : Nat → PV), S i = a ∧ H past.length = h ∧ (∀ m, m < past.length → H m = past.getD (past.length - 1 - m) []) ∧ Suf P B l pls i past.length a.N S H v pend ∧ Q .normal (S l.length) (H (effsFrom 0 pls).length) := by
            intro u p hpq hph hpast k
            refine fin u past h _ hk2 (dstOk_spec hd) k (fun H h1 h2 => ⟨⟨h1, h2⟩, fun pendH => ⟨fun _ m hm hw => ?_, (fun h => by cases h), fun n p hnp => pendH n p (List.mem_cons_of_mem _ hnp)⟩⟩)
            obtain ⟨w1, w2⟩ := hw back fwd rfl
            refine hpq _ ?_
            rcases Nat.lt_trichotomy m past.length with hlt | heq | hgt
            · rw [h2 m hlt]
              exact pastOk_get hpast _ (by omega) (by omega)
            · subst heq; rw [h1]; exact hph
            · exact pendH fwd _ List.mem_cons_self m hgt (by omega) hm
          split at k
          · rename_i f args ts hopf
            split at k
            · rename_i g first caps hf
              obtain ⟨u, hc, hpast, k⟩ := k
              refine common u _ (fun h2 hh => ?_) hc hpast k
              rw [qf_ef, ef_call hopf, hf]; exact hh
            · exact k.elim
          · rename_i hne
            have hv : valCall o.op = false := by
              cases ho' : valCall o.op with
              | false => rfl
              | true =>
                unfold valCall at ho'
                split at ho'
                · rename_i f args ts he; exact (hne _ _ _ he).elim
                · cases ho'
            split at k
            · rename_i c u h' hp
              obtain ⟨hc, hh, hpast, k⟩ := k
              refine common u _ (fun h2 hq => qs_qf hv hq) ?_ hpast k
              unfold qs; rw [hp]; exact ⟨hc, rfl, hh⟩
            · exact k.elim
        | e =>
          obtain ⟨hd, k⟩ := k
          have hk2 : ∀ h : List PObj, kOf pls (i + 1) = (h :: past).length := fun h => by rw [hk', hk]; rfl
          have common : ∀ (u : PV) (h' : List PObj), ef P B o a u h h' → pendOk pend h' → vcD P B l.toArray Q ps r (a.put o.dst u) h' (h :: past) (pendNext pend) →
              ∃ (S : Nat → PA) (H : Nat → List PObj) (v : Nat → PV), S i = a ∧ H past.length = h ∧ (∀ m, m < past.length → H m = past.getD (past.length - 1 - m) []) ∧ Suf P B l pls i past.length a.N S H v pend ∧ Q .normal (S l.length) (H (effsFrom 0 pls).length) := by
            intro u h' hef hpk k
            refine fin u (h :: past) h' (pendNext pend) (hk2 h) (dstOk_spec hd) k (fun H h1 h2 => ?_)
            have e1 : H past.length = h := by
              have := h2 past.length (by simp); simpa using this
            have e2 : H (past.length + 1) = h' := by simpa using h1
            refine ⟨⟨e1, fun m hm => ?_⟩, fun pendH => ⟨(fun h => by cases h), fun _ => ⟨hop', ?_⟩, fun n p hnp m h1 h2 h3 => ?_⟩⟩
            · have := h2 m (by simp; omega)
              rw [this]
              simp only [List.length_cons]
              have : past.length + 1 - 1 - m = (past.length - 1 - m) + 1 := by omega
              rw [this, List.getD_cons_succ]
            · rw [hk, e1, e2]; exact hef
            · cases n with
              | zero => omega
              | succ n =>
                by_cases hm : m = past.length + 1
                · subst hm; rw [e2]; exact pendOk_mem hpk hnp
                · exact pendH n p (pendNext_mem hnp) m (by simp; omega) (by simp; omega) h3
          split at k
          · rename_i f args ts hopf
            split at k
            · rename_i g first caps hf
              obtain ⟨v, h', hc, hpk, k⟩ := k
              refine common v h' ?_ hpk k
              rw [ef_call hopf, hf]; exact hc
            · exact k.elim
          · rename_i hne
            split at k
            · rename_i c u h' hp
              obtain ⟨hc, hpk, k⟩ := k
              refine common u h' ?_ hpk k
              rw [ef_other (fun f args ts e => hne _ _ _ e), hp]; exact ⟨hc, rfl, rfl⟩
            · exact k.elim
      -- leave it out
      have skip : ∀ {j : Nat} {want : Bool} {dd : Nat}, o.guard = some (j, want) → (l[j]?).bind (·.dst) = some dd → dstOk o a.N → vcD P B l.toArray Q ps r (a.put o.dst (.d (.tup []))) h past pend →
          (∀ d, (l[j]?).bind (·.dst) = some d → (∃ b, a.t d = .d (.bool b) ∧ (b ≠ want → (.d (.tup []) : PV) = .d (.tup []))) ∨ (∃ lt, a.t d = .d (.tup lt) ∧ (.d (.tup []) : PV) = .d (.tup []))) →
          (∀ d, (l[j]?).bind (·.dst) = some d → a.t d = .d (.bool want) → False) →
          ∃ (S : Nat → PA) (H : Nat → List PObj) (v : Nat → PV), S i = a ∧ H past.length = h ∧ (∀ m, m < past.length → H m = past.getD (past.length - 1 - m) []) ∧ Suf P B l pls i past.length a.N S H v pend ∧ Q .normal (S l.length) (H (effsFrom 0 pls).length) := by
        intro j want dd hg hdd hdst k2 hgu hno
        have hpe : pl.isE = false := by
          cases pl with
          | e => rw [show o.guard = none from hop'] at hg; cases hg
          | _ => rfl
        have hk2 : kOf pls (i + 1) = past.length := by rw [hk', hk, hpe]; rfl
        obtain ⟨S, H, v, s1, s2, s3, s4, s5⟩ := vcD_suf hlen hop r ps (i + 1) (a.put o.dst (.d (.tup []))) h past pend hi' hl' hps' hk2 k2
        rw [put_N] at s4
        refine ⟨_, H, _, by simp, s2, s3, suf_cons s4 s1 ho hpl (dstOk_spec hdst) (fun jj w d' h1 h2 => ?_) (fun _ hgd => ?_) (fun h => by rw [h] at hpe; cases hpe) s4.pend, ?_⟩
        · rw [hg] at h1; injection h1 with h1; injection h1 with h1 h3; subst h1; subst h3
          exact hgu d' h2
        · exact (hno dd hdd (hgd j want dd hg hdd)).elim
        · simp only [if_neg (show ¬ l.length = i by omega)]; exact s5
      unfold vcD vcG at k
      split at k
      · rename_i hg
        exact run (fun jj want d h => by rw [hg] at h; cases h) k
      · rename_i j want hg
        split at k
        · rename_i d hd
          split at k
          · rename_i b hb
            have hd' : (l[j]?).bind (·.dst) = some d := by simpa using hd
            by_cases hw : b = want
            · have k1 := k.1 hw
              rw [put_same (by rw [hb, hw])] at k1
              refine run (fun jj w d' h1 h2 => ?_) k1
              rw [hg] at h1; injection h1 with h1; injection h1 with h1 h3; subst h1; subst h3
              rw [hd'] at h2; injection h2 with h2; subst h2
              exact ⟨b, hb, hw⟩
            · have hb' : b = (!want) := by cases b <;> cases want <;> simp_all
              have k2 := k.2 hb'
              rw [put_same (by rw [hb, hb'])] at k2
              obtain ⟨hdst, k2⟩ := k2
              refine skip hg hd' hdst k2 (fun d' h2 => ?_) (fun d' h2 hw' => ?_)
              · rw [hd'] at h2; injection h2 with h2; subst h2
                exact .inl ⟨b, hb, fun _ => rfl⟩
              · rw [hd'] at h2; injection h2 with h2; subst h2
                rw [hb] at hw'; injection hw' with hw'; injection hw' with hw'; exact absurd hw' hw
          · rename_i lt hb
            have hd' : (l[j]?).bind (·.dst) = some d := by simpa using hd
            obtain ⟨hdst, k2⟩ := k
            refine skip hg hd' hdst k2 (fun d' h2 => ?_) (fun d' h2 hw' => ?_)
            · rw [hd'] at h2; injection h2 with h2; subst h2
              exact .inr ⟨lt, hb, rfl⟩
            · rw [hd'] at h2; injection h2 with h2; subst h2
              rw [hb] at hw'; injection hw' with hw'; cases hw'
          · exact k.elim
        · exact k.elim

/-- A ROW OF OPERATIONS WHOSE ORDER IS OPEN -/
theorem pwp_drawn {m id : Nat} {l : List Oper} {Q : PPost} {a : PA} {h : List PObj} (pls : List Pl) (hmix : P.follows .mixedOrders = true) (hok : (planOk l pls && drawOk l (effsFrom 0 pls)) = true)
    (k : vcD P B l.toArray Q pls l a h [] []) : PWp P B m (.region id l.toArray true) Q a h := by
  simp only [Bool.and_eq_true] at hok
  obtain ⟨h1, h2⟩ := hok
  simp only [planOk, Bool.and_eq_true, beq_iff_eq, List.all_eq_true] at h1
  obtain ⟨hlen, hplan⟩ := h1
  have D := drawOk_spec h2
  have plan_at : ∀ (i : Nat) (o : Oper) (pl : Pl), l[i]? = some o → pls[i]? = some pl → match pl with
      | .q => (pureOp o.op || valCall o.op) = true
      | .r back fwd => (kOf pls i ≤ back ∨ ∃ e, (effsFrom 0 pls)[kOf pls i - back - 1]? = some e ∧ aftB o e = true) ∧ ((effsFrom 0 pls).length ≤ kOf pls i + fwd ∨ ∃ e oe, (effsFrom 0 pls)[kOf pls i + fwd]? = some e ∧ l[e]? = some oe ∧ aftB oe i = true)
      | .e => o.guard = none := by
    intro i o pl ho hpl
    have := hplan (o, i) (by rw [List.mem_zipIdx_iff_getElem?]; exact ho)
    simp only [List.getD_eq_getElem?_getD, hpl, Option.getD_some] at this
    cases pl with
    | q => exact this
    | r back fwd =>
      simp only [Bool.and_eq_true, Bool.or_eq_true, decide_eq_true_eq] at this
      obtain ⟨t2, t3⟩ := this
      refine ⟨t2.imp (fun t => t) fun t => ?_, t3.imp (fun t => t) fun t => ?_⟩
      · split at t
        · rename_i e he; exact ⟨e, he, t⟩
        · cases t
      · split at t
        · rename_i e he
          split at t
          · rename_i oe hoe; exact ⟨e, oe, he, hoe, t⟩
          · cases t
        · cases t
    | e => simpa using this
  obtain ⟨S, H, v, s1, s2, s3, s4, s5⟩ := vcD_suf hlen (fun i o pl ho hpl => by
    have := plan_at i o pl ho hpl
    cases pl with
    | q => exact this
    | r back fwd => trivial
    | e => exact this) l pls 0 a h [] [] (Nat.zero_le _) rfl rfl rfl k
  have hpls : ∀ (i : Nat) (o : Oper), l[i]? = some o → ∃ pl, pls[i]? = some pl := fun i o ho => by
    have := (List.getElem?_eq_some_iff.1 ho).1
    exact ⟨pls[i], List.getElem?_eq_getElem (by omega)⟩
  have C : Cert P B l (effsFrom 0 pls) S H v := by
    refine ⟨fun i o ho => s4.step i o (Nat.zero_le _) ho, fun i o d ho hd => by rw [s1]; exact s4.dst i o d (Nat.zero_le _) ho hd, fun i o j want d ho hg hb => s4.guard i o j want d (Nat.zero_le _) ho hg hb,
      fun i o ho hni hgd k hk hlo hhi => ?_, fun m e o he ho => ?_⟩
    · obtain ⟨pl, hpl⟩ := hpls i o ho
      have hne : pl.isE = false := by
        cases pl with
        | e =>
          have := effs_at pls 0 i hpl
          rw [Nat.zero_add] at this
          exact absurd (List.mem_of_getElem? this) hni
        | _ => rfl
      refine s4.quiet i o pl (Nat.zero_le _) ho hpl hne hgd k hk (fun back fwd hr => ?_)
      subst hr
      obtain ⟨q1, q2⟩ := plan_at i o _ ho hpl
      constructor
      · rcases q1 with q1 | ⟨e, he, hb⟩
        · omega
        · have := hlo _ e he hb; omega
      · rcases q2 with q2 | ⟨e, oe, he, hoe, hb⟩
        · omega
        · exact hhi _ e oe he hoe hb
    · obtain ⟨j, h1, h2, h3⟩ := effs_get pls 0 m e he
      rw [Nat.zero_add] at h1; subst h1
      have := s4.eff e o (Nat.zero_le _) ho h2
      rw [h3] at this; exact this
  have hnd : ∀ (m m' e : Nat), (effsFrom 0 pls)[m]? = some e → (effsFrom 0 pls)[m']? = some e → m = m' := fun m m' e h1 h2 => by
    obtain ⟨j, a1, a2, a3⟩ := effs_get pls 0 m e h1
    obtain ⟨j', b1, b2, b3⟩ := effs_get pls 0 m' e h2
    have : j = j' := by omega
    subst this; omega
  have hH : H 0 = h := s2
  rw [← s1, ← hH]
  exact pwp_cert C D hnd hmix s5

end
end Go.Proofs.YtgpbkphiipjjoaaGreatDoor.Pv
end


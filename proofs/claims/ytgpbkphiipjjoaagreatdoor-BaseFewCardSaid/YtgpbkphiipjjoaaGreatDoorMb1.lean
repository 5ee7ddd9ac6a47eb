/- All operations in one function; what is to be shown of a row of operations. -/
import Derived.Test.YtgpbkphiipjjoaaGreatDoorMb
import Derived.Laws.ResultCell


section
namespace Go.Proofs.YtgpbkphiipjjoaaGreatDoor.Pv
open Go

def AllN (n : Nat) (es : List D) : Prop := ∀ i, i < es.length → (es.getD i default).ncells = n

theorem AllN.map {α : Type} {n : Nat} {f : α → D} (hf : ∀ x, (f x).ncells = n) (l : List α) : AllN n (l.map f) := by
  intro i hi
  simp only [List.length_map] at hi
  simp only [List.getD_eq_getElem?_getD, List.getElem?_map, List.getElem?_eq_getElem hi, Option.map_some, Option.getD_some]
  exact hf _
theorem AllN.nil (n : Nat) : AllN n [] := fun i hi => by simp at hi
theorem AllN.cons {n : Nat} {x : D} {l : List D} (hx : x.ncells = n) (h : AllN n l) : AllN n (x :: l) := by
  intro i hi
  cases i with
  | zero => exact hx
  | succ i => exact h i (by simpa using hi)
theorem AllN.append {n : Nat} {l m : List D} (h : AllN n l) (k : AllN n m) : AllN n (l ++ m) := by
  intro i hi
  rw [getD_app]
  split
  · exact h i ‹_›
  · exact k _ (by simp at hi; omega)

/-- min, max of two numbers -/
def pmm (mx : Bool) (x y : PV) : Option PV :=
  match x, y with
  | .d (.int k a), .d (.int k' b) => if k = k' then some (.d (.int k (if mx then max a b else min a b))) else none
  | _, _ => none

def pbuiltin (P : Program) (ρ : Operand → PV) (h : List PObj) (b : Builtin) (args : List Operand) (ts : List TypeId) : Option (Prop × PV × List PObj) :=
  match b, args, ts with
  | .len, [x], [t] => match tyOf P t with
    | some d => match plen d.k (ρ x) h with
      | some v => some (True, v, h)
      | none => none
    | none => none
  | .min, [x, y], [_, _] => match pmm false (ρ x) (ρ y) with
    | some v => some (True, v, h)
    | none => none
  | .max, [x, y], [_, _] => match pmm true (ρ x) (ρ y) with
    | some v => some (True, v, h)
    | none => none
  | .append, [x, y], [t, t'] => if t = t' then (match tyOf P t with
    | some d => match ρ x with
      | .row _ _ => pappendRow P d (ρ x) (ρ y) h
      | _ => match pappendNew P d (ρ x) (ρ y) with
        | some (c, E, sz, es) => if isE2 (ρ x) (ρ y) = true then some (True, ρ x, h) else some (c, .row h.length es.length, h ++ [.row E sz es])
        | none => none
    | none => none) else none
  | _, _, _ => none

def pstep (P : Program) (ρ : Operand → PV) (h : List PObj) : Op → Option (Prop × PV × List PObj)
  | .move x => some (True, ρ x, h)
  | .assign x => some (True, ρ x, h)
  | .pick c x y => match ρ c with
    | .d (.bool b) => some (True, if b then ρ x else ρ y, h)
    | _ => none
  | .alloc t => match tyOf P t with
    | some d => some (True, .ptr h.length 0, h ++ [.cells (d.zero.map .d)])
    | none => none
  | .box _ x => match flat (ρ x) with
    | some cs => some (True, .ptr h.length 0, h ++ [.cells cs])
    | none => none
  | .load t x => match tyOf P t with
    | some d => match pload d (ρ x) h with
      | some (c, v) => some (c, v, h)
      | none => none
    | none => none
  | .store t x y => match tyOf P t with
    | some d => match pstore d (ρ x) (ρ y) h with
      | some (c, h') => some (c, .junk, h')
      | none => none
    | none => none
  | .nilCheck x => match ρ x with
    | .ptr id off => some (True, .ptr id off, h)
    | .d (.ip y) => some (True, .d (.ip y), h)
    | _ => none
  | .binOp op t x y _ => match pbin op (ρ x) (ρ y) with
    | some (c, v) => some (c, v, h)
    | none => match peqOp P op t x y (ρ x) (ρ y) with
      | some v => some (True, v, h)
      | none => none
  | .unOp .not _ x => match ρ x with
    | .d (.bool b) => some (True, .d (.bool (!b)), h)
    | _ => none
  | .convert t t' x => match ρ x with
    | .ptr id off => if convU P t t' = true then (match h[id]? with
      | some (.cells cs) => match cs[off]? with
        | some (.d (.int _ _)) => some (True, .ptr id off, h)
        | _ => none
      | _ => none) else none
    | _ => match tyOf P t, tyOf P t' with
      | some _, some d' => match d'.k, ρ x with
        | .int k', .d (.int _ n) => some (True, .d (.int k' (k'.wrap n)), h)
        | _, _ => none
      | _, _ => none
  | .fieldAddr t x f => match tyOf P t with
    | some d => match pfaddr P d f (ρ x) with
      | some v => some (True, v, h)
      | none => none
    | none => none
  | .field t x f => match tyOf P t with
    | some d => match pfield P d f (ρ x) with
      | some v => some (True, v, h)
      | none => none
    | none => none
  | .indexAddr t x y => match tyOf P t with
    | some d => match ρ x with
      | .row id n => match h[id]? with
        | some (.row _ _ es) => match piaddr P d (ρ x) (ρ y) with
          | some (c, v) => some (n = es.length ∧ c, v, h)
          | none => none
        | _ => none
      | _ => match piaddr P d (ρ x) (ρ y) with
        | some (c, v) => some (c, v, h)
        | none => none
    | none => none
  | .index t x y => match tyOf P t with
    | some d => match pindex P d (ρ x) (ρ y) with
      | some (c, v) => some (c, v, h)
      | none => none
    | none => none
  | .slice t x lo hi mx => match tyOf P t with
    | some d => match pslice d.k (ρ x) (lo.map ρ) (hi.map ρ) (mx.map ρ) with
      | some (c, v) => match d.k, ρ x with
        | .slice et, .d (.sl es _) => match tyOf P et with
          | some de => some (AllN de.size es ∧ c, v, h)
          | none => none
        | .slice _, _ => none
        | _, _ => some (c, v, h)
      | none => none
    | none => none
  | .extract x i => match pextract (ρ x) i with
    | some v => some (True, v, h)
    | none => none
  | .makeFunc f first caps => some (True, mkFn f (first.toList.map ρ) (caps.toList.map ρ), h)
  | .makeInterface t x => match tyOf P t with
    | some d => match d.k with
      | .iface => none
      | _ => some (True, (match ρ x with | .d y => .d (.ifc t y) | y => .ifc t y), h)
    | none => none
  | .build t parts => match tyOf P t with
    | some d => match pbuild d (parts.toList.map fun (p : Nat × Operand) => (p.1, ρ p.2)) with
      | some v => some (True, v, h)
      | none => none
    | none => none
  | .buildSlice t len parts => match tyOf P t with
    | some d => match pbuildSlice P d len (parts.toList.map fun (p : Nat × Operand) => (p.1, ρ p.2)) with
      | some v => some (True, v, h)
      | none => none
    | none => none
  | .makeSlice t x y => match tyOf P t with
    | some d => match pmake P d (ρ x) (ρ y) with
      | some (c, E, sz, es) => some (c, .row h.length es.length, h ++ [.row E sz es])
      | none => none
    | none => none
  | .call { callee := .builtin b, args := args, argTypes := ts } => pbuiltin P ρ h b args.toList ts.toList
  | .makeMap _ none => some (True, .mp h.length, h ++ [.map [] []])
  | .mapUpdate t m k v => match tyOf P t with
    | some d => match pmapUpd P d (ρ m) (ρ k) (ρ v) h with
      | some (c, h') => some (c, .junk, h')
      | none => none
    | none => none
  | .insert t m k v => match tyOf P t with
    | some d => match pmapUpd P d (ρ m) (ρ k) (ρ v) h with
      | some (c, h') => some (c, .junk, h')
      | none => none
    | none => none
  | .lookup t x k co => match tyOf P t with
    | some d => match plookup P d (ρ x) (ρ k) co h with
      | some (c, v) => some (c, v, h)
      | none => none
    | none => none
  | .range t x => match tyOf P t with
    | some d => match prange d (ρ x) h with
      | some po => some (True, .it h.length, h ++ [po])
      | none => none
    | none => none
  | .next x true => match pnextS (ρ x) h with
    | some (v, h') => some (True, v, h')
    | none => none
  | .entry x => match pentry (ρ x) h with
    | some (c, v) => some (c, v, h)
    | none => none
  | _ => none

section
variable {P : Program} {B : Array Obj} {o : Oper} {a : PA} {h : List PObj}

theorem st_mm {x y : Operand} {t u : TypeId} {mx : Bool} {v : PV} (ho : o.op = .call { callee := .builtin (if mx then .max else .min), args := #[x, y], argTypes := #[t, u] }) (hp : pmm mx (a.eval x) (a.eval y) = some v) : PStep P B o a h v h := by
  refine pstep_of fun e w act s ra => ?_
  have hx := ra.eval x
  have hy := ra.eval y
  obtain ⟨cs, hb⟩ := run_builtin (act := act) ho
  generalize hax : act.eval x = ax at hx
  generalize hay : act.eval y = ay at hy
  generalize a.eval x = px at hx hp
  generalize a.eval y = py at hy hp
  unfold pmm at hp
  split at hp
  · rename_i k n k' m
    split at hp
    · rename_i hk
      subst hk
      injection hp with hp; subst hp
      cases rv_d hx with
      | int _ _ => cases rv_d hy with
        | int _ _ =>
          rw [hb]
          cases mx with
          | true =>
            refine ⟨.int k (max n m), ?_, .d _ _ (.int _ _)⟩
            have : (if m > n then m else n) = max n m := by rw [Int.max_def]; split <;> split <;> omega
            simp [builtin, Builtin.max_, Builtin.max2, hax, hay, ← this]
          | false =>
            refine ⟨.int k (min n m), ?_, .d _ _ (.int _ _)⟩
            have : (if m < n then m else n) = min n m := by rw [Int.min_def]; split <;> split <;> omega
            simp [builtin, Builtin.min_, Builtin.min2, hax, hay, ← this]
    · cases hp
  · cases hp

theorem pstep_sound {c : Prop} {v : PV} {h' : List PObj} (hp : pstep P a.eval h o.op = some (c, v, h')) (hc : c) : PStep P B o a h v h' := by
  generalize hop : o.op = op at hp
  unfold pstep at hp
  split at hp
  case h_1 x => simp only [Option.some.injEq, Prod.mk.injEq] at hp; obtain ⟨_, rfl, rfl⟩ := hp; exact st_move (.inl hop)
  case h_2 x => simp only [Option.some.injEq, Prod.mk.injEq] at hp; obtain ⟨_, rfl, rfl⟩ := hp; exact st_move (.inr hop)
  case h_3 c x y =>
    split at hp
    · rename_i b hb
      simp only [Option.some.injEq, Prod.mk.injEq] at hp; obtain ⟨_, rfl, rfl⟩ := hp; exact st_pick hop hb
    · cases hp
  case h_4 t =>
    split at hp
    · rename_i d hd
      simp only [Option.some.injEq, Prod.mk.injEq] at hp; obtain ⟨_, rfl, rfl⟩ := hp; exact st_alloc hop hd
    · cases hp
  case h_5 t x =>
    split at hp
    · rename_i cs hf
      simp only [Option.some.injEq, Prod.mk.injEq] at hp; obtain ⟨_, rfl, rfl⟩ := hp; exact st_box hop hf
    · cases hp
  case h_6 t x =>
    split at hp
    · rename_i d hd
      split at hp
      · rename_i c' v' hl
        simp only [Option.some.injEq, Prod.mk.injEq] at hp; obtain ⟨rfl, rfl, rfl⟩ := hp; exact st_load hop hd hl hc
      · cases hp
    · cases hp
  case h_7 t x y =>
    split at hp
    · rename_i d hd
      split at hp
      · rename_i c' v' hl
        simp only [Option.some.injEq, Prod.mk.injEq] at hp; obtain ⟨rfl, rfl, rfl⟩ := hp; exact st_store hop hd hl hc
      · cases hp
    · cases hp
  case h_8 x =>
    split at hp
    · rename_i id off hx
      simp only [Option.some.injEq, Prod.mk.injEq] at hp; obtain ⟨_, rfl, rfl⟩ := hp; rw [← hx]; exact st_nilCheck hop (.inl ⟨_, _, hx⟩)
    · rename_i y hx
      simp only [Option.some.injEq, Prod.mk.injEq] at hp; obtain ⟨_, rfl, rfl⟩ := hp; rw [← hx]; exact st_nilCheck hop (.inr (.inl ⟨_, hx⟩))
    · cases hp
  case h_9 op t x y t' =>
    split at hp
    · rename_i c' v' hl
      simp only [Option.some.injEq, Prod.mk.injEq] at hp; obtain ⟨rfl, rfl, rfl⟩ := hp; exact st_bin hop hl hc
    · split at hp
      · rename_i v' hl
        simp only [Option.some.injEq, Prod.mk.injEq] at hp; obtain ⟨_, rfl, rfl⟩ := hp; exact st_eq hop hl
      · cases hp
  case h_10 t x =>
    split at hp
    · rename_i b hb
      simp only [Option.some.injEq, Prod.mk.injEq] at hp; obtain ⟨_, rfl, rfl⟩ := hp; exact st_not hop hb
    · cases hp
  case h_11 t t' x =>
    split at hp
    · rename_i id off hx
      split at hp
      · rename_i hu
        obtain ⟨e, u1, u2, u3⟩ := convU_spec hu
        split at hp
        · rename_i cs hh
          split at hp
          · rename_i k n hcs
            simp only [Option.some.injEq, Prod.mk.injEq] at hp; obtain ⟨_, rfl, rfl⟩ := hp
            exact st_unsafe hop u1 u2 u3 hx hh hcs
          · cases hp
        · cases hp
      · cases hp
    · split at hp
      · rename_i d d' hd hd'
        split at hp
        · rename_i k' k n hk hx
          simp only [Option.some.injEq, Prod.mk.injEq] at hp; obtain ⟨_, rfl, rfl⟩ := hp; exact st_convInt hop hd hd' hk hx
        · cases hp
      · cases hp
  case h_12 t x f =>
    split at hp
    · rename_i d hd
      split at hp
      · rename_i v' hl
        simp only [Option.some.injEq, Prod.mk.injEq] at hp; obtain ⟨_, rfl, rfl⟩ := hp; exact st_fieldAddr hop hd hl
      · cases hp
    · cases hp
  case h_13 t x f =>
    split at hp
    · rename_i d hd
      split at hp
      · rename_i v' hl
        simp only [Option.some.injEq, Prod.mk.injEq] at hp; obtain ⟨_, rfl, rfl⟩ := hp; exact st_field hop hd hl
      · cases hp
    · cases hp
  case h_14 t x y =>
    split at hp
    · rename_i d hd
      split at hp
      · rename_i id n hx
        split at hp
        · rename_i E sz es hh
          split at hp
          · rename_i c' v' hl
            simp only [Option.some.injEq, Prod.mk.injEq] at hp; obtain ⟨rfl, rfl, rfl⟩ := hp
            refine st_indexAddr hop hd hl hc.2 (fun id' n' hx' => ?_)
            rw [hx] at hx'; injection hx' with h1 h2; subst h1; subst h2
            exact ⟨E, sz, es, hh, hc.1.symm⟩
          · cases hp
        · cases hp
      · rename_i hne
        split at hp
        · rename_i c' v' hl
          simp only [Option.some.injEq, Prod.mk.injEq] at hp; obtain ⟨rfl, rfl, rfl⟩ := hp
          exact st_indexAddr hop hd hl hc (fun id' n' hx' => (hne id' n' hx').elim)
        · cases hp
    · cases hp
  case h_15 t x y =>
    split at hp
    · rename_i d hd
      split at hp
      · rename_i c' v' hl
        simp only [Option.some.injEq, Prod.mk.injEq] at hp; obtain ⟨rfl, rfl, rfl⟩ := hp; exact st_index hop hd hl hc
      · cases hp
    · cases hp
  case h_16 t x lo hi mx =>
    split at hp
    · rename_i d hd
      split at hp
      · rename_i c' v' hl
        split at hp
        · rename_i et es cl hk hx
          split at hp
          · rename_i de hde
            simp only [Option.some.injEq, Prod.mk.injEq] at hp; obtain ⟨rfl, rfl, rfl⟩ := hp
            refine st_slice hop hd (fun et' es' cl' hk' hx' => ?_) hl hc.2
            rw [hk] at hk'; injection hk' with hk'; subst hk'
            rw [hx] at hx'; injection hx' with hx'; injection hx' with h1 h2; subst h1
            exact ⟨de, hde, hc.1⟩
          · cases hp
        · cases hp
        · rename_i hn1 hn2
          simp only [Option.some.injEq, Prod.mk.injEq] at hp; obtain ⟨rfl, rfl, rfl⟩ := hp
          refine st_slice hop hd (fun et' es' cl' hk' hx' => ?_) hl hc
          first | exact (hn2 _ hk').elim | exact (hn1 _ hk').elim | exact (hn1 _ _ _ hk' hx').elim | exact (hn2 _ _ _ hk' hx').elim
      · cases hp
    · cases hp
  case h_17 x i =>
    split at hp
    · rename_i v' hl
      simp only [Option.some.injEq, Prod.mk.injEq] at hp; obtain ⟨_, rfl, rfl⟩ := hp; exact st_extract hop hl
    · cases hp
  case h_18 f first caps =>
    simp only [Option.some.injEq, Prod.mk.injEq] at hp; obtain ⟨_, rfl, rfl⟩ := hp; exact st_makeFunc hop
  case h_19 t x =>
    split at hp
    · rename_i d hd
      split at hp
      · cases hp
      · rename_i hk
        simp only [Option.some.injEq, Prod.mk.injEq] at hp; obtain ⟨_, rfl, rfl⟩ := hp; exact st_makeInterface hop hd hk
    · cases hp
  case h_20 t parts =>
    split at hp
    · rename_i d hd
      split at hp
      · rename_i v' hl
        simp only [Option.some.injEq, Prod.mk.injEq] at hp; obtain ⟨_, rfl, rfl⟩ := hp; exact st_build hop hd hl
      · cases hp
    · cases hp
  case h_21 t len parts =>
    split at hp
    · rename_i d hd
      split at hp
      · rename_i v' hl
        simp only [Option.some.injEq, Prod.mk.injEq] at hp; obtain ⟨_, rfl, rfl⟩ := hp; exact st_buildSlice hop hd hl
      · cases hp
    · cases hp
  case h_22 t x y =>
    split at hp
    · rename_i d hd
      split at hp
      · rename_i c' E sz es hl
        simp only [Option.some.injEq, Prod.mk.injEq] at hp; obtain ⟨rfl, rfl, rfl⟩ := hp; exact st_make hop hd hl hc
      · cases hp
    · cases hp
  case h_23 b args ts =>
    obtain ⟨args⟩ := args
    obtain ⟨ts⟩ := ts
    change pbuiltin P a.eval h b args ts = some (c, v, h') at hp
    unfold pbuiltin at hp
    split at hp
    · rename_i x t
      split at hp
      · rename_i d hd
        split at hp
        · rename_i v' hl
          simp only [Option.some.injEq, Prod.mk.injEq] at hp; obtain ⟨_, rfl, rfl⟩ := hp; exact st_len hop hd hl
        · cases hp
      · cases hp
    · rename_i x y t u
      split at hp
      · rename_i v' hl
        simp only [Option.some.injEq, Prod.mk.injEq] at hp; obtain ⟨_, rfl, rfl⟩ := hp; exact st_mm (mx := false) hop hl
      · cases hp
    · rename_i x y t u
      split at hp
      · rename_i v' hl
        simp only [Option.some.injEq, Prod.mk.injEq] at hp; obtain ⟨_, rfl, rfl⟩ := hp; exact st_mm (mx := true) hop hl
      · cases hp
    · rename_i x y t u
      split at hp
      · rename_i htt
        subst htt
        split at hp
        · rename_i d hd
          split at hp
          · exact st_appendRow hop hd hp hc
          · split at hp
            · rename_i c' E sz es hl
              split at hp
              · rename_i h2
                simp only [Option.some.injEq, Prod.mk.injEq] at hp; obtain ⟨rfl, rfl, rfl⟩ := hp
                unfold pappendNew at hl
                split at hl
                · rename_i et hk
                  split at hl
                  · rename_i de hde
                    exact st_appendNone hop hd hk hde h2
                  · cases hl
                · cases hl
              · simp only [Option.some.injEq, Prod.mk.injEq] at hp; obtain ⟨rfl, rfl, rfl⟩ := hp; exact st_appendNew hop hd hl hc
            · cases hp
        · cases hp
      · cases hp
    · cases hp
  case h_24 t => simp only [Option.some.injEq, Prod.mk.injEq] at hp; obtain ⟨_, rfl, rfl⟩ := hp; exact st_makeMap hop
  case h_25 t m k x =>
    split at hp
    · rename_i d hd
      split at hp
      · rename_i c' h2 hl
        simp only [Option.some.injEq, Prod.mk.injEq] at hp; obtain ⟨rfl, rfl, rfl⟩ := hp; exact st_mapUpd (.inl hop) hd hl hc
      · cases hp
    · cases hp
  case h_26 t m k x =>
    split at hp
    · rename_i d hd
      split at hp
      · rename_i c' h2 hl
        simp only [Option.some.injEq, Prod.mk.injEq] at hp; obtain ⟨rfl, rfl, rfl⟩ := hp; exact st_mapUpd (.inr hop) hd hl hc
      · cases hp
    · cases hp
  case h_27 t x k co =>
    split at hp
    · rename_i d hd
      split at hp
      · rename_i c' v' hl
        simp only [Option.some.injEq, Prod.mk.injEq] at hp; obtain ⟨rfl, rfl, rfl⟩ := hp; exact st_lookup hop hd hl hc
      · cases hp
    · cases hp
  case h_28 t x =>
    split at hp
    · rename_i d hd
      split at hp
      · rename_i po hl
        simp only [Option.some.injEq, Prod.mk.injEq] at hp; obtain ⟨_, rfl, rfl⟩ := hp; exact st_range hop hd hl
      · cases hp
    · cases hp
  case h_29 x =>
    split at hp
    · rename_i v' h2 hl
      simp only [Option.some.injEq, Prod.mk.injEq] at hp; obtain ⟨_, rfl, rfl⟩ := hp; exact st_nextS hop hl
    · cases hp
  case h_30 x =>
    split at hp
    · rename_i c' v' hl
      simp only [Option.some.injEq, Prod.mk.injEq] at hp; obtain ⟨rfl, rfl, rfl⟩ := hp; exact st_entry hop hl hc
    · cases hp
  case h_31 => cases hp

theorem pop_nextM {m : Nat} {x : Operand} {K : PA → List PObj → Prop} {Q : PPost} (ho : o.op = .next x false) (hd : ∀ d, o.dst = some d → d < a.N) (k : nextM (a.eval x) h (fun v h' => K (a.put o.dst v) h')) : POp P B m o K Q a h := by
  intro hm e w act s ra
  obtain ⟨w', u, v, h', h1, hk, s', rv, x'⟩ := run_nextM s (ra.eval x) k o.type
  have hr : (execOp act.eval o).run P w = .ok (.value u) w' := by unfold execOp; rw [ho]; exact step_value h1
  unfold Oper.wp
  rw [hr]
  exact ⟨e, _, h', hk, s', (ra.ext x').put _ hd rv, x'.weaken (by rw [s.n]; exact hm)⟩

/-! ### what is to be shown of a row of operations -/
def dstOk (o : Oper) (N : Nat) : Prop := match o.dst with | some d => d < N | none => True

def retK (K : PV → List PObj → Prop) (Kp : PV → List PObj → Prop) : PRes → List PObj → Prop
  | .ret v, h => K v h
  | .panic p, h => Kp p h

/-- what a value tells beside what it is -/
def fact : Op → PV → Prop
  | .call { callee := .builtin .len, args := _, argTypes := _ }, .d (.int .i64 n) => 0 ≤ n ∧ n ≤ 9223372036854775807
  | _, _ => True

def vc1 (P : Program) (B : Array Obj) (o : Oper) (a : PA) (h : List PObj) (K : PA → List PObj → Prop) (Kp : PV → List PObj → Prop) : Prop :=
  dstOk o a.N ∧ match o.op with
    | .call { callee := .value f, args := args, argTypes := _ } => match fnOf (a.eval f) with
      | some (g, first, caps) => PCalls P B g (first ++ args.toList.map a.eval ++ caps) h (retK (fun v h' => K (a.put o.dst v) h') Kp)
      | none => False
    | .next x false => nextM (a.eval x) h (fun v h' => K (a.put o.dst v) h')
    | .defer { callee := .value f, args := args, argTypes := _ } => match fnOf (a.eval f) with
      | some (g, first, caps) => K ((a.dfr ⟨g, first ++ args.toList.map a.eval ++ caps⟩).put o.dst (.d (.tup []))) h
      | none => False
    | op => match pstep P a.eval h op with
      | some (c, v, h') => c ∧ (fact op v → K (a.put o.dst v) h')
      | none => False

def vcG (ops : Array Oper) (o : Oper) (a : PA) (run skip : PA → Prop) : Prop :=
  match o.guard with
  | none => run a
  | some (j, want) => match (ops[j]?).bind (·.dst) with
    | some d => match a.t d with
      | .d (.bool b) => (b = want → run (a.put (some d) (.d (.bool want)))) ∧ (b = (!want) → skip (a.put (some d) (.d (.bool (!want)))))
      | .d (.tup _) => skip a
      | _ => False
    | none => False

def vcOps (P : Program) (B : Array Obj) (ops : Array Oper) (Q : PPost) : List Oper → PA → List PObj → Prop
  | [], a, h => Q .normal a h
  | o :: r, a, h => vcG ops o a (fun a => vc1 P B o a h (fun a' h' => vcOps P B ops Q r a' h') (fun p h' => Q (.panic p) a h')) (fun a => dstOk o a.N ∧ vcOps P B ops Q r (a.put o.dst (.d (.tup []))) h)

theorem put_same {a : PA} {d : Nat} {p : PV} (h : a.t d = p) : a.put (some d) p = a := by
  obtain ⟨t, N, ds⟩ := a
  simp only [PA.put, PA.mk.injEq, and_true]
  funext i
  split
  · rename_i hi; subst hi; exact h.symm
  · rfl

theorem dstOk_spec {o : Oper} {N : Nat} (h : dstOk o N) : ∀ d, o.dst = some d → d < N := by
  intro d hd; unfold dstOk at h; rw [hd] at h; exact h

theorem pop_vc1 {m : Nat} {K : PA → List PObj → Prop} {Q : PPost} (k : vc1 P B o a h K (fun p h' => Q (.panic p) a h')) : POp P B m o K Q a h := by
  obtain ⟨h1, h2⟩ := k
  have hd := dstOk_spec h1
  split at h2
  · rename_i f args ts hop
    split at h2
    · rename_i g first caps hf
      refine pop_call hop hd hf (h2.mono fun r h' hr => ?_)
      cases r <;> exact hr
    · exact h2.elim
  · rename_i x hop
    exact pop_nextM hop hd h2
  · rename_i f args ts hop
    split at h2
    · rename_i g first caps hf
      exact pop_defer hop hd hf h2
    · exact h2.elim
  · split at h2
    · rename_i c v h' hp
      intro hm e w act s ra
      refine pop_step (pstep_sound hp h2.1) hd (h2.2 ?_) hm e w act s ra
      -- what a length tells
      generalize hop : o.op = op at hp
      unfold fact
      split
      · rename_i args ts n
        obtain ⟨args⟩ := args
        obtain ⟨ts⟩ := ts
        change pbuiltin P a.eval h .len args ts = some (c, _, h') at hp
        unfold pbuiltin at hp
        split at hp <;> try (cases hp; done)
        all_goals (try (rename_i hbl; cases hbl; done))
        rename_i x t _
        split at hp
        · rename_i d hd
          split at hp
          · rename_i v' hl
            simp only [Option.some.injEq, Prod.mk.injEq] at hp
            obtain ⟨_, rfl, _⟩ := hp
            exact plen_le hl s (ra.eval x)
          · cases hp
        · cases hp
      · trivial
    · exact h2.elim

theorem pops_vc {m : Nat} {ops : Array Oper} {Q : PPost} : ∀ (l : List Oper) (a : PA) (h : List PObj), vcOps P B ops Q l a h → POps P B m ops Q l a h
  | [], a, h, k => pops_nil k
  | o :: r, a, h, k => by
    unfold vcOps vcG at k
    have mono : ∀ {K K' : PA → List PObj → Prop} {a : PA} {h : List PObj}, (∀ a h, K a h → K' a h) → POp P B m o K Q a h → POp P B m o K' Q a h := by
      intro K K' a h hk hp hm e w act s ra
      refine upon_mono (fun act' w' n => ?_) (fun _ _ _ q => q) (hp hm e w act s ra)
      obtain ⟨e', a', h', q, rest⟩ := n
      exact ⟨e', a', h', hk _ _ q, rest⟩
    split at k
    · rename_i hg
      exact pops_run hg (mono (fun a h q => pops_vc r a h q) (pop_vc1 k))
    · rename_i j want hg
      split at k
      · rename_i d hd
        split at k
        · rename_i b hb
          have k1 : b = want → vc1 P B o a h (fun a' h' => vcOps P B ops Q r a' h') (fun p h' => Q (.panic p) a h') := fun hw => by
            have := k.1 hw; rw [put_same (by rw [hb, hw])] at this; exact this
          have k2 : b ≠ want → dstOk o a.N ∧ vcOps P B ops Q r (a.put o.dst (.d (.tup []))) h := fun hw => by
            have hb' : b = (!want) := by cases b <;> cases want <;> simp_all
            have := k.2 hb'; rw [put_same (by rw [hb, hb'])] at this; exact this
          have hdst : ∀ d, o.dst = some d → d < a.N := by
            by_cases hw : b = want
            · exact dstOk_spec (k1 hw).1
            · exact dstOk_spec (k2 hw).1
          exact pops_guard hg hd hb hdst (fun hw => mono (fun a h q => pops_vc r a h q) (pop_vc1 (k1 hw))) (fun hw => pops_vc r _ _ (k2 hw).2)
        · rename_i l hb
          exact pops_skip hg hd hb (dstOk_spec k.1) (pops_vc r _ _ k.2)
        · exact k.elim
      · exact k.elim

theorem pwp_ops {m : Nat} {id : Nat} {l : List Oper} {Q : PPost} (k : vcOps P B l.toArray Q l a h) : PWp P B m (.region id l.toArray false) Q a h :=
  pwp_region (pops_vc l a h k)

/-! ### the results of a body: slots, and cells that are read behind it -/
def pres1 (P : Program) (f : Nat → PV) (h : List PObj) : ResultVar → Option (Prop × PV)
  | .tmp t => some (True, f t)
  | .cell t ty => match tyOf P ty with
    | some d => pload d (f t) h
    | none => none

def presC (P : Program) (f : Nat → PV) (h : List PObj) : List ResultVar → Option (Prop × PV)
  | [] => some (True, .d (.tup []))
  | [r] => pres1 P f h r
  | [r, s] => match pres1 P f h r, pres1 P f h s with
    | some (c, u), some (c', v) => some (c ∧ c', mkTup [u, v])
    | _, _ => none
  | [r, s, q] => match pres1 P f h r, pres1 P f h s, pres1 P f h q with
    | some (c, u), some (c', v), some (c2, x) => some (c ∧ c' ∧ c2, mkTup [u, v, x])
    | _, _, _ => none
  | _ => none

def bodyC (P : Program) (rl : List ResultVar) (K : PRes → List PObj → Prop) : PPost
  | .normal, a, h => a.ds = [] ∧ match presC P a.t h rl with | some (c, v) => c ∧ K (.ret v) h | none => False
  | .ret, a, h => a.ds = [] ∧ match presC P a.t h rl with | some (c, v) => c ∧ K (.ret v) h | none => False
  | .panic p, a, h => a.ds = [] ∧ K (.panic p) h
  | .exit _, _, _ => False
  | .goto _, _, _ => False

def resV (tmps : Array Value) : ResultVar → Sem Value
  | .tmp t => pure (tmps.getD t undef)
  | .cell t ty => do loadVar ty (← asAddr (tmps.getD t undef))

theorem results_eq (fn : Func) (tmps : Array Value) : results fn tmps = (do
    let vs ← fn.results.mapM (resV tmps)
    pure (if h : vs.size = 1 then vs[0] else .tuple vs)) := by
  unfold results
  have : (fun x => match x with
    | .tmp t => pure (tmps.getD t undef)
    | .cell a t => do loadVar t (← asAddr (tmps.getD a undef)) : ResultVar → Sem Value) = resV tmps := by
    funext r; cases r <;> rfl
  rw [← this]
  rfl

theorem run_loadAt_var {t : TypeId} {x : Value} {w : World} {u : Value} (h : (Instr.loadAt t x).run P w = .ok u w) (hx : ∃ ad, x = .pointer (some ad)) : (do loadVar t (← asAddr x) : Sem Value).run P w = .ok u w := by
  obtain ⟨ad, rfl⟩ := hx
  simp only [Instr.loadAt, Instr.sureAddr, Sem.run_bind, Sem.run_pure, Result.andThen_ok] at h
  simp only [Sem.run_bind, asAddr, Sem.run_pure, Result.andThen_ok]
  exact h

theorem run_resV {e : Env} {w : World} {act : Act} (s : Sim B e h w) (ra : RA w e a act) {r : ResultVar} {c : Prop} {v : PV} (hp : pres1 P a.t h r = some (c, v)) (hc : c) : ∃ u, (resV act.tmps r).run P w = .ok u w ∧ RV w e v u := by
  cases r with
  | tmp t =>
    simp only [pres1, Option.some.injEq, Prod.mk.injEq] at hp
    obtain ⟨_, rfl⟩ := hp
    exact ⟨_, by simp [resV], ra.t t⟩
  | cell t ty =>
    simp only [pres1] at hp
    split at hp
    · rename_i d hd
      have hk := ra.t t
      have hptr : ∃ ad, act.tmps.getD t undef = .pointer (some ad) := by
        unfold pload at hp
        generalize act.tmps.getD t undef = ax at hk
        generalize a.t t = px at hk hp
        split at hp
        · cases rv_d hk; exact ⟨_, rfl⟩
        · cases hk; exact ⟨_, rfl⟩
        · cases hk; exact ⟨_, rfl⟩
        · cases hp
      have hl : ∃ u, (Instr.loadAt ty (act.tmps.getD t undef)).run P w = .ok u w ∧ RV w e v u := run_load_raw hd hp hc s hk
      obtain ⟨u, h1, h2⟩ := hl
      exact ⟨u, run_loadAt_var h1 hptr, h2⟩
    · cases hp

end
end Go.Proofs.YtgpbkphiipjjoaaGreatDoor.Pv
end


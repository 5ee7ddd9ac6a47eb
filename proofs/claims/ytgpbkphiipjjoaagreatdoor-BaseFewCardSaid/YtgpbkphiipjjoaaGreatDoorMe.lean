/- circuit.signal, circuit.Find. -/
import Derived.Test.YtgpbkphiipjjoaaGreatDoorMd
import Derived.Test.YtgpbkphiipjjoaaGreatDoorCards
import Derived.Test.YtgpbkphiipjjoaaGreatDoorTie
import Derived.WalkKit
import Derived.ProofKit
import Derived.OpenShut
import Derived.Deep.DeepHandedRow
import Derived.Lib.LaidTab
import Derived.Stop.LaidErr
import Derived.RowKitTokens


section
namespace Go.Proofs.YtgpbkphiipjjoaaGreatDoor.Pv
open Go
set_option maxRecDepth 100000
set_option maxHeartbeats 4000000
set_option linter.unusedSimpArgs false

def signalF (c : Ci) (k i : Int) : Int :=
  if i < 0 ∨ manyF c k ≤ i then -1 else if k = 105 then 2 * (i + 1) else if k = 108 then 2 * (c.inputs + i + 1) else if k = 111 then c.outputs.getD i.toNat default
  else if k = 98 then c.bads.getD i.toNat default else if k = 99 then c.cons.getD i.toNat default else c.fair.getD i.toNat default

theorem signal_ret (B : Array Obj) (c : Ci) (hc : CountC c) (k i : Int) (hk : 0 ≤ k ∧ k < 256) : PRet Tryz.prog B 87 [.d (dC c), .d (.int .u8 k), .d (.int .i64 i)] (.int .i64 (signalF c k i)) := by
  refine pret_start Tryz.func87 Tryz.ntmps87 rfl (by decide) rfl (by simp) fun h hb => ?_
  have h32 (n : Int) (h1 : 0 ≤ n) (h2 : n < 256) : IntKind.i32.wrap n = n := by simp only [IntKind.wrap, IntKind.signed, IntKind.bits]; simp; omega
  refine vcC_sound _ _ _ _ (sm ?_)
  unfold CountC at hc
  refine ⟨fun h1 => ?_, fun h1 => ?_⟩
  · refine wc_use (many_rc B c _) ?_
    refine sm ?_
    rw [h32 _ hk.1 hk.2]
    simp only [show h.length + 1 + 1 = h.length + 2 from rfl]
    refine sm ?_
    simp only [allKF_many, mget_many c _ _ rfl, List.getD_cons_zero, decide_eq_true_eq, decide_eq_false_iff_not]
    refine sm ?_
    have h1 : ¬ i < 0 := by simpa using h1
    refine ⟨fun h2 => .inl (by rw [signalF, if_pos (.inr h2)]), fun h2 => ?_⟩
    have e : signalF c k i = if k = 105 then 2 * (i + 1) else if k = 108 then 2 * (c.inputs + i + 1) else if k = 111 then c.outputs.getD i.toNat default
        else if k = 98 then c.bads.getD i.toNat default else if k = 99 then c.cons.getD i.toNat default else c.fair.getD i.toNat default := by
      rw [signalF, if_neg (by omega)]
    have em : manyF c k = if k = 105 then c.inputs else if k = 108 then c.latches.length else if k = 111 then c.outputs.length else if k = 98 then c.bads.length else if k = 99 then c.cons.length else if k = 102 then c.fair.length else 0 := rfl
    have h2' : i < manyF c k := by omega
    refine ⟨fun k1 => ?_, fun k1 => ⟨fun k2 => ?_, fun k2 => ⟨fun k3 => ?_, fun k3 => ⟨fun k4 => ?_, fun k4 => ⟨fun k5 => ?_, fun k5 => ?_⟩⟩⟩⟩⟩
    · rw [if_pos k1] at e em
      rw [e, w64 (n := i + 1), w64 (n := 2 * (i + 1))]; exact leaf
    · rw [if_neg k1, if_pos k2] at e em
      rw [e, w64 (n := c.inputs + i), w64 (n := c.inputs + i + 1), w64 (n := 2 * (c.inputs + i + 1))]; exact leaf
    · rw [if_neg k1, if_neg k2, if_pos k3] at e em
      have hlt : i.toNat < c.outputs.length := by omega
      simp only [getD_map_lt (g := dInt) hlt]
      refine sm ?_
      rw [e]; exact ⟨⟨by omega, by omega⟩, leaf⟩
    · rw [if_neg k1, if_neg k2, if_neg k3, if_pos k4] at e em
      have hlt : i.toNat < c.bads.length := by omega
      simp only [getD_map_lt (g := dInt) hlt]
      refine sm ?_
      rw [e]; exact ⟨⟨by omega, by omega⟩, leaf⟩
    · rw [if_neg k1, if_neg k2, if_neg k3, if_neg k4, if_pos k5] at e em
      have hlt : i.toNat < c.cons.length := by omega
      simp only [getD_map_lt (g := dInt) hlt]
      refine sm ?_
      rw [e]; exact ⟨⟨by omega, by omega⟩, leaf⟩
    · rw [if_neg k1, if_neg k2, if_neg k3, if_neg k4, if_neg k5] at e em
      have hlt : i.toNat < c.fair.length := by split at em <;> omega
      simp only [getD_map_lt (g := dInt) hlt]
      refine sm ?_
      rw [e]; exact ⟨⟨by omega, by omega⟩, leaf⟩
  · exact .inl (by rw [signalF, if_pos (.inl (by simpa using h1))])

/-! names by their texts -/

theorem nameIs_rc (B : Array Obj) (n : Nm) (s : List UInt8) (h : List PObj) (id : Nat) (hid : h[id]? = some (.cells [.d (.str s)])) :
    PCalls Tryz.prog B 86 [.d (dN n), .ptr id 0] h fun r h' => r = .ret (.d (.bool (decide (n.text = s)))) ∧ h' = h := by
  refine rc_start Tryz.func86 Tryz.ntmps86 rfl (by decide) rfl (by simp) fun hb => ?_
  refine vcC_sound _ _ _ _ (sm ?_)
  simp only [hget_old hid]; refine sm ?_
  exact leaf

/-- the literal of the signal that a text means -/
def nameAt (c : Ci) (s : List UInt8) : Int := idxP (fun n : Nm => decide (n.text = s)) c.names 0
def findF (c : Ci) (s : List UInt8) : Int :=
  if ¬ RightC c ∨ s = [] then -1 else if 0 ≤ nameAt c s then signalF c (c.names.getD (nameAt c s).toNat default).kind (c.names.getD (nameAt c s).toNat default).at_
  else signalF c (s.getD 0 0).toNat (numberF (s.drop 1))

theorem idxP_range {α : Type} (q : α → Bool) : ∀ (l : List α) (k : Nat), 0 ≤ idxP q l k → (k : Int) ≤ idxP q l k ∧ idxP q l k < k + l.length
  | [], k, h => by simp [idxP] at h
  | x :: r, k, h => by
    unfold idxP at h ⊢
    split
    · simp; omega
    · rename_i hq
      rw [if_neg hq] at h
      have := idxP_range q r (k + 1) h
      simp; omega

theorem find_ret (B : Array Obj) (G : Glob B) (hm : Tryz.prog.follows .mixedOrders = true) (c : Ci) (hN : ∀ n, n ∈ c.names → 0 ≤ n.kind ∧ n.kind < 256) (s : List UInt8) (hs : s.length ≤ 1000) :
    PRet Tryz.prog B 45 [.d (dC c), .d (.str s)] (.int .i64 (findF c s)) := by
  refine pret_start Tryz.func45 Tryz.ntmps45 rfl (by decide) rfl (by simp) fun h hb => ?_
  refine vcC_sound _ _ _ _ (sm ?_)
  refine PRet.use (CRight_ret B hm c hN) (sm ?_)
  simp only [decide_eq_true_eq, decide_eq_false_iff_not]
  refine ⟨fun h1 => ⟨fun h2 => .inl (by rw [findF, if_pos (.inr h2)]), fun h2 => ?_⟩, fun h1 => ?_⟩
  · have hR : RightC c := by simpa using h1
    have e : findF c s = if 0 ≤ nameAt c s then signalF c (c.names.getD (nameAt c s).toNat default).kind (c.names.getD (nameAt c s).toNat default).at_
        else signalF c (s.getD 0 0).toNat (numberF (s.drop 1)) := by
      rw [findF, if_neg (by rintro (h | h); exact h hR; exact h2 h)]
    refine rc_use (nmIdx B c.names false (.fn (.func 86) [] [.ptr (h.length + 1) 0]) 86 [] [.ptr (h.length + 1) 0] rfl _ (by simp only [pb_fn, pb_ptr, List.mem_cons, List.not_mem_nil, or_false, forall_eq, List.length_append, List.length_cons, List.length_nil, false_implies, implies_true, true_and]; omega) (fun n => decide (n.text = s))
      (fun x hx => nameIs_rc B x s _ (h.length + 1) (by rw [hget_own]; rfl))) (sm ?_)
    rw [show idxP (fun n : Nm => decide (n.text = s)) c.names 0 = nameAt c s from rfl]
    simp only [decide_eq_true_eq, decide_eq_false_iff_not]
    refine ⟨fun h3 => ?_, fun h3 => ?_⟩
    · rw [if_pos h3] at e
      have hr := idxP_range (fun n : Nm => decide (n.text = s)) c.names 0 h3
      have hlt : (nameAt c s).toNat < c.names.length := by unfold nameAt at h3 ⊢; omega
      have hk := hN _ (getD_mem' hlt)
      refine pwp_drawn [.r 0 0, .q, .r 0 0, .q, .r 0 0, .q, .r 0 0, .q, .r 0 0, .q, .r 0 0, .q, .r 0 0, .q, .q] hm (by kernel_rfl) (sm ?_)
      simp only [getD_map_lt (g := dN) hlt]
      refine sm ?_
      have hb1 : nameAt c s < c.names.length := by omega
      refine ⟨⟨h3, hb1⟩, ⟨h3, hb1⟩, exQ.use (signal_ret B c hR.1 _ _ hk) (sm ?_)⟩
      rw [e]; exact leaf
    · rw [if_neg h3] at e
      have hpos : 0 < s.length := List.length_pos_iff.2 h2
      have hby : (s.getD 0 0).toNat < 256 := (s.getD 0 0).toNat_lt
      refine pwp_drawn [.r 0 0, .r 0 0, .q, .r 0 0, .q, .q, .q, .q] hm (by kernel_rfl) (sm ?_)
      simp only [Option.getD_some, Option.getD_none, Int.toNat_natCast, List.take_length, Int.reduceToNat]
      refine ⟨by omega, by omega, exQ.use (number_ret B G (s.drop 1) (by rw [List.length_drop]; omega)) (sm ?_)⟩
      refine exQ.use (signal_ret B c hR.1 (s.getD 0 0).toNat _ (by omega)) (sm ?_)
      rw [e]; exact leaf
  · have hR : ¬ RightC c := by simpa using h1
    exact .inl (by rw [findF, if_pos (.inl hR)])
end Go.Proofs.YtgpbkphiipjjoaaGreatDoor.Pv
end

/- base.resolve, base.Resolve: formulas with a circuit's literals. -/
section
namespace Go.Proofs.YtgpbkphiipjjoaaGreatDoor.Pv
open Go
set_option maxRecDepth 100000
set_option maxHeartbeats 4000000
set_option linter.unusedSimpArgs false

def litR (c : Ci) (f : Fm) : Int := if f.kind = 3 then findF c f.name else 0
mutual
def resF (c : Ci) : Fm → Fm × Int
  | .mk k n l ks => if k = 3 ∧ findF c n < 0 then (zF, 42) else if (resFL c ks).2 ≠ 0 then (zF, (resFL c ks).2) else (.mk k [] (litR c (.mk k n l ks)) (resFL c ks).1, 0)
def resFL (c : Ci) : List Fm → List Fm × Int
  | [] => ([], 0)
  | x :: r => if (resF c x).2 ≠ 0 then ([], (resF c x).2) else if (resFL c r).2 ≠ 0 then ([], (resFL c r).2) else ((resF c x).1 :: (resFL c r).1, 0)
end
theorem resF_eq (c : Ci) (f : Fm) : resF c f = if f.kind = 3 ∧ findF c f.name < 0 then (zF, 42) else if (resFL c f.kids).2 ≠ 0 then (zF, (resFL c f.kids).2) else (.mk f.kind [] (litR c f) (resFL c f.kids).1, 0) := by
  cases f; rw [resF]; rfl
theorem resFL_ok (c : Ci) : ∀ l : List Fm, (∀ x, x ∈ l → (resF c x).2 = 0) → resFL c l = (l.map fun x => (resF c x).1, 0)
  | [], _ => by rw [resFL]; rfl
  | x :: r, h => by
    have h1 := h x List.mem_cons_self
    have h2 := resFL_ok c r (fun y hy => h y (List.mem_cons_of_mem _ hy))
    rw [resFL, h2, if_neg (by rw [h1]; simp), if_neg (by simp)]; rfl
theorem resFL_err (c : Ci) : ∀ (l : List Fm) (x : Fm) (r : List Fm), (∀ y, y ∈ l → (resF c y).2 = 0) → (resF c x).2 ≠ 0 → (resFL c (l ++ x :: r)).2 = (resF c x).2
  | [], x, r, _, hx => by rw [List.nil_append, resFL, if_pos hx]
  | y :: l, x, r, h, hx => by
    have h1 := h y List.mem_cons_self
    have h2 := resFL_err c l x r (fun y hy => h y (List.mem_cons_of_mem _ hy)) hx
    rw [List.cons_append, resFL, if_neg (by rw [h1]; simp), if_pos (by rw [h2]; exact hx), h2]

def okNm (f : Fm) : Bool := decide (f.name.length ≤ 1000) && decide (f.kids.length ≤ 1000)

def resN (c : Ci) (f : Fm) (p : PV) : PObj := .cells [.d (.int .i64 f.kind), .d (.str []), .d (.int .i64 (litR c f)), p]
def resH (h : List PObj) (c : Ci) (f : Fm) : Nat → List PObj
  | 0 => [ciC c, fC f, zC, resN c f (.d (.sl [] true))]
  | n + 1 => [ciC c, fC f, zC, resN c f (.row (h.length + 6) (n + 1)), fC (f.kids.getD 0 default), fC (resF c (f.kids.getD 0 default)).1, .row 26 4 (rowOf (fun x => (resF c x).1) (f.kids.take (n + 1)))]
theorem resH0 (h : List PObj) (c : Ci) (f : Fm) : resH h c f 0 = [ciC c, fC f, zC, resN c f (.d (.sl [] true))] := rfl
theorem resHs (h : List PObj) (c : Ci) (f : Fm) (n : Nat) : resH h c f (n + 1) = [ciC c, fC f, zC, resN c f (.row (h.length + 6) (n + 1)), fC (f.kids.getD 0 default), fC (resF c (f.kids.getD 0 default)).1, .row 26 4 (rowOf (fun x => (resF c x).1) (f.kids.take (n + 1)))] := rfl

abbrev dRes (r : Fm × Int) : D := .tup [dFu r.1, .int .i64 r.2]

theorem resolve_ret (B : Array Obj) (G : Glob B) (hm : Tryz.prog.follows .mixedOrders = true) (c : Ci) (hN : ∀ n, n ∈ c.names → 0 ≤ n.kind ∧ n.kind < 256) (f : Fm) : allF okNm f = true →
    PRet Tryz.prog B 25 [.d (dC c), .d (dFu f)] (dRes (resF c f)) := by
  induction f using Fm.ind with
  | _ f ih =>
  intro hw
  rw [allF_eq, Bool.and_eq_true] at hw
  obtain ⟨hw1, hw2⟩ := hw
  simp only [okNm, Bool.and_eq_true, decide_eq_true_eq] at hw1
  obtain ⟨hnl, hkl⟩ := hw1
  refine pret_start Tryz.func25 Tryz.ntmps25 rfl (by decide) rfl (by simp) fun h hb => ?_
  refine pwp_seq (vcC_sound _ _ _ _ (sm ?_))
  refine pwp_seq (vcC_sound _ _ _ _ (sm ?_))
  refine pwp_join2 (l := resH h c f 0) [(2, .ptr h.length 0), (3, .ptr (h.length + 1) 0), (4, .ptr (h.length + 2) 0), (6, .ptr (h.length + 3) 0)] (¬ (f.kind = 3 ∧ findF c f.name < 0)) (by rw [resH0]; unfold ciC fC zC resN; exact hd1 hb) (vcC_sound _ _ _ _ (sm ?_)) fun hF => ?_
  · refine ⟨fun h1 => ?_, fun h1 => ?_⟩
    · have h1 := of_decide_eq_true h1
      refine PRet.use (find_ret B G hm c hN f.name hnl) (sm ?_)
      simp only [decide_eq_true_eq, decide_eq_false_iff_not]
      refine ⟨fun h2 => ?_, fun h2 => ⟨mt, fun h => h2 h.2, [], ?_⟩⟩
      · rw [resF_eq, if_pos ⟨h1, h2⟩]
        exact leaf
      · rw [resH0]; simp only [ciC, fC, zC, resN, litR, if_pos h1]; rfl
    · have h1 := of_decide_eq_false h1
      exact ⟨mt, fun h => h1 h.1, [], by rw [resH0]; simp only [ciC, fC, zC, resN, litR, if_neg h1]; rfl⟩
  · refine pwp_join2 (l := resH h c f f.kids.length) [(4, .ptr (h.length + 2) 0), (6, .ptr (h.length + 3) 0)] (∀ x, x ∈ f.kids → (resF c x).2 = 0) ?_ (vcC_sound _ _ _ _ ?_) fun hall => ?_
    · cases f.kids.length with
      | zero => rw [resH0]; unfold ciC fC zC resN; exact hd1 hb
      | succ n => rw [resHs]; unfold ciC fC zC resN; exact hd1 hb
    · simp only [resH0, ciC, fC, zC, resN]
      refine sm ?_
      intro hn
      refine pwp_loop (κ := Nat) (fun i => [(2, .ptr h.length 0), (3, .ptr (h.length + 1) 0), (4, .ptr (h.length + 2) 0), (6, .ptr (h.length + 3) 0), (27, .d (.sl (f.kids.map dF) false)), (28, .d (.int .i64 f.kids.length)), (29, .d (.int .i64 i))]) (fun i => h ++ resH h c f i) (fun i => i ≤ f.kids.length ∧ ∀ j, j < i → (resF c (f.kids.getD j default)).2 = 0) (fun i => f.kids.length - i)
        (fun k hk => ?_) ⟨0, [], ⟨by omega, fun j hj => absurd hj (by omega)⟩, mt, by rw [resH0, List.append_nil]; rfl⟩ fun i hi => ?_
      · cases k with
        | zero => rw [resH0]; unfold ciC fC zC resN; exact hd1 hb
        | succ n => rw [resHs]; unfold ciC fC zC resN; exact hd1 hb
      have bad (hlt : i < f.kids.length) (hx : ¬ (resF c (f.kids.getD i default)).2 = 0) : resF c f = (zF, (resF c (f.kids.getD i default)).2) := by
        have hsp : f.kids = f.kids.take i ++ f.kids.getD i default :: f.kids.drop (i + 1) := by
          rw [List.getD_eq_getElem?_getD, List.getElem?_eq_getElem hlt, Option.getD_some, ← List.drop_eq_getElem_cons hlt, List.take_append_drop]
        have he : (resFL c f.kids).2 = (resF c (f.kids.getD i default)).2 := by
          conv => lhs; rw [hsp]
          refine resFL_err c _ _ _ (fun y hy => ?_) hx
          obtain ⟨j, hj, rfl⟩ := List.mem_iff_getElem.1 hy
          rw [List.length_take] at hj
          have := hi.2 j (by omega)
          rw [List.getElem_take]
          rwa [List.getD_eq_getElem?_getD, List.getElem?_eq_getElem (by omega)] at this
        rw [resF_eq, if_neg hF, if_pos (by rw [he]; exact hx), he]
      cases i with
      | zero =>
        simp only [resH0, ciC, fC, zC, resN]
        refine vcC_sound _ _ _ _ (sm ?_)
        refine ⟨fun h1 => ?_, fun h1 => ?_⟩
        · have hlt : 0 < f.kids.length := by have := of_decide_eq_true h1; omega
          simp only [getD_map_lt (g := dF) hlt]
          refine sm ?_
          refine ⟨by omega, PRet.use (ih _ (getD_memF hlt) (List.all_eq_true.1 hw2 _ (getD_memF hlt))) (sm ?_)⟩
          simp only [decide_eq_true_eq, decide_eq_false_iff_not, not_true_eq_false]
          refine ⟨fun h2 => ?_, fun h2 => ?_⟩
          · rw [bad hlt h2]; exact leaf
          · have h2 : (resF c (f.kids.getD 0 default)).2 = 0 := Classical.byContradiction h2
            rw [wsucc hlt (by omega)]
            refine ⟨⟨fun i hi => absurd hi (by omega), fun i hi => ?_⟩, 1, [], ⟨by omega, fun j hj => ?_⟩, by omega, mt, ?_⟩
            · have : i = 0 := by omega
              subst this; rfl
            · have : j = 0 := by omega
              subst this; exact h2
            · rw [resHs, rowOf_succ (fun x => (resF c x).1) hlt]; rfl
        · have hge : f.kids.length = 0 := by have := of_decide_eq_false h1; omega
          exact ⟨mt, fun x hx => by rw [List.eq_nil_of_length_eq_zero hge] at hx; simp at hx, [], by rw [hge, resH0]; rfl⟩
      | succ n =>
        simp only [resHs, ciC, fC, zC, resN]
        refine vcC_sound _ _ _ _ (sm ?_)
        refine ⟨fun h1 => ?_, fun h1 => ?_⟩
        · have hlt : n + 1 < f.kids.length := by have := of_decide_eq_true h1; omega
          simp only [getD_map_lt (g := dF) hlt]
          refine sm ?_
          refine ⟨by omega, PRet.use (ih _ (getD_memF hlt) (List.all_eq_true.1 hw2 _ (getD_memF hlt))) (sm ?_)⟩
          simp only [decide_eq_true_eq, decide_eq_false_iff_not, not_true_eq_false]
          have hr : (rowOf (fun x => (resF c x).1) (f.kids.take (n + 1))).length = n + 1 := by rw [rowOf_len, List.length_take]; omega
          refine ⟨fun h2 => ?_, fun h2 => ?_⟩
          · rw [bad hlt h2]; exact leaf
          · have h2 : (resF c (f.kids.getD (n + 1) default)).2 = 0 := Classical.byContradiction h2
            simp only [hr]
            rw [wsucc hlt (by omega)]
            refine ⟨⟨trivial, fun i hi => ?_, by omega⟩, n + 1 + 1, [fC (f.kids.getD (n + 1) default), fC (resF c (f.kids.getD (n + 1) default)).1], ⟨by omega, snoc_inv hi.2 h2⟩, by omega, mt, ?_⟩
            · have : i = 0 := by omega
              subst this; rfl
            · rw [resHs, rowOf_succ (fun x => (resF c x).1) hlt]; rfl
        · have hge : f.kids.length = n + 1 := by have := of_decide_eq_false h1; omega
          refine ⟨mt, fun x hx => ?_, [], by rw [hge, resHs]; rfl⟩
          obtain ⟨j, hj, rfl⟩ := List.mem_iff_getElem.1 hx
          have := hi.2 j (by omega)
          rwa [List.getD_eq_getElem?_getD, List.getElem?_eq_getElem hj] at this
    · have e : resF c f = (.mk f.kind [] (litR c f) (f.kids.map fun x => (resF c x).1), 0) := by
        rw [resF_eq, if_neg hF, resFL_ok c f.kids hall, if_neg (by simp)]
      rw [e]
      cases hk : f.kids.length with
      | zero =>
        have hnil : f.kids = [] := List.eq_nil_of_length_eq_zero hk
        rw [resH0, hnil]
        simp only [ciC, fC, zC, resN]
        refine vcC_sound _ _ _ _ (sm ?_)
        exact leaf
      | succ n =>
        rw [resHs]
        refine pwp_seal (h.length + 6) (E := 26) (sz := 4) (rowD (fun x => (resF c x).1) f.kids) ?_ ?_
        · rw [hget_own, ← rowOf_d, List.take_of_length_le (by omega)]; rfl
        · rw [hset_own]
          simp only [ciC, fC, zC, resN]
          refine vcC_sound _ _ _ _ (sm ?_)
          simp only [rowD_len, hk]
          refine sm ?_
          rw [rowD_eq]
          exact .inl rfl

theorem frFL_mem : ∀ (l : List Fm) (d : Int) (c : Nat), (frFL l d c).1 = true → ∀ x, x ∈ l → ∃ c', (frF x d c').1 = true
  | [], _, _, _, x, hx => by simp at hx
  | y :: r, d, c, h, x, hx => by
    rw [frFL] at h
    split at h
    · rename_i h2
      rcases List.mem_cons.1 hx with rfl | hx
      · exact ⟨c, h2⟩
      · exact frFL_mem r d _ h x hx
    · cases h
theorem frF_ok (f : Fm) : ∀ d c, (frF f d c).1 = true → allF okNm f = true := by
  induction f using Fm.ind with
  | _ f ih =>
  intro d c h
  rw [allF_eq, Bool.and_eq_true, List.all_eq_true]
  rw [frF_eq] at h
  split at h
  · cases h
  · split at h
    · simp only [fwordF, wordF, Bool.and_eq_true, decide_eq_true_eq] at h
      have hnil : f.kids = [] := List.eq_nil_of_length_eq_zero h.2
      refine ⟨?_, fun x hx => by rw [hnil] at hx; simp at hx⟩
      simp only [okNm, Bool.and_eq_true, decide_eq_true_eq]
      have := h.1.1.2.2
      omega
    · split at h
      · cases h
      · rename_i h3
        have hn : f.name = [] := Classical.byContradiction fun hc => h3 (.inr (.inl hc))
        have hk : (f.kids.length : Int) = skids f.kind := Classical.byContradiction fun hc => h3 (.inr (.inr hc))
        refine ⟨?_, fun x hx => ?_⟩
        · simp only [okNm, Bool.and_eq_true, decide_eq_true_eq, hn]
          have : skids f.kind ≤ 2 := by unfold skids; split; exact kidsF_le _; omega
          simp; omega
        · obtain ⟨c', hc⟩ := frFL_mem f.kids _ _ h x hx
          exact ih x hx _ c' hc
theorem sizeR_ok {f : Fm} (h : 0 < sizeR f) : allF okNm f = true := by
  unfold sizeR at h
  split at h
  · rename_i h2; exact frF_ok f 60 0 h2
  · omega

def ResolveF (c : Ci) (f : Fm) : Fm × Int := if RightC c ∧ 0 < sizeR f then resF c f else (zF, 1)
theorem Resolve_ret (B : Array Obj) (G : Glob B) (hm : Tryz.prog.follows .mixedOrders = true) (c : Ci) (hN : ∀ n, n ∈ c.names → 0 ≤ n.kind ∧ n.kind < 256) (f : Fm) :
    PRet Tryz.prog B 8 [.d (dC c), .d (dFu f)] (dRes (ResolveF c f)) := by
  refine pret_start Tryz.func8 Tryz.ntmps8 rfl (by decide) rfl (by simp) fun h hb => ?_
  refine vcC_sound _ _ _ _ (sm ?_)
  refine PRet.use (CRight_ret B hm c hN) (sm ?_)
  refine ⟨fun h1 => ?_, fun h1 => ?_⟩
  · have hR : RightC c := by simpa using h1
    refine PRet.use (FRight_ret B hm f) (sm ?_)
    refine ⟨fun h2 => ?_, fun h2 => ?_⟩
    · have hS : ¬ 0 < sizeR f := by simpa using h2
      rw [ResolveF, if_neg (fun h => hS h.2)]; exact leaf
    · have hS : 0 < sizeR f := by simpa using h2
      rw [ResolveF, if_pos ⟨hR, hS⟩]
      refine PRet.use (resolve_ret B G hm c hN f (sizeR_ok hS)) (sm ?_)
      exact .inl rfl
  · have hR : ¬ RightC c := by simpa using h1
    rw [ResolveF, if_neg (fun h => hR h.1)]; exact leaf
end Go.Proofs.YtgpbkphiipjjoaaGreatDoor.Pv
end

/- law04.Made of no numbers. -/
section
namespace Go.Proofs.YtgpbkphiipjjoaaGreatDoor.Pv
open Go
set_option maxRecDepth 100000
set_option maxHeartbeats 4000000
set_option linter.unusedSimpArgs false

section
variable {P : Program} {B : Array Obj}
def PRes.rs (H : List PObj) : PRes → PRes
  | .ret v => .ret (rsvA H v)
  | .panic p => .panic p
/-- a row in what comes back is written to no more -/
theorem PCalls.sealed {f : FuncId} {args : List PV} {h : List PObj} {K K' : PRes → List PObj → Prop} (k : PCalls P B f args h K)
    (hk : ∀ r h', K r h' → ∃ id E sz ds, h'[id]? = some (.row E sz (List.map PV.d ds)) ∧ K' (r.rs (h'.set id (.frz ds))) (h'.set id (.frz ds))) : PCalls P B f args h K' := by
  refine fun e w vs s r => (k e w vs s r).mono fun en w' ⟨r, e', h', q, hr, s', ext⟩ => ?_
  obtain ⟨id, E, sz, ds, hh, q'⟩ := hk r h' q
  obtain ⟨e2, s2, hx⟩ := sim_seal s' hh
  have ext2 : Ext e.n e w e2 w' := ext.trans (hx.weaken (Nat.le_refl _)) ext.n
  cases r <;> cases en <;> try exact hr.elim
  · exact ⟨_, e2, _, q', rv_rsvA s2 (hr.ext hx), s2, ext2⟩
  · obtain ⟨v, h1, h2⟩ := hr
    exact ⟨_, e2, _, q', ⟨v, h1, h2.ext hx⟩, s2, ext2⟩
/-- what comes back is data -/
theorem PCalls.data {f : FuncId} {args : List PV} {h : List PObj} {K : PRes → List PObj → Prop} {v : D} (k : PCalls P B f args h K) (hk : ∀ r h', K r h' → ∃ x X, r = .ret (.d x) ∧ DW x v ∧ h' = h ++ X) :
    PCalls P B f args h fun r h' => r = .ret (.d v) ∧ h' = h := by
  have := k.cut (K' := fun r h2 => (∃ x, r = .ret (.d x) ∧ DW x v) ∧ h2 = h) fun hb r h' q => by
    obtain ⟨x, X, hr, hx, hX⟩ := hk r h' q
    exact ⟨h, X, hX, Nat.le_refl _, hb, by subst hr; exact .d _, ⟨x, hr, hx⟩, rfl⟩
  refine fun e w vs s r => (this e w vs s r).mono fun en w' hk => ?_
  obtain ⟨r, e', h', ⟨⟨x, rfl, hx⟩, hh⟩, hr, s', x'⟩ := hk
  refine ⟨.ret (.d v), e', h', ⟨rfl, hh⟩, ?_, s', x'⟩
  cases en <;> try exact hr.elim
  exact .d _ _ (hx.rd (rv_d hr))
end
theorem pkN (i : Nat) (n : Int) : pk [] i n = 0 := by rw [pk, if_pos (by simp)]
theorem pick0 (B : Array Obj) (i : Nat) (hi : i < 1000) (n : Int) (hn : 0 < n) (h : List PObj) (ia il : Nat) (cl : Bool) (hia : h[ia]? = some (.cells [.d (.int .i64 i)])) (hil : h[il]? = some (.cells [.d (.sl [] cl)])) (hne : ia ≠ il) :
    PCalls Tryz.prog B 19 [.d (.int .i64 n), .ptr ia 0, .ptr il 0] h fun r h' => r = .ret (.d (.int .i64 0)) ∧ h' = h.set ia (.cells [.d (.int .i64 ((i + 1 : Nat) : Int))]) := by
  have := pick4 B [] (fun x hx => by simp at hx) i (by omega) n hn h ia il cl hia hil hne
  rw [pkN] at this
  exact this

theorem Made1_nil (B : Array Obj) (n : Int) : PRet Tryz.prog B 20 [.d (.int .i64 n), .d (.sl [] true)] (.tup [dG ⟨n, []⟩, .int .i64 1]) := by
  refine pret_start Tryz.func20 Tryz.ntmps20 rfl (by decide) rfl (by simp) fun h hb => ?_
  refine vcC_sound _ _ _ _ (sm ?_)
  refine pwp_rounds 1 (pr_succ (vcC_sound _ _ _ _ (sm ?_)))
  intro _
  refine ⟨fun h => absurd (of_decide_eq_true h) (by simp), fun _ => leaf⟩

theorem Made4_raw (B : Array Obj) (hm : Tryz.prog.follows .mixedOrders = true) (h : List PObj) : PCalls Tryz.prog B 6 [.d (.sl [] true)] h fun r h' =>
    r = .ret (.agg [.d (.int .i64 0), .row (h.length + 5) 1, .d (.sl [] false), .d (.sl [] true), .row (h.length + 6) 1, .row (h.length + 7) 1, .d (.sl [] true), .d (.sl [] true)]) ∧
    ∃ a b c d e, h' = h ++ [a, b, c, d, e, .row 56 2 [.d (.agg [.int .i64 1, .int .i64 0])], .row 3 1 [.d (.int .i64 0)], .row 3 1 [.d (.int .i64 0)]] := by
  refine pcalls_start Tryz.func6 Tryz.ntmps6 rfl (by decide) rfl (by simp) fun hb => ?_
  refine vcC_sound _ _ _ _ (sm ?_)
  refine wc_use (pick0 B 0 (by omega) 4 (by omega) _ (h.length + 2) h.length true (by rw [hget_own]; rfl) (by rw [hget_own0]; rfl) (by omega)) ?_
  simp only [hset_own]
  refine sm ?_
  refine wc_use (pick0 B 1 (by omega) 3 (by omega) _ (h.length + 2) h.length true (by rw [hget_own]; rfl) (by rw [hget_own0]; rfl) (by omega)) ?_
  simp only [hset_own]
  refine sm ?_
  refine wc_use (pick0 B 2 (by omega) 9 (by omega) _ (h.length + 2) h.length true (by rw [hget_own]; rfl) (by rw [hget_own0]; rfl) (by omega)) ?_
  simp only [hset_own]
  refine sm ?_
  refine pwp_rounds 1 (pr_succ (vcC_sound _ _ _ _ (sm ?_)))
  rw [show (IntKind.i64.wrap (0 + IntKind.i64.wrap (1 + 0)) : Int) = 1 from rfl]
  refine PRet.use (Made1_nil B 1) (sm ?_)
  refine PRet.use (rvars_ret B ⟨1, []⟩) (sm ?_)
  rw [show (IntKind.i64.wrap (2 * varsG ⟨1, []⟩) : Int) = 4 from rfl]
  refine pwp_rounds 2 (pr_succ (vcC_sound _ _ _ _ (sm ?_)))
  refine ⟨fun _ => ?_, fun h => absurd h (by decide)⟩
  refine wc_use (pick0 B 3 (by omega) 4 (by omega) _ (h.length + 2) h.length true (by rw [hget_own]; rfl) (by rw [hget_own0]; rfl) (by omega)) ?_
  simp only [hset_own]
  refine sm ?_
  refine pwp_drawn [.q, .r 0 1, .q, .q, .e, .q, .q, .q, .e, .q, .e] hm (by kernel_rfl) (sm ?_)
  refine exE.use (pick0 B 4 (by omega) 5 (by omega) _ (h.length + 2) h.length true (by rw [hget_own]; rfl) (by rw [hget_own0]; rfl) (by omega)) (by simp only [hset_own]; exact sm trivial) ?_
  simp only [hset_own]
  refine sm ?_
  refine ⟨⟨fun i hi => absurd hi (by omega), fun i hi => by have : i = 0 := (by omega); subst this; rfl⟩, ?_⟩
  rw [show (IntKind.i64.wrap (Int.tdiv 0 2) : Int) = 0 from rfl]
  refine pr_succ (vcC_sound _ _ _ _ (sm ?_))
  refine ⟨fun h => absurd h (by decide), fun _ => ?_⟩
  refine wc_use (pick0 B 5 (by omega) 3 (by omega) _ (h.length + 2) h.length true (by rw [hget_own]; rfl) (by rw [hget_own0]; rfl) (by omega)) ?_
  simp only [hset_own]
  refine sm ?_
  refine pwp_rounds 1 (pr_succ (vcC_sound _ _ _ _ (sm ?_)))
  refine wc_use (pick0 B 6 (by omega) 4 (by omega) _ (h.length + 2) h.length true (by rw [hget_own]; rfl) (by rw [hget_own0]; rfl) (by omega)) ?_
  simp only [hset_own]
  refine sm ?_
  refine pwp_drawn [.q, .r 0 1, .q, .q, .e, .q, .e, .q, .e] hm (by kernel_rfl) (sm ?_)
  refine exE.use (pick0 B 7 (by omega) 4 (by omega) _ (h.length + 2) h.length true (by rw [hget_own]; rfl) (by rw [hget_own0]; rfl) (by omega)) (by simp only [hset_own]; exact sm trivial) ?_
  simp only [hset_own]
  refine sm ?_
  refine ⟨⟨fun i hi => absurd hi (by omega), fun i hi => by have : i = 0 := (by omega); subst this; rfl⟩, ?_⟩
  refine wc_use (pick0 B 8 (by omega) 3 (by omega) _ (h.length + 2) h.length true (by rw [hget_own]; rfl) (by rw [hget_own0]; rfl) (by omega)) ?_
  simp only [hset_own]
  refine sm ?_
  refine pwp_drawn [.q, .r 0 1, .q, .q, .e, .q, .e, .q, .e] hm (by kernel_rfl) (sm ?_)
  refine exE.use (pick0 B 9 (by omega) 4 (by omega) _ (h.length + 2) h.length true (by rw [hget_own]; rfl) (by rw [hget_own0]; rfl) (by omega)) (by simp only [hset_own]; exact sm trivial) ?_
  simp only [hset_own]
  refine sm ?_
  refine ⟨⟨fun i hi => absurd hi (by omega), fun i hi => by have : i = 0 := (by omega); subst this; rfl⟩, ?_⟩
  refine wc_use (pick0 B 10 (by omega) 4 (by omega) _ (h.length + 2) h.length true (by rw [hget_own]; rfl) (by rw [hget_own0]; rfl) (by omega)) ?_
  simp only [hset_own]
  refine sm ?_
  rw [show (IntKind.i64.wrap (Int.tdiv 0 2) : Int) = 0 from rfl]
  refine pwp_rounds 1 (pr_succ (vcC_sound _ _ _ _ (sm ?_)))
  refine wc_use (pick0 B 11 (by omega) 3 (by omega) _ (h.length + 2) h.length true (by rw [hget_own]; rfl) (by rw [hget_own0]; rfl) (by omega)) ?_
  simp only [hset_own]
  refine sm ?_
  intro _
  refine ⟨fun h => absurd (of_decide_eq_true h) (by simp), fun _ => ?_⟩
  exact ⟨_, _, _, _, _, rfl⟩

theorem Made4_nil (B : Array Obj) (hm : Tryz.prog.follows .mixedOrders = true) : PRet Tryz.prog B 6 [.d (.sl [] true)] (dC ⟨0, [(1, 0)], [], [], [0], [0], [], []⟩) := by
  intro h
  refine PCalls.data (PCalls.sealed (PCalls.sealed (PCalls.sealed (Made4_raw B hm h) (K' := fun r h' =>
    r = .ret (.agg [.d (.int .i64 0), .d (.sl [.agg [.int .i64 1, .int .i64 0]] false), .d (.sl [] false), .d (.sl [] true), .row (h.length + 6) 1, .row (h.length + 7) 1, .d (.sl [] true), .d (.sl [] true)]) ∧
    ∃ a b c d e f, h' = h ++ [a, b, c, d, e, f, .row 3 1 [.d (.int .i64 0)], .row 3 1 [.d (.int .i64 0)]]) ?_) (K' := fun r h' =>
    r = .ret (.agg [.d (.int .i64 0), .d (.sl [.agg [.int .i64 1, .int .i64 0]] false), .d (.sl [] false), .d (.sl [] true), .d (.sl [.int .i64 0] false), .row (h.length + 7) 1, .d (.sl [] true), .d (.sl [] true)]) ∧
    ∃ a b c d e f g, h' = h ++ [a, b, c, d, e, f, g, .row 3 1 [.d (.int .i64 0)]]) ?_) (K' := fun r h' =>
    r = .ret (.d (.agg [.int .i64 0, .sl [.agg [.int .i64 1, .int .i64 0]] false, .sl [] false, .sl [] true, .sl [.int .i64 0] false, .sl [.int .i64 0] false, .sl [] true, .sl [] true])) ∧
    ∃ X, h' = h ++ X) ?_) ?_
  · rintro r h' ⟨rfl, a, b, c, d, e, rfl⟩
    refine ⟨h.length + 5, _, _, [.agg [.int .i64 1, .int .i64 0]], by rw [hget_own]; rfl, ?_, a, b, c, d, e, .frz [.agg [.int .i64 1, .int .i64 0]], by rw [hset_own]; rfl⟩
    rw [hset_own]
    simp only [PRes.rs, List.set_cons_succ, List.set_cons_zero, rsvA, rsv, List.map_cons, List.map_nil, hget_own, List.getElem?_cons_succ, List.getElem?_cons_zero, mkAgg]
    rfl
  · rintro r h' ⟨rfl, a, b, c, d, e, f, rfl⟩
    refine ⟨h.length + 6, _, _, [.int .i64 0], by rw [hget_own]; rfl, ?_, a, b, c, d, e, f, .frz [.int .i64 0], by rw [hset_own]; rfl⟩
    rw [hset_own]
    simp only [PRes.rs, List.set_cons_succ, List.set_cons_zero, rsvA, rsv, List.map_cons, List.map_nil, hget_own, List.getElem?_cons_succ, List.getElem?_cons_zero, mkAgg]
    rfl
  · rintro r h' ⟨rfl, a, b, c, d, e, f, g, rfl⟩
    refine ⟨h.length + 7, _, _, [.int .i64 0], by rw [hget_own]; rfl, ?_, _, by rw [hset_own]⟩
    rw [hset_own]
    simp only [PRes.rs, List.set_cons_succ, List.set_cons_zero, rsvA, rsv, List.map_cons, List.map_nil, hget_own, List.getElem?_cons_succ, List.getElem?_cons_zero, mkAgg]
    rfl
  · rintro r h' ⟨rfl, X, rfl⟩
    exact ⟨_, X, rfl, leaf, rfl⟩
end Go.Proofs.YtgpbkphiipjjoaaGreatDoor.Pv
end

/- law10.awake: what it computes, and that it is true. -/
section
namespace Go.Proofs.YtgpbkphiipjjoaaGreatDoor.Pv
open Go
set_option maxRecDepth 100000
set_option maxHeartbeats 4000000
set_option linter.unusedSimpArgs false

theorem sm2 {p q : Prop} (k : q) (e : p = q := by (conv => lhs; simp (config := { maxSteps := 1000000 }) only [fin_ret, fin_ret0, ↓vk_app, ↓vok_app, ↓vdk_app, ↓pK_app, ↓kC_app, ↓kD_app, ↓kE_app, ↓kR_app, ↓ve_t, ↓ve_f, ve_eq, ↓vg_tt, ↓vg_ff, ↓vg_tf, ↓vg_ft, vg_eq, ↓vh_tt, ↓vh_ff, ↓vh_tf, ↓vh_ft, vh_eq, ↓vc_skip, ↓vc_ret, ↓vc_exit, ↓vc_label, ↓vc_seq, ↓vc_cond, ↓vc_block, ↓vc_region, vc_drawn, vc_loop, vc_rangeFunc, ↓vd_nil, ↓vd_run, ↓vd_guard, ↓d1_qcall, ↓d1_q, ↓d1_r, ↓d1_rcall, ↓d1_ecall, ↓d1_e, po_nil, po_zero, po_1, po_2, po_3, pn_nil, pn_zero, pn_1, pn_2, pn_3, pk_zero, pk_nil, pk_1, pk_2, pk_3, qs_eq, v1_next, nextM, ps_makeMap, ps_mapUpdate, ps_insert, ps_lookup, ps_range, ps_next, ps_entry, peqOp, peq, eqD, fits2, cellFits, aggBeq, cellBeq, nilOf, plookup, pmapUpd, mput, prange, pnextS, pentry, presC, pres1, bodyC, zeroElem, ↓vo_nil, ↓vo_run, ↓vo_guard, dst_some, dst_none, ↓v1_call, ↓v1_defer, dfr_t, dfr_N, dfr_ds, ↓v1_op, ↓v1_len, lenThen_int, pl_move, pl_assign, pl_pick, pl_alloc, pl_box, pl_build, pl_buildSlice, pl_insert, pl_load, pl_store, pl_nilCheck, pl_binOp, pl_unOp, pl_convert, pl_makeInterface, pl_makeFunc, pl_makeMap, pl_makeSlice, pl_slice, pl_fieldAddr, pl_field, pl_indexAddr, pl_index, pl_lookup, pl_mapUpdate, pl_range, pl_nextS, pl_entry, pl_extract, pl_append, pl_min, pl_max, pl_copy, pl_delete, pl_cap, nv_move, nv_assign, nv_pick, nv_alloc, nv_box, nv_build, nv_buildSlice, nv_insert, nv_load, nv_store, nv_nilCheck, nv_binOp, nv_unOp, nv_convert, nv_makeInterface, nv_makeFunc, nv_makeMap, nv_makeSlice, nv_slice, nv_fieldAddr, nv_field, nv_indexAddr, nv_index, nv_lookup, nv_mapUpdate, nv_range, nv_nextS, nv_entry, nv_extract, nv_append, nv_min, nv_max, nv_copy, nv_delete, nv_cap, nv_len, ps_move, ps_assign, ps_pick, ps_alloc, ps_box, ps_load, ps_store, ps_nilCheck, ps_bin, ps_not, ps_convert, ps_fieldAddr, ps_field, ps_indexAddr, ps_index, ps_slice, ps_extract, ps_makeFunc, ps_makeInterface, ps_build, ps_buildSlice, ps_makeSlice, ps_builtin, pb_len, pb_min, pb_max, pb_append, start_t, start_N, start_ds, ↓put_t, put_none, ↓put_N, ↓put_ds, mk_t, mk_N, mk_ds, rs_t, rs_N, rs_ds, ev_tmp, ev_func, ev_global, ev_int, ev_bool, ev_string, ev_slice, ev_map, ev_ptr, ev_agg, argAt, flat_agg, flat_dagg, flat_int, flat_bool, flat_str, flat_sl, flat_ip, flat_vm, flat_dfn, flat_difc, flat_nilFunc, flat_nilMap, flat_nilPtr, flat_nilIface, flat_ptr, flat_row, flat_mp, flat_fn, flat_ifc, allD_nil, allD_d, allD_ptr, allD_row, allD_mp, allD_fn, allD_agg, allD_tup, allD_junk, allD_ifc, rsv_d, rsv_ptr, rsv_mp, rsv_fn, rsv_junk, rsv_row, rsvA_d, rsvA_ptr, rsvA_mp, rsvA_row, rsvA_agg, rsvA_tup, rsvA_fn, rsvA_junk, mkAgg, mkTup, mkFn, fnOf_d, fnOf_p, pload, pstore, plen, pfaddr, pfield, piaddr, pindex, pbin, pmm, pslice, pbound, pextract, pbuild, pfill, pbuildSlice, sliceParts, pappendNew, pappendRow, isE2, isE_nil, isE_cons, pmake, zeroElem, partOf, partD, whole, TK.agg, dcells, retK, thenP, blockP, look, D.ncells, D.cell, D.scalar, PV.ncells, PV.cell, PV.scalar, scalarV, Nat.reduceEqDiff, Nat.reduceLT, Nat.reduceLeDiff, Nat.reduceAdd, Nat.reduceSub, Nat.reduceMul, ↓reduceIte, and_true, true_and, ne_eq, reduceCtorEq, not_false_eq_true, implies_true, Op.call.injEq, Call.mk.injEq, false_and, and_false, Bool.false_eq_true, Bool.true_eq_false, Bool.not_true, Bool.not_false, forall_const, false_implies, true_implies, eq_self_iff_true, List.map_cons, List.map_nil, List.cons_append, List.nil_append, List.append_nil, List.append_assoc, List.length_append, List.length_cons, List.length_nil, List.length_map, List.length_set, List.take_succ_cons, List.take_zero, List.take_nil, List.drop_succ_cons, List.drop_zero, List.drop_nil, List.getElem?_cons_zero, List.getElem?_cons_succ, Option.map_some, Option.map_none, Option.bind_some, List.getElem?_toArray, List.size_toArray, hget_own, hset_own, hget_own0, hset_own0, hget_ownS, hset_ownS, hget_ownS0, hset_ownS0, List.set_cons_zero, List.set_cons_succ, Nat.add_zero, Nat.zero_add, eq_self, Int.reduceEq, Int.reduceNe, Int.reduceLT, Int.reduceLE, Int.reduceNeg, Int.reduceToNat, decide_true, decide_false, not_true_eq_false, Bool.not_eq_true', Option.map_none, dF_eq, Int.toNat_natCast, nc1, nc2, pfind_nil, pfind_cons, keyBeq_int, keyBeq_str, keyBeq_agg, af_eq, akf_nil, akf_cons, kf_d, Option.isSome_some, ty_1, ty_2, ty_3, ty_4, ty_5, ty_6, ty_7, ty_8, ty_9, ty_10, ty_11, ty_12, ty_13, ty_14, ty_15, ty_16, ty_17, ty_18, ty_19, ty_20, ty_21, ty_22, ty_23, ty_24, ty_25, ty_26, ty_27, ty_28, ty_29, ty_30, ty_31, ty_32, ty_33, ty_34, ty_35, ty_36, ty_38, ty_39, ty_40, ty_41, ty_42, ty_43, ty_44, ty_45, ty_46, ty_47, ty_48, ty_49, ty_50, ty_51, ty_53, ty_54, ty_55, ty_56, ty_57, ty_58, ty_59, ty_60, ty_61, ty_62, ty_63, ty_65, ty_66, ty_67, ty_68, ty_69, ty_70, ty_71, ty_72, ty_73, ty_74, ty_75, ty_76, ty_77, ty_78, ty_80, ty_81, ty_82, ty_84, ty_85, ty_86, ty_87, ty_88, ty_89, ty_90, ty_91, ty_92, ty_93, ty_94, ty_95, ty_96, ty_97, ty_98, ty_99, ty_100, ty_101, ty_102, ty_103, ty_104, ty_105, ty_106, ty_107, ty_108, ty_109, ty_110, ty_111, ty_112, ty_113, ty_114, ty_115, ty_116, ty_117, ty_118, ty_119, ty_120, ty_121, ty_122, ty_123, ty_124, ty_125, ty_126, ty_127, ty_129, ty_130, ty_132, ty_133, ty_134, ty_135, ty_136, ty_137, ty_138, ty_139, ty_141, ty_142, ty_143, ty_144, ty_145, ty_146, ty_147, ty_148, ty_149, ty_150, ty_152, ty_153, ty_154, ty_155, ty_156, ty_157, ty_158, ty_159, ty_160, ty_162, ty_163, ty_164, ty_165, ty_166, ty_167, ty_168, ty_169, ty_170, ty_171, ty_172, ty_173, ty_174, ty_175, ty_176, ty_177, ty_178, ty_179, ty_180, ty_181, ty_182, ty_184, ty_185, ty_186, ty_187, ty_188, ty_189, ty_190, ty_191, ty_192, ty_193, ty_194, ty_195, ty_196, ty_197, ty_198, ty_199, ty_200, ty_201, ty_202, ty_203, ek_2, ek_3, ek_4, ek_5, ek_6, ek_7, ek_8, ek_9, ek_10, ek_11, ek_12, ek_21, ek_36, ek_49, ek_55, ek_56, ek_57, ek_58, ek_88, ek_91, ek_92, ek_93, ek_94, ek_97, ek_98, ek_126, ek_127, ek_139, ek_150, ek_153, ek_158, ek_170, ek_171, ek_173, ek_174, ek_189, ek_190, ek_194, ek_197, ek_198, ek_200, ek_201, if_20, if_129, if_130, List.getD_cons_zero, List.getD_cons_succ]); first | done | rfl) : p := e ▸ k
def c0 : Ci := ⟨0, [(1, 0)], [], [], [0], [0], [], []⟩
def aF (s : List UInt8) : Fm := .mk 3 s 0 []
theorem c0_right : RightC c0 := by decide
theorem c0_names : ∀ n, n ∈ c0.names → 0 ≤ n.kind ∧ n.kind < 256 := fun n hn => by simp [c0] at hn
theorem num0 : numberF [48] = 0 := by
  have h1 : Lib.atoiAll [48] = .ok 0 := by decide
  have h2 : Lib.itoa 0 = [48] := by rw [Lib.itoa, if_neg (by omega)]; exact Lib.decDigits_one (by omega)
  rw [numberF, h1]
  simp only [h2]
  decide
theorem num1 : numberF [111, 110, 101] = -1 := by
  have h1 : Lib.atoiAll [111, 110, 101] = Lib.atoiAll [] := by decide
  rw [numberF, h1]
  rfl
theorem find0 : findF c0 [108, 48] = 2 := by
  rw [findF, if_neg (by rintro (h | h); exact h c0_right; cases h)]
  rw [show nameAt c0 [108, 48] = -1 from rfl, if_neg (by omega)]
  rw [show List.drop 1 [(108 : UInt8), 48] = [48] from rfl, num0]
  decide
theorem find1 : findF c0 [110, 111, 110, 101] = -1 := by
  rw [findF, if_neg (by rintro (h | h); exact h c0_right; cases h)]
  rw [show nameAt c0 [110, 111, 110, 101] = -1 from rfl, if_neg (by omega)]
  rw [show List.drop 1 [(110 : UInt8), 111, 110, 101] = [111, 110, 101] from rfl, num1]
  decide
def f14 : Fm := .mk 14 [] 0 [aF [108, 48]]
def r14 : Fm := .mk 14 [] 0 [.mk 3 [] 2 []]
theorem size14 : 0 < sizeR f14 := by decide
theorem size3 : 0 < sizeR (aF [110, 111, 110, 101]) := by decide
theorem size0 : ¬ 0 < sizeR zF := by decide
theorem aw1 : ResolveF c0 f14 = (r14, 0) := by
  rw [ResolveF, if_pos ⟨c0_right, size14⟩]
  unfold f14 aF r14
  simp only [resF, resFL, litR, Fm.kind_mk, Fm.name_mk, find0]
  simp
theorem aw3 : ResolveF c0 (aF [110, 111, 110, 101]) = (zF, 42) := by
  rw [ResolveF, if_pos ⟨c0_right, size3⟩]
  unfold aF
  simp only [resF, resFL, litR, Fm.kind_mk, Fm.name_mk, find1]
  simp
theorem aw4 : ResolveF c0 zF = (zF, 1) := by rw [ResolveF, if_neg (fun h => size0 h.2)]
theorem aw2 : BaseF r14 = nF (tF 15 yesF (nF (.mk 3 [] 2 []))) := by
  rw [BaseF, if_pos (by decide)]
  rfl
theorem aw5 : BaseF zF = zF := by rw [BaseF, if_neg (by decide)]

theorem awake_ret (B : Array Obj) (G : Glob B) (hm : Tryz.prog.follows .mixedOrders = true) : PRet Tryz.prog B 10 [] (.bool true) := by
  refine pret_start Tryz.func10 Tryz.ntmps10 rfl (by decide) rfl (by simp) fun h hb => ?_
  refine pwp_seq (vcC_sound _ _ _ _ (sm ?_))
  refine pwp_seq (vcC_sound _ _ _ _ (sm ?_))
  refine PRet.use (Made4_nil B hm) (sm ?_)
  refine pwp_seq (vcC_sound _ _ _ _ (sm ?_))
  refine PRet.use ((Resolve_ret B G hm c0 c0_names f14).fgargs (by rfl)) ?_
  rw [aw1]
  simp only [r14, Fm.kind_mk, Fm.name_mk, Fm.lit_mk, Fm.kids_mk, List.map_cons, List.map_nil, dF_mk]
  refine sm ?_
  refine pwp_seq (vcC_sound _ _ _ _ (sm ?_))
  refine PRet.use ((Base_ret B hm r14).fgargs (by rfl)) ?_
  rw [aw2]
  simp only [nF, tF, yesF, Fm.kind_mk, Fm.name_mk, Fm.lit_mk, Fm.kids_mk, List.map_cons, List.map_nil, dF_mk]
  refine sm ?_
  refine pwp_seq (vcC_sound _ _ _ _ (sm ?_))
  refine PRet.use ((Resolve_ret B G hm c0 c0_names (aF [110, 111, 110, 101])).fgargs (by rfl)) ?_
  rw [aw3]
  simp only [zF, Fm.kind_mk, Fm.name_mk, Fm.lit_mk, Fm.kids_mk, List.map_cons, List.map_nil, dF_mk]
  refine sm ?_
  refine pwp_seq (vcC_sound _ _ _ _ (sm ?_))
  refine PRet.use ((Resolve_ret B G hm c0 c0_names zF).fgargs (by rfl)) ?_
  rw [aw4]
  simp only [zF, Fm.kind_mk, Fm.name_mk, Fm.lit_mk, Fm.kids_mk, List.map_cons, List.map_nil, dF_mk]
  refine sm ?_
  refine pwp_seq (vcC_sound _ _ _ _ (sm ?_))
  refine PRet.use ((Base_ret B hm zF).fgargs (by rfl)) ?_
  rw [aw5]
  simp only [zF, Fm.kind_mk, Fm.name_mk, Fm.lit_mk, Fm.kids_mk, List.map_cons, List.map_nil, dF_mk]
  refine sm ?_
  simp only [Fm.kind_mk, Fm.name_mk, Fm.lit_mk, Fm.kids_mk, List.map_cons, List.map_nil, dF_mk]
  rw [← List.append_nil (h ++ _)]
  refine pwp_drop [(2, .ptr (h.length + 1) 0), (3, .d (.int .i64 0)), (4, .ptr (h.length + 2) 0), (6, .d (.int .i64 42)), (8, .d (.int .i64 1)), (9, .ptr (h.length + 5) 0)] (hd1 hb) mt ?_
  refine vcC_sound _ _ _ _ (sm2 ?_)
  exact leaf
end Go.Proofs.YtgpbkphiipjjoaaGreatDoor.Pv
end

/- law10.BaseFew: few kinds, and made again it is the same. -/
section
namespace Go.Proofs.YtgpbkphiipjjoaaGreatDoor.Pv
open Go
set_option maxRecDepth 100000
set_option maxHeartbeats 4000000
set_option linter.unusedSimpArgs false

/-! the plain law -/
theorem fewK_iff (f : Fm) : fewK f = true ↔ (f.kind = 2 ∨ f.kind = 3 ∨ f.kind = 4 ∨ f.kind = 5 ∨ f.kind = 9 ∨ f.kind = 15 ∨ f.kind = 13) := by
  simp only [fewK, Bool.or_eq_true, decide_eq_true_eq]; omega
theorem okK_iff (f : Fm) : okK f = true ↔ (kidsF f.kind = f.kids.length ∧ f.name = [] ∧ (f.lit = 0 ∨ (0 < f.lit ∧ f.kind = 3))) := by
  simp only [okK, Bool.and_eq_true, Bool.or_eq_true, decide_eq_true_eq]
theorem kidsF_cases (f : Fm) (h : okK f = true) : (1 ≤ f.kind ∧ f.kind ≤ 18) ∧ (f.kids.length = 0 ↔ f.kind ≤ 3) ∧ f.kids.length ≤ 2 ∧ (f.kids.length = 1 ↔ (f.kind = 4 ∨ (9 ≤ f.kind ∧ f.kind ≤ 14))) := by
  have h1 := ((okK_iff f).1 h).1
  have h0 : 0 ≤ kidsF f.kind := by omega
  have hk : (1 ≤ f.kind ∧ f.kind ≤ 18) := by unfold kidsF at h0; split at h0 <;> omega
  have hv : kidsF f.kind = if f.kind ≤ 3 then 0 else if f.kind = 4 ∨ (9 ≤ f.kind ∧ f.kind ≤ 14) then 1 else 2 := by unfold kidsF; rw [if_neg (by omega)]
  rw [hv] at h1
  refine ⟨hk, ?_, ?_, ?_⟩
  · split at h1
    · omega
    · split at h1 <;> omega
  · split at h1
    · omega
    · split at h1 <;> omega
  · split at h1
    · omega
    · split at h1 <;> omega
theorem mayF_deep : ∀ (f : Fm) (m : Int), mayF f m = (deepF f m && allF okK f) := by
  intro f
  induction f using Fm.ind with
  | _ f ih =>
  intro m
  rw [mayF_eq, deepF_eq, allF_eq, Bool.eq_iff_iff]
  simp only [Bool.and_eq_true, decide_eq_true_eq, List.all_eq_true]
  constructor
  · rintro ⟨h1, h2, h3⟩
    refine ⟨⟨h1, fun x hx => ?_⟩, h2, fun x hx => ?_⟩
    · have := h3 x hx; rw [ih x hx, Bool.and_eq_true] at this; exact this.1
    · have := h3 x hx; rw [ih x hx, Bool.and_eq_true] at this; exact this.2
  · rintro ⟨⟨h1, h2⟩, h3, h4⟩
    refine ⟨h1, h3, fun x hx => ?_⟩
    rw [ih x hx, Bool.and_eq_true]; exact ⟨h2 x hx, h4 x hx⟩

/-- few kinds, rightly made -/
def Good (f : Fm) : Prop := allF fewK f = true ∧ allF okK f = true
theorem good_mk {k : Int} {ks : List Fm} (hk : k = 2 ∨ k = 3 ∨ k = 4 ∨ k = 5 ∨ k = 9 ∨ k = 15 ∨ k = 13) (hn : kidsF k = ks.length) (h : ∀ x, x ∈ ks → Good x) : Good (.mk k [] 0 ks) := by
  refine ⟨?_, ?_⟩
  · rw [allF_eq, Bool.and_eq_true, List.all_eq_true]
    exact ⟨(fewK_iff _).2 hk, fun x hx => (h x hx).1⟩
  · rw [allF_eq, Bool.and_eq_true, List.all_eq_true]
    exact ⟨(okK_iff _).2 ⟨hn, rfl, .inl rfl⟩, fun x hx => (h x hx).2⟩
theorem good_yes : Good yesF := good_mk (by omega) rfl (fun x hx => by simp at hx)
theorem good_n {f : Fm} (h : Good f) : Good (nF f) := good_mk (by omega) rfl (fun x hx => by rw [List.mem_singleton] at hx; rw [hx]; exact h)
theorem good_o {k : Int} {f : Fm} (hk : k = 4 ∨ k = 9 ∨ k = 13) (h : Good f) : Good (oF k f) := good_mk (by omega) (by rcases hk with rfl | rfl | rfl <;> rfl) (fun x hx => by rw [List.mem_singleton] at hx; rw [hx]; exact h)
theorem good_t {k : Int} {f g : Fm} (hk : k = 5 ∨ k = 15) (h : Good f) (h' : Good g) : Good (tF k f g) := good_mk (by omega) (by rcases hk with rfl | rfl <;> rfl) (fun x hx => by
  simp only [List.mem_cons, List.not_mem_nil, or_false] at hx
  rcases hx with rfl | rfl
  · exact h
  · exact h')
theorem good_ite {p : Prop} [Decidable p] {a b : Fm} (h1 : p → Good a) (h2 : ¬p → Good b) : Good (if p then a else b) := by
  by_cases h : p
  · rw [if_pos h]; exact h1 h
  · rw [if_neg h]; exact h2 h
theorem base_good (f : Fm) : allF okK f = true → Good (baseF f) := by
  induction f using Fm.ind with
  | _ f ih =>
  intro h
  have h' := h
  rw [allF_eq, Bool.and_eq_true, List.all_eq_true] at h
  obtain ⟨h1, h2⟩ := h
  have hc := kidsF_cases f h1
  have g (i : Nat) (hi : i < f.kids.length) : Good ((f.kids.map baseF).getD i default) := by
    rw [getD_map_f hi]; exact ih _ (getD_memF hi) (h2 _ (getD_memF hi))
  rw [baseF_eq]
  have ga (hk : 4 ≤ f.kind) : Good ((f.kids.map baseF).getD 0 default) := g 0 (by omega)
  have gb (hk : 4 ≤ f.kind) (hk2 : ¬ (f.kind = 4 ∨ (9 ≤ f.kind ∧ f.kind ≤ 14))) : Good ((f.kids.map baseF).getD 1 default) := g 1 (by omega)
  generalize (f.kids.map baseF).getD 0 default = a at *
  generalize (f.kids.map baseF).getD 1 default = b at *
  unfold baseK
  refine good_ite (fun k0 => good_n good_yes) (fun k0 => ?_)
  refine good_ite (fun k1 => by
      refine ⟨?_, h'⟩
      have hz : f.kids = [] := List.eq_nil_of_length_eq_zero (by omega)
      rw [allF_eq, hz, Bool.and_eq_true]
      exact ⟨(fewK_iff f).2 (by omega), rfl⟩) (fun k1 => ?_)
  refine good_ite (fun k2 => good_o (by omega) (ga (by omega))) (fun k2 => ?_)
  refine good_ite (fun k3 => good_t (by omega) (ga (by omega)) (gb (by omega) (by omega))) (fun k3 => ?_)
  refine good_ite (fun k4 => good_n (good_t (by omega) (good_n (ga (by omega))) (good_n (gb (by omega) (by omega))))) (fun k4 => ?_)
  refine good_ite (fun k5 => good_n (good_t (by omega) (ga (by omega)) (good_n (gb (by omega) (by omega))))) (fun k5 => ?_)
  refine good_ite (fun k6 => good_t (by omega) (good_n (good_t (by omega) (ga (by omega)) (good_n (gb (by omega) (by omega))))) (good_n (good_t (by omega) (gb (by omega) (by omega)) (good_n (ga (by omega)))))) (fun k6 => ?_)
  refine good_ite (fun k7 => good_n (good_o (by omega) (good_n (ga (by omega))))) (fun k7 => ?_)
  refine good_ite (fun k8 => good_t (by omega) good_yes (ga (by omega))) (fun k8 => ?_)
  refine good_ite (fun k9 => good_n (good_o (by omega) (good_n (ga (by omega))))) (fun k9 => ?_)
  refine good_ite (fun k10 => good_n (good_t (by omega) good_yes (good_n (ga (by omega))))) (fun k10 => ?_)
  refine good_ite (fun k11 => good_t (by omega) (good_n (good_t (by omega) (good_n (gb (by omega) (by omega))) (good_t (by omega) (good_n (ga (by omega))) (good_n (gb (by omega) (by omega)))))) (good_n (good_o (by omega) (good_n (gb (by omega) (by omega)))))) (fun k11 => ?_)
  refine good_ite (fun k12 => good_n (good_t (by omega) (good_n (good_o (by omega) (gb (by omega) (by omega)))) (good_n (good_t (by omega) (gb (by omega) (by omega)) (good_t (by omega) (ga (by omega)) (gb (by omega) (by omega))))))) (fun k12 => ?_)
  exact good_n (good_t (by omega) (good_n (ga (by omega))) (good_n (gb (by omega) (by omega))))
/-- what has few kinds stays as it is -/
theorem base_same (f : Fm) : Good f → baseF f = f := by
  induction f using Fm.ind with
  | _ f ih =>
  rintro ⟨h1, h2⟩
  rw [allF_eq, Bool.and_eq_true, List.all_eq_true] at h1 h2
  have hk := (fewK_iff f).1 h1.1
  have ho := (okK_iff f).1 h2.1
  have hc := kidsF_cases f h2.1
  have hmap : f.kids.map baseF = f.kids := by
    conv => rhs; rw [← List.map_id f.kids]
    exact List.map_congr_left fun x hx => ih x hx ⟨h1.2 x hx, h2.2 x hx⟩
  rw [baseF_eq, hmap, baseK]
  by_cases k23 : f.kind = 2 ∨ f.kind = 3
  · rw [if_neg (by omega), if_pos k23]
  · have hl : f.lit = 0 := by omega
    rw [if_neg (by omega), if_neg k23]
    by_cases k1 : f.kind = 4 ∨ f.kind = 9 ∨ f.kind = 13
    · rw [if_pos k1]
      exact Fm.ext' rfl ho.2.1.symm hl.symm (eq_of_len1 (by omega)).symm
    · rw [if_neg k1, if_pos (by omega)]
      exact Fm.ext' rfl ho.2.1.symm hl.symm (eq_of_len2 (by omega)).symm

/-! formulas by numbers may be resolved ones -/
def wfM (f : Fm) : Bool := decide (kidsF f.kind = f.kids.length) && (decide (f.kind ≠ 3) || decide (f.name.length ≤ 100))
theorem words8_le (n : Nat) (h : n < 7) : (words8.getD n []).length ≤ 100 := by
  have : n = 0 ∨ n = 1 ∨ n = 2 ∨ n = 3 ∨ n = 4 ∨ n = 5 ∨ n = 6 := by omega
  rcases this with rfl | rfl | rfl | rfl | rfl | rfl | rfl <;> decide
theorem madeN_M {l : List Int} (hl : ∀ x, x ∈ l → 0 ≤ x ∧ x < 65536) {g : Nat → Fm × Nat} (d i : Nat) (hg : 0 < d → ∀ j, allF wfM (g j).1 = true) : allF wfM (madeN l d i g).1 = true := by
  have r1 := mk1_range hl d i
  have hk0 : 0 ≤ kidsF (mk1 l d i).1 := by unfold kidsF; rw [if_neg (by omega)]; split; omega; split <;> omega
  have hk3 : d = 0 → kidsF (mk1 l d i).1 = 0 := fun h0 => by
    have := r1.2.2.2.2 h0
    unfold kidsF; rw [if_neg (by omega), if_pos this]
  rw [allF_eq, Bool.and_eq_true]
  refine ⟨?_, ?_⟩
  · have e : (madeN l d i g).1 = .mk (mk1 l d i).1 (mk2 l (mk1 l d i).1 (mk1 l d i).2).1 0 (madeK g (kidsF (mk1 l d i).1).toNat (mk2 l (mk1 l d i).1 (mk1 l d i).2).2).1 := rfl
    rw [e]
    simp only [wfM, Fm.kids_mk, Fm.kind_mk, Fm.name_mk, madeK_len, Bool.and_eq_true, Bool.or_eq_true, decide_eq_true_eq]
    refine ⟨by omega, ?_⟩
    by_cases h3 : (mk1 l d i).1 = 3
    · refine .inr ?_
      have := pk_range l hl (mk1 l d i).2 7 (by omega)
      rw [mk2, if_pos h3]
      exact decide_eq_true (words8_le (pk l (mk1 l d i).2 7).toNat (by omega))
    · exact .inl (decide_eq_true h3)
  · show List.all (madeK g (kidsF (mk1 l d i).1).toNat (mk2 l (mk1 l d i).1 (mk1 l d i).2).2).1 _ = true
    rw [List.all_eq_true]
    rcases Nat.eq_zero_or_pos d with h0 | h0
    · rw [hk3 h0]; intro x hx; simp [madeK] at hx
    · exact madeK_all (p := fun x => allF wfM x = true) (hg h0) _ _
theorem madeF_M {l : List Int} (hl : ∀ x, x ∈ l → 0 ≤ x ∧ x < 65536) : ∀ d i, allF wfM (madeF l d i).1 = true
  | 0, i => by rw [madeF]; exact madeN_M hl 0 i (fun h => absurd h (by omega))
  | d + 1, i => by rw [madeF]; exact madeN_M hl (d + 1) i (fun _ j => madeF_M hl d j)
theorem madeN_deep {l : List Int} (hl : ∀ x, x ∈ l → 0 ≤ x ∧ x < 65536) {g : Nat → Fm × Nat} (d i : Nat) (m : Int) (hm : 0 < m) (hg : 0 < d → ∀ j, deepF (g j).1 (m - 1) = true) : deepF (madeN l d i g).1 m = true := by
  have r1 := mk1_range hl d i
  have hk3 : d = 0 → kidsF (mk1 l d i).1 = 0 := fun h0 => by
    have := r1.2.2.2.2 h0
    unfold kidsF; rw [if_neg (by omega), if_pos this]
  rw [deepF_eq, Bool.and_eq_true]
  refine ⟨decide_eq_true hm, ?_⟩
  show List.all (madeK g (kidsF (mk1 l d i).1).toNat (mk2 l (mk1 l d i).1 (mk1 l d i).2).2).1 _ = true
  rw [List.all_eq_true]
  rcases Nat.eq_zero_or_pos d with h0 | h0
  · rw [hk3 h0]; intro x hx; simp [madeK] at hx
  · exact madeK_all (p := fun x => deepF x (m - 1) = true) (hg h0) _ _
theorem madeF_deep {l : List Int} (hl : ∀ x, x ∈ l → 0 ≤ x ∧ x < 65536) : ∀ (d i : Nat) (m : Int), (d : Int) < m → deepF (madeF l d i).1 m = true
  | 0, i, m, h => by rw [madeF]; exact madeN_deep hl 0 i m (by omega) (fun h => absurd h (by omega))
  | d + 1, i, m, h => by rw [madeF]; exact madeN_deep hl (d + 1) i m (by omega) (fun _ j => madeF_deep hl d j (m - 1) (by omega))
theorem lits_deep (many : Int) (f : Fm) : ∀ m, deepF (litsF many f) m = deepF f m := by
  induction f using Fm.ind with
  | _ f ih =>
  intro m
  rw [litsF_eq, deepF_eq, deepF_eq, Fm.kids_mk, List.all_map]
  congr 1
  rw [Bool.eq_iff_iff, List.all_eq_true, List.all_eq_true]
  constructor
  · intro h x hx; have := h x hx; rwa [Function.comp, ih x hx] at this
  · intro h x hx; rw [Function.comp, ih x hx]; exact h x hx
theorem lits_ok (many : Int) (f : Fm) : allF wfM f = true → allF okK (litsF many f) = true := by
  induction f using Fm.ind with
  | _ f ih =>
  intro h
  rw [allF_eq, Bool.and_eq_true, List.all_eq_true] at h
  rw [litsF_eq, allF_eq, Bool.and_eq_true, Fm.kids_mk, List.all_map, List.all_eq_true]
  refine ⟨?_, fun x hx => ih x hx (h.2 x hx)⟩
  have h1 := h.1
  simp only [wfM, Bool.and_eq_true, Bool.or_eq_true, decide_eq_true_eq] at h1
  rw [okK_iff]
  simp only [Fm.kind_mk, Fm.kids_mk, Fm.name_mk, Fm.lit_mk, List.length_map]
  refine ⟨h1.1, trivial, ?_⟩
  unfold litV
  by_cases h3 : f.kind = 3
  · rw [if_pos h3]
    have hb : (f.name.getD 0 0).toNat < 256 := (f.name.getD 0 0).toNat_lt
    have hl : f.name.length ≤ 100 := h1.2.resolve_left (fun h => h h3)
    rw [w64 (n := (f.name.length : Int) * 7), w64 (n := (f.name.length : Int) * 7 + (f.name.getD 0 0).toNat)]
    have := Int.tmod_nonneg (max many 1) (show 0 ≤ (f.name.length : Int) * 7 + (f.name.getD 0 0).toNat by omega)
    omega
  · rw [if_neg h3]; exact .inl rfl
theorem Resolved_may {l : List Int} (hl : ∀ x, x ∈ l → 0 ≤ x ∧ x < 65536) (many : Int) : mayF (ResolvedF l many) 60 = true := by
  rw [mayF_deep, ResolvedF, lits_deep, madeF_deep hl 6 0 60 (by omega), lits_ok many _ (madeF_M hl 6 0)]; rfl

theorem few_law {l : List Int} (hl : ∀ x, x ∈ l → 0 ≤ x ∧ x < 65536) (many : Int) : allF fewK (BaseF (ResolvedF l many)) = true ∧ (deepF (BaseF (ResolvedF l many)) 60 = true → BaseF (BaseF (ResolvedF l many)) = BaseF (ResolvedF l many)) := by
  have hm := Resolved_may hl many
  have hok : allF okK (ResolvedF l many) = true := mayF_all _ _ hm
  have hg := base_good _ hok
  have e : BaseF (ResolvedF l many) = baseF (ResolvedF l many) := by rw [BaseF, if_pos hm]
  rw [e]
  refine ⟨hg.1, fun hd => ?_⟩
  rw [BaseF, if_pos (by rw [mayF_deep, hd, hg.2]; rfl)]
  exact base_same _ hg

theorem BaseFew_ret (B : Array Obj) (G : Glob B) (hm : Tryz.prog.follows .mixedOrders = true) (l : List Int) (cl : Bool) (hl : ∀ x, x ∈ l → 0 ≤ x ∧ x < 65536) (many : Int) (hmany : 0 ≤ many ∧ many < 256) :
    PRet Tryz.prog B 4 [.d (.sl (l.map (D.int .u8)) cl), .d (.int .u8 many)] (.bool true) := by
  have hlaw := few_law hl many
  refine pret_start Tryz.func4 Tryz.ntmps4 rfl (by decide) rfl (by simp) fun h hb => ?_
  refine vcC_sound _ _ _ _ (sm ?_)
  refine PRet.use (awake_ret B G hm) (sm ?_)
  rw [w64 (n := many)]
  refine PRet.use (Resolved_ret B hm l cl hl many) (sm ?_)
  refine PRet.use (Base_ret B hm (ResolvedF l many)) (sm ?_)
  refine pwp_drawn [.q, .q, .r 0 0, .q, .q, .q, .r 0 0, .q, .q, .q, .r 0 0, .q, .r 0 0, .q, .q, .q, .q] hm (by kernel_rfl) (sm ?_)
  refine exQ.use (few_ret B (BaseF (ResolvedF l many))) ?_
  rw [hlaw.1]
  refine sm ?_
  refine exQ.use (deep_ret B (BaseF (ResolvedF l many)) 60 (by omega) (by omega)) (sm ?_)
  refine ⟨fun h1 => ?_, fun h1 => ?_⟩
  · have hd : deepF (BaseF (ResolvedF l many)) 60 = true := by rw [Bool.not_eq_false'] at h1; exact h1
    have hs := hlaw.2 hd
    refine exQ.use (Base_ret B hm (BaseF (ResolvedF l many))) ?_
    rw [hs]
    refine sm ?_
    refine exQ.use (same_ret B hm (BaseF (ResolvedF l many)) (BaseF (ResolvedF l many))) (sm ?_)
    exact .inl (by simp [sameF])
  · exact leaf
end Go.Proofs.YtgpbkphiipjjoaaGreatDoor.Pv
end

/- The row's own form: from the reading of arguments to data, and back. -/
section
namespace Go.Proofs.YtgpbkphiipjjoaaGreatDoor.Pv
open Go Go.ChangeShapes Go.WideShapes Go.ChangeAt Go.RowKit
set_option maxRecDepth 100000
set_option linter.unusedSimpArgs false

/-- nothing that was there has turned -/
def Old (W W' : World) : Prop := W'.os = W.os ∧ W'.output = W.output ∧ ∀ i, i < W.heap.size → W'.heap[i]? = W.heap[i]?

theorem Old.keptBut {W W' : World} (h : Old W W') (may : MemPlace → Prop) : W.keptBut W' may := by
  refine ⟨h.1, h.2.1, fun i hi => ?_⟩
  rw [h.2.2 i hi]
  cases hw : W.heap[i]? with
  | none => trivial
  | some o =>
    cases o <;> first | exact ⟨rfl, rfl, rfl, fun _ _ => rfl⟩ | exact .inr ⟨rfl, rfl⟩ | rfl
theorem Old.frozen {W W' : World} (h : Old W W') {a : Addr} (ha : a.block < W.heap.size) : W'.frozen? a = W.frozen? a := by
  unfold World.frozen?; rw [h.2.2 _ ha]
theorem Old.cell {W W' : World} (h : Old W W') {a : Addr} {v : Value} (ha : W.cell? a = some v) : W'.cell? a = some v := by
  have hb : a.block < W.heap.size := by
    refine Classical.byContradiction fun hc => ?_
    unfold World.cell? at ha
    rw [Array.getElem?_eq_none (by omega)] at ha
    cases ha
  unfold World.cell? at ha ⊢
  rw [h.2.2 _ hb]; exact ha
theorem cell_lt {W : World} {a : Addr} {v : Value} (ha : W.cell? a = some v) : a.block < W.heap.size ∧ a.spot = none := by
  unfold World.cell? at ha
  constructor
  · refine Classical.byContradiction fun hc => ?_
    rw [Array.getElem?_eq_none (by omega)] at ha
    cases ha
  · split at ha
    · split at ha
      · cases ha
      · rename_i h; simpa using h
    · cases ha

section
variable {H : Type} {enc : TypeId × Value → H} {P : Program}
theorem post_old {f : Func} {s : ChangeSpec} {apart fresh handsOn again : Bool} {W W' : World} {args : Array Value} {v : Value} {ds gs : List (DataW H)} {before pa pv : List MemPlace}
    (hW : DataW.Whole enc P f.params.toList s.vars apart W args.toList ds gs before)
    (hres : ∀ (b : Nat) (sp : Nat → Bool) (hd : Bool), DataW.TrodAll enc P W' b sp hd f.resultTypes.toList (v.resultList f.resultTypes.size) (s.fn H (ds ++ gs)).results [])
    (hargs : ∀ sp : Nat → Bool, (∀ p ∈ before, sp p.block = true) → DataW.TrodAll enc P W' 0 sp true f.params.toList args.toList (s.fn H (ds ++ gs)).args pa)
    (hvars : ∀ sp : Nat → Bool, (∀ p ∈ before, sp p.block = true) → DataW.TrodVars enc P W' sp s.vars (s.fn H (ds ++ gs)).vars pv)
    (hps : before = pa ++ pv) (hold : Old W W')
    (hok : ∀ (j : Nat) (t : TypeId) (r : Value), f.resultTypes[j]? = some t → (v.resultList f.resultTypes.size)[j]? = some r → Value.okWide P W' .any 0 t r) :
    s.post enc P f apart fresh handsOn again W args v W' := by
  have hlt := hW.lt
  have hsp : ∀ p ∈ before, (fun b => decide (b < W.heap.size)) p.block = true := fun p hp => by simpa using hlt p hp
  refine ⟨ds, gs, before, [], pa, pv, hW, hres _ _ _, hargs _ hsp, hvars _ hsp, hold.keptBut _, fun _ => ?_⟩
  obtain ⟨_, _, _, _, _, hz, hn⟩ := hW
  refine ⟨hok, _, _, ([] ++ pa) ++ pv, ⟨[] ++ pa, pv, trodAll_append (hargs _ (fun _ _ => rfl)) (hres _ _ _), hvars _ (fun _ _ => rfl), rfl, ?_, ?_⟩, ?_⟩
  · intro b off hp
    have hp' : MemPlace.cell b off ∈ before := by rw [hps]; simpa using hp
    rw [hold.frozen (hlt _ hp')]
    exact hz b off hp'
  · intro ha
    have := hn ha
    rw [hps] at this
    simpa using this
  · intro p hp _
    rw [hps]
    simpa using hp

/-- the memory at the call's begin, as the layer sees it -/
def e0 (W : World) : Env := { I := fun b => b < W.heap.size, G := fun _ _ => none, n := 0 }
theorem sim0 (W : World) : Sim W.heap (e0 W) [] W :=
  ⟨rfl, fun _ hb => ⟨hb, rfl⟩, fun _ hb => hb, fun _ _ _ h => absurd h (Nat.not_lt_zero _), fun _ _ h => by simp at h, fun _ _ _ _ _ h => by simp at h⟩

/-- what an argument of bytes, or of integers, is -/
theorem arg_int {W : World} {t : TypeId} {k : IntKind} {v : Value} {d : DataW H} {ps : List MemPlace} (ht : P.underlying t = some (.int k)) (hval : Value.okWide P W .any 0 t v) (hd : DataW.Trod enc P W 0 (fun _ => true) true t v d ps) :
    ∃ n, v = .int k n ∧ ps = [] ∧ (Lit.int k n).wf = true ∧ ∀ (W' : World) (sp : Nat → Bool), DataW.Trod enc P W' 0 sp true t v d [] := by
  obtain ⟨n, rfl, rfl, rfl, hw⟩ := open_int ht hval hd
  exact ⟨n, rfl, rfl, hw, fun W' sp => shut_int ht hw⟩

theorem arg_ints {W : World} {t e : TypeId} {k : IntKind} {v : Value} {d : DataW H} {ps : List MemPlace} {b0 : Nat} (ht : P.underlying t = some (.slice e)) (he : P.underlying e = some (.int k)) (hc : P.cellsOf e = 1)
    (hval : Value.okWide P W .any b0 t v) (hd : DataW.Trod enc P W 0 (fun _ => true) true t v d ps) :
    ∃ l : List Int, RD W (e0 W).I (.sl (l.map (D.int k)) false) v ∧ (∀ x, x ∈ l → (Lit.int k x).wf = true) ∧
      ∀ (W' : World) (sp : Nat → Bool), Old W W' → (∀ p ∈ ps, sp p.block = true) → DataW.Trod enc P W' 0 sp true t v d ps := by
  obtain ⟨a, len, cap, rfl⟩ := okWide_slice ht hval
  obtain ⟨fuel, hf⟩ := hd
  rcases open_ints ht he hc hf with ⟨hcs, hx⟩ | ⟨a', len', cap', zs, hcs, _, hl, hm, hz, hx, hcell, hwz⟩
  · simp only [Value.cells, List.cons.injEq, Value.slice.injEq, and_true] at hcs
    obtain ⟨rfl, rfl, rfl⟩ := hcs
    simp only [Prod.mk.injEq] at hx
    obtain ⟨rfl, rfl⟩ := hx
    exact ⟨[], .slnil _ _ _ (by simp), by simp, fun W' sp _ _ => shut_slice_nil ht⟩
  · simp only [Value.cells, List.cons.injEq, Value.slice.injEq, and_true] at hcs
    obtain ⟨rfl, rfl, rfl⟩ := hcs
    simp only [Prod.mk.injEq] at hx
    obtain ⟨rfl, rfl⟩ := hx
    simp only [if_true] at hz
    have again : ∀ (W' : World) (sp : Nat → Bool), Old W W' → (∀ p ∈ MemPlace.row a' zs.length, sp p.block = true) →
        DataW.Trod enc P W' 0 sp true t (.slice (some a') len cap) (.slice (ChangeShapes.lits k (zs.take len)) (ChangeShapes.lits k (zs.drop len))) (MemPlace.row a' zs.length) := by
      intro W' sp hold hsp
      refine ⟨0 + 2, shut_ints 0 ht he hc (Nat.zero_le _) hl hm ?_ (fun i hi => hold.cell (hcell i hi)) hwz⟩
      by_cases h0 : 0 < cap
      · have : sp a'.block = true := by
          have := hsp (.cell a'.block a'.off) (by
            unfold MemPlace.row
            rw [List.mem_map]
            exact ⟨0, List.mem_range.2 (by omega), by simp⟩)
          exact this
        rw [if_pos this]; exact hz
      · split <;> omega
    refine ⟨zs.take len, ?_, fun x hx => hwz x (List.mem_of_mem_take hx), again⟩
    by_cases h0 : len = 0
    · subst h0
      rw [List.take_zero]
      exact .slnil _ _ _ (by simp)
    · have hsp : a'.spot = none := by
        have := hcell 0 (by omega)
        rw [Addr.add, if_pos rfl] at this
        exact (cell_lt this).2
      obtain ⟨b, off, spot⟩ := a'
      dsimp only at hsp
      subst hsp
      have hlen : (List.map (D.int k) (zs.take len)).length = len := by rw [List.length_map, List.length_take]; omega
      have hg : ∀ i, i < len → (List.map (D.int k) (zs.take len)).getD i default = .int k (zs.getD i 0) := fun i hi => by
        have h1 : i < zs.length := by omega
        simp [List.getD_eq_getElem?_getD, List.getElem?_take, hi, h1]
      have hcell' : ∀ i, i < zs.length → W.cell? ⟨b, off + i, none⟩ = some (.int k (zs.getD i 0)) := fun i hi => by
        have := hcell i hi
        unfold Addr.add at this
        split at this
        · rename_i h; subst h; exact this
        · exact this
      have key := RD.sl (w := W) (I := (e0 W).I) (List.map (D.int k) (zs.take len)) false b off cap 1 (fun i _ => .int k (zs.getD i 0)) ((cell_lt (hcell 0 (by omega))).1)
        (by rw [hlen]; exact ⟨hl, Nat.le_trans hm (by decide)⟩) (by simp) (fun i hi => by rw [hg i (by omega)]; rfl)
        (fun i j hi hj => by rw [hg i (by omega)]; rfl)
        (fun i j hi hj => by
          have : j = 0 := by omega
          subst this
          rw [Nat.mul_one, Nat.add_zero]
          exact hcell' i (by omega))
        (fun i j hi hj => by rw [hg i (by omega)]; exact .int _ _)
      rw [hlen] at key
      exact key

/-- THE CALL: of a law that answers true of data, nothing that was there turns. -/
theorem law_calls {W : World} {f : FuncId} {fn : Func} {args : List PV} {vs : Array Value} (hf : P.funcs[f]? = some fn) (hname : (fn.name == "runtime.NumGoroutine") = false) (hbody : fn.body.isNone = false)
    (c : PRet P W.heap f args (.bool true)) (r : RVs W (e0 W) args vs) : Calls P f vs W fun en W' => en = .returned (.bool true) ∧ Old W W' := by
  have henter := run_callFunc (P := P) (f := f) ⟨fn, hf, hname, hbody⟩ vs W
  rcases c [] (e0 W) W vs (sim0 W) r with ⟨_, k⟩ | ⟨v, w', h1, _⟩
  · refine k.mono ?_
    rintro en W' ⟨r', e', h', ⟨rfl, rfl⟩, hr, hs, hx⟩
    cases en with
    | returned v =>
      refine ⟨?_, hx.os, hx.output, fun i hi => hx.mem i hi⟩
      have := rv_d hr
      cases this
      rfl
    | _ => exact hr.elim
  · rw [henter] at h1
    cases h1
end

/-- what the list of the row's variables gives -/
theorem memW_var (W : World) (P : Program) (n : String) : (memW W.heap).var? P n = W.var? P n := rfl
theorem err_row (u : TypeId) (h : Tryz.prog.typeName? 3 u = some "*errors.errorString") : u = 169 :=
  typeName_ptr_named (nm := "errors.errorString") (by rw [show "*" ++ "errors.errorString" = "*errors.errorString" by decide]; kernel_rfl) (by kernel_rfl) (by decide) u (by rw [show "*" ++ "errors.errorString" = "*errors.errorString" by decide]; exact h)
end Go.Proofs.YtgpbkphiipjjoaaGreatDoor.Pv
end


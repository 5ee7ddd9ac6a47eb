/- base.Base, ref10.Base: formulas by few kinds. -/
import Derived.Test.YtgpbkphiipjjoaaGreatDoorMc
import Derived.Laws.LoneSync
import Derived.Defers
import Derived.Lib.Bytealg
import Derived.Shelf.LaysM
import Derived.Shelf.LaysC
import Derived.Shelf.Strconv.Itoa3
import Derived.Shelf.Strconv.AtoiAll
import Derived.Shelf.Strconv.ErrVarAll
import Derived.Test.YtgpbkphiipjjoaaGreatDoorProg
import Derived.Lib.ItoaLen


section
namespace Go.Proofs.YtgpbkphiipjjoaaGreatDoor.Pv
open Go
set_option maxRecDepth 100000
set_option maxHeartbeats 4000000
set_option linter.unusedSimpArgs false

def zF : Fm := .mk 0 [] 0 []
def BaseF (f : Fm) : Fm := if mayF f 60 = true then baseF f else zF

theorem mayF_all : ∀ (f : Fm) (m : Int), mayF f m = true → allF okK f = true := by
  intro f
  induction f using Fm.ind with
  | _ f ih =>
  intro m h
  rw [mayF_eq, Bool.and_eq_true, Bool.and_eq_true, List.all_eq_true] at h
  rw [allF_eq, Bool.and_eq_true, List.all_eq_true]
  exact ⟨h.2.1, fun x hx => ih x hx _ (h.2.2 x hx)⟩
theorem allF_mono {p q : Fm → Bool} (hpq : ∀ f, p f = true → q f = true) : ∀ f, allF p f = true → allF q f = true := by
  intro f
  induction f using Fm.ind with
  | _ f ih =>
  intro h
  rw [allF_eq, Bool.and_eq_true, List.all_eq_true] at h ⊢
  exact ⟨hpq f h.1, fun x hx => ih x hx (h.2 x hx)⟩

theorem Rules.own2 (h : List PObj) (a b : PObj) : Rules (h ++ a :: b :: rulesO (h.length + 2)) (h.length + 2) := by
  constructor <;> simp [rulesO, List.getElem?_append_right, Nat.add_assoc]

theorem RBase_ret (B : Array Obj) (hm : Tryz.prog.follows .mixedOrders = true) (f : Fm) : PRet Tryz.prog B 13 [.d (dFu f)] (dFu (BaseF f)) := by
  refine pret_start Tryz.func13 Tryz.ntmps13 rfl (by decide) rfl (by simp) fun h hb => ?_
  refine vcC_sound _ _ _ _ (sm ?_)
  refine PRet.use (may_ret B hm f 60 (by omega) (by omega)) (sm ?_)
  refine ⟨fun h1 => ?_, fun h1 => ?_⟩
  · have h1 : mayF f 60 = false := by simpa using h1
    rw [BaseF, if_neg (by rw [h1]; simp)]
    exact leaf
  · have h1 : mayF f 60 = true := by simpa using h1
    rw [BaseF, if_pos h1]
    refine PRet.use (rbase_ret B hm f (allF_mono (fun f hf => by simp only [okK, Bool.and_eq_true] at hf; exact hf.1) f (mayF_all f 60 h1))) (sm ?_)
    exact .inl rfl

theorem Base_ret (B : Array Obj) (hm : Tryz.prog.follows .mixedOrders = true) (f : Fm) : PRet Tryz.prog B 12 [.d (dFu f)] (dFu (BaseF f)) := by
  refine pret_start Tryz.func12 Tryz.ntmps12 rfl (by decide) rfl (by simp) fun h hb => ?_
  refine vcC_sound _ _ _ _ (sm ?_)
  refine PRet.use (resolved_ret B hm f 60 (by omega) (by omega)) (sm ?_)
  refine ⟨fun h1 => ?_, fun h1 => ?_⟩
  · have h1 : mayF f 60 = false := by simpa using h1
    rw [BaseF, if_neg (by rw [h1]; simp)]
    exact leaf
  · have h1 : mayF f 60 = true := by simpa using h1
    rw [BaseF, if_pos h1]
    refine pwp_drawn [.r 0 1, .e, .r 0 0, .e] hm (by kernel_rfl) (sm ?_)
    refine exE.use (rules_ret B _) (sm trivial) (sm ?_)
    refine exR.use (base_rc B hm f (mayF_all f 60 h1) _ (h.length + 2) (Rules.own2 h _ _)) (sm trivial) (sm ?_)
    exact .inl rfl
end Go.Proofs.YtgpbkphiipjjoaaGreatDoor.Pv
end

/- law08.Made: formulas by numbers. -/
section
namespace Go.Proofs.YtgpbkphiipjjoaaGreatDoor.Pv
open Go
set_option maxRecDepth 100000
set_option maxHeartbeats 4000000
set_option linter.unusedSimpArgs false

/-- what is picked of a list of numbers at a place -/
def pk (l : List Int) (i : Nat) (n : Int) : Int := if l.length ≤ i then 0 else (l.getD i 0).tmod n
theorem pk_range (l : List Int) (hl : ∀ x, x ∈ l → 0 ≤ x ∧ x < 65536) (i : Nat) (n : Int) (hn : 0 < n) : 0 ≤ pk l i n ∧ pk l i n < n := by
  unfold pk
  split
  · omega
  · have h : i < l.length := by omega
    have := hl (l.getD i 0) (by rw [List.getD_eq_getElem?_getD, List.getElem?_eq_getElem h]; exact List.getElem_mem h)
    exact ⟨Int.tmod_nonneg _ this.1, Int.tmod_lt_of_pos _ hn⟩
theorem getDL {l : List Int} {i : Nat} {k : IntKind} (h : i < l.length) : (l.map (D.int k)).getD i default = .int k (l.getD i 0) := by
  simp [List.getD_eq_getElem?_getD, List.getElem?_eq_getElem h]

def iC (n : Int) : PObj := .cells [.d (.int .i64 n)]
theorem pick8 (B : Array Obj) (l : List Int) (hl : ∀ x, x ∈ l → 0 ≤ x ∧ x < 65536) (at_ : Nat) (hat : at_ < 1000000000) (n : Int) (hn : 0 < n) (h : List PObj) (ia il : Nat) (cl : Bool) (hia : h[ia]? = some (iC at_)) (hil : h[il]? = some (.cells [.d (.sl (l.map (D.int .u8)) cl)])) (hne : ia ≠ il) :
    PCalls Tryz.prog B 16 [.d (.int .i64 n), .ptr ia 0, .ptr il 0] h fun r h' => r = .ret (.d (.int .i64 (pk l at_ n))) ∧ h' = h.set ia (iC (at_ + 1)) := by
  have hlt := hget_lt hia
  refine wc_start Tryz.func16 Tryz.ntmps16 rfl (by decide) rfl (by simp) (by simp) (fun hb => hb_set hb (by rw [iC, ob_cells]; simp [pb_d])) fun hb => ?_
  refine vcC_sound _ _ _ _ (sm ?_)
  have gs : ∀ c, (h.set ia c)[ia]? = some c := fun c => by have := hget_set hlt [] c; rwa [List.append_nil] at this
  have gl : ∀ c, (h.set ia c)[il]? = some (.cells [.d (.sl (l.map (D.int .u8)) cl)]) := fun c => by have := hget_set_ne hil hne [] c; rwa [List.append_nil] at this
  unfold iC at hia
  repeat (simp only [hia, hil, gs, gl]; refine sm ?_)
  rw [w64 (n := (at_ : Int) + 1)]
  refine fun hlen => ⟨fun h1 => ?_, fun h1 => ?_⟩
  · have h1 := of_decide_eq_true h1
    exact ⟨⟨_, rfl, .inl (by rw [pk, if_pos (by omega)])⟩, [], by simp [iC]⟩
  · have h1 := of_decide_eq_false h1
    have hi : at_ < l.length := by omega
    rw [w64 (n := (at_ : Int) + 1 - 1), show (at_ : Int) + 1 - 1 = at_ by omega]
    simp only [Int.toNat_natCast, getDL (k := .u8) hi]
    refine sm ?_
    have hx := hl (l.getD at_ 0) (by rw [List.getD_eq_getElem?_getD, List.getElem?_eq_getElem hi]; exact List.getElem_mem hi)
    rw [w64 (n := l.getD at_ 0)]
    exact ⟨by omega, by omega, ⟨_, rfl, .inl (by rw [pk, if_neg (by omega)])⟩, [], by simp [iC]⟩

theorem pick4 (B : Array Obj) (l : List Int) (hl : ∀ x, x ∈ l → 0 ≤ x ∧ x < 65536) (at_ : Nat) (hat : at_ < 1000000000) (n : Int) (hn : 0 < n) (h : List PObj) (ia il : Nat) (cl : Bool) (hia : h[ia]? = some (iC at_)) (hil : h[il]? = some (.cells [.d (.sl (l.map (D.int .u16)) cl)])) (hne : ia ≠ il) :
    PCalls Tryz.prog B 19 [.d (.int .i64 n), .ptr ia 0, .ptr il 0] h fun r h' => r = .ret (.d (.int .i64 (pk l at_ n))) ∧ h' = h.set ia (iC (at_ + 1)) := by
  have hlt := hget_lt hia
  refine wc_start Tryz.func19 Tryz.ntmps19 rfl (by decide) rfl (by simp) (by simp) (fun hb => hb_set hb (by rw [iC, ob_cells]; simp [pb_d])) fun hb => ?_
  refine vcC_sound _ _ _ _ (sm ?_)
  have gs : ∀ c, (h.set ia c)[ia]? = some c := fun c => by have := hget_set hlt [] c; rwa [List.append_nil] at this
  have gl : ∀ c, (h.set ia c)[il]? = some (.cells [.d (.sl (l.map (D.int .u16)) cl)]) := fun c => by have := hget_set_ne hil hne [] c; rwa [List.append_nil] at this
  unfold iC at hia
  repeat (simp only [hia, hil, gs, gl]; refine sm ?_)
  rw [w64 (n := (at_ : Int) + 1)]
  refine fun hlen => ⟨fun h1 => ?_, fun h1 => ?_⟩
  · have h1 := of_decide_eq_true h1
    exact ⟨⟨_, rfl, .inl (by rw [pk, if_pos (by omega)])⟩, [], by simp [iC]⟩
  · have h1 := of_decide_eq_false h1
    have hi : at_ < l.length := by omega
    rw [w64 (n := (at_ : Int) + 1 - 1), show (at_ : Int) + 1 - 1 = at_ by omega]
    simp only [Int.toNat_natCast, getDL (k := .u16) hi]
    refine sm ?_
    have hx := hl (l.getD at_ 0) (by rw [List.getD_eq_getElem?_getD, List.getElem?_eq_getElem hi]; exact List.getElem_mem hi)
    rw [w64 (n := l.getD at_ 0)]
    exact ⟨by omega, by omega, ⟨_, rfl, .inl (by rw [pk, if_neg (by omega)])⟩, [], by simp [iC]⟩
end Go.Proofs.YtgpbkphiipjjoaaGreatDoor.Pv
end

/- law08.Made: formulas by numbers. -/
section
namespace Go.Proofs.YtgpbkphiipjjoaaGreatDoor.Pv
open Go
set_option maxRecDepth 100000
set_option maxHeartbeats 4000000
set_option linter.unusedSimpArgs false

def words8 : List (List UInt8) := [[113], [108, 48], [111, 117, 116], [108, 49], [105, 48], [111, 48], [97, 45, 98]]
def mk1 (l : List Int) (d i : Nat) : Int × Nat := if d = 0 ∨ l.length ≤ i + 1 ∨ 30 < i + 1 then (3 - (pk l (i + 1) 7).tdiv 5, i + 2) else (1 + pk l i 18, i + 1)
def mk2 (l : List Int) (k : Int) (i : Nat) : List UInt8 × Nat := if k = 3 then (words8.getD (pk l i 7).toNat [], i + 1) else ([], i)
def madeK (g : Nat → Fm × Nat) : Nat → Nat → List Fm × Nat
  | 0, b => ([], b)
  | n + 1, b => ((madeK g n b).1 ++ [(g (madeK g n b).2).1], (g (madeK g n b).2).2)
def madeN (l : List Int) (d i : Nat) (g : Nat → Fm × Nat) : Fm × Nat :=
  (.mk (mk1 l d i).1 (mk2 l (mk1 l d i).1 (mk1 l d i).2).1 0 (madeK g (kidsF (mk1 l d i).1).toNat (mk2 l (mk1 l d i).1 (mk1 l d i).2).2).1, (madeK g (kidsF (mk1 l d i).1).toNat (mk2 l (mk1 l d i).1 (mk1 l d i).2).2).2)
def madeF (l : List Int) : Nat → Nat → Fm × Nat
  | 0, i => madeN l 0 i fun j => (default, j)
  | d + 1, i => madeN l (d + 1) i (madeF l d)

/-- what the two closures find -/
structure Mk8 (h : List PObj) (ip ia il im : Nat) (l : List Int) (cl : Bool) (i : Nat) : Prop where
  p : h[ip]? = some (.cells [.fn (.func 16) [] [.ptr ia 0, .ptr il 0]])
  a : h[ia]? = some (iC i)
  l : h[il]? = some (.cells [.d (.sl (l.map (D.int .u8)) cl)])
  m : h[im]? = some (.cells [.fn (.func 17) [] [.ptr ip 0, .ptr ia 0, .ptr il 0, .ptr im 0]])
  np : ia ≠ ip
  nl : ia ≠ il
  nm : ia ≠ im
theorem Mk8.step {h : List PObj} {ip ia il im : Nat} {l : List Int} {cl : Bool} {i : Nat} (k : Mk8 h ip ia il im l cl i) (j : Nat) (X : List PObj) : Mk8 (h.set ia (iC j) ++ X) ip ia il im l cl j :=
  ⟨hget_set_ne k.p k.np X _, hget_set (hget_lt k.a) X _, hget_set_ne k.l k.nl X _, hget_set_ne k.m k.nm X _, k.np, k.nl, k.nm⟩
theorem Mk8.app {h : List PObj} {ip ia il im : Nat} {l : List Int} {cl : Bool} {i : Nat} (k : Mk8 h ip ia il im l cl i) (X : List PObj) : Mk8 (h ++ X) ip ia il im l cl i :=
  ⟨hget_old k.p X, hget_old k.a X, hget_old k.l X, hget_old k.m X, k.np, k.nl, k.nm⟩
theorem Mk8.pick {h : List PObj} {ip ia il im : Nat} {l : List Int} {cl : Bool} {i : Nat} (k : Mk8 h ip ia il im l cl i) (B : Array Obj) (hl : ∀ x, x ∈ l → 0 ≤ x ∧ x < 65536) (n : Int) (hn : 0 < n) (hi : i < 1000000000) :
    PCalls Tryz.prog B 16 [.d (.int .i64 n), .ptr ia 0, .ptr il 0] h fun r h' => r = .ret (.d (.int .i64 (pk l i n))) ∧ h' = h.set ia (iC (i + 1)) :=
  pick8 B l hl i hi n hn h ia il cl k.a k.l k.nl

theorem rowId_snoc (l : List Fm) (x : Fm) : rowOf id (l ++ [x]) = rowOf id l ++ [.d (dFu x)] := by simp [rowOf, dF_eq]
theorem getDS {L : List (List UInt8)} {n : Nat} (h : n < L.length) : (L.map D.str).getD n default = D.str (L.getD n []) := by
  simp [List.getD_eq_getElem?_getD, List.getElem?_eq_getElem h]
theorem words8_eq : [D.str [113], D.str [108, 48], D.str [111, 117, 116], D.str [108, 49], D.str [105, 48], D.str [111, 48], D.str [97, 45, 98]] = words8.map D.str := rfl
theorem mk1_range {l : List Int} (hl : ∀ x, x ∈ l → 0 ≤ x ∧ x < 65536) (d i : Nat) : 1 ≤ (mk1 l d i).1 ∧ (mk1 l d i).1 ≤ 18 ∧ i + 1 ≤ (mk1 l d i).2 ∧ (mk1 l d i).2 ≤ i + 2 ∧ (d = 0 → (mk1 l d i).1 ≤ 3) := by
  have h1 := pk_range l hl i 18 (by omega)
  have h2 := pk_range l hl (i + 1) 7 (by omega)
  have h3 : 0 ≤ (pk l (i + 1) 7).tdiv 5 ∧ (pk l (i + 1) 7).tdiv 5 ≤ 1 := by
    rw [Int.tdiv_eq_ediv_of_nonneg h2.1]; omega
  unfold mk1
  split
  · dsimp only; omega
  · dsimp only; omega
theorem mk2_range (l : List Int) (k : Int) (i : Nat) : i ≤ (mk2 l k i).2 ∧ (mk2 l k i).2 ≤ i + 1 := by
  unfold mk2; split <;> simp
theorem madeK_len (g : Nat → Fm × Nat) : ∀ n b, (madeK g n b).1.length = n
  | 0, _ => rfl
  | n + 1, b => by simp [madeK, madeK_len g n b]
theorem madeK_at {g : Nat → Fm × Nat} {W : Nat} (hW : ∀ j, (g j).2 ≤ j + W) : ∀ n b, (madeK g n b).2 ≤ b + n * W
  | 0, b => by simp [madeK]
  | n + 1, b => by
    have h1 := madeK_at hW n b
    have h2 := hW (madeK g n b).2
    rw [madeK, Nat.add_mul]; dsimp only; omega
theorem kidsF_le (k : Int) : kidsF k ≤ 2 := by unfold kidsF; repeat' split <;> omega
theorem madeN_at {l : List Int} (hl : ∀ x, x ∈ l → 0 ≤ x ∧ x < 65536) {g : Nat → Fm × Nat} {W : Nat} (hW : ∀ j, (g j).2 ≤ j + W) (d i : Nat) : (madeN l d i g).2 ≤ i + 3 + 2 * W := by
  have h1 := mk1_range hl d i
  have h2 := mk2_range l (mk1 l d i).1 (mk1 l d i).2
  have h3 := madeK_at hW (kidsF (mk1 l d i).1).toNat (mk2 l (mk1 l d i).1 (mk1 l d i).2).2
  have h4 : (kidsF (mk1 l d i).1).toNat ≤ 2 := by have := kidsF_le (mk1 l d i).1; omega
  have h5 : (kidsF (mk1 l d i).1).toNat * W ≤ 2 * W := Nat.mul_le_mul_right _ h4
  unfold madeN; dsimp only; omega

def nodeC (k : Int) (s : List UInt8) (p : PV) : PObj := .cells [.d (.int .i64 k), .d (.str s), .d (.int .i64 0), p]
def zeroC : PObj := .cells [.d (.int .i64 0), .d (.str []), .d (.int .i64 0), .d (.sl [] true)]
/-- own objects after n parts -/
def makeH (h : List PObj) (k : Int) (s : List UInt8) (ks : List Fm) : Nat → List PObj
  | 0 => [zeroC, nodeC k s (.d (.sl [] true))]
  | n + 1 => [zeroC, nodeC k s (.row (h.length + 2) (n + 1)), .row 26 4 (rowOf id ks)]
theorem makeH0 (h : List PObj) (k : Int) (s : List UInt8) (ks : List Fm) : makeH h k s ks 0 = [zeroC, nodeC k s (.d (.sl [] true))] := rfl
theorem makeHs (h : List PObj) (k : Int) (s : List UInt8) (ks : List Fm) (n : Nat) : makeH h k s ks (n + 1) = [zeroC, nodeC k s (.row (h.length + 2) (n + 1)), .row 26 4 (rowOf id ks)] := rfl

theorem node_wc (B : Array Obj) (hm : Tryz.prog.follows .mixedOrders = true) (l : List Int) (cl : Bool) (hl : ∀ x, x ∈ l → 0 ≤ x ∧ x < 65536) (d : Nat) (hd : d ≤ 100) (g : Nat → Fm × Nat) (W : Nat) (hW : ∀ j, (g j).2 ≤ j + W) (i : Nat) (hi : i + 3 + 2 * W < 1000000)
    (h : List PObj) (ip ia il im : Nat) (k : Mk8 h ip ia il im l cl i)
    (hg : ∀ (j : Nat) (h : List PObj), Mk8 h ip ia il im l cl j → j ≤ i + 3 + W → 0 < d →
      PCalls Tryz.prog B 17 [.d (.int .i64 ((d - 1 : Nat) : Int)), .ptr ip 0, .ptr ia 0, .ptr il 0, .ptr im 0] h fun r h' => r = .ret (.d (dFu (g j).1)) ∧ h' = h.set ia (iC (g j).2)) :
    PCalls Tryz.prog B 17 [.d (.int .i64 d), .ptr ip 0, .ptr ia 0, .ptr il 0, .ptr im 0] h fun r h' => r = .ret (.d (dFu (madeN l d i g).1)) ∧ h' = h.set ia (iC (madeN l d i g).2) := by
  have hlt := hget_lt k.a
  have hlp := hget_lt k.p
  have hll := hget_lt k.l
  have hlm := hget_lt k.m
  have ga := fun X => hget_old k.a X
  have gp := fun X => hget_old k.p X
  have gl := fun X => hget_old k.l X
  have gm := fun X => hget_old k.m X
  have sa := fun X x => hset_lt hlt X x
  have ga1 := fun X x => hget_set hlt X x
  have gp1 := fun X x => hget_set_ne k.p k.np X x
  have gl1 := fun X x => hget_set_ne k.l k.nl X x
  have gm1 := fun X x => hget_set_ne k.m k.nm X x
  have sa1 := fun X x y => hset_set hlt X x y
  have r1 := mk1_range hl d i
  have r2 := mk2_range l (mk1 l d i).1 (mk1 l d i).2
  have e18 := pk_range l hl i 18 (by omega)
  have e7 := pk_range l hl (i + 1) 7 (by omega)
  have h3 : 0 ≤ (pk l (i + 1) 7).tdiv 5 ∧ (pk l (i + 1) 7).tdiv 5 ≤ 1 := by
    rw [Int.tdiv_eq_ediv_of_nonneg e7.1]; omega
  have hs (hb : HB h) (j : Nat) : HB (h.set ia (iC j)) := hb_set hb (by rw [iC, ob_cells]; simp [pb_d])
  refine wc_start Tryz.func17 Tryz.ntmps17 rfl (by decide) rfl (by simp) (by simp) (fun hb => hs hb _) fun hb => ?_
  refine pwp_seq (vcC_sound _ _ _ _ (sm ?_))
  refine pwp_seq (vcC_sound _ _ _ _ (sm ?_))
  simp only [ga, gp, gl, gm, sa, ga1, gp1, gl1, gm1, sa1]; refine sm ?_
  refine wc_use ((k.app _).pick B hl 18 (by omega) (by omega)) (sm ?_)
  rw [w64 (n := 1 + pk l i 18), sa]
  refine pwp_joinS (h2 := h.set ia (iC (mk1 l d i).2)) (l := [zeroC]) [(0, .d (.int .i64 d)), (1, .ptr ip 0), (2, .ptr ia 0), (3, .ptr il 0), (4, .ptr im 0), (6, .ptr h.length 0), (7, .d (.int .i64 (mk1 l d i).1))] True (by unfold zeroC; exact hd2 (by simp) (hs hb _)) (vcC_sound _ _ _ _ (sm ?_)) fun _ => ?_
  · repeat (simp only [ga, gp, gl, gm, sa, ga1, gp1, gl1, gm1, sa1, iC]; refine sm ?_)
    simp only [decide_eq_true_eq, decide_eq_false_iff_not]
    repeat' (first | with_reducible refine And.intro ?_ ?_ | with_reducible intro _)
    all_goals try (have e : mk1 l d i = (1 + pk l i 18, i + 1) := if_neg (by omega)
                   first | (refine mt ?_; simp only [mt_nil, mt_cons, put_t, put_none, start_t, argAt, e, and_true]; repeat' (first | rfl | apply And.intro)) | (simp only [e]; exact ⟨[], rfl⟩))
    all_goals have e : mk1 l d i = (3 - (pk l (i + 1) 7).tdiv 5, i + 2) := if_pos (by omega)
    all_goals refine wc_use ((k.step (i + 1) [zeroC]).pick B hl 7 (by omega) (by omega)) (sm ?_)
    all_goals rw [w64 (n := (pk l (i + 1) 7).tdiv 5), w64 (n := 3 - (pk l (i + 1) 7).tdiv 5)]
    all_goals simp only [e, sa1]
    all_goals exact ⟨mt, [], rfl⟩
  · refine pwp_seq (vcC_sound _ _ _ _ (sm ?_))
    refine pwp_joinS (h2 := h.set ia (iC (mk2 l (mk1 l d i).1 (mk1 l d i).2).2)) (l := [zeroC, nodeC (mk1 l d i).1 (mk2 l (mk1 l d i).1 (mk1 l d i).2).1 (.d (.sl [] true))]) [(0, .d (.int .i64 d)), (1, .ptr ip 0), (2, .ptr ia 0), (3, .ptr il 0), (4, .ptr im 0), (6, .ptr h.length 0), (7, .d (.int .i64 (mk1 l d i).1)), (8, .ptr (h.length + 1) 0)] True (by unfold zeroC nodeC; exact hd2 (by simp) (hs hb _)) (vcC_sound _ _ _ _ (sm ?_)) fun _ => ?_
    · refine ⟨fun h1 => ?_, fun h1 => ?_⟩
      · have h1 := of_decide_eq_true h1
        repeat (simp only [ga, gp, gl, gm, sa, ga1, gp1, gl1, gm1, sa1]; refine sm ?_)
        refine wc_use ((k.step (mk1 l d i).2 _).pick B hl 7 (by omega) (by omega)) (sm ?_)
        have e2 := pk_range l hl (mk1 l d i).2 7 (by omega)
        have e3 : (pk l (mk1 l d i).2 7).toNat < words8.length := by show _ < 7; omega
        have e : mk2 l (mk1 l d i).1 (mk1 l d i).2 = (words8.getD (pk l (mk1 l d i).2 7).toNat [], (mk1 l d i).2 + 1) := if_pos h1
        rw [words8_eq]
        simp only [getDS e3, sa1, e]
        refine sm ?_
        exact ⟨⟨by omega, by omega⟩, mt, [], rfl⟩
      · have h1 := of_decide_eq_false h1
        have e : mk2 l (mk1 l d i).1 (mk1 l d i).2 = ([], (mk1 l d i).2) := if_neg h1
        simp only [e]
        exact ⟨mt, [], rfl⟩
    · have hk0 : 0 ≤ kidsF (mk1 l d i).1 := by unfold kidsF; repeat' split <;> omega
      have hk2 := kidsF_le (mk1 l d i).1
      have hkd : d = 0 → kidsF (mk1 l d i).1 = 0 := fun h0 => by
        have := r1.2.2.2.2 h0
        unfold kidsF; rw [if_neg (by omega), if_pos this]
      refine pwp_joinS (h2 := h.set ia (iC (madeN l d i g).2)) (l := makeH h (mk1 l d i).1 (mk2 l (mk1 l d i).1 (mk1 l d i).2).1 (madeK g (kidsF (mk1 l d i).1).toNat (mk2 l (mk1 l d i).1 (mk1 l d i).2).2).1 (kidsF (mk1 l d i).1).toNat) [(6, .ptr h.length 0), (8, .ptr (h.length + 1) 0)] True ?_ (vcC_sound _ _ _ _ (sm ?_)) fun _ => ?_
      · cases (kidsF (mk1 l d i).1).toNat with
        | zero => rw [makeH0]; unfold zeroC nodeC; exact hd2 (by simp) (hs hb _)
        | succ n => rw [makeHs]; unfold zeroC nodeC; exact hd2 (by simp) (hs hb _)
      · refine PRet.use (kids_ret B (mk1 l d i).1) (sm ?_)
        generalize hb0 : (mk2 l (mk1 l d i).1 (mk1 l d i).2).2 = b0
        generalize hs0 : (mk2 l (mk1 l d i).1 (mk1 l d i).2).1 = s0
        generalize hk1 : (mk1 l d i).1 = k1 at *
        have hmn : (madeN l d i g).2 = (madeK g (kidsF k1).toNat b0).2 := by unfold madeN; rw [hk1, hb0]
        refine pwp_loop (κ := Nat) (fun j => [(0, .d (.int .i64 d)), (1, .ptr ip 0), (2, .ptr ia 0), (3, .ptr il 0), (4, .ptr im 0), (6, .ptr h.length 0), (8, .ptr (h.length + 1) 0), (9, .d (.int .i64 (kidsF k1 - j)))]) (fun j => h.set ia (iC (madeK g j b0).2) ++ makeH h k1 s0 (madeK g j b0).1 j) (fun j => j ≤ (kidsF k1).toNat) (fun j => (kidsF k1).toNat - j)
          (fun j hj => ?_) ⟨0, [], by omega, by rw [show kidsF k1 - ((0 : Nat) : Int) = kidsF k1 by omega]; exact mt, ?_⟩ fun j hj => ?_
        · cases j with
          | zero => rw [makeH0]; unfold zeroC nodeC; exact hd2 (by simp) (hs hb _)
          | succ n => rw [makeHs]; unfold zeroC nodeC; exact hd2 (by simp) (hs hb _)
        · rw [makeH0, List.append_nil]; rfl
        have hbj := madeK_at hW j b0
        have hjW : j * W ≤ 2 * W := Nat.mul_le_mul_right _ (by omega)
        cases j with
        | zero =>
          simp only [makeH0, nodeC, zeroC]
          refine vcC_sound _ _ _ _ (sm ?_)
          refine ⟨fun h1 => ?_, fun h1 => ?_⟩
          · have h1 := of_decide_eq_true h1
            have hd0 : 0 < d := by
              rcases Nat.eq_zero_or_pos d with h0 | h0
              · have := hkd h0; omega
              · exact h0
            refine pwp_drawn [.q, .r 0 1, .r 0 0, .q, .q, .e, .q, .e, .q, .e] hm (by kernel_rfl) (sm ?_)
            repeat (simp only [ga, gp, gl, gm, sa, ga1, gp1, gl1, gm1, sa1]; refine sm ?_)
            rw [w64 (n := (d : Int) - 1), show (d : Int) - 1 = ((d - 1 : Nat) : Int) by omega]
            refine exE.use (hg _ _ (k.step _ _) (by simp [madeK]; omega) hd0) (sm ?_) (sm ?_)
            · simp only [sa1]; exact sm trivial
            · simp only [sa1]; refine sm ?_
              rw [w64 (n := kidsF k1 - ((0 : Nat) : Int) - 1), show kidsF k1 - ((0 : Nat) : Int) - 1 = kidsF k1 - ((0 + 1 : Nat) : Int) by omega]
              refine ⟨⟨fun i hi => absurd hi (by omega), fun i hi => ?_⟩, 0 + 1, [], by omega, by omega, mt, ?_⟩
              · have : i = 0 := by omega
                subst this; rfl
              · rw [makeHs, show (madeK g (0 + 1) b0).1 = (madeK g 0 b0).1 ++ [(g (madeK g 0 b0).2).1] from rfl, rowId_snoc]; rfl
          · have h1 := of_decide_eq_false h1
            have hz : (kidsF k1).toNat = 0 := by omega
            rw [hz] at hmn ⊢
            exact ⟨mt, [], by rw [hmn]; rfl⟩
        | succ n =>
          simp only [makeHs, nodeC, zeroC]
          refine vcC_sound _ _ _ _ (sm ?_)
          refine ⟨fun h1 => ?_, fun h1 => ?_⟩
          · have h1 := of_decide_eq_true h1
            have hd0 : 0 < d := by
              rcases Nat.eq_zero_or_pos d with h0 | h0
              · have := hkd h0; omega
              · exact h0
            refine pwp_drawn [.q, .r 0 1, .r 0 0, .q, .q, .e, .q, .e, .q, .e] hm (by kernel_rfl) (sm ?_)
            repeat (simp only [ga, gp, gl, gm, sa, ga1, gp1, gl1, gm1, sa1]; refine sm ?_)
            rw [w64 (n := (d : Int) - 1), show (d : Int) - 1 = ((d - 1 : Nat) : Int) by omega]
            refine exE.use (hg _ _ (k.step _ _) (by have : n + 1 = 1 := (by omega); rw [this] at hbj ⊢; omega) hd0) (sm ?_) (sm ?_)
            · simp only [sa1]; exact sm trivial
            · simp only [sa1]; refine sm ?_
              rw [w64 (n := kidsF k1 - ((n + 1 : Nat) : Int) - 1), show kidsF k1 - ((n + 1 : Nat) : Int) - 1 = kidsF k1 - ((n + 1 + 1 : Nat) : Int) by omega]
              have hr : (rowOf id (madeK g (n + 1) b0).1).length = n + 1 := by rw [rowOf_len, madeK_len]
              simp only [hr]
              refine ⟨⟨trivial, fun i hi => ?_, by omega⟩, n + 1 + 1, [], by omega, by omega, mt, ?_⟩
              · have : i = 0 := by omega
                subst this; rfl
              · rw [makeHs, show (madeK g (n + 1 + 1) b0).1 = (madeK g (n + 1) b0).1 ++ [(g (madeK g (n + 1) b0).2).1] from rfl, rowId_snoc]; rfl
          · have h1 := of_decide_eq_false h1
            have hz : (kidsF k1).toNat = n + 1 := by omega
            rw [hz] at hmn ⊢
            exact ⟨mt, [], by rw [hmn, makeHs, List.append_nil]; rfl⟩
      · have hkk : (madeN l d i g).1 = .mk (mk1 l d i).1 (mk2 l (mk1 l d i).1 (mk1 l d i).2).1 0 (madeK g (kidsF (mk1 l d i).1).toNat (mk2 l (mk1 l d i).1 (mk1 l d i).2).2).1 := rfl
        rw [hkk]
        have hln := madeK_len g (kidsF (mk1 l d i).1).toNat (mk2 l (mk1 l d i).1 (mk1 l d i).2).2
        generalize (madeK g (kidsF (mk1 l d i).1).toNat (mk2 l (mk1 l d i).1 (mk1 l d i).2).2).1 = ks at *
        cases hn : (kidsF (mk1 l d i).1).toNat with
        | zero =>
          have hnil : ks = [] := List.eq_nil_of_length_eq_zero (by omega)
          rw [makeH0, hnil]
          unfold zeroC nodeC
          refine vcC_sound _ _ _ _ (sm ?_)
          exact leaf
        | succ n =>
          rw [makeHs]
          refine pwp_seal (h.length + 2) (E := 26) (sz := 4) (rowD id ks) ?_ ?_
          · rw [hget_ownS, ← rowOf_d]; rfl
          · rw [hset_ownS]
            unfold zeroC nodeC
            refine vcC_sound _ _ _ _ (sm ?_)
            have hr : (rowD id ks).length = n + 1 := by rw [rowD_len]; omega
            simp only [hr]
            refine sm ?_
            rw [rowD_eq, List.map_id]
            exact .inl rfl

theorem madeF_at {l : List Int} (hl : ∀ x, x ∈ l → 0 ≤ x ∧ x < 65536) : ∀ d i, (madeF l d i).2 ≤ i + 3 * (2 ^ (d + 1) - 1)
  | 0, i => by
    have := madeN_at hl (g := fun j => (default, j)) (W := 0) (fun j => by simp) 0 i
    rw [madeF]; omega
  | d + 1, i => by
    have := madeN_at hl (g := madeF l d) (W := 3 * (2 ^ (d + 1) - 1)) (fun j => madeF_at hl d j) (d + 1) i
    have h2 : 0 < 2 ^ (d + 1) := Nat.two_pow_pos _
    rw [madeF, Nat.pow_succ]; omega

theorem make_wc (B : Array Obj) (hm : Tryz.prog.follows .mixedOrders = true) (l : List Int) (cl : Bool) (hl : ∀ x, x ∈ l → 0 ≤ x ∧ x < 65536) (ip ia il im : Nat) : ∀ (d : Nat), d ≤ 10 → ∀ (i : Nat) (h : List PObj), Mk8 h ip ia il im l cl i → i + 3 * 2 ^ (d + 1) < 100000 →
    PCalls Tryz.prog B 17 [.d (.int .i64 d), .ptr ip 0, .ptr ia 0, .ptr il 0, .ptr im 0] h fun r h' => r = .ret (.d (dFu (madeF l d i).1)) ∧ h' = h.set ia (iC (madeF l d i).2) := by
  intro d
  induction d with
  | zero =>
    intro _ i h k hi
    exact node_wc B hm l cl hl 0 (by omega) (fun j => (default, j)) 0 (fun j => by simp) i (by omega) h ip ia il im k (fun _ _ _ _ h0 => absurd h0 (by omega))
  | succ d ih =>
    intro hd i h k hi
    have h2 : 0 < 2 ^ (d + 1) := Nat.two_pow_pos _
    have h3 : 2 ^ (d + 1 + 1) = 2 ^ (d + 1) * 2 := Nat.pow_succ ..
    exact node_wc B hm l cl hl (d + 1) (by omega) (madeF l d) (3 * (2 ^ (d + 1) - 1)) (fun j => madeF_at hl d j) i (by omega) h ip ia il im k (fun j h' k' hj _ => ih (by omega) j h' k' (by omega))

theorem Made8_ret (B : Array Obj) (hm : Tryz.prog.follows .mixedOrders = true) (l : List Int) (cl : Bool) (hl : ∀ x, x ∈ l → 0 ≤ x ∧ x < 65536) : PRet Tryz.prog B 5 [.d (.sl (l.map (D.int .u8)) cl)] (dFu (madeF l 6 0).1) := by
  refine pret_start Tryz.func5 Tryz.ntmps5 rfl (by decide) rfl (by simp) fun h hb => ?_
  refine vcC_sound _ _ _ _ (sm ?_)
  refine wc_use (make_wc B hm l cl hl (h.length + 3) (h.length + 2) h.length (h.length + 4) 6 (by omega) 0 _ ⟨by rw [hget_own]; rfl, by rw [hget_own]; rfl, by rw [hget_own0]; rfl, by rw [hget_own]; rfl, by omega, by omega, by omega⟩ (by decide)) (sm ?_)
  exact .inl rfl
end Go.Proofs.YtgpbkphiipjjoaaGreatDoor.Pv
end

/- law10.Resolved: formulas by numbers, with literals. -/
section
namespace Go.Proofs.YtgpbkphiipjjoaaGreatDoor.Pv
open Go
set_option maxRecDepth 100000
set_option maxHeartbeats 4000000
set_option linter.unusedSimpArgs false

theorem words8_ne (n : Nat) (h : n < 7) : 0 < (words8.getD n []).length := by
  have : n = 0 ∨ n = 1 ∨ n = 2 ∨ n = 3 ∨ n = 4 ∨ n = 5 ∨ n = 6 := by omega
  rcases this with rfl | rfl | rfl | rfl | rfl | rfl | rfl <;> decide

theorem madeK_all {p : Fm → Prop} {g : Nat → Fm × Nat} (hp : ∀ j, p (g j).1) : ∀ n b, ∀ x, x ∈ (madeK g n b).1 → p x
  | 0, b, x, hx => by simp [madeK] at hx
  | n + 1, b, x, hx => by
    rw [madeK, List.mem_append, List.mem_singleton] at hx
    rcases hx with hx | hx
    · exact madeK_all hp n b x hx
    · rw [hx]; exact hp _
theorem madeN_wf {l : List Int} (hl : ∀ x, x ∈ l → 0 ≤ x ∧ x < 65536) {g : Nat → Fm × Nat} (d i : Nat) (hg : 0 < d → ∀ j, allF wfL (g j).1 = true) : allF wfL (madeN l d i g).1 = true := by
  have r1 := mk1_range hl d i
  have hk2 := kidsF_le (mk1 l d i).1
  have hk3 : d = 0 → kidsF (mk1 l d i).1 = 0 := fun h0 => by
    have := r1.2.2.2.2 h0
    unfold kidsF; rw [if_neg (by omega), if_pos this]
  rw [allF_eq, Bool.and_eq_true]
  refine ⟨?_, ?_⟩
  · have e : (madeN l d i g).1 = .mk (mk1 l d i).1 (mk2 l (mk1 l d i).1 (mk1 l d i).2).1 0 (madeK g (kidsF (mk1 l d i).1).toNat (mk2 l (mk1 l d i).1 (mk1 l d i).2).2).1 := rfl
    rw [e]
    simp only [wfL, Fm.kids_mk, Fm.kind_mk, Fm.name_mk, madeK_len, Bool.and_eq_true, Bool.or_eq_true, decide_eq_true_eq]
    refine ⟨by omega, ?_⟩
    by_cases h3 : (mk1 l d i).1 = 3
    · refine .inr ?_
      have := pk_range l hl (mk1 l d i).2 7 (by omega)
      rw [mk2, if_pos h3]
      exact decide_eq_true (words8_ne (pk l (mk1 l d i).2 7).toNat (by omega))
    · exact .inl (decide_eq_true h3)
  · show List.all (madeK g (kidsF (mk1 l d i).1).toNat (mk2 l (mk1 l d i).1 (mk1 l d i).2).2).1 _ = true
    rw [List.all_eq_true]
    rcases Nat.eq_zero_or_pos d with h0 | h0
    · rw [hk3 h0]; intro x hx; simp [madeK] at hx
    · exact madeK_all (p := fun x => allF wfL x = true) (hg h0) _ _
theorem madeF_wf {l : List Int} (hl : ∀ x, x ∈ l → 0 ≤ x ∧ x < 65536) : ∀ d i, allF wfL (madeF l d i).1 = true
  | 0, i => by rw [madeF]; exact madeN_wf hl 0 i (fun h => absurd h (by omega))
  | d + 1, i => by rw [madeF]; exact madeN_wf hl (d + 1) i (fun _ j => madeF_wf hl d j)

def ResolvedF (l : List Int) (many : Int) : Fm := litsF many (madeF l 6 0).1
theorem Resolved_ret (B : Array Obj) (hm : Tryz.prog.follows .mixedOrders = true) (l : List Int) (cl : Bool) (hl : ∀ x, x ∈ l → 0 ≤ x ∧ x < 65536) (many : Int) : PRet Tryz.prog B 7 [.d (.sl (l.map (D.int .u8)) cl), .d (.int .i64 many)] (dFu (ResolvedF l many)) := by
  refine pret_start Tryz.func7 Tryz.ntmps7 rfl (by decide) rfl (by simp) fun h hb => ?_
  refine vcC_sound _ _ _ _ (sm ?_)
  refine PRet.use (Made8_ret B hm l cl hl) (sm ?_)
  refine PRet.use (lits_ret B hm many (madeF l 6 0).1 (madeF_wf hl 6 0)) (sm ?_)
  exact .inl rfl
end Go.Proofs.YtgpbkphiipjjoaaGreatDoor.Pv
end

/- Functions that the model stands in for; calls that are put off. -/
section
namespace Go.Proofs.YtgpbkphiipjjoaaGreatDoor.Pv
open Go
set_option maxRecDepth 100000

section
variable {P : Program} {B : Array Obj}

theorem rvs_1 {w : World} {e : Env} {p : PV} {vs : Array Value} (r : RVs w e [p] vs) : ∃ v, vs = #[v] ∧ RV w e p v := by
  obtain ⟨r1, r2⟩ := r
  obtain ⟨vs⟩ := vs
  match vs, r1 with
  | [v], _ => exact ⟨v, rfl, by simpa using r2 0 (by simp)⟩
theorem rvs_2 {w : World} {e : Env} {p q : PV} {vs : Array Value} (r : RVs w e [p, q] vs) : ∃ v u, vs = #[v, u] ∧ RV w e p v ∧ RV w e q u := by
  obtain ⟨r1, r2⟩ := r
  obtain ⟨vs⟩ := vs
  match vs, r1 with
  | [v, u], _ => exact ⟨v, u, rfl, by simpa using r2 0 (by simp), by simpa using r2 1 (by simp)⟩
theorem rvs_3 {w : World} {e : Env} {p q o : PV} {vs : Array Value} (r : RVs w e [p, q, o] vs) : ∃ v u x, vs = #[v, u, x] ∧ RV w e p v ∧ RV w e q u ∧ RV w e o x := by
  obtain ⟨r1, r2⟩ := r
  obtain ⟨vs⟩ := vs
  match vs, r1 with
  | [v, u, x], _ => exact ⟨v, u, x, rfl, by simpa using r2 0 (by simp), by simpa using r2 1 (by simp), by simpa using r2 2 (by simp)⟩
theorem rvs_0 {w : World} {e : Env} {vs : Array Value} (r : RVs w e [] vs) : vs = #[] := by
  obtain ⟨r1, _⟩ := r
  exact Array.eq_empty_of_size_eq_zero r1
theorem rd_int {w : World} {e : Env} {k : IntKind} {n : Int} {v : Value} (r : RV w e (.d (.int k n)) v) : v = .int k n := by cases rv_d r; rfl
theorem rv_unit (w : World) (e : Env) : RV w e (.d (.tup [])) (.tuple #[]) := rv_undef w e

variable {f : FuncId} {fn : Func}
theorem nat_mark0 (hf : P.funcs[f]? = some fn) (hname : (fn.name == "runtime.NumGoroutine") = false) (hb : fn.body.isNone = true) (hn : Extern.findNext fn = none) (m : Mark)
    (he : Extern.find fn = some (fun _ => do mark m; pure Extern.Race.none_)) (h : List PObj) : PCalls P B f [] h fun r h' => r = .ret (.d (.tup [])) ∧ h' = h := by
  intro e w vs s r
  have := rvs_0 r; subst this
  exact .inr ⟨_, _, run_call_mark0 hf hname hb hn m he w, _, e, h, ⟨rfl, rfl⟩, rv_unit _ _, s, Ext.refl (Nat.le_refl _) _⟩
theorem nat_marked (hf : P.funcs[f]? = some fn) (hname : (fn.name == "runtime.NumGoroutine") = false) (hb : fn.body.isNone = true) (hn : Extern.findNext fn = none) (m : Addr → Mark)
    (he : Extern.find fn = some (Extern.Race.marked m)) (h : List PObj) (id off : Nat) : PCalls P B f [.ptr id off] h fun r h' => r = .ret (.d (.tup [])) ∧ h' = h := by
  intro e w vs s r
  obtain ⟨v, rfl, hv⟩ := rvs_1 r
  cases hv with
  | ptr _ _ b hid hG => exact .inr ⟨_, _, run_call_marked hf hname hb hn m he _ w, _, e, h, ⟨rfl, rfl⟩, rv_unit _ _, s, Ext.refl (Nat.le_refl _) _⟩
theorem nat_load (hf : P.funcs[f]? = some fn) (hname : (fn.name == "runtime.NumGoroutine") = false) (hb : fn.body.isNone = true) (hn : Extern.findNext fn = none) (k : IntKind)
    (he : Extern.find fn = some (Extern.Atomic.loadT (.int k))) (h : List PObj) (id off : Nat) (cs : List PV) (n : Int) (hh : h[id]? = some (.cells cs)) (hc : cs[off]? = some (.d (.int k n))) :
    PCalls P B f [.ptr id off] h fun r h' => r = .ret (.d (.int k n)) ∧ h' = h := by
  intro e w vs s r
  obtain ⟨v, rfl, hv⟩ := rvs_1 r
  obtain ⟨b, rfl, c1, c2, c3⟩ := own_cell s hh hc hv
  exact .inr ⟨_, _, run_call_load hf hname hb hn k he c1, _, e, h, ⟨rfl, rfl⟩, .d _ _ (.int k n), s, Ext.refl (Nat.le_refl _) _⟩
theorem nat_store (hf : P.funcs[f]? = some fn) (hname : (fn.name == "runtime.NumGoroutine") = false) (hb : fn.body.isNone = true) (hn : Extern.findNext fn = none) (k : IntKind)
    (he : Extern.find fn = some Extern.Atomic.storeT) (h : List PObj) (id off : Nat) (cs : List PV) (n y : Int) (hh : h[id]? = some (.cells cs)) (hc : cs[off]? = some (.d (.int k n))) :
    PCalls P B f [.ptr id off, .d (.int k y)] h fun r h' => r = .ret (.d (.tup [])) ∧ h' = h.set id (.cells (cs.set off (.d (.int k y)))) := by
  intro e w vs s r
  obtain ⟨v, u, rfl, hv, hu⟩ := rvs_2 r
  have := rd_int hu; subst this
  obtain ⟨b, rfl, c1, c2, c3⟩ := own_cell s hh hc hv
  exact .inr ⟨_, _, run_call_store hf hname hb hn he c1 c2, _, e, _, ⟨rfl, rfl⟩, rv_unit _ _, (c3 y).1, (c3 y).2⟩
theorem nat_cas (hf : P.funcs[f]? = some fn) (hname : (fn.name == "runtime.NumGoroutine") = false) (hb : fn.body.isNone = true) (hn : Extern.findNext fn = none) (k : IntKind)
    (he : Extern.find fn = some (Extern.Atomic.casT (.int k))) (h : List PObj) (id off : Nat) (cs : List PV) (n y : Int) (hh : h[id]? = some (.cells cs)) (hc : cs[off]? = some (.d (.int k n))) :
    PCalls P B f [.ptr id off, .d (.int k n), .d (.int k y)] h fun r h' => r = .ret (.d (.bool true)) ∧ h' = h.set id (.cells (cs.set off (.d (.int k y)))) := by
  intro e w vs s r
  obtain ⟨v, u, x, rfl, hv, hu, hx⟩ := rvs_3 r
  have := rd_int hu; subst this
  have := rd_int hx; subst this
  obtain ⟨b, rfl, c1, c2, c3⟩ := own_cell s hh hc hv
  exact .inr ⟨_, _, run_call_cas_hit hf hname hb hn k he c1 c2, _, e, _, ⟨rfl, rfl⟩, .d _ _ (.bool true), (c3 y).1, (c3 y).2⟩
theorem nat_add (hf : P.funcs[f]? = some fn) (hname : (fn.name == "runtime.NumGoroutine") = false) (hb : fn.body.isNone = true) (hn : Extern.findNext fn = none) (k : IntKind)
    (he : Extern.find fn = some (Extern.Atomic.update (Op.intArith .add) k true)) (h : List PObj) (id off : Nat) (cs : List PV) (n y m : Int) (hh : h[id]? = some (.cells cs)) (hc : cs[off]? = some (.d (.int k n)))
    (hs : ∀ w, (Op.intArith .add k n y).run P w = .ok (.int k m) w) :
    PCalls P B f [.ptr id off, .d (.int k y)] h fun r h' => r = .ret (.d (.int k m)) ∧ h' = h.set id (.cells (cs.set off (.d (.int k m)))) := by
  intro e w vs s r
  obtain ⟨v, u, rfl, hv, hu⟩ := rvs_2 r
  have := rd_int hu; subst this
  obtain ⟨b, rfl, c1, c2, c3⟩ := own_cell s hh hc hv
  exact .inr ⟨_, _, run_call_add hf hname hb hn k he c1 c2 (hs w), _, e, _, ⟨rfl, rfl⟩, .d _ _ (.int k m), (c3 m).1, (c3 m).2⟩

/-! ### put-off calls -/
/-- a function that is called when another one ends -/
def PCallsD (P : Program) (B : Array Obj) (f : FuncId) (args : List PV) (h : List PObj) (K : PV → List PObj → Prop) : Prop :=
  ∀ e w vs u, Sim B e h w → RVs w e args vs → (callFunc f vs).run P w = .ok (.enter f vs) w ∧ CallsD P f vs u w fun en u' w' => u' = u ∧ ∃ v e' h' ev, en = .returned ev ∧ K v h' ∧ Sim B e' h' w' ∧ Ext e.n e w e' w'

theorem pcallsD_start {f : FuncId} {fn : Func} {N : Nat} {c : Code} {rl : List ResultVar} {args : List PV} {h : List PObj} {K : PV → List PObj → Prop} (hf : P.funcs[f]? = some fn) (hN : fn.ntmps = N) (hb : fn.body = some c)
    (hn : (fn.name == "runtime.NumGoroutine") = false) (hr : fn.results = rl.toArray) (hl : args.length ≤ N)
    (k : HB h → PWp P B h.length c (bodyC P rl (retK K fun _ _ => False)) (PA.start args N) h) : PCallsD P B f args h K := by
  intro e w vs u s r
  subst hN
  refine ⟨run_callFunc ⟨fn, hf, hn, by rw [hb]; rfl⟩ vs w, ?_⟩
  have k' := k s.hb (Nat.le_refl _) e w _ s (by rw [← init_start]; exact ra_init r hl)
  refine (callsD_of_wp hf hb (wp_mono (Q' := bodyPost P fn fun en w' => ∃ v e' h' ev, en = .returned ev ∧ K v h' ∧ Sim B e' h' w' ∧ Ext e.n e w e' w') k' fun ex act w' l => ?_)).mono fun en u' w' q => q
  obtain ⟨px, e', a', h', q, rx, s', ra', ext⟩ := l
  have hx : Ext e.n e w e' w' := by rw [s.n]; exact ext
  have hd : a'.ds = [] → act.defers = [] := fun h0 => by
    have := ra'.len; rw [h0] at this; exact List.length_eq_zero_iff.1 (by simpa using this)
  have fin : ∀ {q : a'.ds = [] ∧ match presC P a'.t h' rl with | some (c, v) => c ∧ retK K (fun _ _ => False) (.ret v) h' | none => False},
      act.defers = [] ∧ ∃ u, (results fn act.tmps).run P w' = .ok u w' ∧ ∃ v e' h' ev, Ending.returned u = .returned ev ∧ K v h' ∧ Sim B e' h' w' ∧ Ext e.n e w e' w' := fun {q} => by
    obtain ⟨h0, q⟩ := q
    split at q
    · rename_i c v hv
      have hv' : presC P a'.t h' fn.results.toList = some (c, v) := by rw [hr]; exact hv
      obtain ⟨u, hu, ru⟩ := rv_presC s' ra' hv' q.1
      exact ⟨hd h0, u, hu, v, e', h', u, rfl, q.2, s', hx⟩
    · exact q.elim
  cases px <;> cases ex <;> try (first | exact rx.elim | exact q.elim)
  · exact fin (q := q)
  · exact fin (q := q)
  · obtain ⟨h0, hK⟩ := q
    exact hK.elim

/-- what follows a body: the put-off calls, the last one first -/
def leaveP (P : Program) (B : Array Obj) (rl : List ResultVar) (t : Nat → PV) (K : PRes → List PObj → Prop) : List PDef → List PObj → Prop
  | [], h => match presC P t h rl with | some (c, v) => c ∧ K (.ret v) h | none => False
  | d :: ds, h => PCallsD P B d.f d.args h fun _ h' => leaveP P B rl t K ds h'
def bodyD (P : Program) (B : Array Obj) (rl : List ResultVar) (K : PRes → List PObj → Prop) : PPost := fun ex a h =>
  match ex with
  | .normal => leaveP P B rl a.t K a.ds h
  | .ret => leaveP P B rl a.t K a.ds h
  | _ => False

theorem leaves_of {fn : Func} {rl : List ResultVar} (hr : fn.results = rl.toArray) {K : PRes → List PObj → Prop} {a : PA} {act : Act} {m : Nat} {e0 : Env} {w0 : World} : ∀ (ds : List PDef) (dl : List Deferred) (h : List PObj) (e : Env) (w : World),
    leaveP P B rl a.t K ds h → Sim B e h w → RA w e a act → dl.length = ds.length → (∀ (i : Nat) (p : PDef) (d : Deferred), ds[i]? = some p → dl[i]? = some d → RDef w e p d) → Ext m e0 w0 e w → m ≤ e.n →
    Leaves P fn act.tmps (fun en w' => ∃ r e' h', K r h' ∧ RR w' e' r en ∧ Sim B e' h' w' ∧ Ext m e0 w0 e' w') dl .returning w
  | [], dl, h, e, w, k, s, ra, hl, hd, hx, hm => by
    have : dl = [] := List.eq_nil_of_length_eq_zero (by simpa using hl)
    subst this
    unfold leaveP at k
    split at k
    · rename_i c v hv
      have hv' : presC P a.t h fn.results.toList = some (c, v) := by rw [hr]; exact hv
      obtain ⟨u, hu, ru⟩ := rv_presC s ra hv' k.1
      exact ⟨u, hu, _, e, h, k.2, ru, s, hx⟩
    · exact k.elim
  | d :: ds, dl, h, e, w, k, s, ra, hl, hd, hx, hm => by
    match dl, hl with
    | ⟨tg, das⟩ :: dl, hl =>
      obtain ⟨caps, ht, hargs⟩ := hd 0 d ⟨tg, das⟩ rfl rfl
      simp only at ht hargs
      subst ht
      unfold leaveP at k
      obtain ⟨hrun, hc⟩ := k e w _ .returning s hargs
      refine leaves_cons (f := d.f) (args := das ++ caps) (by simp) ?_ (hc.mono fun en u' w' q => ?_)
      · simpa [invoke] using hrun
      · obtain ⟨rfl, v, e', h', ev, rfl, q, s', ext⟩ := q
        have hn' : e.n ≤ e'.n := ext.n
        exact leaves_of hr ds dl h' e' w' q s' (ra.ext ext) (by simpa using hl) (fun i p d h1 h2 => (hd (i + 1) p d (by simpa using h1) (by simpa using h2)).ext ext) (hx.trans ext hm) (Nat.le_trans hm hn')

theorem pcalls_startD {f : FuncId} {fn : Func} {N : Nat} {c : Code} {rl : List ResultVar} {args : List PV} {h : List PObj} {K : PRes → List PObj → Prop} (hf : P.funcs[f]? = some fn) (hN : fn.ntmps = N) (hb : fn.body = some c)
    (hn : (fn.name == "runtime.NumGoroutine") = false) (hr : fn.results = rl.toArray) (hl : args.length ≤ N)
    (k : HB h → PWp P B h.length c (bodyD P B rl K) (PA.start args N) h) : PCalls P B f args h K := by
  subst hN
  intro e w vs s r
  refine .inl ⟨run_callFunc ⟨fn, hf, hn, by rw [hb]; rfl⟩ vs w, ?_⟩
  refine calls_of_wp_defers hf hb (wp_mono (k s.hb (Nat.le_refl _) e w _ s (by rw [← init_start]; exact ra_init r hl)) fun ex act w' l => ?_)
  obtain ⟨px, e', a', h', q, rx, s', ra', ext⟩ := l
  have hx : Ext e.n e w e' w' := by rw [s.n]; exact ext
  cases px <;> cases ex <;> try (first | exact rx.elim | exact q.elim)
  · exact leaves_of hr a'.ds act.defers h' e' w' q s' ra' ra'.len (fun i p d h1 h2 => ra'.ds i p d h1 h2) hx hx.n
  · exact leaves_of hr a'.ds act.defers h' e' w' q s' ra' ra'.len (fun i p d h1 h2 => ra'.ds i p d h1 h2) hx hx.n
end
end Go.Proofs.YtgpbkphiipjjoaaGreatDoor.Pv
end

/- Graphs: ref01.Right. -/
section
namespace Go.Proofs.YtgpbkphiipjjoaaGreatDoor.Pv
open Go
set_option maxRecDepth 100000
set_option maxHeartbeats 4000000
set_option linter.unusedSimpArgs false

def MayG (p : Int × Int) (v : Int) : Prop := 2 ≤ p.2 ∧ IntKind.i64.wrap (p.2.tdiv 2) < IntKind.i64.wrap (p.1.tdiv 2) ∧ IntKind.i64.wrap (p.1.tdiv 2) < v
instance (p : Int × Int) (v : Int) : Decidable (MayG p v) := by unfold MayG; infer_instance
def SizeG (g : Gr) : Prop := 0 ≤ g.inputs ∧ g.inputs ≤ 2000 ∧ g.ands.length ≤ 2000 ∧ varsG g ≤ 2000
instance (g : Gr) : Decidable (SizeG g) := by unfold SizeG; infer_instance
def NewG (g : Gr) (j : Nat) : Prop := ∀ k, k < j → g.ands.getD k default ≠ g.ands.getD j default
instance (g : Gr) (j : Nat) : Decidable (NewG g j) := by unfold NewG; infer_instance
def GateG (g : Gr) (j : Nat) : Prop := MayG (g.ands.getD j default) (g.inputs + 1 + j) ∧ NewG g j
instance (g : Gr) (j : Nat) : Decidable (GateG g j) := by unfold GateG; infer_instance
def RightG (g : Gr) : Prop := SizeG g ∧ ∀ j, j < g.ands.length → GateG g j
instance (g : Gr) : Decidable (RightG g) := by unfold RightG; infer_instance

theorem dw_no {p : Prop} [Decidable p] (h : ¬p) : DW (.bool false) (.bool (decide p)) := .inl (by rw [decide_eq_false h])
theorem dw_yes {p : Prop} [Decidable p] (h : p) : DW (.bool true) (.bool (decide p)) := .inl (by rw [decide_eq_true h])
theorem right1_ret (B : Array Obj) (hm : Tryz.prog.follows .mixedOrders = true) (g : Gr) : PRet Tryz.prog B 47 [.d (dG g)] (.bool (decide (RightG g))) := by
  refine pret_start Tryz.func47 Tryz.ntmps47 rfl (by decide) rfl (by simp) fun h hb => ?_
  refine pwp_seq (vcC_sound _ _ _ _ (sm ?_))
  refine pwp_join [(1, .ptr h.length 0)] (SizeG g) (hd1 hb) (vcC_sound _ _ _ _ (sm ?_)) fun hF => ?_
  · simp only [decide_eq_true_eq, decide_eq_false_iff_not]
    repeat' (first | with_reducible refine And.intro ?_ ?_ | with_reducible intro _)
    all_goals try (exact dw_no (fun hR => by have := hR.1; unfold SizeG at this; omega))
    refine PRet.use (rvars_ret B g) (sm ?_)
    simp only [decide_eq_true_eq, decide_eq_false_iff_not]
    refine ⟨fun h1 => ?_, fun h1 => ⟨mt, by unfold SizeG; omega, [], rfl⟩⟩
    exact dw_no (fun hR => by have := hR.1; unfold SizeG at this; omega)
  · refine vcC_sound _ _ _ _ (sm ?_)
    refine pwp_loop (κ := Nat) (fun i => [(1, .ptr h.length 0), (3, .d (.int .i64 i))]) (fun _ => _) (fun i => i ≤ g.ands.length ∧ ∀ j, j < i → GateG g j) (fun i => g.ands.length - i)
      (fun k hk => hd1 hb) ⟨0, [], ⟨by omega, fun j hj => absurd hj (by omega)⟩, mt, (List.append_nil _).symm⟩ fun i hi => ?_
    refine vcC_sound _ _ _ _ (sm ?_)
    refine fun hn => ⟨fun h1 => ?_, fun h1 => ?_⟩
    · have hlt : i < g.ands.length := by have := of_decide_eq_true h1; omega
      refine pwp_drawn [.q, .r 0 0, .q, .r 0 0, .r 0 0, .r 0 0, .q, .r 0 0, .q, .r 0 0, .r 0 0, .r 0 0, .q, .q] hm (by kernel_rfl) (sm ?_)
      simp only [getD_map_lt (g := dPair) hlt]
      refine sm ?_
      unfold SizeG at hF
      rw [w64 (n := g.inputs + 1), w64 (n := g.inputs + 1 + i)]
      simp only [decide_eq_true_eq, decide_eq_false_iff_not]
      refine ⟨by omega, by omega, fun h2 => ⟨fun h3 => ⟨fun h4 => ?_, fun h4 => ?_⟩, fun h3 => ?_⟩, fun h2 => ?_⟩
      · exact dw_no (fun hR => by have := (hR.2 i hlt).1; unfold MayG at this; omega)
      · refine pwp_loop (κ := Nat) (fun k => [(1, .ptr h.length 0), (3, .d (.int .i64 i)), (6, .d (.int .i64 k))]) (fun _ => _) (fun k => k ≤ i ∧ ∀ j, j < k → g.ands.getD j default ≠ g.ands.getD i default) (fun k => i - k)
          (fun k hk => hd1 hb) ⟨0, [], ⟨by omega, fun j hj => absurd hj (by omega)⟩, mt, (List.append_nil _).symm⟩ fun k hk => ?_
        refine vcC_sound _ _ _ _ (sm ?_)
        refine ⟨fun h5 => ?_, fun h5 => ?_⟩
        · have hlk : k < i := by have := of_decide_eq_true h5; omega
          refine pwp_drawn [.q, .r 0 0, .q, .r 0 0, .r 0 0, .q, .r 0 0, .q, .r 0 0, .r 0 0, .q] hm (by kernel_rfl) (sm ?_)
          simp only [getD_map_lt (g := dPair) hlt, getD_map_lt (g := dPair) (show k < g.ands.length by omega)]
          refine sm ?_
          simp only [Bool.and_self, Bool.and_true]
          refine sm ?_
          refine ⟨by omega, by omega, fun h6 => ?_, fun h6 => ?_⟩
          · rw [Bool.and_eq_true, decide_eq_true_eq, decide_eq_true_eq] at h6
            exact dw_no (fun hR => (hR.2 i hlt).2 k hlk (Prod.ext h6.1 h6.2))
          · rw [wsucc hlk (by omega)]
            refine ⟨k + 1, [], ⟨by omega, fun j hj => ?_⟩, by omega, mt, rfl⟩
            by_cases hjk : j = k
            · rw [hjk]
              intro e
              rw [e] at h6
              simp at h6
            · exact hk.2 j (by omega)
        · have hki : k = i := by have := of_decide_eq_false h5; omega
          rw [wsucc hlt (by omega)]
          exact ⟨i + 1, [], ⟨by omega, fun j hj => by
            by_cases hji : j = i
            · rw [hji]; exact ⟨by unfold MayG; omega, by intro k2 hk2; exact hk.2 k2 (by omega)⟩
            · exact hi.2 j (by omega)⟩, by omega, mt, rfl⟩
      · exact dw_no (fun hR => by have := (hR.2 i hlt).1; unfold MayG at this; omega)
      · exact dw_no (fun hR => by have := (hR.2 i hlt).1; unfold MayG at this; omega)
    · have hge : i = g.ands.length := by have := of_decide_eq_false h1; omega
      exact dw_yes (p := RightG g) ⟨hF, by rw [← hge]; exact hi.2⟩
end Go.Proofs.YtgpbkphiipjjoaaGreatDoor.Pv
end

/- sync.Once: the function is called once. -/
section
namespace Go.Proofs.YtgpbkphiipjjoaaGreatDoor.Pv
open Go
set_option maxRecDepth 100000
set_option maxHeartbeats 4000000
set_option linter.unusedSimpArgs false

theorem n_disable (B : Array Obj) (h : List PObj) : PCalls Tryz.prog B 144 [] h fun r h' => r = .ret (.d (.tup [])) ∧ h' = h :=
  nat_mark0 Tryz.func144 (by kernel_rfl) (by kernel_rfl) (by kernel_rfl) .disable (by kernel_rfl) h
theorem n_enable (B : Array Obj) (h : List PObj) : PCalls Tryz.prog B 146 [] h fun r h' => r = .ret (.d (.tup [])) ∧ h' = h :=
  nat_mark0 Tryz.func146 (by kernel_rfl) (by kernel_rfl) (by kernel_rfl) .enable (by kernel_rfl) h
theorem n_acquire (B : Array Obj) (h : List PObj) (id off : Nat) : PCalls Tryz.prog B 147 [.ptr id off] h fun r h' => r = .ret (.d (.tup [])) ∧ h' = h :=
  nat_marked Tryz.func147 (by kernel_rfl) (by kernel_rfl) (by kernel_rfl) .acquire (by kernel_rfl) h id off
theorem n_release (B : Array Obj) (h : List PObj) (id off : Nat) : PCalls Tryz.prog B 149 [.ptr id off] h fun r h' => r = .ret (.d (.tup [])) ∧ h' = h :=
  nat_marked Tryz.func149 (by kernel_rfl) (by kernel_rfl) (by kernel_rfl) .releaseMerge (by kernel_rfl) h id off
theorem n_load (B : Array Obj) (h : List PObj) (id off : Nat) (cs : List PV) (n : Int) (hh : h[id]? = some (.cells cs)) (hc : cs[off]? = some (.d (.int .u32 n))) :
    PCalls Tryz.prog B 117 [.ptr id off] h fun r h' => r = .ret (.d (.int .u32 n)) ∧ h' = h :=
  nat_load Tryz.func117 (by kernel_rfl) (by kernel_rfl) (by kernel_rfl) .u32 (by kernel_rfl) h id off cs n hh hc
theorem n_store (B : Array Obj) (h : List PObj) (id off : Nat) (cs : List PV) (n y : Int) (hh : h[id]? = some (.cells cs)) (hc : cs[off]? = some (.d (.int .u32 n))) :
    PCalls Tryz.prog B 131 [.ptr id off, .d (.int .u32 y)] h fun r h' => r = .ret (.d (.tup [])) ∧ h' = h.set id (.cells (cs.set off (.d (.int .u32 y)))) :=
  nat_store Tryz.func131 (by kernel_rfl) (by kernel_rfl) (by kernel_rfl) .u32 (by kernel_rfl) h id off cs n y hh hc
theorem n_cas (B : Array Obj) (h : List PObj) (id off : Nat) (cs : List PV) (n y : Int) (hh : h[id]? = some (.cells cs)) (hc : cs[off]? = some (.d (.int .i32 n))) :
    PCalls Tryz.prog B 145 [.ptr id off, .d (.int .i32 n), .d (.int .i32 y)] h fun r h' => r = .ret (.d (.bool true)) ∧ h' = h.set id (.cells (cs.set off (.d (.int .i32 y)))) :=
  nat_cas Tryz.func145 (by kernel_rfl) (by kernel_rfl) (by kernel_rfl) .i32 (by kernel_rfl) h id off cs n y hh hc
theorem n_add (B : Array Obj) (h : List PObj) (id off : Nat) (cs : List PV) (hh : h[id]? = some (.cells cs)) (hc : cs[off]? = some (.d (.int .i32 1))) :
    PCalls Tryz.prog B 150 [.ptr id off, .d (.int .i32 (-1))] h fun r h' => r = .ret (.d (.int .i32 0)) ∧ h' = h.set id (.cells (cs.set off (.d (.int .i32 0)))) :=
  nat_add Tryz.func150 (by kernel_rfl) (by kernel_rfl) (by kernel_rfl) .i32 (by kernel_rfl) h id off cs 1 (-1) 0 hh hc (fun w => rfl)

theorem cu1 : convU Tryz.prog 176 180 = true := by kernel_rfl
theorem set_get {h : List PObj} {id : Nat} {o : PObj} (hh : h[id]? = some o) (x : PObj) : (h.set id x)[id]? = some x := by
  rw [List.getElem?_set_self (hget_lt hh)]
theorem cset_get {cs : List PV} {off : Nat} {o : PV} (hh : cs[off]? = some o) (x : PV) : (cs.set off x)[off]? = some x := by
  rw [List.getElem?_set_self (List.getElem?_eq_some_iff.1 hh).1]

theorem lock_rc (B : Array Obj) (h : List PObj) (id off : Nat) (cs : List PV) (hh : h[id]? = some (.cells cs)) (hc : cs[off]? = some (.d (.int .i32 0))) :
    PCalls Tryz.prog B 129 [.ptr id off] h fun r h' => r = .ret (.d (.tup [])) ∧ h' = h.set id (.cells (cs.set off (.d (.int .i32 1)))) := by
  refine pcalls_start Tryz.func129 Tryz.ntmps129 rfl (by decide) rfl (by simp) fun hb => ?_
  refine vcC_sound _ _ _ _ (sm ?_)
  refine wc_use (n_disable B h) (sm ?_)
  refine wc_use (n_cas B h id off cs 0 1 hh hc) (sm ?_)
  refine wc_use (n_enable B _) (sm ?_)
  simp only [cu1, set_get hh, cset_get hc]
  refine sm ?_
  refine wc_use (n_acquire B _ id off) (sm ?_)
  trivial

theorem unlock_rc (B : Array Obj) (h : List PObj) (id off : Nat) (cs : List PV) (hh : h[id]? = some (.cells cs)) (hc : cs[off]? = some (.d (.int .i32 1))) :
    PCalls Tryz.prog B 130 [.ptr id off] h fun r h' => r = .ret (.d (.tup [])) ∧ h' = h.set id (.cells (cs.set off (.d (.int .i32 0)))) := by
  refine pcalls_start Tryz.func130 Tryz.ntmps130 rfl (by decide) rfl (by simp) fun hb => ?_
  refine vcC_sound _ _ _ _ (sm ?_)
  repeat (simp only [cu1, hh, hc]; refine sm ?_)
  refine wc_use (n_release B _ id off) (sm ?_)
  refine wc_use (n_disable B _) (sm ?_)
  refine wc_use (n_add B h id off cs hh hc) (sm ?_)
  refine wc_use (n_enable B _) (sm ?_)
  trivial

theorem mlock_rc (B : Array Obj) (h : List PObj) (id off : Nat) (cs : List PV) (hh : h[id]? = some (.cells cs)) (hc : cs[off]? = some (.d (.int .i32 0))) :
    PCalls Tryz.prog B 118 [.ptr id off] h fun r h' => r = .ret (.d (.tup [])) ∧ h' = h.set id (.cells (cs.set off (.d (.int .i32 1)))) := by
  refine pcalls_start Tryz.func118 Tryz.ntmps118 rfl (by decide) rfl (by simp) fun hb => ?_
  refine vcC_sound _ _ _ _ (sm ?_)
  refine wc_use (lock_rc B h id off cs hh hc) (sm ?_)
  trivial
theorem munlock_d (B : Array Obj) (h : List PObj) (id off : Nat) (cs : List PV) (K : PV → List PObj → Prop) (hh : h[id]? = some (.cells cs)) (hc : cs[off]? = some (.d (.int .i32 1))) (k : K (.d (.tup [])) (h.set id (.cells (cs.set off (.d (.int .i32 0)))))) :
    PCallsD Tryz.prog B 119 [.ptr id off] h K := by
  refine pcallsD_start Tryz.func119 Tryz.ntmps119 rfl (by decide) rfl (by simp) fun hb => ?_
  refine vcC_sound _ _ _ _ (sm ?_)
  refine wc_use (unlock_rc B h id off cs hh hc) (sm ?_)
  exact k
theorem bload_rc (B : Array Obj) (h : List PObj) (id off : Nat) (cs : List PV) (n : Int) (hh : h[id]? = some (.cells cs)) (hc : cs[off]? = some (.d (.int .u32 n))) :
    PCalls Tryz.prog B 108 [.ptr id off] h fun r h' => r = .ret (.d (.bool (decide (n ≠ 0)))) ∧ h' = h := by
  refine pcalls_start Tryz.func108 Tryz.ntmps108 rfl (by decide) rfl (by simp) fun hb => ?_
  refine vcC_sound _ _ _ _ (sm ?_)
  refine wc_use (n_load B h id off cs n hh hc) (sm ?_)
  trivial
theorem b32_ret (B : Array Obj) : PRet Tryz.prog B 132 [.d (.bool true)] (.int .u32 1) := by
  refine pret_start Tryz.func132 Tryz.ntmps132 rfl (by decide) rfl (by simp) fun h hb => ?_
  refine vcC_sound _ _ _ _ (sm ?_)
  exact leaf
theorem bstore_d (B : Array Obj) (hm : Tryz.prog.follows .mixedOrders = true) (h : List PObj) (id off : Nat) (cs : List PV) (K : PV → List PObj → Prop) (n : Int) (hh : h[id]? = some (.cells cs)) (hc : cs[off]? = some (.d (.int .u32 n))) (k : K (.d (.tup [])) (h.set id (.cells (cs.set off (.d (.int .u32 1)))))) :
    PCallsD Tryz.prog B 120 [.ptr id off, .d (.bool true)] h K := by
  refine pcallsD_start Tryz.func120 Tryz.ntmps120 rfl (by decide) rfl (by simp) fun hb => ?_
  refine vcC_sound _ _ _ _ (sm ?_)
  refine pwp_drawn [.q, .q, .q, .q, .q, .e] hm (by kernel_rfl) (sm ?_)
  refine exQ.use (b32_ret B) (sm ?_)
  refine exE.use (n_store B h id off cs n 1 hh hc) (sm trivial) (sm ?_)
  exact k

/-- the cells of a Once from off on: done, the lock's state, sema -/
theorem once_slow (B : Array Obj) (hm : Tryz.prog.follows .mixedOrders = true) (h : List PObj) (id : Nat) (cs : List PV) (p : PV) (g : FuncId) (first caps : List PV) (hp : fnOf p = some (g, first, caps)) (cs2 : List PV) (h2 : List PObj)
    (hh : h[id]? = some (.cells cs)) (h0 : cs[0]? = some (.d (.int .u32 0))) (h1 : cs[1]? = some (.d (.int .i32 0)))
    (c : PCalls Tryz.prog B g (first ++ caps) (h.set id (.cells (cs.set 1 (.d (.int .i32 1))))) fun r h' => r = .ret (.d (.tup [])) ∧ h' = h2)
    (hh2 : h2[id]? = some (.cells cs2)) (h20 : cs2[0]? = some (.d (.int .u32 0))) (h21 : cs2[1]? = some (.d (.int .i32 1))) :
    PCalls Tryz.prog B 109 [.ptr id 0, p] h fun r h' => r = .ret (.d (.tup [])) ∧ h' = h2.set id (.cells ((cs2.set 0 (.d (.int .u32 1))).set 1 (.d (.int .i32 0)))) := by
  refine pcalls_startD Tryz.func109 Tryz.ntmps109 rfl (by decide) rfl (by simp) fun hb => ?_
  refine vcC_sound _ _ _ _ (sm ?_)
  refine wc_use (mlock_rc B h id 1 cs hh h1) (sm ?_)
  refine wc_use (bload_rc B _ id 0 _ 0 (set_get hh _) (by rw [List.getElem?_set_ne (by omega)]; exact h0)) (sm ?_)
  simp only [hp]
  refine sm ?_
  refine wc_use c (sm ?_)
  simp only [bodyD, put_ds, dfr_ds, start_ds]
  unfold leaveP
  refine bstore_d B hm h2 id 0 cs2 _ 0 hh2 h20 ?_
  unfold leaveP
  refine munlock_d B _ id 1 _ _ (set_get hh2 _) (by rw [List.getElem?_set_ne (by omega)]; exact h21) ?_
  unfold leaveP
  simp only [presC]
  rw [List.set_set]
  exact ⟨trivial, trivial, rfl⟩

/-- the first call of a Once -/
theorem once_first (B : Array Obj) (hm : Tryz.prog.follows .mixedOrders = true) (h : List PObj) (id : Nat) (cs : List PV) (p : PV) (g : FuncId) (first caps : List PV) (hp : fnOf p = some (g, first, caps)) (cs2 : List PV) (h2 : List PObj)
    (hh : h[id]? = some (.cells cs)) (h0 : cs[0]? = some (.d (.int .u32 0))) (h1 : cs[1]? = some (.d (.int .i32 0)))
    (c : PCalls Tryz.prog B g (first ++ caps) (h.set id (.cells (cs.set 1 (.d (.int .i32 1))))) fun r h' => r = .ret (.d (.tup [])) ∧ h' = h2)
    (hh2 : h2[id]? = some (.cells cs2)) (h20 : cs2[0]? = some (.d (.int .u32 0))) (h21 : cs2[1]? = some (.d (.int .i32 1))) :
    PCalls Tryz.prog B 102 [.ptr id 0, p] h fun r h' => r = .ret (.d (.tup [])) ∧ h' = h2.set id (.cells ((cs2.set 0 (.d (.int .u32 1))).set 1 (.d (.int .i32 0)))) := by
  refine pcalls_start Tryz.func102 Tryz.ntmps102 rfl (by decide) rfl (by simp) fun hb => ?_
  refine vcC_sound _ _ _ _ (sm ?_)
  refine wc_use (bload_rc B h id 0 cs 0 hh h0) (sm ?_)
  refine wc_use (once_slow B hm h id cs p g first caps hp cs2 h2 hh h0 h1 c hh2 h20 h21) (sm ?_)
  trivial
end Go.Proofs.YtgpbkphiipjjoaaGreatDoor.Pv
end

/- graph.Right: a graph and its index. -/
section
namespace Go.Proofs.YtgpbkphiipjjoaaGreatDoor.Pv
open Go
set_option maxRecDepth 100000
set_option maxHeartbeats 4000000
set_option linter.unusedSimpArgs false

theorem may1_ret (B : Array Obj) (p : Int × Int) (v : Int) : PRet Tryz.prog B 96 [.d (dPair p), .d (.int .i64 v)] (.bool (decide (MayG p v))) := by
  refine pret_start Tryz.func96 Tryz.ntmps96 rfl (by decide) rfl (by simp) fun h hb => ?_
  refine vcC_sound _ _ _ _ (sm ?_)
  simp only [decide_eq_true_eq, decide_eq_false_iff_not]
  repeat' (first | with_reducible refine And.intro ?_ ?_ | with_reducible intro _)
  · refine .inl ?_; congr 1; exact decide_eq_decide.2 (by unfold MayG; omega)
  · exact dw_no (by unfold MayG; omega)
  · exact dw_no (by unfold MayG; omega)

theorem kf_pair (x y : Int × Int) : (eqD Tryz.prog 88 (dPair x) (dPair y)).isSome = true := by
  refine sm ?_
  simp only [Bool.and_self, if_true]; rfl

/-- the gates that are unlike, each with its place -/
def fk (l : List (Int × Int)) : Nat → List (Int × Int) × List Nat
  | 0 => ([], [])
  | i + 1 => if l.getD i default ∈ (fk l i).1 then fk l i else ((fk l i).1 ++ [l.getD i default], (fk l i).2 ++ [i])
theorem fk_len (l : List (Int × Int)) : ∀ i, (fk l i).1.length ≤ i ∧ (fk l i).2.length = (fk l i).1.length
  | 0 => by simp [fk]
  | i + 1 => by
    have := fk_len l i
    rw [fk]; split
    · omega
    · simp; omega
theorem fk_mem (l : List (Int × Int)) : ∀ i x, x ∈ (fk l i).1 ↔ ∃ j, j < i ∧ l.getD j default = x
  | 0, x => by simp [fk]
  | i + 1, x => by
    have := fk_mem l i x
    rw [fk]; split
    · rename_i hm
      rw [this]
      constructor
      · rintro ⟨j, hj, rfl⟩; exact ⟨j, by omega, rfl⟩
      · rintro ⟨j, hj, rfl⟩
        by_cases hji : j = i
        · rw [hji]; exact (fk_mem l i _).1 hm
        · exact ⟨j, by omega, rfl⟩
    · rw [List.mem_append, List.mem_singleton, this]
      constructor
      · rintro (⟨j, hj, rfl⟩ | rfl)
        · exact ⟨j, by omega, rfl⟩
        · exact ⟨i, by omega, rfl⟩
      · rintro ⟨j, hj, rfl⟩
        by_cases hji : j = i
        · right; rw [hji]
        · left; exact ⟨j, by omega, rfl⟩
theorem fk_all (g : Gr) : ∀ i, (fk g.ands i).1.length = i ↔ ∀ j, j < i → NewG g j
  | 0 => by simp [fk]
  | i + 1 => by
    have h1 := fk_all g i
    have h2 := fk_len g.ands i
    have h3 := fk_mem g.ands i (g.ands.getD i default)
    rw [fk]; split
    · rename_i hm
      constructor
      · intro h; omega
      · intro h
        obtain ⟨j, hj, e⟩ := h3.1 hm
        exact absurd e (h i (by omega) j hj)
    · rename_i hm
      rw [List.length_append]
      constructor
      · intro h j hj
        have h4 : (fk g.ands i).1.length = i := by simp at h; exact h
        by_cases hji : j = i
        · rw [hji]; intro k hk e; exact hm (h3.2 ⟨k, hk, e⟩)
        · exact h1.1 h4 j (by omega)
      · intro h
        have := h1.2 (fun j hj => h j (by omega))
        simp [this]

def pairKs (l : List (Int × Int)) : List PV := l.map fun p => .d (dPair p)
def natVs (l : List Nat) : List PV := l.map fun (n : Nat) => .d (.int .i64 n)
theorem pairKs_len (l : List (Int × Int)) : (pairKs l).length = l.length := by simp [pairKs]
theorem pairKs_snoc (l : List (Int × Int)) (p : Int × Int) : pairKs (l ++ [p]) = pairKs l ++ [.d (dPair p)] := by simp [pairKs]
theorem natVs_snoc (l : List Nat) (n : Nat) : natVs (l ++ [n]) = natVs l ++ [.d (.int .i64 n)] := by simp [natVs]
theorem pairKs_B {n : Nat} (l : List (Int × Int)) : (∀ p, p ∈ pairKs l → PV.Below n p) = True := by
  rw [show pairKs l = (l.map dPair).map PV.d by simp [pairKs, Function.comp_def]]; exact allB
theorem natVs_B {n : Nat} (l : List Nat) : (∀ p, p ∈ natVs l → PV.Below n p) = True := by
  rw [show natVs l = (l.map fun (n : Nat) => D.int .i64 n).map PV.d by simp [natVs, Function.comp_def]]; exact allB
theorem kb_pair (x p : Int × Int) : keyBeq (dPair x) (.d (dPair p)) = decide (x = p) := by
  show (decide (x.1 = p.1) && (decide (x.2 = p.2) && true)) = _
  rw [Bool.and_true, ← Bool.decide_and]
  exact decide_eq_decide.2 ⟨fun h => Prod.ext h.1 h.2, fun h => by rw [h]; exact ⟨rfl, rfl⟩⟩
theorem pfind_pairs (x : Int × Int) : ∀ (l : List (Int × Int)) (i : Nat), (pfind (dPair x) (pairKs l) i).isSome = decide (x ∈ l)
  | [], i => by simp [pairKs, pfind]
  | p :: r, i => by
    rw [show pairKs (p :: r) = .d (dPair p) :: pairKs r from rfl, pfind_cons, kb_pair]
    by_cases h : x = p
    · simp [h]
    · rw [if_neg (by simpa using h), pfind_pairs x r (i + 1)]
      simp [h]
theorem mhas_pairs (x : Int × Int) (l : List (Int × Int)) : mhas (dPair x) (pairKs l) = decide (x ∈ l) := pfind_pairs x l 0
theorem pfind_absent {x : Int × Int} {l : List (Int × Int)} (h : x ∉ l) : pfind (dPair x) (pairKs l) 0 = none := by
  have := pfind_pairs x l 0
  rw [decide_eq_false h] at this
  simpa using this
theorem allKF_pairs (x : Int × Int) (l : List (Int × Int)) : allKF Tryz.prog 88 (dPair x) (pairKs l) = True :=
  eq_true (allKF_of fun q hq => by
    obtain ⟨p, _, rfl⟩ := List.mem_map.1 hq
    exact kf_pair x p)

/-- an index -/
def idxC (d s : Int) (l : List (Int × Int)) (g : PV) : PObj := .cells [.d (.int .u32 d), .d (.int .i32 s), .d (.int .u32 0), .d (.sl (l.map dPair) false), g]
def idxM (l : List (Int × Int)) (i : Nat) : PObj := .map (pairKs (fk l i).1) (natVs (fk l i).2)

theorem imake_wc (B : Array Obj) (hm : Tryz.prog.follows .mixedOrders = true) (l : List (Int × Int)) (h : List PObj) (id : Nat) (p : PV) (hh : h[id]? = some (idxC 0 1 l p)) :
    PCalls Tryz.prog B 103 [.ptr id 0] h fun r h' => r = .ret (.d (.tup [])) ∧ h' = h.set id (idxC 0 1 l (.mp h.length)) ++ [idxM l l.length] := by
  have hlt := hget_lt hh
  have g0 := fun X => hget_old hh X
  have s0 := fun X x => hset_lt hlt X x
  have g1 := fun X x => hget_set hlt X x
  have s1 := fun X x y => hset_set hlt X x y
  have hs (hb : HB h) (X : List PObj) (hX : ∀ o, o ∈ X → o.Below (h.length + X.length)) (h0 : 0 < X.length) : HB (h.set id (idxC 0 1 l (.mp h.length)) ++ X) := by
    intro o ho
    rw [List.length_append, List.length_set]
    rcases List.mem_append.1 ho with ho | ho
    · rcases List.mem_or_eq_of_mem_set ho with ho | rfl
      · exact (hb o ho).mono (by omega)
      · rw [idxC, ob_cells]; simp [pb_d, pb_mp]; exact h0
    · exact hX o ho
  have hM (hb : HB h) (i : Nat) : HB (h.set id (idxC 0 1 l (.mp h.length)) ++ [idxM l i]) := hs hb _ (fun o ho => by
    rw [List.mem_singleton] at ho; subst ho; rw [idxM, ob_map, pairKs_B, natVs_B]; exact ⟨trivial, trivial⟩) (by simp)
  refine wp_start Tryz.func103 Tryz.ntmps103 rfl (by decide) rfl (by simp) (by simp) (fun hb => hM hb _) (.d _) fun hb => ?_
  refine vcC_sound _ _ _ _ (sm ?_)
  unfold idxC at g0
  repeat (simp only [g0, s0, g1, s1]; refine sm ?_)
  intro hn
  refine pwp_loop (κ := Nat) (fun i => [(0, .ptr id 0), (13, .d (.sl (l.map dPair) false)), (14, .d (.int .i64 l.length)), (15, .d (.int .i64 i))]) (fun i => h.set id (idxC 0 1 l (.mp h.length)) ++ [idxM l i]) (fun i => i ≤ l.length) (fun i => l.length - i)
    (fun k hk => ⟨by simp, hM hb k, by simp only [lb_nil, lb_cons, pb_d, pb_ptr, List.length_append, List.length_set, and_true, true_and]; simp; omega, by simp only [put_ds, start_ds, db_nil]⟩) ⟨0, [], by omega, mt, (List.append_nil _).symm⟩ fun i hi => ?_
  simp only [idxM, idxC]
  refine vcC_sound _ _ _ _ (sm ?_)
  refine ⟨fun h1 => ?_, fun h1 => ?_⟩
  · have hlt2 : i < l.length := by have := of_decide_eq_true h1; omega
    simp only [getD_map_lt (g := dPair) hlt2]
    refine sm ?_
    refine ⟨by omega, pwp_drawn [.q, .q, .q, .r 0 0, .r 0 0, .r 0 0, .q, .q, .q, .q, .q] hm (by kernel_rfl) (sm ?_)⟩
    repeat (simp only [g1, s1]; refine sm ?_)
    simp only [Bool.and_self, if_true, Option.isSome_some, allKF_pairs, mhas_pairs]
    refine sm ?_
    refine ⟨fun h2 => ?_, fun h2 => ?_⟩
    · have h2 := of_decide_eq_false h2
      refine pwp_drawn [.q, .q, .q, .r 0 0, .r 0 0, .q, .e] hm (by kernel_rfl) (sm ?_)
      repeat (simp only [g1, s1]; refine sm ?_)
      simp only [Bool.and_self, if_true, Option.isSome_some, allKF_pairs, pfind_absent h2]
      refine sm ?_
      rw [wsucc hlt2 (by omega)]
      refine ⟨i + 1, [.cells [.d (.int .i64 (l.getD i default).1), .d (.int .i64 (l.getD i default).2)]], by omega, by omega, mt, ?_⟩
      rw [fk, if_neg h2, pairKs_snoc, natVs_snoc]
    · have h2 : l.getD i default ∈ (fk l i).1 := by simpa using h2
      rw [wsucc hlt2 (by omega)]
      refine ⟨i + 1, [.cells [.d (.int .i64 (l.getD i default).1), .d (.int .i64 (l.getD i default).2)]], by omega, by omega, mt, ?_⟩
      rw [fk, if_pos h2]
  · have hge : i = l.length := by have := of_decide_eq_false h1; omega
    rw [← hge]
    exact ⟨[], rfl⟩

theorem imany_wc (B : Array Obj) (hm : Tryz.prog.follows .mixedOrders = true) (l : List (Int × Int)) (hll : l.length ≤ 2000) (h : List PObj) (id : Nat) (p : PV) (hh : h[id]? = some (idxC 0 0 l p)) :
    PCalls Tryz.prog B 97 [.ptr id 0] h fun r h' => r = .ret (.d (.int .i64 (fk l l.length).1.length)) ∧ h' = h.set id (idxC 1 0 l (.mp h.length)) ++ [idxM l l.length] := by
  have hlt := hget_lt hh
  refine pcalls_start Tryz.func97 Tryz.ntmps97 rfl (by decide) rfl (by simp) fun hb => ?_
  refine vcC_sound _ _ _ _ (sm ?_)
  have hmk := imake_wc B hm l (h.set id (idxC 0 1 l p)) id p (set_get hh _)
  rw [List.set_set, List.length_set] at hmk
  refine wc_use (once_first B hm h id _ (.fn (.func 103) [.ptr id 0] []) 103 [.ptr id 0] [] rfl _ (h.set id (idxC 0 1 l (.mp h.length)) ++ [idxM l l.length]) hh rfl rfl hmk (hget_set hlt _ _) rfl rfl) (sm ?_)
  simp only [hset_set hlt, hget_set hlt]
  refine sm ?_
  have hle := (fk_len l l.length).1
  simp only [idxM, pairKs_len, if_pos (show (fk l l.length).1.length ≤ 9223372036854775807 by omega)]
  refine sm ?_
  exact fun _ => rfl

theorem set_same {h : List PObj} {id : Nat} {o : PObj} (hh : h[id]? = some o) : h.set id o = h := by
  obtain ⟨h1, h2⟩ := List.getElem?_eq_some_iff.1 hh
  rw [← h2]; exact List.set_getElem_self h1
theorem ret_no {p : Prop} [Decidable p] (h : ¬p) : PRes.ret (PV.d (D.bool false)) = PRes.ret (PV.d (D.bool (decide p))) := by rw [decide_eq_false h]

theorem gright_rc (B : Array Obj) (hm : Tryz.prog.follows .mixedOrders = true) (g : Gr) (h : List PObj) (id : Nat) (p : PV) (hh : h[id]? = some (idxC 0 0 g.ands p)) :
    PCalls Tryz.prog B 76 [.d (dG g), .ptr id 0] h fun r h' => r = .ret (.d (.bool (decide (RightG g)))) ∧ ∃ o X, h' = h.set id o ++ X := by
  have hlt := hget_lt hh
  have same : ∀ X, ∃ o Y, h ++ X = h.set id o ++ Y := fun X => ⟨_, X, by rw [set_same hh]⟩
  refine pcalls_start Tryz.func76 Tryz.ntmps76 rfl (by decide) rfl (by simp) fun hb => ?_
  refine pwp_seq (vcC_sound _ _ _ _ (sm ?_))
  refine pwp_join [(1, .ptr id 0), (2, .ptr h.length 0)] (SizeG g) (hd1 hb) (vcC_sound _ _ _ _ (sm ?_)) fun hF => ?_
  · simp only [decide_eq_true_eq, decide_eq_false_iff_not]
    repeat' (first | with_reducible refine And.intro ?_ ?_ | with_reducible intro _)
    all_goals try exact same _
    all_goals try (exact ret_no (fun hR => by have := hR.1; unfold SizeG at this; omega))
    refine PRet.use (vars_ret B g) (sm ?_)
    simp only [decide_eq_true_eq, decide_eq_false_iff_not]
    refine ⟨fun h1 => ⟨?_, same _⟩, fun h1 => ⟨mt, by unfold SizeG; omega, [], rfl⟩⟩
    exact ret_no (fun hR => by have := hR.1; unfold SizeG at this; omega)
  · refine vcC_sound _ _ _ _ (sm ?_)
    intro hn
    refine pwp_loop (κ := Nat) (fun i => [(1, .ptr id 0), (2, .ptr h.length 0), (27, .d (.sl (g.ands.map dPair) false)), (28, .d (.int .i64 g.ands.length)), (29, .d (.int .i64 i))]) (fun _ => _) (fun i => i ≤ g.ands.length ∧ ∀ j, j < i → MayG (g.ands.getD j default) (g.inputs + 1 + j)) (fun i => g.ands.length - i)
      (fun k hk => hd1 hb) ⟨0, [], ⟨by omega, fun j hj => absurd hj (by omega)⟩, mt, (List.append_nil _).symm⟩ fun i hi => ?_
    refine vcC_sound _ _ _ _ (sm ?_)
    have hF' := hF
    unfold SizeG at hF'
    refine ⟨fun h1 => ?_, fun h1 => ?_⟩
    · have hlt2 : i < g.ands.length := by have := of_decide_eq_true h1; omega
      simp only [getD_map_lt (g := dPair) hlt2]
      refine sm ?_
      rw [w64 (n := g.inputs + 1), w64 (n := g.inputs + 1 + i)]
      refine ⟨by omega, PRet.use (may1_ret B (g.ands.getD i default) _) (sm ?_)⟩
      refine ⟨fun h2 => ⟨?_, same _⟩, fun h2 => ?_⟩
      · have h2 : ¬ MayG (g.ands.getD i default) (g.inputs + 1 + i) := by simpa using h2
        exact ret_no (fun hR => h2 (hR.2 i hlt2).1)
      · have h2 : MayG (g.ands.getD i default) (g.inputs + 1 + i) := by simpa using h2
        rw [wsucc hlt2 (by omega)]
        refine ⟨i + 1, [.cells [.d (.int .i64 (g.ands.getD i default).1), .d (.int .i64 (g.ands.getD i default).2)]], ⟨by omega, fun j hj => ?_⟩, by omega, mt, rfl⟩
        by_cases hji : j = i
        · rw [hji]; exact h2
        · exact hi.2 j (by omega)
    · have hge : i = g.ands.length := by have := of_decide_eq_false h1; omega
      refine pwp_drawn [.q, .e, .q, .r 1 0, .r 1 0, .q, .q] hm (by kernel_rfl) (sm ?_)
      refine exE.use (imany_wc B hm g.ands hF'.2.2.1 _ id p (hget_old hh _)) (sm trivial) ?_
      rw [hset_lt hlt]
      refine sm ?_
      refine ⟨?_, _, _, rfl⟩
      have : ((fk g.ands g.ands.length).1.length : Int) = g.ands.length ↔ RightG g := by
        rw [Int.ofNat_inj, fk_all g]
        constructor
        · intro hN
          refine ⟨hF, fun j hj => ⟨?_, hN j hj⟩⟩
          rw [hge] at hi
          exact hi.2 j hj
        · intro hR j hj
          exact (hR.2 j hj).2
      rw [decide_eq_decide.2 this]

theorem GRight_ret (B : Array Obj) (hm : Tryz.prog.follows .mixedOrders = true) (g : Gr) : PRet Tryz.prog B 40 [.d (dG g)] (.bool (decide (RightG g))) := by
  refine pret_start Tryz.func40 Tryz.ntmps40 rfl (by decide) rfl (by simp) fun h hb => ?_
  refine vcC_sound _ _ _ _ (sm ?_)
  refine (gright_rc B hm g _ (h.length + 1) (.d (.raw (.map none))) (by rw [hget_own]; rfl)).mono fun r h' hr => ?_
  obtain ⟨rfl, o, X, rfl⟩ := hr
  simp only [retK, hset_own]
  refine sm ?_
  exact .inl rfl
end Go.Proofs.YtgpbkphiipjjoaaGreatDoor.Pv
end

/- Circuits: how many signals, ranks of kinds, words; the library's comparisons. -/
section
namespace Go.Proofs.YtgpbkphiipjjoaaGreatDoor.Pv
open Go
set_option maxRecDepth 100000
set_option maxHeartbeats 4000000
set_option linter.unusedSimpArgs false

/-- what is asked at a loop's head, where there are no own objects -/
theorem hd0 {h : List PObj} {a : PA} {L : List (Nat × PV)} (hb : HB h)
    (hL : LB h.length L := by simp only [lb_nil, lb_cons, pb_d, pb_ptr, pb_row, pb_mp, pb_it, pb_junk, pb_fn, pb_agg, pb_tup, pb_ifc, List.mem_cons, List.not_mem_nil, or_false, forall_eq_or_imp, forall_eq, false_implies, implies_true, and_true, true_and] <;> (try omega))
    (hD : a.ds = [] := by simp only [put_ds, start_ds, mk_ds, rs_ds]) : h.length ≤ h.length ∧ HB h ∧ LB h.length L ∧ DB h.length a.ds :=
  ⟨Nat.le_refl _, hb, hL, by rw [hD, db_nil]; trivial⟩
def ciC (c : Ci) : PObj := .cells [.d (.int .i64 c.inputs), .d (.sl (c.latches.map dPair) false), .d (.sl (c.ands.map dPair) false), .d (.sl (c.outputs.map dInt) false), .d (.sl (c.bads.map dInt) false), .d (.sl (c.cons.map dInt) false), .d (.sl (c.fair.map dInt) false), .d (.sl (c.names.map dN) false)]
def manyKs : List PV := [.d (.int .i32 105), .d (.int .i32 108), .d (.int .i32 111), .d (.int .i32 98), .d (.int .i32 99), .d (.int .i32 102)]
def manyVs (c : Ci) : List PV := [.d (.int .i64 c.inputs), .d (.int .i64 c.latches.length), .d (.int .i64 c.outputs.length), .d (.int .i64 c.bads.length), .d (.int .i64 c.cons.length), .d (.int .i64 c.fair.length)]
theorem many_rc (B : Array Obj) (c : Ci) (h : List PObj) : PCalls Tryz.prog B 36 [.d (dC c)] h fun r h' => r = .ret (.mp (h.length + 1)) ∧ h' = h ++ [ciC c, .map manyKs (manyVs c)] := by
  refine pcalls_start Tryz.func36 Tryz.ntmps36 rfl (by decide) rfl (by simp) fun hb => ?_
  refine vcC_sound _ _ _ _ (sm ?_)
  intros; rfl

/-- which kind a letter is -/
def kindsL : List UInt8 := [105, 108, 111, 98, 99, 102]
def rankF (k : Int) : Int := idxP (fun x : UInt8 => decide (k = x.toNat)) kindsL 0
theorem dec_kinds : ∀ i, i < 6 → decL kindsL i = ((kindsL.getD i 0).toNat, 1) := by decide

theorem rank_ret (B : Array Obj) (k : Int) (hk : 0 ≤ k ∧ k < 256) : PRet Tryz.prog B 80 [.d (.int .u8 k)] (.int .i64 (rankF k)) := by
  refine pret_start Tryz.func80 Tryz.ntmps80 rfl (by decide) rfl (by simp) fun h hb => ?_
  refine vcC_sound _ _ _ _ (sm ?_)
  refine pwp_loop (κ := Nat) (fun i => [(0, .d (.int .u8 k)), (5, .it h.length)]) (fun i => h ++ [.siter kindsL i]) (fun i => i ≤ 6 ∧ ∀ j, j < i → decide (k = ((kindsL.getD j default).toNat : Int)) = false) (fun i => 6 - i)
    (fun k hk => hd1 hb) ⟨0, [], ⟨by omega, fun j hj => absurd hj (by omega)⟩, mt, (List.append_nil _).symm⟩ fun i hi => ?_
  refine vcC_sound _ _ _ _ (sm ?_)
  rcases Nat.lt_or_ge i 6 with hlt | hge
  · have hl : i < kindsL.length := hlt
    have hby : (kindsL.getD i 0).toNat < 256 := (kindsL.getD i 0).toNat_lt
    have h32 (n : Int) (h1 : 0 ≤ n) (h2 : n < 256) : IntKind.i32.wrap n = n := by simp only [IntKind.wrap, IntKind.signed, IntKind.bits]; simp; omega
    simp only [if_pos hl, dec_kinds i hlt]
    refine sm ?_
    rw [h32 k hk.1 hk.2]
    refine ⟨fun h1 => ?_, fun h1 => ?_⟩
    · exact .inl (by rw [rankF, idxP_at (fun x : UInt8 => decide (k = x.toNat)) kindsL i 0 hlt hi.2 h1]; rfl)
    · refine ⟨i + 1, [], ⟨by omega, fun j hj => ?_⟩, by omega, mt, rfl⟩
      by_cases hji : j = i
      · rw [hji]; exact h1
      · exact hi.2 j (by omega)
  · have hl : ¬ i < kindsL.length := by show ¬ i < 6; omega
    simp only [if_neg hl]
    refine sm ?_
    exact .inl (by rw [rankF, idxP_none (fun x : UInt8 => decide (k = x.toNat)) kindsL 0 (fun j hj => hi.2 j (by have : j < 6 := hj; omega))])

theorem nan_ret (B : Array Obj) (a : Int) : PRet Tryz.prog B 98 [.d (.int .i64 a)] (.bool false) := by
  refine pret_start Tryz.func98 Tryz.ntmps98 rfl (by decide) rfl (by simp) fun h hb => ?_
  refine vcC_sound _ _ _ _ (sm ?_)
  exact leaf
def cmpI (a b : Int) : Int := if a < b then -1 else if b < a then 1 else 0
theorem cmp_ret (B : Array Obj) (a b : Int) : PRet Tryz.prog B 82 [.d (.int .i64 a), .d (.int .i64 b)] (.int .i64 (cmpI a b)) := by
  refine pret_start Tryz.func82 Tryz.ntmps82 rfl (by decide) rfl (by simp) fun h hb => ?_
  refine vcC_sound _ _ _ _ (sm ?_)
  refine PRet.use (nan_ret B a) (sm ?_)
  refine PRet.use (nan_ret B b) (sm ?_)
  simp only [decide_eq_true_eq, decide_eq_false_iff_not]
  unfold cmpI
  refine ⟨fun h1 => ?_, fun h1 => ⟨fun h2 => ?_, fun h2 => ?_⟩⟩
  · rw [if_pos h1]; exact leaf
  · rw [if_neg h1, if_pos h2]; exact leaf
  · rw [if_neg h1, if_neg h2]; exact leaf
def or2 (a b : Int) : Int := if a ≠ 0 then a else b
theorem or_ret (B : Array Obj) (a b : Int) (cl : Bool) : PRet Tryz.prog B 81 [.d (.sl [.int .i64 a, .int .i64 b] cl)] (.int .i64 (or2 a b)) := by
  refine pret_start Tryz.func81 Tryz.ntmps81 rfl (by decide) rfl (by simp) fun h hb => ?_
  refine vcC_sound _ _ _ _ (sm ?_)
  refine pwp_rounds 3 (pr_succ (vcC_sound _ _ _ _ (sm ?_)))
  simp only [List.getD_cons_zero]; refine sm ?_
  refine ⟨fun h1 => ?_, fun h1 => ?_⟩
  · have h1 : a ≠ 0 := by simpa using h1
    exact .inl (by rw [or2, if_pos h1])
  · have h1 : ¬ a ≠ 0 := by simpa using h1
    rw [show (IntKind.i64.wrap (0 + 1) : Int) = 1 from rfl]
    refine pr_succ (vcC_sound _ _ _ _ (sm ?_))
    simp only [show ([D.int IntKind.i64 a, D.int IntKind.i64 b].getD (Int.toNat 1) default) = .int .i64 b from rfl, show ([D.int IntKind.i64 a, D.int IntKind.i64 b].getD 1 default) = .int .i64 b from rfl]; refine sm ?_
    refine ⟨fun h2 => ?_, fun h2 => ?_⟩
    · exact .inl (by rw [or2, if_neg h1])
    · have h2 : ¬ b ≠ 0 := by simpa using h2
      rw [show (IntKind.i64.wrap (1 + 1) : Int) = 2 from rfl]
      refine pr_succ (vcC_sound _ _ _ _ (sm ?_))
      exact .inl (by rw [or2, if_neg h1]; congr 1; omega)

theorem all_of_getD {α : Type} {l : List α} {d : α} {p : α → Bool} (h : ∀ j, j < l.length → p (l.getD j d) = true) : l.all p = true := by
  rw [List.all_eq_true]
  intro x hx
  obtain ⟨j, hj, rfl⟩ := List.mem_iff_getElem.1 hx
  have := h j hj
  rwa [List.getD_eq_getElem?_getD, List.getElem?_eq_getElem hj] at this
theorem all_no_getD {α : Type} {l : List α} {d : α} {p : α → Bool} {i : Nat} (hi : i < l.length) (hp : p (l.getD i d) = false) : l.all p = false := by
  rw [List.all_eq_false]
  refine ⟨l.getD i d, ?_, by rw [hp]; simp⟩
  rw [List.getD_eq_getElem?_getD, List.getElem?_eq_getElem hi]; exact List.getElem_mem hi
theorem snoc_inv {P : Nat → Prop} {i : Nat} (h : ∀ j, j < i → P j) (hi : P i) : ∀ j, j < i + 1 → P j := fun j hj => by
  by_cases hji : j = i
  · rw [hji]; exact hi
  · exact h j (by omega)
def byteOk (b : UInt8) : Bool := decide (32 < b.toNat) && decide (b.toNat ≤ 126)
theorem byteOk_yes {b : UInt8} (h1 : 32 < b.toNat) (h2 : b.toNat ≤ 126) : byteOk b = true := by simp [byteOk, h1, h2]
theorem byteOk_no {b : UInt8} (h : b.toNat ≤ 32 ∨ 126 < b.toNat) : byteOk b = false := by simp [byteOk]; omega
def wordF (s : List UInt8) : Bool := s.all byteOk && (decide (s ≠ []) && decide (s.length ≤ 20))
theorem word_ret (B : Array Obj) (s : List UInt8) : PRet Tryz.prog B 79 [.d (.str s)] (.bool (wordF s)) := by
  refine pret_start Tryz.func79 Tryz.ntmps79 rfl (by decide) rfl (by simp) fun h hb => ?_
  refine vcC_sound _ _ _ _ (sm ?_)
  intro hn
  refine pwp_loop (κ := Nat) (fun i => [(0, .d (.str s)), (5, .d (.int .i64 s.length)), (6, .d (.int .i64 i))]) (fun i => h) (fun i => i ≤ s.length ∧ ∀ j, j < i → byteOk (s.getD j 0) = true) (fun i => s.length - i)
    (fun k hk => hd0 hb) ⟨0, [], ⟨by omega, fun j hj => absurd hj (by omega)⟩, mt, (List.append_nil _).symm⟩ fun i hi => ?_
  refine vcC_sound _ _ _ _ (sm ?_)
  have no (h1 : i < s.length) (h2 : byteOk (s.getD i 0) = false) : DW (.bool false) (.bool (wordF s)) := .inl (by rw [wordF, all_no_getD h1 h2, Bool.false_and])
  simp only [decide_eq_true_eq, decide_eq_false_iff_not]
  refine ⟨fun h1 => ?_, fun h1 => ?_⟩
  · have hl : i < s.length := by omega
    refine ⟨by omega, fun h2 => ⟨by omega, fun h3 => no hl (byteOk_no (by omega)), fun h3 => ?_⟩, fun h2 => no hl (byteOk_no (by omega))⟩
    rw [wsucc hl (by omega)]
    exact ⟨i + 1, [], ⟨by omega, snoc_inv hi.2 (byteOk_yes (by omega) (by omega))⟩, by omega, mt, (List.append_nil _).symm⟩
  · have hge : i = s.length := by omega
    have ha : s.all byteOk = true := all_of_getD (d := 0) (by rw [← hge]; exact hi.2)
    refine ⟨fun h2 _ => .inl ?_, fun h2 => .inl ?_⟩
    · rw [wordF, ha, Bool.true_and, decide_eq_true h2, Bool.true_and]
      congr 1; exact decide_eq_decide.2 (by omega)
    · have h2 : s = [] := by simpa using h2
      rw [wordF, h2]; rfl
end Go.Proofs.YtgpbkphiipjjoaaGreatDoor.Pv
end

/- circuit.names: may names be? -/
section
namespace Go.Proofs.YtgpbkphiipjjoaaGreatDoor.Pv
open Go
set_option maxRecDepth 100000
set_option maxHeartbeats 4000000
set_option linter.unusedSimpArgs false

def manyF (c : Ci) (k : Int) : Int := if k = 105 then c.inputs else if k = 108 then c.latches.length else if k = 111 then c.outputs.length else if k = 98 then c.bads.length else if k = 99 then c.cons.length else if k = 102 then c.fair.length else 0
def NameC (c : Ci) (n : Nm) : Prop := wordF n.text = true ∧ 0 ≤ rankF n.kind ∧ 0 ≤ n.at_ ∧ n.at_ < manyF c n.kind
instance (c : Ci) (n : Nm) : Decidable (NameC c n) := by unfold NameC; infer_instance
def LexN (y x : Nm) : Prop := rankF y.kind < rankF x.kind ∨ (rankF y.kind = rankF x.kind ∧ y.at_ < x.at_)
instance (y x : Nm) : Decidable (LexN y x) := by unfold LexN; infer_instance
def NewN (c : Ci) (i : Nat) : Prop := ∀ k, k < i → (c.names.getD k default).text ≠ (c.names.getD i default).text
instance (c : Ci) (i : Nat) : Decidable (NewN c i) := by unfold NewN; infer_instance
def AtN (c : Ci) (i : Nat) : Prop := NameC c (c.names.getD i default) ∧ (0 < i → LexN (c.names.getD (i - 1) default) (c.names.getD i default)) ∧ NewN c i
instance (c : Ci) (i : Nat) : Decidable (AtN c i) := by unfold AtN; infer_instance
def NamesC (c : Ci) : Prop := ∀ i, i < c.names.length → AtN c i
instance (c : Ci) : Decidable (NamesC c) := by unfold NamesC; infer_instance

theorem or_lex (a b x y : Int) : 0 ≤ or2 (cmpI a b) (cmpI x y) ↔ ¬ (a < b ∨ (a = b ∧ x < y)) := by
  unfold or2 cmpI
  repeat' split
  all_goals omega

theorem mget_many (c : Ci) (k : Int) (z : PV) (hz : z = .d (.int .i64 0)) : mget (.int .i32 k) manyKs (manyVs c) z = .d (.int .i64 (manyF c k)) := by
  subst hz
  unfold manyKs manyVs manyF
  simp only [mget_cons, mget_nil, keyBeq_int, decide_eq_true_eq]
  repeat' split
  all_goals rfl
theorem allKF_many (k : Int) : allKF Tryz.prog 21 (.int .i32 k) manyKs = True := by
  unfold manyKs
  simp only [akf_cons, akf_nil, kf_d, and_true]
  refine eq_true ?_
  refine sm ?_
  trivial

/-- what is met of a list, each once -/
def ded {α : Type} [DecidableEq α] (f : Nat → α) : Nat → List α
  | 0 => []
  | i + 1 => if f i ∈ ded f i then ded f i else ded f i ++ [f i]
theorem ded_len {α : Type} [DecidableEq α] (f : Nat → α) : ∀ i, (ded f i).length ≤ i
  | 0 => by simp [ded]
  | i + 1 => by
    have := ded_len f i
    rw [ded]; split
    · omega
    · simp; omega
theorem ded_mem {α : Type} [DecidableEq α] (f : Nat → α) : ∀ i x, x ∈ ded f i ↔ ∃ j, j < i ∧ f j = x
  | 0, x => by simp [ded]
  | i + 1, x => by
    have := ded_mem f i x
    rw [ded]; split
    · rename_i hm
      rw [this]
      constructor
      · rintro ⟨j, hj, rfl⟩; exact ⟨j, by omega, rfl⟩
      · rintro ⟨j, hj, rfl⟩
        by_cases hji : j = i
        · rw [hji]; exact (ded_mem f i _).1 hm
        · exact ⟨j, by omega, rfl⟩
    · rw [List.mem_append, List.mem_singleton, this]
      constructor
      · rintro (⟨j, hj, rfl⟩ | rfl)
        · exact ⟨j, by omega, rfl⟩
        · exact ⟨i, by omega, rfl⟩
      · rintro ⟨j, hj, rfl⟩
        by_cases hji : j = i
        · right; rw [hji]
        · left; exact ⟨j, by omega, rfl⟩
theorem ded_all {α : Type} [DecidableEq α] (f : Nat → α) : ∀ i, (ded f i).length = i ↔ ∀ j, j < i → ∀ k, k < j → f k ≠ f j
  | 0 => by simp [ded]
  | i + 1 => by
    have h1 := ded_all f i
    have h2 := ded_len f i
    have h3 := ded_mem f i (f i)
    rw [ded]; split
    · rename_i hm
      constructor
      · intro h; omega
      · intro h
        obtain ⟨j, hj, e⟩ := h3.1 hm
        exact absurd e (h i (by omega) j hj)
    · rename_i hm
      rw [List.length_append]
      constructor
      · intro h j hj
        have h4 : (ded f i).length = i := by simp at h; exact h
        by_cases hji : j = i
        · rw [hji]; intro k hk e; exact hm (h3.2 ⟨k, hk, e⟩)
        · exact h1.1 h4 j (by omega)
      · intro h
        have := h1.2 (fun j hj => h j (by omega))
        simp [this]

def strKs (l : List (List UInt8)) : List PV := l.map fun s => .d (.str s)
def unitVs (l : List (List UInt8)) : List PV := l.map fun _ => .d (.agg [])
theorem strKs_len (l : List (List UInt8)) : (strKs l).length = l.length := by simp [strKs]
theorem strKs_snoc (l : List (List UInt8)) (p : List UInt8) : strKs (l ++ [p]) = strKs l ++ [.d (.str p)] := by simp [strKs]
theorem unitVs_snoc (l : List (List UInt8)) (p : List UInt8) : unitVs (l ++ [p]) = unitVs l ++ [.d (.agg [])] := by simp [unitVs]
theorem strKs_B {n : Nat} (l : List (List UInt8)) : (∀ p, p ∈ strKs l → PV.Below n p) = True := by
  rw [show strKs l = (l.map D.str).map PV.d by simp [strKs, Function.comp_def]]; exact allB
theorem unitVs_B {n : Nat} (l : List (List UInt8)) : (∀ p, p ∈ unitVs l → PV.Below n p) = True := by
  rw [show unitVs l = (l.map fun _ => D.agg []).map PV.d by simp [unitVs, Function.comp_def]]; exact allB
theorem pfind_strs (x : List UInt8) : ∀ (l : List (List UInt8)) (i : Nat), (pfind (.str x) (strKs l) i).isSome = decide (x ∈ l)
  | [], i => by simp [strKs, pfind]
  | p :: r, i => by
    rw [show strKs (p :: r) = .d (.str p) :: strKs r from rfl, pfind_cons, keyBeq_str]
    by_cases h : x = p
    · simp [h]
    · rw [if_neg (by simpa using h), pfind_strs x r (i + 1)]
      simp [h]
theorem unitVs_set : ∀ (l : List (List UInt8)) (i : Nat), (unitVs l).set i (.d (.agg [])) = unitVs l
  | [], _ => rfl
  | _ :: _, 0 => rfl
  | x :: r, i + 1 => by
    show PV.d (.agg []) :: (unitVs r).set i (.d (.agg [])) = _
    rw [unitVs_set r i]; rfl
theorem mput_strs (x : List UInt8) (l : List (List UInt8)) : mput (.str x) (.d (.agg [])) (strKs l) (unitVs l) = if x ∈ l then .map (strKs l) (unitVs l) else .map (strKs (l ++ [x])) (unitVs (l ++ [x])) := by
  have hf := pfind_strs x l 0
  unfold mput
  split
  · rename_i i hi
    rw [hi] at hf
    have : x ∈ l := by simpa using hf.symm
    rw [if_pos this, unitVs_set]
  · rename_i hi
    rw [hi] at hf
    have : x ∉ l := by simpa using hf.symm
    rw [if_neg this, strKs_snoc, unitVs_snoc]
theorem allKF_strs (x : List UInt8) (l : List (List UInt8)) : allKF Tryz.prog 9 (.str x) (strKs l) = True :=
  eq_true (allKF_of fun q hq => by
    obtain ⟨p, _, rfl⟩ := List.mem_map.1 hq
    show (eqD Tryz.prog 9 (.str x) (.str p)).isSome = true
    refine sm ?_
    trivial)

def textM (c : Ci) (i : Nat) : PObj := .map (strKs (ded (fun j => (c.names.getD j default).text) i)) (unitVs (ded (fun j => (c.names.getD j default).text) i))
theorem textM_succ (c : Ci) (i : Nat) : mput (.str (c.names.getD i default).text) (.d (.agg [])) (strKs (ded (fun j => (c.names.getD j default).text) i)) (unitVs (ded (fun j => (c.names.getD j default).text) i)) = textM c (i + 1) := by
  rw [mput_strs, textM, ded]
  split <;> rfl

theorem names_ret (B : Array Obj) (hm : Tryz.prog.follows .mixedOrders = true) (c : Ci) (hN : ∀ n, n ∈ c.names → 0 ≤ n.kind ∧ n.kind < 256) : PRet Tryz.prog B 43 [.d (dC c)] (.bool (decide (NamesC c))) := by
  refine pret_start Tryz.func43 Tryz.ntmps43 rfl (by decide) rfl (by simp) fun h hb => ?_
  refine vcC_sound _ _ _ _ (sm ?_)
  refine wc_use (many_rc B c _) ?_
  refine sm ?_
  intro hn
  have hB (hb : HB h) (i : Nat) : ∀ o, o ∈ [ciC c, ciC c, .map manyKs (manyVs c), textM c i] → o.Below (h.length + [ciC c, ciC c, PObj.map manyKs (manyVs c), textM c i].length) := by
    simp only [List.mem_cons, List.not_mem_nil, or_false, forall_eq_or_imp, forall_eq, ciC, manyKs, manyVs, textM, ob_cells, ob_map, pb_d, strKs_B, unitVs_B, false_implies, implies_true, and_true, true_and]
  refine pwp_loop (κ := Nat) (fun i => [(1, .ptr h.length 0), (3, .mp (h.length + 2)), (4, .mp (h.length + 3)), (12, .d (.sl (c.names.map dN) false)), (13, .d (.int .i64 c.names.length)), (14, .d (.int .i64 i))]) (fun i => h ++ [ciC c, ciC c, .map manyKs (manyVs c), textM c i]) (fun i => i ≤ c.names.length ∧ ∀ j, j < i → NameC c (c.names.getD j default) ∧ (0 < j → LexN (c.names.getD (j - 1) default) (c.names.getD j default))) (fun i => c.names.length - i)
    (fun k hk => hd1 hb (hB hb k)) ⟨0, [], ⟨by omega, fun j hj => absurd hj (by omega)⟩, mt, (List.append_nil _).symm⟩ fun i hi => ?_
  simp only [ciC, textM]
  refine vcC_sound _ _ _ _ (sm ?_)
  refine ⟨fun h1 => ?_, fun h1 => ?_⟩
  · have hlt : i < c.names.length := by have := of_decide_eq_true h1; omega
    have hk := hN _ (getD_mem' hlt)
    simp only [getD_map_lt (g := dN) hlt]
    refine sm ?_
    refine ⟨by omega, PRet.use (word_ret B (c.names.getD i default).text) (sm ?_)⟩
    have h32 (n : Int) (h1 : 0 ≤ n) (h2 : n < 256) : IntKind.i32.wrap n = n := by simp only [IntKind.wrap, IntKind.signed, IntKind.bits]; simp; omega
    have e := textM_succ c i
    unfold mput at e
    refine ⟨fun h2 => PRet.use (rank_ret B _ hk) (sm ?_), fun h2 => dw_no (fun hR => by rw [(hR i hlt).1.1] at h2; cases h2)⟩
    have h2 : wordF (c.names.getD i default).text = true := by rw [Bool.not_eq_false'] at h2; exact h2
    rw [h32 _ hk.1 hk.2]
    simp only [allKF_many, mget_many c _ _ rfl, List.getD_cons_zero, decide_eq_true_eq, decide_eq_false_iff_not]
    refine sm ?_
    have no (hx : ¬ NameC c (c.names.getD i default)) : DW (.bool false) (.bool (decide (NamesC c))) := dw_no (fun hR => hx (hR i hlt).1)
    refine ⟨fun h3 => ⟨fun h4 => ⟨fun h5 => no (fun hx => by unfold NameC at hx; omega), fun h5 => ⟨by rw [allKF_strs]; trivial, fun h6 => ?_, fun h6 => ?_⟩⟩, fun h4 => no (fun hx => by unfold NameC at hx; omega)⟩, fun h3 => no (fun hx => by unfold NameC at hx; omega)⟩
    · have h0 : i = 0 := by omega
      rw [wsucc hlt (by omega), e]
      refine ⟨i + 1, [.cells [.d (.int .u8 (c.names.getD i default).kind), .d (.int .i64 (c.names.getD i default).at_), .d (.str (c.names.getD i default).text)]], ⟨by omega, ?_⟩, by omega, mt, rfl⟩
      exact snoc_inv hi.2 ⟨⟨h2, by omega, by omega, by omega⟩, fun h0' => absurd h0 (by omega)⟩
    · have hp : i - 1 < c.names.length := by omega
      have hk' := hN _ (getD_mem' hp)
      rw [w64 (n := (i : Int) - 1), show (i : Int) - 1 = ((i - 1 : Nat) : Int) by omega]
      simp only [Int.toNat_natCast, getD_map_lt (g := dN) hp]
      refine sm ?_
      refine ⟨by omega, pwp_drawn [.q, .r 0 0, .q, .q, .r 0 0, .q, .q, .q, .r 0 0, .q, .r 0 0, .q, .q, .q, .q] hm (by kernel_rfl) (sm ?_)⟩
      refine exQ.use (rank_ret B _ hk') (sm ?_)
      refine exQ.use (rank_ret B _ hk) (sm ?_)
      refine exQ.use (cmp_ret B _ _) (sm ?_)
      refine exQ.use (cmp_ret B _ _) (sm ?_)
      refine exQ.use (or_ret B _ _ true) (sm ?_)
      simp only [decide_eq_true_eq, decide_eq_false_iff_not]
      have hol := or_lex (rankF (c.names.getD (i - 1) default).kind) (rankF (c.names.getD i default).kind) (c.names.getD (i - 1) default).at_ (c.names.getD i default).at_
      refine ⟨fun h7 => ?_, fun h7 => ?_⟩
      · exact dw_no (fun hR => hol.1 h7 ((hR i hlt).2.1 (by omega)))
      · rw [wsucc hlt (by omega), e]
        refine ⟨i + 1, [.cells [.d (.int .u8 (c.names.getD i default).kind), .d (.int .i64 (c.names.getD i default).at_), .d (.str (c.names.getD i default).text)], .cells [.d (.int .u8 (c.names.getD (i - 1) default).kind), .d (.int .i64 (c.names.getD (i - 1) default).at_), .d (.str (c.names.getD (i - 1) default).text)]], ⟨by omega, ?_⟩, by omega, mt, rfl⟩
        refine snoc_inv hi.2 ⟨⟨h2, by omega, by omega, by omega⟩, fun _ => ?_⟩
        exact Classical.byContradiction fun hx => h7 (hol.2 hx)
  · have hge : i = c.names.length := by have := of_decide_eq_false h1; omega
    have hle := ded_len (fun j => (c.names.getD j default).text) i
    simp only [strKs_len, if_pos (show (ded (fun j => (c.names.getD j default).text) i).length ≤ 9223372036854775807 by omega)]
    refine sm ?_
    intro _ _
    refine .inl ?_
    congr 1
    refine decide_eq_decide.2 ?_
    have := ded_all (fun j => (c.names.getD j default).text) i
    constructor
    · intro hl j hj
      rw [← hge] at hj
      exact ⟨(hi.2 j hj).1, (hi.2 j hj).2, this.1 (by omega) j hj⟩
    · intro hR
      have := this.2 (fun j hj => (hR j (by omega)).2.2)
      omega
end Go.Proofs.YtgpbkphiipjjoaaGreatDoor.Pv
end

/- circuit.Right: may a circuit be? -/
section
namespace Go.Proofs.YtgpbkphiipjjoaaGreatDoor.Pv
open Go
set_option maxRecDepth 100000
set_option maxHeartbeats 4000000
set_option linter.unusedSimpArgs false

def CountC (c : Ci) : Prop := 0 ≤ c.inputs ∧ c.inputs ≤ 2000 ∧ c.latches.length ≤ 2000 ∧ c.outputs.length ≤ 2000 ∧ c.bads.length ≤ 2000 ∧ c.cons.length ≤ 2000 ∧ c.fair.length ≤ 2000
instance (c : Ci) : Decidable (CountC c) := by unfold CountC; infer_instance
def latchOk (g : Gr) (x : Int × Int) : Bool := litG g x.1 && (decide (0 ≤ x.2) && decide (x.2 ≤ 2))
def litsC (c : Ci) : Prop := c.outputs.all (litG (ofC c)) = true ∧ c.bads.all (litG (ofC c)) = true ∧ c.cons.all (litG (ofC c)) = true ∧ c.fair.all (litG (ofC c)) = true
instance (c : Ci) : Decidable (litsC c) := by unfold litsC; infer_instance
def RightC (c : Ci) : Prop := CountC c ∧ RightG (ofC c) ∧ c.latches.all (latchOk (ofC c)) = true ∧ litsC c ∧ NamesC c
instance (c : Ci) : Decidable (RightC c) := by unfold RightC; infer_instance

theorem oddl_rc (B : Array Obj) (g : Gr) (n : Int) (h : List PObj) (id : Nat) (hid : h[id]? = some (.cells [.d (.int .i64 g.inputs), .d (.sl (g.ands.map dPair) false)])) :
    PCalls Tryz.prog B 37 [.d (.int .i64 n), .ptr id 0] h fun r h' => r = .ret (.d (.bool (!litG g n))) ∧ h' = h := by
  refine rc_start Tryz.func37 Tryz.ntmps37 rfl (by decide) rfl (by simp) fun hb => ?_
  refine vcC_sound _ _ _ _ (sm ?_)
  simp only [hid]; refine sm ?_
  refine PRet.use (lit_ret B g n) (sm ?_)
  exact leaf
theorem badl_rc (B : Array Obj) (g : Gr) (x : Int × Int) (h : List PObj) (id ig : Nat) (hid : h[id]? = some (.cells [.fn (.func 37) [] [.ptr ig 0]])) (hig : h[ig]? = some (.cells [.d (.int .i64 g.inputs), .d (.sl (g.ands.map dPair) false)])) :
    PCalls Tryz.prog B 39 [.d (dPair x), .ptr id 0] h fun r h' => r = .ret (.d (.bool (!latchOk g x))) ∧ h' = h := by
  refine rc_start Tryz.func39 Tryz.ntmps39 rfl (by decide) rfl (by simp) fun hb => ?_
  refine vcC_sound _ _ _ _ (sm ?_)
  simp only [hget_old hid]; refine sm ?_
  refine rc_use (oddl_rc B g x.1 _ ig (hget_old hig _)) (sm ?_)
  repeat' (first | with_reducible refine And.intro ?_ ?_ | with_reducible intro _)
  all_goals (refine .inl ?_; unfold latchOk; simp_all)
  rw [Bool.eq_iff_iff]; simp

def grC (g : Gr) : PObj := .cells [.d (.int .i64 g.inputs), .d (.sl (g.ands.map dPair) false)]
/-- the numbers that are bounded, and how many of them are left -/
def countV (c : Ci) (i : Nat) : Int := ([c.inputs, c.latches.length, c.outputs.length, c.bads.length, c.cons.length, c.fair.length] : List Int).getD i 0
theorem manyVs_getD (c : Ci) (i : Nat) (h : i < 6) : (manyVs c).getD i .junk = .d (.int .i64 (countV c i)) := by
  have : i = 0 ∨ i = 1 ∨ i = 2 ∨ i = 3 ∨ i = 4 ∨ i = 5 := by omega
  rcases this with rfl | rfl | rfl | rfl | rfl | rfl <;> rfl
theorem count_all {c : Ci} (hF : ∀ i, i < 6 → 0 ≤ countV c i ∧ countV c i ≤ 2000) : CountC c := by
  have h0 := hF 0 (by omega)
  have h1 := hF 1 (by omega)
  have h2 := hF 2 (by omega)
  have h3 := hF 3 (by omega)
  have h4 := hF 4 (by omega)
  have h5 := hF 5 (by omega)
  simp only [countV, List.getD_cons_zero, List.getD_cons_succ] at h0 h1 h2 h3 h4 h5
  unfold CountC; omega
theorem count_of {c : Ci} (h : CountC c) (i : Nat) (hi : i < 6) : 0 ≤ countV c i ∧ countV c i ≤ 2000 := by
  unfold CountC at h
  have : i = 0 ∨ i = 1 ∨ i = 2 ∨ i = 3 ∨ i = 4 ∨ i = 5 := by omega
  rcases this with rfl | rfl | rfl | rfl | rfl | rfl <;> simp only [countV, List.getD_cons_zero, List.getD_cons_succ] <;> omega
def leftN (seen : List Nat) : Nat := ((List.range 6).filter fun j => !seen.contains j).length
theorem filt_le (seen : List Nat) (i : Nat) : ∀ l : List Nat, (l.filter fun j => !(seen ++ [i]).contains j).length ≤ (l.filter fun j => !seen.contains j).length
  | [] => by simp
  | x :: r => by
    have := filt_le seen i r
    simp only [List.filter_cons]
    by_cases h1 : seen.contains x = true
    · have h2 : (seen ++ [i]).contains x = true := by simp at h1 ⊢; exact .inl h1
      rw [h1, h2]; exact this
    · have h1 : seen.contains x = false := by simpa using h1
      rw [h1]
      cases h2 : (seen ++ [i]).contains x
      · simp only [Bool.not_false, if_true, List.length_cons]; omega
      · simp only [Bool.not_true, Bool.not_false, if_true, List.length_cons, Bool.false_eq_true, if_false]; omega
theorem filt_lt (seen : List Nat) (i : Nat) (hs : i ∉ seen) : ∀ l : List Nat, i ∈ l → (l.filter fun j => !(seen ++ [i]).contains j).length < (l.filter fun j => !seen.contains j).length
  | [], h => by simp at h
  | x :: r, h => by
    have hle := filt_le seen i r
    simp only [List.filter_cons]
    by_cases hx : x = i
    · subst hx
      have h1 : seen.contains x = false := by simpa using hs
      have h2 : (seen ++ [x]).contains x = true := by simp
      rw [h1, h2]
      simp only [Bool.not_true, Bool.not_false, if_true, List.length_cons, Bool.false_eq_true, if_false]; omega
    · have ih := filt_lt seen i hs r (by rcases List.mem_cons.1 h with h | h; exact absurd h.symm hx; exact h)
      have : (seen ++ [i]).contains x = seen.contains x := by
        rw [Bool.eq_iff_iff]; simp [hx]
      rw [this]
      cases seen.contains x
      · simp only [Bool.not_false, if_true, List.length_cons]; omega
      · simp only [Bool.not_true, Bool.false_eq_true, if_false]; omega
theorem leftN_lt {seen : List Nat} {i : Nat} (h : i < 6) (hs : i ∉ seen) : leftN (seen ++ [i]) < leftN seen := filt_lt seen i hs _ (List.mem_range.2 h)

theorem CRight_ret (B : Array Obj) (hm : Tryz.prog.follows .mixedOrders = true) (c : Ci) (hN : ∀ n, n ∈ c.names → 0 ≤ n.kind ∧ n.kind < 256) : PRet Tryz.prog B 23 [.d (dC c)] (.bool (decide (RightC c))) := by
  refine pret_start Tryz.func23 Tryz.ntmps23 rfl (by decide) rfl (by simp) fun h hb => ?_
  refine vcC_sound _ _ _ _ (sm ?_)
  refine PRet.use (Of_ret B c) (sm ?_)
  refine wc_use (many_rc B c _) ?_
  refine sm ?_
  simp only [show h.length + 2 + 1 = h.length + 3 from rfl]
  refine sm ?_
  refine pwp_loop (κ := List Nat) (fun _ => [(1, .ptr h.length 0), (3, .ptr (h.length + 1) 0), (14, .it (h.length + 4))]) (fun seen => h ++ [ciC c, grC (ofC c), ciC c, .map manyKs (manyVs c), .miter (h.length + 3) 6 seen]) (fun seen => ∀ i, i ∈ seen → i < 6 → 0 ≤ countV c i ∧ countV c i ≤ 2000) leftN
    (fun k hk => ?_) ⟨[], [], fun i hi => by simp at hi, mt, by rw [List.append_nil]; rfl⟩ fun seen hi => ?_
  · unfold ciC grC manyKs manyVs; exact hd1 hb
  simp only [ciC, grC]
  refine vcC_sound _ _ _ _ (sm ?_)
  refine ⟨rfl, fun i hi6 his => ?_, fun hall => ?_⟩
  · simp only [List.getLast?_concat, manyVs_getD c i hi6]
    refine sm ?_
    simp only [decide_eq_true_eq, decide_eq_false_iff_not]
    refine ⟨⟨rfl, hi6⟩, fun h1 => ⟨fun h2 => ?_, fun h2 => ?_⟩, fun h1 => ?_⟩
    · exact dw_no (fun hR => by have := count_of hR.1 i hi6; omega)
    · refine ⟨seen ++ [i], [], fun j hj hj6 => ?_, leftN_lt hi6 his, mt, rfl⟩
      rcases List.mem_append.1 hj with hj | hj
      · exact hi j hj hj6
      · rw [List.mem_singleton] at hj; subst hj; omega
    · exact dw_no (fun hR => by have := count_of hR.1 i hi6; omega)
  · have hF : CountC c := count_all (fun i h6 => hi i (hall i h6) h6)
    refine PRet.use (GRight_ret B hm (ofC c)) (sm ?_)
    refine ⟨fun h1 => ?_, fun h1 => ?_⟩
    · have h1 : RightG (ofC c) := by simpa using h1
      refine rc_use (ltHas B c.latches false (.fn (.func 39) [] [.ptr (h.length + 5) 0]) 39 [] [.ptr (h.length + 5) 0] rfl _ (by simp only [pb_fn, pb_ptr, List.mem_cons, List.not_mem_nil, or_false, forall_eq, List.length_append, List.length_cons, List.length_nil, false_implies, implies_true, true_and]; omega) (fun x => !latchOk (ofC c) x)
        (fun x hx => badl_rc B (ofC c) x _ (h.length + 5) (h.length + 1) (by rw [hget_own]; rfl) (by rw [hget_own]; rfl))) (sm ?_)
      have hany : (c.latches.any fun x => !latchOk (ofC c) x) = !(c.latches.all (latchOk (ofC c))) := by rw [List.any_eq_not_all_not]; simp
      rw [hany]
      refine ⟨fun h2 => ?_, fun h2 => ?_⟩
      · exact dw_no (fun hR => by rw [hR.2.2.1] at h2; cases h2)
      · rw [Bool.not_eq_false'] at h2
        have ints (H : List PObj) (hH : H[h.length + 1]? = some (grC (ofC c))) (l : List Int) := nnHas B l false (.fn (.func 37) [] [.ptr (h.length + 1) 0]) 37 [] [.ptr (h.length + 1) 0] rfl H
          (by simp only [pb_fn, pb_ptr, List.mem_cons, List.not_mem_nil, or_false, forall_eq, false_implies, implies_true, true_and]; exact hget_lt hH) (fun x => !litG (ofC c) x) (fun x hx => oddl_rc B (ofC c) x H (h.length + 1) hH)
        have anyl (l : List Int) : (l.any fun x => !litG (ofC c) x) = !(l.all (litG (ofC c))) := by rw [List.any_eq_not_all_not]; simp
        refine pwp_rounds 5 (pr_succ (vcC_sound _ _ _ _ (sm ?_)))
        refine ⟨by omega, rc_use (ints _ (by rw [hget_own]; rfl) c.outputs) (sm ?_)⟩
        rw [anyl]
        refine ⟨fun h3 => dw_no (fun hR => by rw [hR.2.2.2.1.1] at h3; cases h3), fun a0 => ?_⟩
        rw [Bool.not_eq_false'] at a0
        rw [show (IntKind.i64.wrap (0 + 1) : Int) = 1 from rfl]
        refine pr_succ (vcC_sound _ _ _ _ (sm ?_))
        refine ⟨by omega, rc_use (ints _ (by rw [hget_own]; rfl) c.bads) (sm ?_)⟩
        rw [anyl]
        refine ⟨fun h3 => dw_no (fun hR => by rw [hR.2.2.2.1.2.1] at h3; cases h3), fun a1 => ?_⟩
        rw [Bool.not_eq_false'] at a1
        rw [show (IntKind.i64.wrap (1 + 1) : Int) = 2 from rfl]
        refine pr_succ (vcC_sound _ _ _ _ (sm ?_))
        refine ⟨by omega, rc_use (ints _ (by rw [hget_own]; rfl) c.cons) (sm ?_)⟩
        rw [anyl]
        refine ⟨fun h3 => dw_no (fun hR => by rw [hR.2.2.2.1.2.2.1] at h3; cases h3), fun a2 => ?_⟩
        rw [Bool.not_eq_false'] at a2
        rw [show (IntKind.i64.wrap (2 + 1) : Int) = 3 from rfl]
        refine pr_succ (vcC_sound _ _ _ _ (sm ?_))
        refine ⟨by omega, rc_use (ints _ (by rw [hget_own]; rfl) c.fair) (sm ?_)⟩
        rw [anyl]
        refine ⟨fun h3 => dw_no (fun hR => by rw [hR.2.2.2.1.2.2.2] at h3; cases h3), fun a3 => ?_⟩
        rw [Bool.not_eq_false'] at a3
        rw [show (IntKind.i64.wrap (3 + 1) : Int) = 4 from rfl]
        refine pr_succ (vcC_sound _ _ _ _ (sm ?_))
        refine PRet.use (names_ret B hm c hN) (sm ?_)
        refine .inl ?_
        congr 1
        exact decide_eq_decide.2 ⟨fun hn => ⟨hF, h1, h2, ⟨a0, a1, a2, a3⟩, hn⟩, fun hR => hR.2.2.2.2⟩
    · exact dw_no (fun hR => by simp [hR.2.1] at h1)
end Go.Proofs.YtgpbkphiipjjoaaGreatDoor.Pv
end

/- formula.Word: may a text be an atom's name? -/
section
namespace Go.Proofs.YtgpbkphiipjjoaaGreatDoor.Pv
open Go
set_option maxRecDepth 100000
set_option maxHeartbeats 4000000
set_option linter.unusedSimpArgs false

theorem nat_indexByte {P : Program} {B : Array Obj} {f : FuncId} {fn : Func} (hf : P.funcs[f]? = some fn) (hname : (fn.name == "runtime.NumGoroutine") = false) (hb : fn.body.isNone = true) (hn : Extern.findNext fn = none)
    (he : Extern.find fn = some Extern.BytealgIndexByte.indexByte) (s : List UInt8) (c : Int) :
    PRet P B f [.d (.str s), .d (.int .u8 c)] (.int .i64 (Lib.indexByte s c.toNat.toUInt8)) := by
  intro h e w vs sm r
  obtain ⟨v, u, rfl, hv, hu⟩ := rvs_2 r
  have := rd_int hu; subst this
  cases rv_d hv with
  | str _ ba hba hlen =>
    refine .inr ⟨_, _, ?_, _, e, h, ⟨rfl, rfl⟩, .d _ _ (.int .i64 (Lib.indexByte s c.toNat.toUInt8)), sm, Ext.refl (Nat.le_refl _) _⟩
    rw [run_callFunc_extern hf hname hb hn he, Lib.run_indexByteString ba c w, hba]
    rfl

theorem ibs_ret (B : Array Obj) (s : List UInt8) (c : Int) : PRet Tryz.prog B 152 [.d (.str s), .d (.int .u8 c)] (.int .i64 (Lib.indexByte s c.toNat.toUInt8)) :=
  nat_indexByte Tryz.func152 (by kernel_rfl) (by kernel_rfl) (by kernel_rfl) (by kernel_rfl) s c
theorem ib_ret (B : Array Obj) (s : List UInt8) (c : Int) : PRet Tryz.prog B 133 [.d (.str s), .d (.int .u8 c)] (.int .i64 (Lib.indexByte s c.toNat.toUInt8)) := by
  refine pret_start Tryz.func133 Tryz.ntmps133 rfl (by decide) rfl (by simp) fun h hb => ?_
  refine vcC_sound _ _ _ _ (sm ?_)
  refine PRet.use (ibs_ret B s c) (sm ?_)
  exact leaf
theorem indexByte_mem (s : List UInt8) (c : UInt8) : decide (0 ≤ Lib.indexByte s c) = decide (c ∈ s) := by
  induction s with
  | nil => simp [Lib.indexByte]
  | cons b l ih =>
    unfold Lib.indexByte
    by_cases hbc : b = c
    · subst hbc; simp
    · have h1 : (b == c) = false := by simpa using hbc
      rw [h1]
      simp only [Bool.false_eq_true, if_false, List.mem_cons]
      have h2 : (c = b ∨ c ∈ l) ↔ c ∈ l := by
        constructor
        · rintro (h | h)
          · exact absurd h.symm hbc
          · exact h
        · exact .inr
      have h3 : (0 ≤ Lib.indexByte l c) ↔ c ∈ l := decide_eq_decide.1 ih
      refine decide_eq_decide.2 ?_
      rw [h2, ← h3]
      split
      · rename_i h; have : Lib.indexByte l c = -1 := by simpa using h
        omega
      · rename_i h; have : ¬ Lib.indexByte l c = -1 := by simpa using h
        constructor
        · intro h; omega
        · intro h; omega
/-- the place of a byte, as strings.Index tells it -/
theorem index1_ret (B : Array Obj) (s : List UInt8) : PRet Tryz.prog B 121 [.d (.str s), .d (.str [34])] (.int .i64 (Lib.indexByte s 34)) := by
  refine pret_start Tryz.func121 Tryz.ntmps121 rfl (by decide) rfl (by simp) fun h hb => ?_
  refine vcC_sound _ _ _ _ (sm ?_)
  refine ⟨fun h1 => ?_, fun h1 => ?_⟩
  · have h1 := of_decide_eq_true h1
    exact .inl (by rw [← h1]; rfl)
  · rw [show (([34] : List UInt8).getD 0 0).toNat = 34 from rfl]
    refine PRet.use (ib_ret B s 34) (sm ?_)
    exact .inl rfl
theorem sindex_ret (B : Array Obj) (s : List UInt8) : PRet Tryz.prog B 110 [.d (.str s), .d (.str [34])] (.int .i64 (Lib.indexByte s 34)) := by
  refine pret_start Tryz.func110 Tryz.ntmps110 rfl (by decide) rfl (by simp) fun h hb => ?_
  refine vcC_sound _ _ _ _ (sm ?_)
  refine PRet.use (index1_ret B s) (sm ?_)
  exact leaf
theorem contains_ret (B : Array Obj) (s : List UInt8) : PRet Tryz.prog B 104 [.d (.str s), .d (.str [34])] (.bool (decide ((34 : UInt8) ∈ s))) := by
  refine pret_start Tryz.func104 Tryz.ntmps104 rfl (by decide) rfl (by simp) fun h hb => ?_
  refine vcC_sound _ _ _ _ (sm ?_)
  refine PRet.use (sindex_ret B s) (sm ?_)
  rw [indexByte_mem]
  exact leaf

def fwordF (s : List UInt8) : Bool := wordF s && !decide ((34 : UInt8) ∈ s)
theorem fword_ret (B : Array Obj) (s : List UInt8) : PRet Tryz.prog B 99 [.d (.str s)] (.bool (fwordF s)) := by
  refine pret_start Tryz.func99 Tryz.ntmps99 rfl (by decide) rfl (by simp) fun h hb => ?_
  refine vcC_sound _ _ _ _ (sm ?_)
  intro hn
  refine pwp_loop (κ := Nat) (fun i => [(0, .d (.str s)), (5, .d (.int .i64 s.length)), (6, .d (.int .i64 i))]) (fun i => h) (fun i => i ≤ s.length ∧ ∀ j, j < i → byteOk (s.getD j 0) = true) (fun i => s.length - i)
    (fun k hk => hd0 hb) ⟨0, [], ⟨by omega, fun j hj => absurd hj (by omega)⟩, mt, (List.append_nil _).symm⟩ fun i hi => ?_
  refine vcC_sound _ _ _ _ (sm ?_)
  have no (h1 : i < s.length) (h2 : byteOk (s.getD i 0) = false) : DW (.bool false) (.bool (fwordF s)) := .inl (by rw [fwordF, wordF, all_no_getD h1 h2, Bool.false_and, Bool.false_and])
  simp only [decide_eq_true_eq, decide_eq_false_iff_not]
  refine ⟨fun h1 => ?_, fun h1 => ?_⟩
  · have hl : i < s.length := by omega
    refine ⟨by omega, fun h2 => ⟨by omega, fun h3 => no hl (byteOk_no (by omega)), fun h3 => ?_⟩, fun h2 => no hl (byteOk_no (by omega))⟩
    rw [wsucc hl (by omega)]
    exact ⟨i + 1, [], ⟨by omega, snoc_inv hi.2 (byteOk_yes (by omega) (by omega))⟩, by omega, mt, (List.append_nil _).symm⟩
  · have hge : i = s.length := by omega
    have ha : s.all byteOk = true := all_of_getD (d := 0) (by rw [← hge]; exact hi.2)
    have hw : fwordF s = ((decide (s ≠ []) && decide (s.length ≤ 20)) && !decide ((34 : UInt8) ∈ s)) := by rw [fwordF, wordF, ha, Bool.true_and]
    refine ⟨fun h2 _ => ⟨fun h3 => PRet.use (contains_ret B s) (sm ?_), fun h3 => .inl ?_⟩, fun h2 => .inl ?_⟩
    · refine .inl ?_
      rw [hw, decide_eq_true (p := s ≠ []) h2, decide_eq_true (p := s.length ≤ 20) (by omega), Bool.true_and, Bool.true_and]
    · rw [hw, decide_eq_false (p := s.length ≤ 20) (by omega), Bool.and_false, Bool.false_and]
    · have h2 : s = [] := by simpa using h2
      rw [fwordF, wordF, h2]; rfl
end Go.Proofs.YtgpbkphiipjjoaaGreatDoor.Pv
end

/- formula.Right: may a formula be? -/
section
namespace Go.Proofs.YtgpbkphiipjjoaaGreatDoor.Pv
open Go
set_option maxRecDepth 100000
set_option maxHeartbeats 4000000
set_option linter.unusedSimpArgs false

def shapeKs : List PV := [PV.d (D.int IntKind.i64 1), PV.d (D.int IntKind.i64 2), PV.d (D.int IntKind.i64 4), PV.d (D.int IntKind.i64 5), PV.d (D.int IntKind.i64 6), PV.d (D.int IntKind.i64 7), PV.d (D.int IntKind.i64 8), PV.d (D.int IntKind.i64 9), PV.d (D.int IntKind.i64 10), PV.d (D.int IntKind.i64 11), PV.d (D.int IntKind.i64 12), PV.d (D.int IntKind.i64 13), PV.d (D.int IntKind.i64 14), PV.d (D.int IntKind.i64 15), PV.d (D.int IntKind.i64 16), PV.d (D.int IntKind.i64 17), PV.d (D.int IntKind.i64 18)]
def shapeVs : List PV := [PV.d (D.agg [D.int IntKind.i64 0, D.str [102, 97, 108, 115, 101], D.str [], D.str []]), PV.d (D.agg [D.int IntKind.i64 0, D.str [116, 114, 117, 101], D.str [], D.str []]), PV.d (D.agg [D.int IntKind.i64 1, D.str [33], D.str [], D.str []]), PV.d (D.agg [D.int IntKind.i64 2, D.str [], D.str [32, 38, 32], D.str []]), PV.d (D.agg [D.int IntKind.i64 2, D.str [], D.str [32, 124, 32], D.str []]), PV.d (D.agg [D.int IntKind.i64 2, D.str [], D.str [32, 45, 62, 32], D.str []]), PV.d (D.agg [D.int IntKind.i64 2, D.str [], D.str [32, 60, 45, 62, 32], D.str []]), PV.d (D.agg [D.int IntKind.i64 1, D.str [69, 88, 32], D.str [], D.str []]), PV.d (D.agg [D.int IntKind.i64 1, D.str [65, 88, 32], D.str [], D.str []]), PV.d (D.agg [D.int IntKind.i64 1, D.str [69, 70, 32], D.str [], D.str []]), PV.d (D.agg [D.int IntKind.i64 1, D.str [65, 70, 32], D.str [], D.str []]), PV.d (D.agg [D.int IntKind.i64 1, D.str [69, 71, 32], D.str [], D.str []]), PV.d (D.agg [D.int IntKind.i64 1, D.str [65, 71, 32], D.str [], D.str []]), PV.d (D.agg [D.int IntKind.i64 2, D.str [69, 32, 91], D.str [32, 85, 32], D.str [93]]), PV.d (D.agg [D.int IntKind.i64 2, D.str [65, 32, 91], D.str [32, 85, 32], D.str [93]]), PV.d (D.agg [D.int IntKind.i64 2, D.str [69, 32, 91], D.str [32, 82, 32], D.str [93]]), PV.d (D.agg [D.int IntKind.i64 2, D.str [65, 32, 91], D.str [32, 82, 32], D.str [93]])]
theorem shapes_rc (B : Array Obj) (h : List PObj) : PCalls Tryz.prog B 83 [] h fun r h' => r = .ret (.mp h.length) ∧ h' = h ++ [.map shapeKs shapeVs] := by
  refine pcalls_start Tryz.func83 Tryz.ntmps83 rfl (by decide) rfl (by simp) fun hb => ?_
  refine vcC_sound _ _ _ _ (sm ?_)
  rfl

def skids (k : Int) : Int := if 1 ≤ k ∧ k ≤ 18 ∧ k ≠ 3 then kidsF k else 0
theorem kcases (k : Int) : (k = 1 ∨ k = 2 ∨ k = 4 ∨ k = 5 ∨ k = 6 ∨ k = 7 ∨ k = 8 ∨ k = 9 ∨ k = 10 ∨ k = 11 ∨ k = 12 ∨ k = 13 ∨ k = 14 ∨ k = 15 ∨ k = 16 ∨ k = 17 ∨ k = 18) ∨ ¬ (1 ≤ k ∧ k ≤ 18 ∧ k ≠ 3) := by omega
theorem mget_shapes (k : Int) : ∃ a b c, mget (.int .i64 k) shapeKs shapeVs (.d (.agg [.int .i64 0, .str [], .str [], .str []])) = .d (.agg [.int .i64 (skids k), .str a, .str b, .str c]) := by
  unfold shapeKs shapeVs skids
  simp only [mget_cons, mget_nil, keyBeq_int, decide_eq_true_eq]
  rcases kcases k with (rfl | rfl | rfl | rfl | rfl | rfl | rfl | rfl | rfl | rfl | rfl | rfl | rfl | rfl | rfl | rfl | rfl) | h
  all_goals try exact ⟨_, _, _, rfl⟩
  rw [if_neg h]
  repeat rw [if_neg (by omega)]
  exact ⟨_, _, _, rfl⟩
theorem mhas_shapes (k : Int) : mhas (.int .i64 k) shapeKs = decide (1 ≤ k ∧ k ≤ 18 ∧ k ≠ 3) := by
  unfold shapeKs
  simp only [mhas_cons, mhas_nil, keyBeq_int, Bool.or_false]
  rw [Bool.eq_iff_iff]
  simp only [Bool.or_eq_true, decide_eq_true_eq]
  omega
theorem allKF_shapes (k : Int) : allKF Tryz.prog 3 (.int .i64 k) shapeKs = True := by
  unfold shapeKs
  simp only [akf_cons, akf_nil, kf_d, and_true]
  refine eq_true ?_
  refine sm ?_
  trivial

/- what the checker tells, and how many formulas it has met -/
mutual
def frF : Fm → Int → Nat → Bool × Nat
  | .mk k n l ks, d, c => if 2000 < c + 1 ∨ d < 1 ∨ l ≠ 0 then (false, c + 1) else if k = 3 then (fwordF n && decide (ks.length = 0), c + 1)
      else if ¬ (1 ≤ k ∧ k ≤ 18 ∧ k ≠ 3) ∨ n ≠ [] ∨ ¬ (ks.length : Int) = skids k then (false, c + 1) else frFL ks (d - 1) (c + 1)
def frFL : List Fm → Int → Nat → Bool × Nat
  | [], _, c => (true, c)
  | x :: r, d, c => if (frF x d c).1 = true then frFL r d (frF x d c).2 else (false, (frF x d c).2)
end
theorem frF_eq (f : Fm) (d : Int) (c : Nat) : frF f d c = if 2000 < c + 1 ∨ d < 1 ∨ f.lit ≠ 0 then (false, c + 1) else if f.kind = 3 then (fwordF f.name && decide (f.kids.length = 0), c + 1)
      else if ¬ (1 ≤ f.kind ∧ f.kind ≤ 18 ∧ f.kind ≠ 3) ∨ f.name ≠ [] ∨ ¬ (f.kids.length : Int) = skids f.kind then (false, c + 1) else frFL f.kids (d - 1) (c + 1) := by
  cases f; rw [frF]; rfl
theorem frFL_snoc : ∀ (l : List Fm) (x : Fm) (d : Int) (c : Nat), (frFL l d c).1 = true → frFL (l ++ [x]) d c = frF x d (frFL l d c).2
  | [], x, d, c, _ => by
    rw [List.nil_append, frFL, frFL]
    simp only [frFL]
    split
    · rename_i h; rw [← h]
    · rename_i h; rw [Bool.not_eq_true] at h; rw [← h]
  | y :: r, x, d, c, h => by
    rw [List.cons_append, frFL, frFL]
    rw [frFL] at h
    split
    · rename_i h2
      rw [if_pos h2] at h
      exact frFL_snoc r x d _ h
    · rename_i h2; rw [if_neg h2] at h; cases h
theorem frFL_false : ∀ (l m : List Fm) (d : Int) (c : Nat), (frFL l d c).1 = false → frFL (l ++ m) d c = frFL l d c
  | [], _, _, _, h => by cases h
  | y :: r, m, d, c, h => by
    rw [List.cons_append, frFL, frFL]
    rw [frFL] at h
    split
    · rename_i h2
      rw [if_pos h2] at h
      exact frFL_false r m d _ h
    · rfl

theorem frFL_le : ∀ (l : List Fm), (∀ x, x ∈ l → ∀ d c, c ≤ 2000 → (frF x d c).1 = true → (frF x d c).2 ≤ 2000) → ∀ d c, c ≤ 2000 → (frFL l d c).1 = true → (frFL l d c).2 ≤ 2000
  | [], _, d, c, hc, _ => by rw [frFL]; exact hc
  | x :: r, hx, d, c, hc, h => by
    rw [frFL] at h ⊢
    split at h
    · rename_i h2
      rw [if_pos h2]
      exact frFL_le r (fun y hy => hx y (List.mem_cons_of_mem _ hy)) d _ (hx x List.mem_cons_self d c hc h2) h
    · cases h
theorem frF_le (f : Fm) : ∀ d c, c ≤ 2000 → (frF f d c).1 = true → (frF f d c).2 ≤ 2000 := by
  induction f using Fm.ind with
  | _ f ih =>
  intro d c hc h
  rw [frF_eq] at h ⊢
  split at h
  · cases h
  · rename_i h1
    rw [if_neg h1]
    split at h
    · rename_i h2; rw [if_pos h2]; dsimp only; omega
    · rename_i h2
      rw [if_neg h2]
      split at h
      · cases h
      · rename_i h3
        rw [if_neg h3]
        exact frFL_le f.kids ih (d - 1) (c + 1) (by omega) h

def chkC (im : Nat) (c : Int) : PObj := .cells [.mp im, .d (.int .i64 c)]
structure Chk (h : List PObj) (ic im c : Nat) : Prop where
  c : h[ic]? = some (chkC im c)
  m : h[im]? = some (.map shapeKs shapeVs)
  ne : ic ≠ im
theorem Chk.step {h : List PObj} {ic im c : Nat} (k : Chk h ic im c) (j : Nat) (X : List PObj) : Chk (h.set ic (chkC im j) ++ X) ic im j :=
  ⟨hget_set (hget_lt k.c) X _, hget_set_ne k.m k.ne X _, k.ne⟩

theorem check_wc (B : Array Obj) (hm : Tryz.prog.follows .mixedOrders = true) (f : Fm) : ∀ (d : Int), -9223372036854775808 < d → d ≤ 9223372036854775807 → ∀ (c : Nat), c ≤ 100000 → ∀ (h : List PObj) (ic im : Nat), Chk h ic im c →
    PCalls Tryz.prog B 84 [.ptr ic 0, .d (dFu f), .d (.int .i64 d)] h fun r h' => r = .ret (.d (.bool (frF f d c).1)) ∧ h' = h.set ic (chkC im (frF f d c).2) := by
  induction f using Fm.ind with
  | _ f ih =>
  intro d hd1 hd2 c hc h ic im k
  have hlt := hget_lt k.c
  have hlm := hget_lt k.m
  have ga := fun X => hget_old k.c X
  have gm := fun X => hget_old k.m X
  have sa := fun X x => hset_lt hlt X x
  have ga1 := fun X x => hget_set hlt X x
  have gm1 := fun X x => hget_set_ne k.m k.ne X x
  have sa1 := fun X x y => hset_set hlt X x y
  have hs (hb : HB h) (j : Nat) : HB (h.set ic (chkC im j)) := hb_set hb (by rw [chkC, ob_cells]; simp [pb_d, pb_mp]; omega)
  refine wc_start Tryz.func84 Tryz.ntmps84 rfl (by decide) rfl (by simp) (by simp) (fun hb => hs hb _) fun hb => ?_
  unfold chkC at ga
  refine pwp_seq (vcC_sound _ _ _ _ (sm ?_))
  refine pwp_seq (vcC_sound _ _ _ _ (sm ?_))
  repeat (simp only [ga, gm, sa, ga1, gm1, sa1]; refine sm ?_)
  rw [w64 (n := (c : Int) + 1), show (c : Int) + 1 = ((c + 1 : Nat) : Int) by omega]
  have out (b : Bool) (c' : Nat) (X : List PObj) (e : frF f d c = (b, c')) : ((∃ x, PRes.ret (PV.d (D.bool b)) = PRes.ret (PV.d x) ∧ DW x (D.bool (frF f d c).1)) ∧ ∃ Y, h.set ic (PObj.cells [PV.mp im, PV.d (D.int .i64 c')]) ++ X = h.set ic (chkC im (frF f d c).2) ++ Y) := by
    rw [e]; exact ⟨⟨_, rfl, .inl rfl⟩, X, rfl⟩
  simp only [decide_eq_true_eq, decide_eq_false_iff_not]
  refine ⟨fun h1 => ⟨fun h2 => ⟨fun h3 => ?_, fun h3 => ?_⟩, fun h2 => ?_⟩, fun h1 => ?_⟩
  · exact out false (c + 1) _ (by rw [frF_eq, if_pos (.inr (.inr h3))])
  · have e0 := frF_eq f d c
    rw [if_neg (by omega)] at e0
    refine pwp_seq (vcC_sound _ _ _ _ (sm ?_))
    refine ⟨fun h4 => ?_, fun h4 => ?_⟩
    · have h4 := of_decide_eq_true h4
      rw [if_pos h4] at e0
      refine PRet.use (fword_ret B f.name) (sm ?_)
      refine ⟨fun h5 _ => out _ (c + 1) _ ?_, fun h5 => out false (c + 1) _ (by rw [e0, h5, Bool.false_and])⟩
      rw [e0, h5, Bool.true_and, decide_eq_decide.2 (show f.kids.length = 0 ↔ (f.kids.length : Int) = 0 by omega)]
    · have h4 := of_decide_eq_false h4
      rw [if_neg h4] at e0
      refine vcC_sound _ _ _ _ (sm ?_)
      refine pwp_drawn [.q, .q, .q, .r 0 1, .q, .r 0 1, .r 0 1, .q, .q, .q, .e, .e, .q] hm (by kernel_rfl) (sm ?_)
      repeat (simp only [ga, gm, sa, ga1, gm1, sa1]; refine sm ?_)
      obtain ⟨s1, s2, s3, hms⟩ := mget_shapes f.kind
      simp only [allKF_shapes, hms, mhas_shapes]
      refine sm ?_
      repeat (simp only [ga, gm, sa, ga1, gm1, sa1]; refine sm ?_)
      simp only [decide_eq_true_eq, decide_eq_false_iff_not, Bool.not_eq_true', Bool.not_eq_false']
      refine ⟨fun h5 => ⟨fun h6 => fun hn => ⟨fun h7 => ?_, fun h7 _ => ?_⟩, fun h6 => ?_⟩, fun h5 => ?_⟩
      · exact out false (c + 1) _ (by rw [e0, if_pos (.inr (.inr h7))])
      · have h6' : f.name = [] := Classical.byContradiction h6
        have h7' : (f.kids.length : Int) = skids f.kind := Classical.byContradiction h7
        rw [if_neg (by rintro (h | h | h); exact h h5; exact h h6'; exact h h7')] at e0
        refine pwp_loop (κ := Nat) (fun i => [(0, .ptr ic 0), (2, .d (.int .i64 d)), (4, .ptr h.length 0), (70, .d (.sl (f.kids.map dF) false)), (71, .d (.int .i64 f.kids.length)), (72, .d (.int .i64 i))])
          (fun i => h.set ic (chkC im (frFL (f.kids.take i) (d - 1) (c + 1)).2) ++ [.cells [.d (.int .i64 f.kind), .d (.str f.name), .d (.int .i64 f.lit), .d (.sl (f.kids.map dF) false)]]) (fun i => i ≤ f.kids.length ∧ (frFL (f.kids.take i) (d - 1) (c + 1)).1 = true) (fun i => f.kids.length - i)
          (fun i hi => Pv.hd2 (by simp) (hs hb _)) ⟨0, [.cells [.d (.int .i64 (skids f.kind)), .d (.str s1), .d (.str s2), .d (.str s3)]], ⟨by omega, rfl⟩, mt, by simp [chkC, frFL]⟩ fun i hi => ?_
        have hle := frFL_le (f.kids.take i) (fun x _ => frF_le x) (d - 1) (c + 1) (by omega) hi.2
        simp only [chkC]
        refine vcC_sound _ _ _ _ (sm ?_)
        simp only [decide_eq_true_eq, decide_eq_false_iff_not]
        refine ⟨fun h8 => ?_, fun h8 => ?_⟩
        · have hlt2 : i < f.kids.length := by omega
          simp only [getD_map_lt (g := dF) hlt2]
          refine sm ?_
          rw [w64 (n := d - 1)]
          have hmem : f.kids.getD i default ∈ f.kids := getD_memF hlt2
          have hsn : f.kids.take (i + 1) = f.kids.take i ++ [f.kids.getD i default] := by
            rw [List.take_add_one, List.getElem?_eq_getElem hlt2, List.getD_eq_getElem?_getD, List.getElem?_eq_getElem hlt2]; rfl
          have hfs := frFL_snoc (f.kids.take i) (f.kids.getD i default) (d - 1) (c + 1) hi.2
          rw [← hsn] at hfs
          refine ⟨by omega, wc_use (ih _ hmem (d - 1) (by omega) (by omega) _ (by omega) _ ic im (k.step _ _)) ?_⟩
          simp only [sa1]
          refine sm ?_
          rw [← hfs]
          refine ⟨fun h9 => ?_, fun h9 => ?_⟩
          · have hwhole : frFL f.kids (d - 1) (c + 1) = frFL (f.kids.take (i + 1)) (d - 1) (c + 1) := by
              have := frFL_false (f.kids.take (i + 1)) (f.kids.drop (i + 1)) (d - 1) (c + 1) h9
              rwa [List.take_append_drop] at this
            refine out false (frFL (f.kids.take (i + 1)) (d - 1) (c + 1)).2 _ ?_
            rw [e0, hwhole]; exact Prod.ext h9 rfl
          · rw [Bool.not_eq_false'] at h9
            rw [wsucc hlt2 (by omega)]
            exact ⟨i + 1, [.cells [.d (.int .i64 (f.kids.getD i default).kind), .d (.str (f.kids.getD i default).name), .d (.int .i64 (f.kids.getD i default).lit), .d (.sl ((f.kids.getD i default).kids.map dF) false)]], ⟨by omega, h9⟩, by omega, mt, rfl⟩
        · have hge : f.kids.take i = f.kids := List.take_of_length_le (by omega)
          rw [hge]
          refine out true _ _ ?_
          rw [e0]
          refine Prod.ext ?_ rfl
          have := hi.2
          rwa [hge] at this
      · exact out false (c + 1) _ (by rw [e0, if_pos (.inr (.inl h6))])
      · exact out false (c + 1) _ (by rw [e0, if_pos (.inl h5)])
  · exact out false (c + 1) _ (by rw [frF_eq, if_pos (.inr (.inl h2))])
  · exact out false (c + 1) _ (by rw [frF_eq, if_pos (.inl (by omega))])

theorem Chk.own (h : List PObj) (a : PObj) : Chk (h ++ [a, .map shapeKs shapeVs, chkC (h.length + 1) 0]) (h.length + 2) (h.length + 1) 0 :=
  ⟨by rw [hget_own]; rfl, by rw [hget_own]; rfl, by omega⟩
def sizeR (f : Fm) : Int := if (frF f 60 0).1 = true then (frF f 60 0).2 else 0
theorem size_ret (B : Array Obj) (hm : Tryz.prog.follows .mixedOrders = true) (f : Fm) : PRet Tryz.prog B 44 [.d (dFu f)] (.int .i64 (sizeR f)) := by
  refine pret_start Tryz.func44 Tryz.ntmps44 rfl (by decide) rfl (by simp) fun h hb => ?_
  refine vcC_sound _ _ _ _ (sm ?_)
  refine wc_use (shapes_rc B _) ?_
  refine sm ?_
  refine wc_use (check_wc B hm f 60 (by omega) (by omega) 0 (by omega) _ (h.length + 2) (h.length + 1) (Chk.own h _)) ?_
  rw [hset_own]
  simp only [chkC]
  refine sm ?_
  unfold sizeR
  refine ⟨fun h1 => ?_, fun h1 => ?_⟩
  · rw [h1]; exact leaf
  · rw [Bool.not_eq_false'] at h1; rw [h1]; exact leaf
theorem FRight_ret (B : Array Obj) (hm : Tryz.prog.follows .mixedOrders = true) (f : Fm) : PRet Tryz.prog B 24 [.d (dFu f)] (.bool (decide (0 < sizeR f))) := by
  refine pret_start Tryz.func24 Tryz.ntmps24 rfl (by decide) rfl (by simp) fun h hb => ?_
  refine vcC_sound _ _ _ _ (sm ?_)
  refine PRet.use (size_ret B hm f) (sm ?_)
  exact leaf
end Go.Proofs.YtgpbkphiipjjoaaGreatDoor.Pv
end

/- Contracts of strconv, laid at this program by the kit's tools. -/
section
namespace Go.Proofs
open Go.Shelf
def Tryz.laysM171_ren : Go.Shelf.Ren := ⟨fun | 171 => 101 | 243 => 107 | 246 => 116 | 283 => 125 | 284 => 126 | 285 => 127 | 286 => 128 | 129 => 140 | 317 => 139 | 318 => 141 | 319 => 142 | 320 => 143 | 337 => 154 | 338 => 155 | n => n, fun | 3 => 3 | 9 => 9 | 2 => 2 | 4 => 4 | 171 => 158 | 0 => 0 | 53 => 150 | 37 => 22 | 5 => 5 | 173 => 161 | 212 => 173 | 51 => 94 | 20 => 20 | 213 => 174 | 46 => 153 | 232 => 189 | 233 => 190 | n => n, fun | 17 => 3 | 18 => 4 | 19 => 5 | n => n⟩
theorem Tryz.laysM171 : Go.Proofs.LaysM.n171 Tryz.prog Tryz.laysM171_ren := {
  mixed := by kernel_rfl
  f129 := Tryz.func140.trans (congrArg some (by kernel_rfl))
  f171 := Tryz.func101.trans (congrArg some (by kernel_rfl))
  f243 := Tryz.func107.trans (congrArg some (by kernel_rfl))
  f246 := Tryz.func116.trans (congrArg some (by kernel_rfl))
  f283 := Tryz.func125.trans (congrArg some (by kernel_rfl))
  f284 := Tryz.func126.trans (congrArg some (by kernel_rfl))
  f285 := Tryz.func127.trans (congrArg some (by kernel_rfl))
  f286 := Tryz.func128.trans (congrArg some (by kernel_rfl))
  f317 := Tryz.func139.trans (congrArg some (by kernel_rfl))
  f318 := Tryz.func141.trans (congrArg some (by kernel_rfl))
  f319 := Tryz.func142.trans (congrArg some (by kernel_rfl))
  f320 := Tryz.func143.trans (congrArg some (by kernel_rfl))
  f337 := Tryz.func154.trans (congrArg some (by kernel_rfl))
  f338 := Tryz.func155.trans (congrArg some (by kernel_rfl))
  t0 := Tryz.underlying0
  a0 := Tryz.isAgg0
  z0 := Tryz.sizeOf0
  v0 := Tryz.zeroValue0
  t2 := Tryz.underlying2
  a2 := Tryz.isAgg2
  z2 := Tryz.sizeOf2
  v2 := Tryz.zeroValue2
  t3 := Tryz.underlying3
  a3 := Tryz.isAgg3
  z3 := Tryz.sizeOf3
  v3 := Tryz.zeroValue3
  t4 := Tryz.underlying4
  a4 := Tryz.isAgg4
  z4 := Tryz.sizeOf4
  v4 := Tryz.zeroValue4
  t5 := Tryz.underlying5
  a5 := Tryz.isAgg5
  z5 := Tryz.sizeOf5
  v5 := Tryz.zeroValue5
  t9 := Tryz.underlying9
  a9 := Tryz.isAgg9
  z9 := Tryz.sizeOf9
  v9 := Tryz.zeroValue9
  t20 := Tryz.underlying20
  a20 := Tryz.isAgg20
  z20 := Tryz.sizeOf20
  v20 := Tryz.zeroValue20
  t37 := Tryz.underlying22
  a37 := Tryz.isAgg22
  z37 := Tryz.sizeOf22
  v37 := Tryz.zeroValue22
  t46 := Tryz.underlying153
  a46 := Tryz.isAgg153
  z46 := Tryz.sizeOf153
  v46 := Tryz.zeroValue153
  t51 := Tryz.underlying94
  a51 := Tryz.isAgg94
  z51 := Tryz.sizeOf94
  v51 := Tryz.zeroValue94
  t53 := Tryz.underlying150
  a53 := Tryz.isAgg150
  z53 := Tryz.sizeOf150
  v53 := Tryz.zeroValue150
  t171 := Tryz.underlying158
  a171 := Tryz.isAgg158
  z171 := Tryz.sizeOf158
  v171 := Tryz.zeroValue158
  t173 := Tryz.underlying161
  a173 := Tryz.isAgg161
  z173 := Tryz.sizeOf161
  v173 := Tryz.zeroValue161
  t212 := Tryz.underlying173
  a212 := Tryz.isAgg173
  z212 := Tryz.sizeOf173
  v212 := Tryz.zeroValue173
  t213 := Tryz.underlying174
  a213 := Tryz.isAgg174
  z213 := Tryz.sizeOf174
  t232 := Tryz.underlying189
  a232 := Tryz.isAgg189
  z232 := Tryz.sizeOf189
  v232 := Tryz.zeroValue189
  t233 := Tryz.underlying190
  a233 := Tryz.isAgg190
  z233 := Tryz.sizeOf190
  v233 := Tryz.zeroValue190
  g17 := by kernel_rfl
  g18 := by kernel_rfl
  g19 := by kernel_rfl
  i0 := by kernel_rfl
  i2 := by kernel_rfl
  i3 := by kernel_rfl
  i4 := by kernel_rfl
  i5 := by kernel_rfl
  i9 := by kernel_rfl
  i20 := by kernel_rfl
  i37 := by kernel_rfl
  i46 := by kernel_rfl
  i51 := by kernel_rfl
  i53 := by kernel_rfl
  i171 := by kernel_rfl
  i173 := by kernel_rfl
  i212 := by kernel_rfl
  i232 := by kernel_rfl
  i233 := by kernel_rfl
  m17 := by kernel_rfl
  m18 := by kernel_rfl
  m19 := by kernel_rfl }
open Go.RowKit Go.Sort Go.Lib in
/-- strconv.Itoa: "Itoa is equivalent to FormatInt(int64(i), 10).": i's DECIMAL NUMERAL ('Lib.itoa': a '-' where i is negative, then the digits), FOR EVERY int. The world behind the call: the world before it, new blocks behind the heap (the library's 'var a [24]byte'), draws. (LAID: no walk: one application.) -/
theorem Tryz.strconv_Itoa (n : Int) (h0 : -9223372036854775808 ≤ n) (h1 : n ≤ 9223372036854775807) (w : World) (htab : Lib.TabIs Tryz.prog w "internal/strconv.uint64pow10" .u64 Lib.pow10Tab) :
    Calls Tryz.prog 101 #[.int .i64 n] w fun e w' => e = .returned (.string ⟨(Lib.itoa n).toArray⟩) ∧ ∃ k os, w' = grow (w.drewN k) os := Any.strconv_Itoa Tryz.laysM171 n h0 h1 w htab
def Tryz.laysC172_ren : Go.Shelf.Ren := ⟨fun | 172 => 100 | 244 => 105 | 245 => 106 | 247 => 111 | 279 => 112 | 280 => 113 | 281 => 114 | 282 => 115 | 287 => 122 | 316 => 123 | 171 => 101 | 205 => 124 | 321 => 137 | 322 => 138 | 243 => 107 | 246 => 116 | 283 => 125 | 284 => 126 | 285 => 127 | 286 => 128 | 129 => 140 | 317 => 139 | 318 => 141 | 319 => 142 | 320 => 143 | 337 => 154 | 338 => 155 | n => n, fun | 9 => 9 | 3 => 3 | 75 => 130 | 76 => 131 | 4 => 4 | 5 => 5 | 167 => 139 | 37 => 22 | 0 => 0 | 85 => 140 | 2 => 2 | 168 => 142 | 53 => 150 | 175 => 151 | 46 => 153 | 210 => 156 | 127 => 168 | 145 => 171 | 143 => 169 | 21 => 21 | 171 => 158 | 173 => 161 | 212 => 173 | 51 => 94 | 20 => 20 | 213 => 174 | 232 => 189 | 233 => 190 | 80 => 191 | n => n, fun | 15 => 0 | 16 => 1 | 17 => 3 | 18 => 4 | 19 => 5 | n => n⟩
theorem Tryz.laysC172 : Go.Proofs.LaysC.n172 Tryz.prog Tryz.laysC172_ren := {
  mixed := by kernel_rfl
  f129 := Tryz.func140.trans (congrArg some (by kernel_rfl))
  f171 := Tryz.func101.trans (congrArg some (by kernel_rfl))
  f172 := Tryz.func100.trans (congrArg some (by kernel_rfl))
  f205 := Tryz.func124.trans (congrArg some (by kernel_rfl))
  f243 := Tryz.func107.trans (congrArg some (by kernel_rfl))
  f244 := Tryz.func105.trans (congrArg some (by kernel_rfl))
  f245 := Tryz.func106.trans (congrArg some (by kernel_rfl))
  f246 := Tryz.func116.trans (congrArg some (by kernel_rfl))
  f247 := Tryz.func111.trans (congrArg some (by kernel_rfl))
  f279 := Tryz.func112.trans (congrArg some (by kernel_rfl))
  f280 := Tryz.func113.trans (congrArg some (by kernel_rfl))
  f281 := Tryz.func114.trans (congrArg some (by kernel_rfl))
  f282 := Tryz.func115.trans (congrArg some (by kernel_rfl))
  f283 := Tryz.func125.trans (congrArg some (by kernel_rfl))
  f284 := Tryz.func126.trans (congrArg some (by kernel_rfl))
  f285 := Tryz.func127.trans (congrArg some (by kernel_rfl))
  f286 := Tryz.func128.trans (congrArg some (by kernel_rfl))
  f287 := Tryz.func122.trans (congrArg some (by kernel_rfl))
  f316 := Tryz.func123.trans (congrArg some (by kernel_rfl))
  f317 := Tryz.func139.trans (congrArg some (by kernel_rfl))
  f318 := Tryz.func141.trans (congrArg some (by kernel_rfl))
  f319 := Tryz.func142.trans (congrArg some (by kernel_rfl))
  f320 := Tryz.func143.trans (congrArg some (by kernel_rfl))
  f321 := Tryz.func137.trans (congrArg some (by kernel_rfl))
  f322 := Tryz.func138.trans (congrArg some (by kernel_rfl))
  f337 := Tryz.func154.trans (congrArg some (by kernel_rfl))
  f338 := Tryz.func155.trans (congrArg some (by kernel_rfl))
  t0 := Tryz.underlying0
  a0 := Tryz.isAgg0
  z0 := Tryz.sizeOf0
  v0 := Tryz.zeroValue0
  t2 := Tryz.underlying2
  a2 := Tryz.isAgg2
  z2 := Tryz.sizeOf2
  v2 := Tryz.zeroValue2
  t3 := Tryz.underlying3
  a3 := Tryz.isAgg3
  z3 := Tryz.sizeOf3
  v3 := Tryz.zeroValue3
  t4 := Tryz.underlying4
  a4 := Tryz.isAgg4
  z4 := Tryz.sizeOf4
  v4 := Tryz.zeroValue4
  t5 := Tryz.underlying5
  a5 := Tryz.isAgg5
  z5 := Tryz.sizeOf5
  v5 := Tryz.zeroValue5
  t9 := Tryz.underlying9
  a9 := Tryz.isAgg9
  z9 := Tryz.sizeOf9
  v9 := Tryz.zeroValue9
  t20 := Tryz.underlying20
  a20 := Tryz.isAgg20
  z20 := Tryz.sizeOf20
  v20 := Tryz.zeroValue20
  t21 := Tryz.underlying21
  a21 := Tryz.isAgg21
  z21 := Tryz.sizeOf21
  v21 := Tryz.zeroValue21
  t37 := Tryz.underlying22
  a37 := Tryz.isAgg22
  z37 := Tryz.sizeOf22
  v37 := Tryz.zeroValue22
  t46 := Tryz.underlying153
  a46 := Tryz.isAgg153
  z46 := Tryz.sizeOf153
  v46 := Tryz.zeroValue153
  t51 := Tryz.underlying94
  a51 := Tryz.isAgg94
  z51 := Tryz.sizeOf94
  v51 := Tryz.zeroValue94
  t53 := Tryz.underlying150
  a53 := Tryz.isAgg150
  z53 := Tryz.sizeOf150
  v53 := Tryz.zeroValue150
  t75 := Tryz.underlying130
  a75 := Tryz.isAgg130
  z75 := Tryz.sizeOf130
  v75 := Tryz.zeroValue130
  t76 := Tryz.underlying131
  a76 := Tryz.isAgg131
  z76 := Tryz.sizeOf131
  v76 := Tryz.zeroValue131
  t85 := Tryz.underlying140
  a85 := Tryz.isAgg140
  z85 := Tryz.sizeOf140
  v85 := Tryz.zeroValue140
  t127 := Tryz.underlying168
  a127 := Tryz.isAgg168
  z127 := Tryz.sizeOf168
  v127 := Tryz.zeroValue168
  t143 := Tryz.underlying169
  a143 := Tryz.isAgg169
  z143 := Tryz.sizeOf169
  v143 := Tryz.zeroValue169
  t145 := Tryz.underlying171
  a145 := Tryz.isAgg171
  z145 := Tryz.sizeOf171
  v145 := Tryz.zeroValue171
  t167 := Tryz.underlying139
  a167 := Tryz.isAgg139
  z167 := Tryz.sizeOf139
  v167 := Tryz.zeroValue139
  t168 := Tryz.underlying142
  a168 := Tryz.isAgg142
  z168 := Tryz.sizeOf142
  v168 := Tryz.zeroValue142
  t171 := Tryz.underlying158
  a171 := Tryz.isAgg158
  z171 := Tryz.sizeOf158
  v171 := Tryz.zeroValue158
  t173 := Tryz.underlying161
  a173 := Tryz.isAgg161
  z173 := Tryz.sizeOf161
  v173 := Tryz.zeroValue161
  t175 := Tryz.underlying151
  a175 := Tryz.isAgg151
  z175 := Tryz.sizeOf151
  v175 := Tryz.zeroValue151
  t210 := Tryz.underlying156
  a210 := Tryz.isAgg156
  z210 := Tryz.sizeOf156
  v210 := Tryz.zeroValue156
  t212 := Tryz.underlying173
  a212 := Tryz.isAgg173
  z212 := Tryz.sizeOf173
  v212 := Tryz.zeroValue173
  t213 := Tryz.underlying174
  a213 := Tryz.isAgg174
  z213 := Tryz.sizeOf174
  t232 := Tryz.underlying189
  a232 := Tryz.isAgg189
  z232 := Tryz.sizeOf189
  v232 := Tryz.zeroValue189
  t233 := Tryz.underlying190
  a233 := Tryz.isAgg190
  z233 := Tryz.sizeOf190
  v233 := Tryz.zeroValue190
  g15 := by kernel_rfl
  g16 := by kernel_rfl
  g17 := by kernel_rfl
  g18 := by kernel_rfl
  g19 := by kernel_rfl
  t80 := Tryz.underlying191
  a80 := Tryz.isAgg191
  z80 := Tryz.sizeOf191
  v80 := Tryz.zeroValue191
  i0 := by kernel_rfl
  i2 := by kernel_rfl
  i3 := by kernel_rfl
  i4 := by kernel_rfl
  i5 := by kernel_rfl
  i9 := by kernel_rfl
  i20 := by kernel_rfl
  i21 := by kernel_rfl
  i37 := by kernel_rfl
  i46 := by kernel_rfl
  i51 := by kernel_rfl
  i53 := by kernel_rfl
  i75 := by kernel_rfl
  i76 := by kernel_rfl
  i80 := by kernel_rfl
  i85 := by kernel_rfl
  i127 := by kernel_rfl
  i143 := by kernel_rfl
  i145 := by kernel_rfl
  i167 := by kernel_rfl
  i168 := by kernel_rfl
  i171 := by kernel_rfl
  i173 := by kernel_rfl
  i175 := by kernel_rfl
  i210 := by kernel_rfl
  i212 := by kernel_rfl
  i232 := by kernel_rfl
  i233 := by kernel_rfl
  m15 := by kernel_rfl
  m16 := by kernel_rfl
  m17 := by kernel_rfl
  m18 := by kernel_rfl
  m19 := by kernel_rfl
  c0 := by kernel_rfl
  c2 := by kernel_rfl
  c3 := by kernel_rfl
  c4 := by kernel_rfl
  c5 := by kernel_rfl
  c9 := by kernel_rfl
  c20 := by kernel_rfl
  c21 := by kernel_rfl
  c37 := by kernel_rfl
  c46 := by kernel_rfl
  c51 := by kernel_rfl
  c53 := by kernel_rfl
  c75 := by kernel_rfl
  c76 := by kernel_rfl
  c80 := by kernel_rfl
  c85 := by kernel_rfl
  c127 := by kernel_rfl
  c143 := by kernel_rfl
  c145 := by kernel_rfl
  c167 := by kernel_rfl
  c168 := by kernel_rfl
  c171 := by kernel_rfl
  c173 := by kernel_rfl
  c175 := by kernel_rfl
  c210 := by kernel_rfl
  c212 := by kernel_rfl
  c213 := by kernel_rfl
  c232 := by kernel_rfl
  c233 := by kernel_rfl }
open Go.RowKit in
/-- strconv.Atoi, AT EVERY STRING THAT SPELLS AN int ('Lib.atoiAll .. = .ok v'; of whatever length: leading zeros count): v, AND NO ERROR. The world: as it was, or with the one new row that '[]byte(..)' lays. (LAID: no walk: one application.) -/
theorem Tryz.strconv_Atoi_ok (s : ByteArray) (hmax : s.size ≤ 9223372036854775806) (v : Int) (h : Lib.atoiAll s.data.toList = .ok v) (w : World) :
    Calls Tryz.prog 100 #[.string s] w fun e w' => e = .returned (.tuple #[.int .i64 v, .nilIface]) ∧ (w' = w ∨ ∃ t, w' = Lib.bytesWorld w 5 t) := Any.strconv_Atoi_ok Tryz.laysC172 s hmax v h w
open Go.RowKit in
theorem Tryz.strconv_Atoi_syntax_var (s : ByteArray) (hlim : s.size ≤ 281474976710656) (h : Lib.atoiAll s.data.toList = Lib.atoiAll []) (tp : TypeId) (p : Value) (w : World) (hvar : w.var? Tryz.prog "strconv.ErrSyntax" = some #[.iface tp p]) :
    Calls Tryz.prog 100 #[.string s] w fun e w' => ∃ N, e = .returned (.tuple #[.int .i64 0, .iface 142 (.pointer (some ⟨N, 0, none⟩))]) ∧ w.heap.size ≤ N ∧ w'.heap[N]? = some (.cells #[.string ⟨#[65, 116, 111, 105]⟩, .string s, .iface tp p] 156 (0, 0)) ∧ Below w.heap.size w w' := Any.strconv_Atoi_syntax_var Tryz.laysC172 s hlim h tp p w hvar
open Go.RowKit in
theorem Tryz.strconv_Atoi_range_var (s : ByteArray) (hlim : s.size ≤ 281474976710656) (h : Lib.atoiAll s.data.toList = .range) (tp : TypeId) (p : Value) (w : World) (hvar : w.var? Tryz.prog "strconv.ErrRange" = some #[.iface tp p]) :
    Calls Tryz.prog 100 #[.string s] w fun e w' => ∃ N, e = .returned (.tuple #[.int .i64 (Lib.atoiSat s.data.toList), .iface 142 (.pointer (some ⟨N, 0, none⟩))]) ∧ w.heap.size ≤ N ∧ w'.heap[N]? = some (.cells #[.string ⟨#[65, 116, 111, 105]⟩, .string s, .iface tp p] 156 (0, 0)) ∧ Below w.heap.size w w' := Any.strconv_Atoi_range_var Tryz.laysC172 s hlim h tp p w hvar
end Go.Proofs
end

/- circuit.number: strconv's Atoi and Itoa. -/
section
namespace Go.Proofs.YtgpbkphiipjjoaaGreatDoor.Pv
open Go Go.RowKit Go.Sort
set_option maxRecDepth 100000
set_option maxHeartbeats 4000000
set_option linter.unusedSimpArgs false

section
variable {P : Program} {B : Array Obj}
/-- a world that has more blocks -/
theorem sim_below {e : Env} {h : List PObj} {w w' : World} (s : Sim B e h w) (b : Below w.heap.size w w') : Sim B e h w' ∧ Ext e.n e w e w' := by
  have hI : ∀ k, e.I k → w'.heap[k]? = w.heap[k]? := fun k hk => b.block k (s.im k hk)
  have hx : Ext e.n e w e w' := ⟨fun _ h => h, hI, fun _ _ _ _ h => h, Nat.le_refl _, b.size, b.os, b.tape, b.output⟩
  exact ⟨⟨s.n, fun k hk => ⟨(s.base k hk).1, by rw [hI k (s.base k hk).1]; exact (s.base k hk).2⟩, fun k hk => Nat.lt_of_lt_of_le (s.im k hk) b.size, s.sc,
    fun id o' ho => (s.obj id o' ho).keep (fun _ => rfl) (fun _ _ h => h) (fun k h => ⟨h, hI k h⟩) (fun k l => b.block k ((s.obj id o' ho).lt l).1) (fun p v r => r.ext hx), s.ne⟩, hx⟩
theorem below_drewN (w : World) (n : Nat) : Below w.heap.size w (w.drewN n) := ⟨rfl, rfl, rfl, Nat.le_refl _, fun _ _ => rfl⟩
theorem below_grow (w : World) (k : Nat) (os : Array Obj) : Below w.heap.size w (grow (w.drewN k) os) :=
  ⟨rfl, rfl, rfl, by simp [grow], fun i hi => by
    show (w.heap ++ os)[i]? = w.heap[i]?
    rw [Array.getElem?_append_left hi]⟩
theorem below_bytes (w : World) (E : TypeId) (t : ByteArray) : Below w.heap.size w (Lib.bytesWorld w E t) := by
  unfold Lib.bytesWorld World.freeze
  refine ⟨rfl, rfl, rfl, ?_, fun i hi => ?_⟩
  · simp
  · have h1 : (w.drew.alloc (.cells (Lib.bytesCells w E t) E)).heap = w.heap.push (.cells (Lib.bytesCells w E t) E) := rfl
    simp only [Nat.one_ne_zero, if_false, h1]
    rw [Array.getElem?_modify, if_neg (by omega), Array.getElem?_push_lt hi, Array.getElem?_eq_getElem hi]
end

/-- the memory that lies before the call -/
def memW (B : Array Obj) : World := { heap := B, tape := fun _ _ => 0, drawn := 0, os := default, output := #[] }
/-- what the program's variables hold, as far as it is read -/
structure Glob (B : Array Obj) : Prop where
  syn : ∃ tp p, (memW B).var? Tryz.prog "strconv.ErrSyntax" = some #[.iface tp p]
  ran : ∃ tp p, (memW B).var? Tryz.prog "strconv.ErrRange" = some #[.iface tp p]
  tab : Lib.TabIs Tryz.prog (memW B) "internal/strconv.uint64pow10" .u64 Lib.pow10Tab

theorem var_of {P : Program} {B : Array Obj} {e : Env} {h : List PObj} {w : World} (s : Sim B e h w) {name : String} {cs : Array Value} (hv : (memW B).var? P name = some cs) : w.var? P name = some cs := by
  unfold World.var? at hv ⊢
  rw [Option.bind_eq_some_iff] at hv ⊢
  obtain ⟨g, hg, hv⟩ := hv
  refine ⟨g, hg, ?_⟩
  have hb : g < B.size := by
    have : (memW B).heap[g]? ≠ none := fun hn => by rw [hn] at hv; cases hv
    exact Classical.byContradiction fun hc => this (Array.getElem?_eq_none (by show B.size ≤ g; omega))
  rw [(s.base g hb).2]
  exact hv

theorem rd_str {w : World} {e : Env} {l : List UInt8} {v : Value} (r : RV w e (.d (.str l)) v) : ∃ ba : ByteArray, v = .string ba ∧ ba.data.toList = l := by
  cases rv_d r with
  | str _ ba h _ => exact ⟨ba, rfl, h⟩

def atoiK (s : List UInt8) (r : PRes) : Prop :=
  match Lib.atoiAll s with
  | .ok v => r = .ret (.d (.tup [.int .i64 v, .raw .nilIface]))
  | _ => ∃ n y, r = .ret (.d (.tup [.int .i64 n, .ifc 142 y]))
theorem atoi_rc (B : Array Obj) (G : Glob B) (s : List UInt8) (hs : s.length ≤ 281474976710656) (h : List PObj) :
    PCalls Tryz.prog B 100 [.d (.str s)] h fun r h' => atoiK s r ∧ h' = h := by
  intro e w vs sm r
  obtain ⟨v, rfl, hv⟩ := rvs_1 r
  obtain ⟨ba, rfl, hba⟩ := rd_str hv
  have hsz : ba.size = s.length := by rw [← hba]; rfl
  refine .inl ⟨run_callFunc ⟨_, Tryz.func100, by kernel_rfl, by kernel_rfl⟩ _ _, ?_⟩
  have nil2 (n : Int) (w' : World) (e' : Env) : RV w' e' (.d (.tup [.int .i64 n, .raw .nilIface])) (.tuple #[.int .i64 n, .nilIface]) :=
    .d _ _ (.tup _ _ rfl (fun i hi => by
      match i, hi with
      | 0, _ => exact .int _ _
      | 1, _ => exact .raw _))
  have err2 (n : Int) (N : Nat) (w' : World) (e' : Env) : RV w' e' (.d (.tup [.int .i64 n, .ifc 142 (.raw (.pointer (some ⟨N, 0, none⟩)))])) (.tuple #[.int .i64 n, .iface 142 (.pointer (some ⟨N, 0, none⟩))]) :=
    .d _ _ (.tup _ _ rfl (fun i hi => by
      match i, hi with
      | 0, _ => exact .int _ _
      | 1, _ => exact .ifc _ _ _ (.raw _)))
  unfold atoiK
  rcases ha : Lib.atoiAll s with v | _ | _
  · refine (Tryz.strconv_Atoi_ok ba (by omega) v (by rw [hba]; exact ha) w).mono ?_
    rintro en w' ⟨rfl, hw⟩
    rcases hw with rfl | ⟨t, rfl⟩
    · exact ⟨_, e, h, ⟨rfl, rfl⟩, nil2 _ _ _, sm, Ext.refl (Nat.le_refl _) _⟩
    · obtain ⟨s', x'⟩ := sim_below sm (below_bytes w _ t)
      exact ⟨_, e, h, ⟨rfl, rfl⟩, nil2 _ _ _, s', x'⟩
  · obtain ⟨tp, p, hvar⟩ := G.syn
    refine (Tryz.strconv_Atoi_syntax_var ba (by omega) (by rw [hba]; exact ha) tp p w (var_of sm hvar)).mono ?_
    rintro en w' ⟨N, rfl, _, _, hbel⟩
    obtain ⟨s', x'⟩ := sim_below sm hbel
    exact ⟨_, e, h, ⟨⟨_, _, rfl⟩, rfl⟩, err2 _ N _ _, s', x'⟩
  · obtain ⟨tp, p, hvar⟩ := G.ran
    refine (Tryz.strconv_Atoi_range_var ba (by omega) (by rw [hba]; exact ha) tp p w (var_of sm hvar)).mono ?_
    rintro en w' ⟨N, rfl, _, _, hbel⟩
    obtain ⟨s', x'⟩ := sim_below sm hbel
    exact ⟨_, e, h, ⟨⟨_, _, rfl⟩, rfl⟩, err2 _ N _ _, s', x'⟩

theorem itoa_ret (B : Array Obj) (G : Glob B) (n : Int) (h0 : -9223372036854775808 ≤ n) (h1 : n ≤ 9223372036854775807) (hlen : (Lib.itoa n).length ≤ 9223372036854775807) :
    PRet Tryz.prog B 101 [.d (.int .i64 n)] (.str (Lib.itoa n)) := by
  intro h e w vs sm r
  obtain ⟨v, rfl, hv⟩ := rvs_1 r
  have := rd_int hv; subst this
  refine .inl ⟨run_callFunc ⟨_, Tryz.func101, by kernel_rfl, by kernel_rfl⟩ _ _, ?_⟩
  refine (Tryz.strconv_Itoa n h0 h1 w (var_of sm G.tab)).mono ?_
  rintro en w' ⟨rfl, k, os, rfl⟩
  obtain ⟨s', x'⟩ := sim_below sm (below_grow w k os)
  exact ⟨_, e, h, ⟨rfl, rfl⟩, .d _ _ (.str _ _ (by simp) hlen), s', x'⟩

theorem atoiAll_lt {s : List UInt8} {v : Int} (h : Lib.atoiAll s = .ok v) : v ≤ 9223372036854775807 := by
  unfold Lib.atoiAll at h
  cases s with
  | nil => cases h
  | cons c r =>
    dsimp only at h
    split at h
    · cases h
    · cases h
    · split at h
      · cases h
      · split at h
        · cases h
        · injection h with h
          rw [← h]
          split <;> omega
def numberF (s : List UInt8) : Int :=
  match Lib.atoiAll s with
  | .ok v => if v < 0 ∨ 6 < s.length ∨ Lib.itoa v ≠ s then -1 else v
  | _ => -1
theorem number_ret (B : Array Obj) (G : Glob B) (s : List UInt8) (hs : s.length ≤ 1000) : PRet Tryz.prog B 88 [.d (.str s)] (.int .i64 (numberF s)) := by
  refine pret_start Tryz.func88 Tryz.ntmps88 rfl (by decide) rfl (by simp) fun h hb => ?_
  refine vcC_sound _ _ _ _ (sm ?_)
  refine (atoi_rc B G s (by omega) h).mono fun r h' hr => ?_
  obtain ⟨hr, rfl⟩ := hr
  unfold atoiK at hr
  unfold numberF
  cases ha : Lib.atoiAll s with
  | ok v =>
    rw [ha] at hr
    subst hr
    simp only [retK]
    refine sm ?_
    simp only [decide_eq_true_eq, decide_eq_false_iff_not]
    have hv := atoiAll_lt ha
    refine ⟨fun h1 => fun _ => ⟨fun h2 => ?_, fun h2 => ?_⟩, fun h1 => ?_⟩
    · refine PRet.use (itoa_ret B G v (by omega) hv (by have := Lib.itoa_length_le v (by omega) hv; omega)) (sm ?_)
      simp only [decide_eq_true_eq, decide_eq_false_iff_not]
      refine ⟨fun h3 => ?_, fun h3 => ?_⟩
      · rw [if_pos (.inr (.inr h3))]; exact leaf
      · rw [if_neg (by rintro (h | h | h); omega; omega; exact h3 h)]; exact leaf
    · rw [if_pos (.inr (.inl (by omega)))]; exact leaf
    · rw [if_pos (.inl h1)]; exact leaf
  | _ =>
    rw [ha] at hr
    obtain ⟨n, y, rfl⟩ := hr
    simp only [retK]
    refine sm ?_
    exact leaf
end Go.Proofs.YtgpbkphiipjjoaaGreatDoor.Pv
end


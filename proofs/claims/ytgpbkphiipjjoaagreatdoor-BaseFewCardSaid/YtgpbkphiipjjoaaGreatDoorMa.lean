/- A layer over the kit's walk: Go values are told as data ('D', 'PV'), memory as a list of objects that the code at hand owns, and everything else never turns. This text: the words and what holds of them in every world. -/
import Derived.WalkKit


section
namespace Go.Proofs.YtgpbkphiipjjoaaGreatDoor.Pv
open Go

/-- data without a place in memory of its own: what never turns -/
inductive D where
  | int (k : IntKind) (n : Int)
  | bool (b : Bool)
  | str (l : List UInt8)
  | raw (v : Value)
  | sl (es : List D) (clip : Bool)
  | ip (e : D)
  | vm (ks vs : List D)
  | fn (f : Fn) (first caps : List D)
  | ifc (t : TypeId) (x : D)
  | agg (cs : List D)
  | tup (vs : List D)

instance : Inhabited D := ⟨.bool false⟩

def D.ncells : D → Nat
  | .agg cs => cs.length
  | _ => 1
def D.cell : D → Nat → D
  | .agg cs, j => cs.getD j default
  | x, _ => x
def scalarV : Value → Bool
  | .agg _ => false
  | .tuple _ => false
  | _ => true
def D.scalar : D → Bool
  | .agg _ => false
  | .tup _ => false
  | .raw v => scalarV v
  | _ => true

inductive RD (w : World) (I : Nat → Prop) : D → Value → Prop
  | int (k : IntKind) (n : Int) : RD w I (.int k n) (.int k n)
  | bool (b : Bool) : RD w I (.bool b) (.bool b)
  | str (l : List UInt8) (s : ByteArray) : s.data.toList = l → l.length ≤ 9223372036854775807 → RD w I (.str l) (.string s)
  | raw (v : Value) : RD w I (.raw v) v
  | ip (e : D) (b off : Nat) (u : Nat → Value) : I b → (∀ j, j < e.ncells → (e.cell j).scalar = true) →
      (∀ j, j < e.ncells → w.cell? ⟨b, off + j, none⟩ = some (u j)) → (∀ j, j < e.ncells → RD w I (e.cell j) (u j)) →
      RD w I (.ip e) (.pointer (some ⟨b, off, none⟩))
  | slnil (p : Option Addr) (cap : Nat) (clip : Bool) : (clip = true → cap = 0) → RD w I (.sl [] clip) (.slice p 0 cap)
  | sl (es : List D) (clip : Bool) (b off cap sz : Nat) (u : Nat → Nat → Value) : I b → es.length ≤ cap ∧ cap ≤ 9223372036854775807 → (clip = true → cap = es.length) →
      (∀ i, i < es.length → (es.getD i default).ncells = sz) →
      (∀ i j, i < es.length → j < sz → ((es.getD i default).cell j).scalar = true) →
      (∀ i j, i < es.length → j < sz → w.cell? ⟨b, off + i * sz + j, none⟩ = some (u i j)) →
      (∀ i j, i < es.length → j < sz → RD w I ((es.getD i default).cell j) (u i j)) →
      RD w I (.sl es clip) (.slice (some ⟨b, off, none⟩) es.length cap)
  | vm (ks vs : List D) (b : Nat) (es : Array MapEntry) (clock : Nat) : I b → w.heap[b]? = some (.map es clock) → ks.length = es.size → vs.length = es.size →
      (∀ i, i < es.size → RD w I (ks.getD i default) (es.getD i default).key) → (∀ i, i < es.size → RD w I (vs.getD i default) (es.getD i default).val) →
      RD w I (.vm ks vs) (.map (some b))
  | fn (f : Fn) (first caps : List D) (fs cs : Array Value) : fs.size = first.length → cs.size = caps.length →
      (∀ i, i < first.length → RD w I (first.getD i default) (fs.getD i default)) → (∀ i, i < caps.length → RD w I (caps.getD i default) (cs.getD i default)) →
      RD w I (.fn f first caps) (.func f fs cs)
  | ifc (t : TypeId) (x : D) (v : Value) : RD w I x v → RD w I (.ifc t x) (.iface t v)
  | agg (cs : List D) (vs : Array Value) : vs.size = cs.length → (∀ i, i < cs.length → (cs.getD i default).scalar = true) →
      (∀ i, i < cs.length → RD w I (cs.getD i default) (vs.getD i default)) → RD w I (.agg cs) (.agg vs)
  | tup (xs : List D) (vs : Array Value) : vs.size = xs.length → (∀ i, i < xs.length → RD w I (xs.getD i default) (vs.getD i default)) → RD w I (.tup xs) (.tuple vs)

theorem RD.mono {w w' : World} {I I' : Nat → Prop} (hI : ∀ b, I b → I' b) (hm : ∀ b, I b → w'.heap[b]? = w.heap[b]?) {x : D} {v : Value}
    (h : RD w I x v) : RD w' I' x v := by
  have hc : ∀ (b off : Nat), I b → w'.cell? ⟨b, off, none⟩ = w.cell? ⟨b, off, none⟩ := fun b off hb => by
    unfold World.cell?; rw [hm b hb]
  induction h with
  | int k n => exact .int k n
  | bool b => exact .bool b
  | str l s h h2 => exact .str l s h h2
  | raw v => exact .raw v
  | ip e b off u hb hs hu _ ih => exact .ip e b off u (hI b hb) hs (fun j hj => by rw [hc b _ hb]; exact hu j hj) ih
  | slnil p cap clip h => exact .slnil p cap clip h
  | sl es clip b off cap sz u hb h1 h2 h3 hs hu _ ih => exact .sl es clip b off cap sz u (hI b hb) h1 h2 h3 hs (fun i j hi hj => by rw [hc b _ hb]; exact hu i j hi hj) ih
  | vm ks vs b es clock hb he h1 h2 _ _ ih1 ih2 => exact .vm ks vs b es clock (hI b hb) (by rw [hm b hb]; exact he) h1 h2 ih1 ih2
  | fn f first caps fs cs h1 h2 _ _ ih1 ih2 => exact .fn f first caps fs cs h1 h2 ih1 ih2
  | ifc t x v _ ih => exact .ifc t x v ih
  | agg cs vs h1 hs _ ih => exact .agg cs vs h1 hs ih
  | tup xs vs h1 _ ih => exact .tup xs vs h1 ih

/-- a scalar's value takes one cell -/
theorem RD.scalarV {w : World} {I : Nat → Prop} {x : D} {v : Value} (h : RD w I x v) (hs : x.scalar = true) : scalarV v = true := by
  cases h <;> simp_all [D.scalar, Pv.scalarV]

/-- values as the code at hand sees them: data, or what leads to an object that it owns ('id': the object's place in the list) -/
inductive PV where
  | d (x : D)
  | ptr (id off : Nat)
  | row (id n : Nat)
  | rp (id n i sz off : Nat)
  | mp (id : Nat)
  | it (id : Nat)
  | fn (f : Fn) (first caps : List PV)
  | agg (cs : List PV)
  | tup (vs : List PV)
  | ifc (t : TypeId) (x : PV)
  | junk

instance : Inhabited PV := ⟨.junk⟩

def PV.ncells : PV → Nat
  | .agg cs => cs.length
  | .d x => x.ncells
  | _ => 1
def PV.cell : PV → Nat → PV
  | .agg cs, j => cs.getD j .junk
  | .d x, j => .d (x.cell j)
  | x, _ => x
def PV.scalar : PV → Bool
  | .agg _ => false
  | .tup _ => false
  | .junk => false
  | .d x => x.scalar
  | _ => true

/-- which blocks never turn; where the owned objects lie, and how many there are -/
structure Env where
  I : Nat → Prop
  G : Nat → Nat → Option Value
  n : Nat

inductive RV (w : World) (e : Env) : PV → Value → Prop
  | d (x : D) (v : Value) : RD w e.I x v → RV w e (.d x) v
  | ptr (id off b : Nat) : id < e.n → e.G id 0 = some (.pointer (some ⟨b, 0, none⟩)) → RV w e (.ptr id off) (.pointer (some ⟨b, off, none⟩))
  | row (id n : Nat) (v : Value) : id < e.n → e.G id n = some v → RV w e (.row id n) v
  | rp (id n i sz off b len cap : Nat) : id < e.n → e.G id n = some (.slice (some ⟨b, 0, none⟩) len cap) → RV w e (.rp id n i sz off) (.pointer (some ⟨b, i * sz + off, none⟩))
  | mp (id b : Nat) : id < e.n → e.G id 0 = some (.map (some b)) → RV w e (.mp id) (.map (some b))
  | it (id b : Nat) : id < e.n → e.G id 0 = some (.pointer (some ⟨b, 0, none⟩)) → RV w e (.it id) (.pointer (some ⟨b, 0, none⟩))
  | fn (f : Fn) (first caps : List PV) (fs cs : Array Value) : fs.size = first.length → cs.size = caps.length →
      (∀ i, i < first.length → RV w e (first.getD i .junk) (fs.getD i default)) → (∀ i, i < caps.length → RV w e (caps.getD i .junk) (cs.getD i default)) →
      RV w e (.fn f first caps) (.func f fs cs)
  | agg (cs : List PV) (vs : Array Value) : vs.size = cs.length → (∀ i, i < cs.length → (cs.getD i .junk).scalar = true) →
      (∀ i, i < cs.length → RV w e (cs.getD i .junk) (vs.getD i default)) → RV w e (.agg cs) (.agg vs)
  | tup (xs : List PV) (vs : Array Value) : vs.size = xs.length → (∀ i, i < xs.length → RV w e (xs.getD i .junk) (vs.getD i default)) → RV w e (.tup xs) (.tuple vs)
  | ifc (t : TypeId) (x : PV) (v : Value) : RV w e x v → RV w e (.ifc t x) (.iface t v)
  | junk (v : Value) : RV w e .junk v

/-- from one world to a later one: what never turns has not turned; the first m owned objects lie where they lay -/
structure Ext (m : Nat) (e : Env) (w : World) (e' : Env) (w' : World) : Prop where
  I : ∀ b, e.I b → e'.I b
  mem : ∀ b, e.I b → w'.heap[b]? = w.heap[b]?
  G : ∀ id n v, id < m → e.G id n = some v → e'.G id n = some v
  n : m ≤ e'.n
  size : w.heap.size ≤ w'.heap.size
  os : w'.os = w.os
  tape : w'.tape = w.tape
  output : w'.output = w.output

theorem Ext.refl {m : Nat} {e : Env} (h : m ≤ e.n) (w : World) : Ext m e w e w := ⟨fun _ h => h, fun _ _ => rfl, fun _ _ _ _ h => h, h, Nat.le_refl _, rfl, rfl, rfl⟩
theorem Ext.trans {m m' : Nat} {e e' e'' : Env} {w w' w'' : World} (h : Ext m e w e' w') (k : Ext m' e' w' e'' w'') (hm : m ≤ m') : Ext m e w e'' w'' :=
  ⟨fun b hb => k.I b (h.I b hb), fun b hb => (k.mem b (h.I b hb)).trans (h.mem b hb), fun id n v hi hv => k.G id n v (Nat.lt_of_lt_of_le hi hm) (h.G id n v hi hv),
   Nat.le_trans hm k.n, Nat.le_trans h.size k.size, k.os.trans h.os, k.tape.trans h.tape, k.output.trans h.output⟩
theorem Ext.weaken {m m' : Nat} {e e' : Env} {w w' : World} (h : Ext m e w e' w') (hm : m' ≤ m) : Ext m' e w e' w' :=
  ⟨h.I, h.mem, fun id n v hi => h.G id n v (Nat.lt_of_lt_of_le hi hm), Nat.le_trans hm h.n, h.size, h.os, h.tape, h.output⟩

theorem RD.ext {m : Nat} {e e' : Env} {w w' : World} (x : Ext m e w e' w') {p : D} {v : Value} (h : RD w e.I p v) : RD w' e'.I p v := h.mono x.I x.mem

theorem RV.ext {e e' : Env} {w w' : World} (x : Ext e.n e w e' w') {p : PV} {v : Value} (h : RV w e p v) : RV w' e' p v := by
  induction h with
  | d y v h => exact .d y v (h.ext x)
  | ptr id off b h g => exact .ptr id off b (Nat.lt_of_lt_of_le h x.n) (x.G _ _ _ h g)
  | row id n v h g => exact .row id n v (Nat.lt_of_lt_of_le h x.n) (x.G _ _ _ h g)
  | rp id n i sz off b len cap h g => exact .rp id n i sz off b len cap (Nat.lt_of_lt_of_le h x.n) (x.G _ _ _ h g)
  | mp id b h g => exact .mp id b (Nat.lt_of_lt_of_le h x.n) (x.G _ _ _ h g)
  | it id b h g => exact .it id b (Nat.lt_of_lt_of_le h x.n) (x.G _ _ _ h g)
  | fn f first caps fs cs h1 h2 _ _ ih1 ih2 => exact .fn f first caps fs cs h1 h2 ih1 ih2
  | agg cs vs h1 hs _ ih => exact .agg cs vs h1 hs ih
  | tup xs vs h1 _ ih => exact .tup xs vs h1 ih
  | ifc t y v _ ih => exact .ifc t y v ih
  | junk v => exact .junk v

/-- no place beyond the first n objects is named -/
inductive PV.Below (n : Nat) : PV → Prop
  | d (x : D) : Below n (.d x)
  | ptr (id off : Nat) : id < n → Below n (.ptr id off)
  | row (id k : Nat) : id < n → Below n (.row id k)
  | rp (id k i sz off : Nat) : id < n → Below n (.rp id k i sz off)
  | mp (id : Nat) : id < n → Below n (.mp id)
  | it (id : Nat) : id < n → Below n (.it id)
  | fn (f : Fn) (first caps : List PV) : (∀ p, p ∈ first → Below n p) → (∀ p, p ∈ caps → Below n p) → Below n (.fn f first caps)
  | agg (cs : List PV) : (∀ p, p ∈ cs → Below n p) → Below n (.agg cs)
  | tup (cs : List PV) : (∀ p, p ∈ cs → Below n p) → Below n (.tup cs)
  | ifc (t : TypeId) (x : PV) : Below n x → Below n (.ifc t x)
  | junk : Below n .junk

theorem getD_mem {l : List PV} {i : Nat} (h : i < l.length) : l.getD i .junk ∈ l := by
  rw [List.getD_eq_getElem?_getD, List.getElem?_eq_getElem h]; exact List.getElem_mem h
theorem mem_getD {l : List PV} {p : PV} (h : p ∈ l) : ∃ i, i < l.length ∧ l.getD i .junk = p := by
  obtain ⟨i, hi, e⟩ := List.mem_iff_getElem.1 h
  exact ⟨i, hi, by rw [List.getD_eq_getElem?_getD, List.getElem?_eq_getElem hi]; exact e⟩

theorem PV.Below.mono {n m : Nat} (hm : n ≤ m) {p : PV} (h : p.Below n) : p.Below m := by
  induction h with
  | d x => exact .d x
  | ptr id off h => exact .ptr id off (Nat.lt_of_lt_of_le h hm)
  | row id k h => exact .row id k (Nat.lt_of_lt_of_le h hm)
  | rp id k i sz off h => exact .rp id k i sz off (Nat.lt_of_lt_of_le h hm)
  | mp id h => exact .mp id (Nat.lt_of_lt_of_le h hm)
  | it id h => exact .it id (Nat.lt_of_lt_of_le h hm)
  | fn f first caps _ _ h1 h2 => exact .fn f first caps h1 h2
  | agg cs _ h => exact .agg cs h
  | tup cs _ h => exact .tup cs h
  | ifc t x _ h => exact .ifc t x h
  | junk => exact .junk

theorem PV.Below.cell {n : Nat} {p : PV} (h : p.Below n) (j : Nat) : (p.cell j).Below n := by
  cases h with
  | agg cs h =>
    show (cs.getD j .junk).Below n
    by_cases hj : j < cs.length
    · exact h _ (getD_mem hj)
    · rw [List.getD_eq_getElem?_getD, List.getElem?_eq_none (by omega)]; exact .junk
  | d x => exact .d _
  | ptr id off h => exact .ptr id off h
  | row id k h => exact .row id k h
  | rp id k i sz off h => exact .rp id k i sz off h
  | mp id h => exact .mp id h
  | it id h => exact .it id h
  | fn f first caps h1 h2 => exact .fn f first caps h1 h2
  | tup cs h => exact .tup cs h
  | ifc t x h => exact .ifc t x h
  | junk => exact .junk

theorem RV.isBelow {w : World} {e : Env} {p : PV} {v : Value} (h : RV w e p v) : p.Below e.n := by
  induction h with
  | d y v h => exact .d y
  | ptr id off b h g => exact .ptr _ _ h
  | row id n v h g => exact .row _ _ h
  | rp id n i sz off b len cap h g => exact .rp _ _ _ _ _ h
  | mp id b h g => exact .mp _ h
  | it id b h g => exact .it _ h
  | fn f first caps fs cs h1 h2 _ _ ih1 ih2 => exact .fn _ _ _ (fun p hp => by obtain ⟨i, hi, rfl⟩ := mem_getD hp; exact ih1 i hi) (fun p hp => by obtain ⟨i, hi, rfl⟩ := mem_getD hp; exact ih2 i hi)
  | agg cs vs h1 hs _ ih => exact .agg _ (fun p hp => by obtain ⟨i, hi, rfl⟩ := mem_getD hp; exact ih i hi)
  | tup xs vs h1 _ ih => exact .tup _ (fun p hp => by obtain ⟨i, hi, rfl⟩ := mem_getD hp; exact ih i hi)
  | ifc t y v _ ih => exact .ifc _ _ ih
  | junk v => exact .junk

/-- the first m objects alone -/
def Env.cut (e : Env) (m : Nat) : Env := { e with n := m }

theorem RV.cut {w : World} {e : Env} {m : Nat} {p : PV} {v : Value} (h : RV w e p v) (hb : p.Below m) : RV w (e.cut m) p v := by
  induction h with
  | d y v h => exact .d y v h
  | ptr id off b h g => cases hb with | ptr _ _ hb => exact .ptr _ _ _ hb g
  | row id n v h g => cases hb with | row _ _ hb => exact .row _ _ _ hb g
  | rp id n i sz off b len cap h g => cases hb with | rp _ _ _ _ _ hb => exact .rp _ _ _ _ _ _ _ _ hb g
  | mp id b h g => cases hb with | mp _ hb => exact .mp _ _ hb g
  | it id b h g => cases hb with | it _ hb => exact .it _ _ hb g
  | fn f first caps fs cs h1 h2 _ _ ih1 ih2 => cases hb with | fn _ _ _ b1 b2 => exact .fn _ _ _ _ _ h1 h2 (fun i hi => ih1 i hi (b1 _ (getD_mem hi))) (fun i hi => ih2 i hi (b2 _ (getD_mem hi)))
  | agg cs vs h1 hs _ ih => cases hb with | agg _ b => exact .agg _ _ h1 hs (fun i hi => ih i hi (b _ (getD_mem hi)))
  | tup xs vs h1 _ ih => cases hb with | tup _ b => exact .tup _ _ h1 (fun i hi => ih i hi (b _ (getD_mem hi)))
  | ifc t y v _ ih => cases hb with | ifc _ _ b => exact .ifc _ _ _ (ih b)
  | junk v => exact .junk v

theorem RV.scalarV {w : World} {e : Env} (hG : ∀ id n v, id < e.n → e.G id n = some v → scalarV v = true) {x : PV} {v : Value} (h : RV w e x v) (hs : x.scalar = true) : scalarV v = true := by
  cases h with
  | d y v h => exact h.scalarV hs
  | row id n v h g => exact hG _ _ _ h g
  | junk => simp [PV.scalar] at hs
  | agg => simp [PV.scalar] at hs
  | tup => simp [PV.scalar] at hs
  | _ => rfl

/-- the objects that the code at hand owns -/
inductive PObj where
  | cells (cs : List PV)
  | row (E : TypeId) (sz : Nat) (es : List PV)
  | map (ks vs : List PV)
  | siter (l : List UInt8) (pos : Nat)
  | miter (mid n : Nat) (seen : List Nat)
  | frz (ds : List D)

def PObj.ver : PObj → Nat
  | .row _ _ es => es.length
  | .frz ds => ds.length
  | _ => 0

def blockOf : Value → Option Nat
  | .pointer (some a) => some a.block
  | .slice (some a) _ _ => some a.block
  | .map (some b) => some b
  | _ => none

/-- an array's cells are told by a list -/
def CellsAre (w : World) (e : Env) (cs : List PV) (arr : Array Value) : Prop :=
  arr.size = cs.length ∧ (∀ i, i < cs.length → (cs.getD i .junk).scalar = true) ∧ (∀ i, i < cs.length → RV w e (cs.getD i .junk) (arr.getD i default))

/-- a row's cells, an element of 'sz' cells a piece, are told by a list -/
def RowIs (w : World) (e : Env) (sz : Nat) (es : List PV) (arr : Array Value) : Prop :=
  es.length * sz ≤ arr.size ∧ (∀ i, i < es.length → (es.getD i .junk).ncells = sz) ∧
  (∀ i j, i < es.length → j < sz → ((es.getD i .junk).cell j).scalar = true) ∧
  (∀ i j, i < es.length → j < sz → RV w e ((es.getD i .junk).cell j) (arr.getD (i * sz + j) default))

def RObj (w : World) (e : Env) (id : Nat) : PObj → Prop
  | .cells cs => ∃ b arr E, e.G id 0 = some (.pointer (some ⟨b, 0, none⟩)) ∧ ¬ e.I b ∧ w.heap[b]? = some (.cells arr E (0, 0)) ∧ CellsAre w e cs arr
  | .row E sz es => sz ≠ 0 ∧ ∃ v, e.G id es.length = some v ∧ (∀ m, es.length < m → e.G id m = none) ∧
      ((v = .slice none 0 0 ∧ es = []) ∨
       ∃ b cap arr, v = .slice (some ⟨b, 0, none⟩) es.length cap ∧ ¬ e.I b ∧ w.heap[b]? = some (.cells arr E (0, 0)) ∧ arr.size = cap * sz ∧ (es.length ≤ cap ∧ cap ≤ maxLen) ∧ RowIs w e sz es arr)
  | .map ks vs => ∃ b es clock, e.G id 0 = some (.map (some b)) ∧ ¬ e.I b ∧ w.heap[b]? = some (.map es clock) ∧ ks.length = es.size ∧ vs.length = es.size ∧
      (∀ i, i < es.size → (es.getD i default).born = i) ∧ clock = es.size ∧
      (∀ i, i < es.size → RV w e (ks.getD i .junk) (es.getD i default).key) ∧ (∀ i, i < es.size → RV w e (vs.getD i .junk) (es.getD i default).val)
  | .siter l pos => ∃ b s, e.G id 0 = some (.pointer (some ⟨b, 0, none⟩)) ∧ ¬ e.I b ∧ w.heap[b]? = some (.stringIter s pos) ∧ s.data.toList = l
  | .miter mid n seen => ∃ b m, e.G id 0 = some (.pointer (some ⟨b, 0, none⟩)) ∧ ¬ e.I b ∧ w.heap[b]? = some (.mapIter (some m) n seen.toArray n) ∧ RV w e (.mp mid) (.map (some m))
  | .frz ds => ∃ v, e.G id ds.length = some v ∧ RD w e.I (.sl ds false) v

/-- is it written to no more? -/
def PObj.still : PObj → Bool
  | .frz _ => true
  | _ => false

/-- a block that an object lies in -/
def lies (e : Env) (id : Nat) (o : PObj) (b : Nat) : Prop := o.still = false ∧ ∃ v, e.G id o.ver = some v ∧ blockOf v = some b

structure Sim (B : Array Obj) (e : Env) (h : List PObj) (w : World) : Prop where
  n : e.n = h.length
  base : ∀ b, b < B.size → e.I b ∧ w.heap[b]? = B[b]?
  im : ∀ b, e.I b → b < w.heap.size
  sc : ∀ id n v, id < e.n → e.G id n = some v → scalarV v = true
  obj : ∀ id o, h[id]? = some o → RObj w e id o
  ne : ∀ id id' o o' b, h[id]? = some o → h[id']? = some o' → lies e id o b → lies e id' o' b → id = id'

/-- deferred calls -/
structure PDef where
  f : FuncId
  args : List PV

def RVs (w : World) (e : Env) (ps : List PV) (vs : Array Value) : Prop := vs.size = ps.length ∧ ∀ i, i < ps.length → RV w e (ps.getD i .junk) (vs.getD i default)

def RDef (w : World) (e : Env) (p : PDef) (d : Deferred) : Prop := ∃ caps, d.target = .fn (.func p.f) caps ∧ RVs w e p.args (d.args ++ caps)

/-- a frame -/
structure PA where
  t : Nat → PV
  N : Nat
  ds : List PDef

structure RA (w : World) (e : Env) (a : PA) (act : Act) : Prop where
  size : act.tmps.size = a.N
  t : ∀ i, RV w e (a.t i) (act.tmps.getD i undef)
  len : act.defers.length = a.ds.length
  ds : ∀ (i : Nat) (p : PDef) (d : Deferred), a.ds[i]? = some p → act.defers[i]? = some d → RDef w e p d

theorem RVs.ext {e e' : Env} {w w' : World} (x : Ext e.n e w e' w') {ps : List PV} {vs : Array Value} (h : RVs w e ps vs) : RVs w' e' ps vs :=
  ⟨h.1, fun i hi => (h.2 i hi).ext x⟩
theorem RDef.ext {e e' : Env} {w w' : World} (x : Ext e.n e w e' w') {p : PDef} {d : Deferred} (h : RDef w e p d) : RDef w' e' p d :=
  let ⟨caps, h1, h2⟩ := h; ⟨caps, h1, h2.ext x⟩
theorem RA.ext {e e' : Env} {w w' : World} (x : Ext e.n e w e' w') {a : PA} {act : Act} (h : RA w e a act) : RA w' e' a act :=
  ⟨h.size, fun i => (h.t i).ext x, h.len, fun i p d h1 h2 => (h.ds i p d h1 h2).ext x⟩

def PA.put (a : PA) (dst : Option Tmp) (p : PV) : PA :=
  match dst with
  | some d => { a with t := fun i => if i = d then p else a.t i }
  | none => a

theorem RA.put {w : World} {e : Env} {a : PA} {act : Act} (h : RA w e a act) (dst : Option Tmp) (hd : ∀ d, dst = some d → d < a.N) {p : PV} {v : Value} (hv : RV w e p v) :
    RA w e (a.put dst p) (act.put dst v) := by
  cases dst with
  | none => exact h
  | some d =>
    have hd := hd d rfl
    refine ⟨?_, fun i => ?_, h.len, h.ds⟩
    · simp [PA.put, Act.put, h.size]
    · simp only [PA.put, Act.put]
      split
      · rename_i hi; subst hi
        rw [Array.getD_eq_getD_getElem?, Array.getElem?_setIfInBounds]
        simp [h.size, hd, hv]
      · rename_i hi
        have := h.t i
        rw [Array.getD_eq_getD_getElem?] at this
        rw [Array.getD_eq_getD_getElem?, Array.getElem?_setIfInBounds]
        rw [if_neg (fun e => hi e.symm)]
        exact this

/-- constants -/
def cD : Value → D
  | .int k n => .int k n
  | .bool b => .bool b
  | .string s => if s.data.toList.length ≤ 9223372036854775807 then .str s.data.toList else .raw (.string s)
  | .slice none 0 0 => .sl [] true
  | v => .raw v
def cPV : Value → PV
  | .agg cs => .d (.agg (cs.toList.map cD))
  | v => .d (cD v)

theorem RD.const (w : World) (I : Nat → Prop) (v : Value) : RD w I (cD v) v := by
  unfold cD
  split
  · exact .int _ _
  · exact .bool _
  · split
    · exact .str _ _ rfl ‹_›
    · exact .raw _
  · exact .slnil _ _ _ (fun _ => rfl)
  · exact .raw _

theorem cD_scalar (v : Value) (h : Pv.scalarV v = true) : (cD v).scalar = true := by
  unfold cD
  split <;> (try split) <;> simp_all [D.scalar]

/-- constants whose cells are of one cell each -/
def flatV : Value → Bool
  | .agg cs => cs.all scalarV
  | _ => true

theorem RV.const (w : World) (e : Env) (v : Value) (hf : flatV v = true) : RV w e (cPV v) v := by
  unfold cPV
  split
  · rename_i cs
    refine .d _ _ (.agg _ _ (by simp) (fun i hi => ?_) (fun i hi => ?_))
    · simp only [List.length_map, Array.length_toList] at hi
      simp only [flatV, Array.all_eq_true] at hf
      simp only [List.getD_eq_getElem?_getD, List.getElem?_map, Array.getElem?_toList, Array.getElem?_eq_getElem hi, Option.map_some, Option.getD_some]
      exact cD_scalar _ (hf i hi)
    · simp only [List.length_map, Array.length_toList] at hi
      simp only [List.getD_eq_getElem?_getD, List.getElem?_map, Array.getElem?_toList, Array.getElem?_eq_getElem hi, Option.map_some, Option.getD_some, Array.getD_eq_getD_getElem?]
      exact RD.const _ _ _
  · exact .d _ _ (RD.const _ _ _)

def PA.eval (a : PA) : Operand → PV
  | .tmp t => a.t t
  | .const v => if flatV v then cPV v else .junk
  | .global g => .d (.raw (.pointer (some ⟨g, 0, none⟩)))
  | .func f => .d (.fn (.func f) [] [])

theorem RA.eval {w : World} {e : Env} {a : PA} {act : Act} (h : RA w e a act) (o : Operand) : RV w e (a.eval o) (act.eval o) := by
  cases o with
  | tmp t => exact h.t t
  | const v =>
    simp only [PA.eval, Act.eval]
    split
    · exact RV.const _ _ _ ‹_›
    · exact .junk _
  | global g => exact .d _ _ (.raw _)
  | func f => exact .d _ _ (.fn _ _ _ _ _ rfl rfl (fun i hi => by simp at hi) (fun i hi => by simp at hi))

#print axioms RA.eval
end Go.Proofs.YtgpbkphiipjjoaaGreatDoor.Pv
end

/- The rules of the walk over data: code, loops, calls. -/
section
namespace Go.Proofs.YtgpbkphiipjjoaaGreatDoor.Pv
open Go

/-- no object names a place beyond the first n -/
inductive PObj.Below (n : Nat) : PObj → Prop
  | cells (cs : List PV) : (∀ p, p ∈ cs → PV.Below n p) → Below n (.cells cs)
  | row (E : TypeId) (sz : Nat) (es : List PV) : (∀ p, p ∈ es → PV.Below n p) → Below n (.row E sz es)
  | map (ks vs : List PV) : (∀ p, p ∈ ks → PV.Below n p) → (∀ p, p ∈ vs → PV.Below n p) → Below n (.map ks vs)
  | siter (l : List UInt8) (pos : Nat) : Below n (.siter l pos)
  | miter (mid k : Nat) (seen : List Nat) : mid < n → Below n (.miter mid k seen)
  | frz (ds : List D) : Below n (.frz ds)

theorem PObj.Below.mono {n m : Nat} (hm : n ≤ m) {o : PObj} (h : o.Below n) : o.Below m := by
  cases h with
  | cells cs h => exact .cells cs (fun p hp => (h p hp).mono hm)
  | row E sz es h => exact .row E sz es (fun p hp => (h p hp).mono hm)
  | map ks vs h1 h2 => exact .map ks vs (fun p hp => (h1 p hp).mono hm) (fun p hp => (h2 p hp).mono hm)
  | siter l pos => exact .siter l pos
  | miter mid k s h1 => exact .miter mid k s (Nat.lt_of_lt_of_le h1 hm)
  | frz ds => exact .frz ds

/-- every object names the listed ones alone -/
def HB (h : List PObj) : Prop := ∀ o, o ∈ h → o.Below h.length

theorem cut_I (e : Env) (m : Nat) : (e.cut m).I = e.I := rfl
theorem cut_G (e : Env) (m : Nat) : (e.cut m).G = e.G := rfl

/-- an element of a row whose cells may be told: each cell is told, so it is below -/
theorem elem_below {n sz : Nat} {p : PV} (hn : p.ncells = sz) (h : ∀ j, j < sz → (p.cell j).Below n) (hs : ∀ j, j < sz → (p.cell j).scalar = true) : p.Below n ∨ sz = 0 := by
  cases sz with
  | zero => exact .inr rfl
  | succ k =>
    left
    cases p with
    | agg cs =>
      refine .agg _ (fun q hq => ?_)
      obtain ⟨i, hi, rfl⟩ := mem_getD hq
      exact h i (by simp [PV.ncells] at hn; omega)
    | d x => exact .d x
    | _ => exact h 0 (by omega)

theorem RObj.cut {w : World} {e : Env} {m id : Nat} {o : PObj} (h : RObj w e id o) (hb : o.Below m) : RObj w (e.cut m) id o := by
  cases o with
  | cells cs =>
    obtain ⟨b, arr, E, h1, h2, h3, h4, h5, h6⟩ := h
    cases hb with | cells _ hb => exact ⟨b, arr, E, h1, h2, h3, h4, h5, fun i hi => (h6 i hi).cut (hb _ (getD_mem hi))⟩
  | row E sz es =>
    obtain ⟨ht, v, h1, h2, h3⟩ := h
    cases hb with
    | row _ _ _ hb =>
      refine ⟨ht, v, h1, h2, h3.imp (fun x => x) ?_⟩
      rintro ⟨b, cap, arr, k1, k2, k3, k4, k5, k6, k7, k8, k9⟩
      exact ⟨b, cap, arr, k1, k2, k3, k4, k5, k6, k7, k8, fun i j hi hj => (k9 i j hi hj).cut ((hb _ (getD_mem hi)).cell j)⟩
  | map ks vs =>
    obtain ⟨b, es, clock, h1, h2, h3, h4, h5, h6, h7, h8, h9⟩ := h
    cases hb with
    | map _ _ b1 b2 => exact ⟨b, es, clock, h1, h2, h3, h4, h5, h6, h7, fun i hi => (h8 i hi).cut (b1 _ (getD_mem (by omega))), fun i hi => (h9 i hi).cut (b2 _ (getD_mem (by omega)))⟩
  | siter l pos => exact h
  | miter mid k seen =>
    obtain ⟨b, mm, h1, h2, h3, h4⟩ := h
    cases hb with
    | miter _ _ _ b1 => exact ⟨b, mm, h1, h2, h3, h4.cut (.mp _ b1)⟩
  | frz ds => exact h

/-- the objects that lie behind the first ones may be forgotten -/
theorem Sim.cut {B : Array Obj} {e : Env} {h X : List PObj} {w : World} (s : Sim B e (h ++ X) w) (hb : HB h) : Sim B (e.cut h.length) h w := by
  have hl : h.length ≤ e.n := by rw [s.n]; simp
  have sub : ∀ (id : Nat) (o : PObj), h[id]? = some o → (h ++ X)[id]? = some o := fun id o ho => by
    obtain ⟨hi, _⟩ := List.getElem?_eq_some_iff.1 ho
    rw [List.getElem?_append_left hi]; exact ho
  refine ⟨rfl, s.base, s.im, fun id n v hi => s.sc id n v (Nat.lt_of_lt_of_le hi hl), fun id o ho => (s.obj id o (sub _ _ ho)).cut (hb o (List.mem_of_getElem? ho)), ?_⟩
  intro id id' o o' b h1 h2 l1 l2
  exact s.ne id id' o o' b (sub _ _ h1) (sub _ _ h2) l1 l2

/-- out of the relation itself: every object is below -/
theorem RObj.isBelow {w : World} {e : Env} {id : Nat} {o : PObj} (h : RObj w e id o) : o.Below e.n := by
  cases o with
  | cells cs =>
    obtain ⟨b, arr, E, h1, h2, h3, h4, h5, h6⟩ := h
    exact .cells _ (fun p hp => by obtain ⟨i, hi, rfl⟩ := mem_getD hp; exact (h6 i hi).isBelow)
  | row E sz es =>
    obtain ⟨ht, v, h1, h2, h3⟩ := h
    rcases h3 with ⟨_, rfl⟩ | ⟨b, cap, arr, k1, k2, k3, k4, k5, k6, k7, k8, k9⟩
    · exact .row _ _ _ (fun p hp => by simp at hp)
    · refine .row _ _ _ (fun p hp => ?_)
      obtain ⟨i, hi, rfl⟩ := mem_getD hp
      exact (elem_below (k7 i hi) (fun j hj => (k9 i j hi hj).isBelow) (fun j hj => k8 i j hi hj)).resolve_right ht
  | map ks vs =>
    obtain ⟨b, es, clock, h1, h2, h3, h4, h5, h6, h7, h8, h9⟩ := h
    exact .map _ _ (fun p hp => by obtain ⟨i, hi, rfl⟩ := mem_getD hp; exact (h8 i (by omega)).isBelow) (fun p hp => by obtain ⟨i, hi, rfl⟩ := mem_getD hp; exact (h9 i (by omega)).isBelow)
  | siter l pos => exact .siter l pos
  | miter mid k seen =>
    obtain ⟨b, mm, h1, h2, h3, h4⟩ := h
    cases h4 with
    | mp _ _ h5 _ => exact .miter _ _ _ h5
  | frz ds => exact .frz ds

theorem Sim.hb {B : Array Obj} {e : Env} {h : List PObj} {w : World} (s : Sim B e h w) : HB h := by
  intro o ho
  obtain ⟨id, hi⟩ := List.mem_iff_getElem?.1 ho
  have := (s.obj id o hi).isBelow
  rw [s.n] at this; exact this

/-! ### the code -/

inductive PExit where
  | normal
  | exit (id : Nat)
  | goto (l : Nat)
  | ret
  | panic (p : PV)

def RX (w : World) (e : Env) : PExit → Exit → Prop
  | .normal, .normal => True
  | .exit i, .exit j => i = j
  | .goto i, .goto j => i = j
  | .ret, .ret => True
  | .panic p, .panic chain => ∃ v, chain = [{ v := v, recovered := false }] ∧ RV w e p v
  | _, _ => False

abbrev PPost := PExit → PA → List PObj → Prop

/-- what is asked at an exit: m: how many objects came in -/
def lift (B : Array Obj) (m : Nat) (Q : PPost) (e : Env) (w : World) : Exit → Act → World → Prop := fun x act' w' =>
  ∃ px e' a' h', Q px a' h' ∧ RX w' e' px x ∧ Sim B e' h' w' ∧ RA w' e' a' act' ∧ Ext m e w e' w'

def PWp (P : Program) (B : Array Obj) (m : Nat) (c : Code) (Q : PPost) (a : PA) (h : List PObj) : Prop :=
  m ≤ h.length → ∀ e w act, Sim B e h w → RA w e a act → c.wp P (lift B m Q e w) act w

def thenP (next : PA → List PObj → Prop) (Q : PPost) : PPost
  | .normal, a, h => next a h
  | .exit i, a, h => Q (.exit i) a h
  | .goto i, a, h => Q (.goto i) a h
  | .ret, a, h => Q .ret a h
  | .panic p, a, h => Q (.panic p) a h

def blockP (id : Nat) (Q : PPost) : PPost
  | .exit i, a, h => if i = id then Q .normal a h else Q (.exit i) a h
  | .normal, a, h => Q .normal a h
  | .goto i, a, h => Q (.goto i) a h
  | .ret, a, h => Q .ret a h
  | .panic p, a, h => Q (.panic p) a h

section rules
variable {P : Program} {B : Array Obj} {m : Nat} {Q : PPost} {a : PA} {h : List PObj}

theorem lift_trans {e e' : Env} {w w' : World} {x : Exit} {act : Act} {w'' : World} (hx : Ext m e w e' w') (k : lift B m Q e' w' x act w'') : lift B m Q e w x act w'' := by
  obtain ⟨px, e2, a2, h2, q, r, s, ra, ext⟩ := k
  exact ⟨px, e2, a2, h2, q, r, s, ra, hx.trans ext (Nat.le_refl _)⟩

theorem lift_mono {Q' : PPost} {e : Env} {w : World} {x : Exit} {act : Act} {w'' : World} (hq : ∀ x a h, Q x a h → Q' x a h) (k : lift B m Q e w x act w'') : lift B m Q' e w x act w'' := by
  obtain ⟨px, e2, a2, h2, q, r⟩ := k
  exact ⟨px, e2, a2, h2, hq _ _ _ q, r⟩

theorem PWp.mono {c : Code} {Q' : PPost} (k : PWp P B m c Q a h) (hq : ∀ x a h, Q x a h → Q' x a h) : PWp P B m c Q' a h :=
  fun hm e w act s ra => wp_mono (k hm e w act s ra) fun _ _ _ l => lift_mono hq l

theorem pwp_skip (k : Q .normal a h) : PWp P B m .skip Q a h :=
  fun hm e w act s ra => wp_skip ⟨.normal, e, a, h, k, trivial, s, ra, Ext.refl (by rw [s.n]; exact hm) _⟩
theorem pwp_ret (k : Q .ret a h) : PWp P B m .ret Q a h :=
  fun hm e w act s ra => wp_ret ⟨.ret, e, a, h, k, trivial, s, ra, Ext.refl (by rw [s.n]; exact hm) _⟩
theorem pwp_exit {id : Nat} (k : Q (.exit id) a h) : PWp P B m (.exit id) Q a h :=
  fun hm e w act s ra => wp_exit ⟨.exit id, e, a, h, k, rfl, s, ra, Ext.refl (by rw [s.n]; exact hm) _⟩
theorem pwp_label {id : Nat} (k : Q .normal a h) : PWp P B m (.label id) Q a h :=
  fun hm e w act s ra => wp_label ⟨.normal, e, a, h, k, trivial, s, ra, Ext.refl (by rw [s.n]; exact hm) _⟩

theorem pwp_seq {x y : Code} (k : PWp P B m x (thenP (fun a h => PWp P B m y Q a h) Q) a h) : PWp P B m (.seq x y) Q a h := by
  intro hm e w act s ra
  refine wp_seq (wp_mono (k hm e w act s ra) fun ex act' w' l => ?_)
  obtain ⟨px, e', a', h', q, rx, s', ra', ext⟩ := l
  cases px <;> cases ex <;> try exact rx.elim
  case normal.normal =>
    have hm' : m ≤ h'.length := by rw [← s'.n]; exact ext.n
    exact wp_mono (q hm' e' w' act' s' ra') fun _ _ _ l => lift_trans ext l
  all_goals exact ⟨_, e', a', h', q, rx, s', ra', ext⟩

theorem pwp_cond {c : Operand} {x y : Code} {t : Bool} (hc : a.eval c = .d (.bool t)) (ht : t = true → PWp P B m x Q a h) (hf : t = false → PWp P B m y Q a h) :
    PWp P B m (.cond c x y) Q a h := by
  intro hm e w act s ra
  have hv := ra.eval c
  rw [hc] at hv
  generalize hact : act.eval c = v at hv
  cases hv with
  | d _ _ hv =>
    cases hv with
    | bool b => exact Go.wp_cond_split hact (fun h => ht h hm e w act s ra) (fun h => hf h hm e w act s ra)

theorem pwp_block {id : Nat} {c : Code} (k : PWp P B m c (blockP id Q) a h) : PWp P B m (.block id c) Q a h := by
  intro hm e w act s ra
  refine wp_block (wp_mono (k hm e w act s ra) fun ex act' w' l => ?_)
  obtain ⟨px, e', a', h', q, rx, s', ra', ext⟩ := l
  cases px <;> cases ex <;> try exact rx.elim
  case exit.exit i j =>
    have hij : i = j := rx
    subst hij
    simp only [Exit.inBlock]
    simp only [blockP] at q
    split
    · rename_i hid; rw [if_pos hid] at q; exact ⟨.normal, e', a', h', q, trivial, s', ra', ext⟩
    · rename_i hid; rw [if_neg hid] at q; exact ⟨.exit i, e', a', h', q, rfl, s', ra', ext⟩
  all_goals exact ⟨_, e', a', h', q, rx, s', ra', ext⟩

/-- a frame of which the listed slots alone are known -/
def look : List (Nat × PV) → Nat → PV
  | [], _ => .junk
  | (j, p) :: r, i => if i = j then p else look r i

def Match (a : PA) : List (Nat × PV) → Prop
  | [] => True
  | (j, p) :: r => a.t j = p ∧ Match a r

def LB (n : Nat) : List (Nat × PV) → Prop
  | [] => True
  | (_, p) :: r => p.Below n ∧ LB n r

theorem look_rv {w : World} {e : Env} {a : PA} {act : Act} {n : Nat} (ra : RA w e a act) : ∀ (L : List (Nat × PV)), Match a L → LB n L → ∀ i, RV w (e.cut n) (look L i) (act.tmps.getD i undef)
  | [], _, _, _ => .junk _
  | (j, p) :: r, hm, hb, i => by
    unfold look
    split
    · rename_i hi; subst hi; have := ra.t i; rw [hm.1] at this; exact this.cut hb.1
    · exact look_rv ra r hm.2 hb.2 i

theorem RDef.cut {w : World} {e : Env} {n : Nat} {p : PDef} {d : Deferred} (h : RDef w e p d) (hb : ∀ q, q ∈ p.args → q.Below n) : RDef w (e.cut n) p d := by
  obtain ⟨caps, h1, h2, h3⟩ := h
  exact ⟨caps, h1, h2, fun i hi => (h3 i hi).cut (hb _ (getD_mem hi))⟩

def DB (n : Nat) (ds : List PDef) : Prop := ∀ d, d ∈ ds → ∀ q, q ∈ d.args → q.Below n

theorem RA.look {w : World} {e : Env} {a : PA} {act : Act} {n : Nat} (ra : RA w e a act) {L : List (Nat × PV)} (hm : Match a L) (hb : LB n L) (hd : DB n a.ds) :
    RA w (e.cut n) ⟨look L, a.N, a.ds⟩ act :=
  ⟨ra.size, look_rv ra L hm hb, ra.len, fun i p d h1 h2 => (ra.ds i p d h1 h2).cut (hd p (List.mem_of_getElem? h1))⟩

theorem Ext.cut {e e' : Env} {w w' : World} (x : Ext m e w e' w') {n : Nat} (hn : m ≤ n) : Ext m e w (e'.cut n) w' :=
  ⟨x.I, x.mem, x.G, hn, x.size, x.os, x.tape, x.output⟩

/-- A LOOP: at each round's head the frame is 'L k', the objects are 'H k', for some k with 'I k'; every round lowers 'μ' -/
theorem pwp_loop {κ : Type} (L : κ → List (Nat × PV)) (H : κ → List PObj) (I : κ → Prop) (μ : κ → Nat) {c : Code}
    (hb : ∀ k, I k → m ≤ (H k).length ∧ HB (H k) ∧ LB (H k).length (L k) ∧ DB (H k).length a.ds)
    (h0 : ∃ k X, I k ∧ Match a (L k) ∧ h = H k ++ X)
    (round : ∀ k, I k → PWp P B m c (thenP (fun a' h' => ∃ k' X, I k' ∧ μ k' < μ k ∧ Match a' (L k') ∧ a'.N = a.N ∧ a'.ds = a.ds ∧ h' = H k' ++ X) Q) ⟨look (L k), a.N, a.ds⟩ (H k)) :
    PWp P B m (.loop c) Q a h := by
  intro hm e w act s ra
  obtain ⟨k0, X, i0, m0, rfl⟩ := h0
  let J : κ → Act → World → Prop := fun k act' w' => I k ∧ ∃ e', Sim B e' (H k) w' ∧ RA w' e' ⟨look (L k), a.N, a.ds⟩ act' ∧ Ext m e w e' w'
  have start : J k0 act w := by
    obtain ⟨b1, b2, b3, b4⟩ := hb k0 i0
    exact ⟨i0, _, s.cut b2, ra.look m0 b3 b4, (Ext.refl (by rw [s.n]; exact hm) _).cut b1⟩
  intro b fk cs
  have key : ∀ n k act' w', μ k = n → J k act' w' →
      ∃ ex act2 w2, lift B m Q e w ex act2 w2 ∧ Arrives P (lone (b.at act' (.code c :: .inLoop c :: fk)) cs w') b fk cs ex act2 w2 := by
    intro n
    induction n using Nat.strongRecOn with
    | _ n ih =>
      intro k act' w' hn hJ
      obtain ⟨ik, e', s', ra', x'⟩ := hJ
      obtain ⟨b1, b2, b3, b4⟩ := hb k ik
      obtain ⟨ex, act1, w1, hq, harr⟩ := round k ik b1 e' w' act' s' ra' b (.inLoop c :: fk) cs
      obtain ⟨px, e2, a2, h2, q, rx, s2, ra2, x2⟩ := hq
      have x02 : Ext m e w e2 w1 := x'.trans x2 (Nat.le_refl _)
      cases px <;> cases ex <;> try exact rx.elim
      case normal.normal =>
        obtain ⟨k', X', ik', hlt, mk', hN, hds, rfl⟩ := q
        obtain ⟨c1, c2, c3, c4⟩ := hb k' ik'
        have hJ' : J k' act1 w1 := by
          refine ⟨ik', _, s2.cut c2, ?_, x02.cut c1⟩
          have := ra2.look (n := (H k').length) mk' c3 (by rw [hds]; exact c4)
          rw [hN, hds] at this; exact this
        obtain ⟨e3, a3, w3, q3, arr3⟩ := ih (μ k') (hn ▸ hlt) k' act1 w1 rfl hJ'
        exact ⟨e3, a3, w3, q3, .of_steps (Steps.trans harr (.one step_inLoop)) arr3⟩
      all_goals
        exact ⟨_, act1, w1, ⟨_, e2, a2, h2, q, rx, s2, ra2, x02⟩, .pass (x := .inLoop c) rfl (fun _ _ => .inl (by simp)) harr⟩
  obtain ⟨ex, act2, w2, q, arr⟩ := key _ k0 act w rfl start
  exact ⟨ex, act2, w2, q, .of_steps (.one step_loop) arr⟩

end rules
end Go.Proofs.YtgpbkphiipjjoaaGreatDoor.Pv
end

/- Operations in a row, calls, a function's body. -/
section
namespace Go.Proofs.YtgpbkphiipjjoaaGreatDoor.Pv
open Go

theorem upon_mono {P : Program} {o : Oper} {a : Act} {next next' : Act → World → Prop} {Q Q' : Exit → Act → World → Prop} (hn : ∀ a w, next a w → next' a w) (hq : ∀ e a w, Q e a w → Q' e a w)
    {r : Result Next} (h : o.upon P a next Q r) : o.upon P a next' Q' r := by
  cases r with
  | ok x w =>
    cases x with
    | value v => exact hn _ _ h
    | skip => exact hn _ _ h
    | defer d => exact hn _ _ h
    | enter f args =>
      refine Calls.mono h fun e w' k => ?_
      cases e with
      | returned v => exact hn _ _ k
      | panicked chain => exact hq _ _ _ k
      | outgrown => obtain ⟨a0, w0, q⟩ := k; exact ⟨a0, w0, hq _ _ _ q⟩
    | row row args => exact Rows.mono h fun v w' k => hn _ _ k
    | _ => exact h.elim
  | halt x w =>
    cases x with
    | panic v => exact hq _ _ _ h
    | _ => exact h.elim

theorem wpList_mono {P : Program} {ops : Array Oper} {Q Q' : Exit → Act → World → Prop} (hq : ∀ e a w, Q e a w → Q' e a w) : ∀ (l : List Oper) (a : Act) (w : World), wpList P ops Q l a w → wpList P ops Q' l a w
  | [], _, _, h => hq _ _ _ h
  | o :: rest, a, w, h => by
    unfold wpList at h ⊢
    split
    · rename_i hw; rw [if_pos hw] at h
      rcases h with h | ⟨h1, a0, w0, q⟩
      · exact .inl (upon_mono (fun a w k => wpList_mono hq rest a w k) hq h)
      · exact .inr ⟨h1, a0, w0, hq _ _ _ q⟩
    · rename_i hw; rw [if_neg hw] at h; exact wpList_mono hq rest _ _ h

def POps (P : Program) (B : Array Obj) (m : Nat) (ops : Array Oper) (Q : PPost) (l : List Oper) (a : PA) (h : List PObj) : Prop :=
  m ≤ h.length → ∀ e w act, Sim B e h w → RA w e a act → wpList P ops (lift B m Q e w) l act w

def POp (P : Program) (B : Array Obj) (m : Nat) (o : Oper) (K : PA → List PObj → Prop) (Q : PPost) (a : PA) (h : List PObj) : Prop :=
  m ≤ h.length → ∀ e w act, Sim B e h w → RA w e a act →
    o.wp P act w (fun act' w' => ∃ e' a' h', K a' h' ∧ Sim B e' h' w' ∧ RA w' e' a' act' ∧ Ext m e w e' w') (lift B m Q e w)

/-- one operation that neither calls nor panics -/
def PStep (P : Program) (B : Array Obj) (o : Oper) (a : PA) (h : List PObj) (v : PV) (h' : List PObj) : Prop :=
  ∀ e w act, Sim B e h w → RA w e a act → ∃ e' w' v', ((execOp act.eval o).run P w = .ok (.value v') w' ∨ ((execOp act.eval o).run P w = .ok .skip w' ∧ v' = undef)) ∧
    Sim B e' h' w' ∧ RV w' e' v v' ∧ Ext e.n e w e' w'

inductive PRes where
  | ret (v : PV)
  | panic (p : PV)

def RR (w : World) (e : Env) : PRes → Ending → Prop
  | .ret p, .returned v => RV w e p v
  | .panic p, .panicked chain => ∃ v, chain = [{ v := v, recovered := false }] ∧ RV w e p v
  | _, _ => False

def PRes.Below (n : Nat) : PRes → Prop
  | .ret v => v.Below n
  | .panic v => v.Below n

def callable (P : Program) (f : FuncId) : Prop := ∃ fn, P.funcs[f]? = some fn ∧ (fn.name == "runtime.NumGoroutine") = false ∧ fn.body.isNone = false

/-- a call: of a function that has a Go text, or of one that the model stands in for -/
def CallW (P : Program) (f : FuncId) (vs : Array Value) (w : World) (Φ : Ending → World → Prop) : Prop :=
  ((callFunc f vs).run P w = .ok (.enter f vs) w ∧ Calls P f vs w Φ) ∨ (∃ v w', (callFunc f vs).run P w = .ok (.value v) w' ∧ Φ (.returned v) w')
theorem CallW.mono {P : Program} {f : FuncId} {vs : Array Value} {w : World} {Φ Ψ : Ending → World → Prop} (k : CallW P f vs w Φ) (h : ∀ en w', Φ en w' → Ψ en w') : CallW P f vs w Ψ := by
  rcases k with ⟨h1, k⟩ | ⟨v, w', h1, k⟩
  · exact .inl ⟨h1, k.mono h⟩
  · exact .inr ⟨v, w', h1, h _ _ k⟩

/-- A CALL over data -/
def PCalls (P : Program) (B : Array Obj) (f : FuncId) (args : List PV) (h : List PObj) (K : PRes → List PObj → Prop) : Prop :=
  ∀ e w vs, Sim B e h w → RVs w e args vs → CallW P f vs w fun en w' => ∃ r e' h', K r h' ∧ RR w' e' r en ∧ Sim B e' h' w' ∧ Ext e.n e w e' w'

section rules
variable {P : Program} {B : Array Obj} {m : Nat} {Q : PPost} {a : PA} {h : List PObj} {ops : Array Oper}

theorem pwp_region {id : Nat} {l : List Oper} (k : POps P B m l.toArray Q l a h) : PWp P B m (.region id l.toArray false) Q a h :=
  fun hm e w act s ra => wp_region_lit (k hm e w act s ra)

theorem pops_nil (k : Q .normal a h) : POps P B m ops Q [] a h :=
  fun hm e w act s ra => ⟨.normal, e, a, h, k, trivial, s, ra, Ext.refl (by rw [s.n]; exact hm) _⟩

theorem pops_run {o : Oper} {rest : List Oper} (hg : o.guard = none) (k : POp P B m o (fun a' h' => POps P B m ops Q rest a' h') Q a h) : POps P B m ops Q (o :: rest) a h := by
  intro hm e w act s ra
  unfold wpList
  rw [if_pos (by simp [Region.wanted, hg])]
  refine .inl (upon_mono (fun act' w' n => ?_) (fun _ _ _ q => q) (k hm e w act s ra))
  obtain ⟨e', a', h', q, s', ra', ext⟩ := n
  exact wpList_mono (fun _ _ _ l => lift_trans ext l) rest _ _ (q (by rw [← s'.n]; exact ext.n) e' w' act' s' ra')

theorem yielded_of {w : World} {e : Env} {act : Act} (ra : RA w e a act) {j d : Nat} {b : Bool} (hd : (ops[j]?).bind (·.dst) = some d) (hb : a.t d = .d (.bool b)) : yielded ops act.tmps j = some b := by
  have := ra.t d
  rw [hb] at this
  generalize hv : act.tmps.getD d undef = v at this
  cases this with
  | d _ _ hr =>
    cases hr with
    | bool b =>
      unfold yielded
      rw [hd]
      simp only [Option.bind_some]
      rw [Array.getD_eq_getD_getElem?] at hv
      cases hq : act.tmps[d]? with
      | none => rw [hq] at hv; simp [undef] at hv
      | some x => rw [hq] at hv; simp at hv; subst hv; rfl

theorem rv_undef (w : World) (e : Env) : RV w e (.d (.tup [])) undef := .d _ _ (.tup [] #[] rfl (fun i hi => by simp at hi))

theorem yielded_tup {w : World} {e : Env} {act : Act} (ra : RA w e a act) {j d : Nat} {l : List D} (hd : (ops[j]?).bind (·.dst) = some d) (hb : a.t d = .d (.tup l)) : yielded ops act.tmps j = none := by
  have := ra.t d
  rw [hb] at this
  generalize hv : act.tmps.getD d undef = v at this
  cases this with
  | d _ _ hr =>
    cases hr with
    | tup _ vs _ _ =>
      unfold yielded
      rw [hd]
      simp only [Option.bind_some]
      rw [Array.getD_eq_getD_getElem?] at hv
      cases hq : act.tmps[d]? with
      | none => rfl
      | some x => rw [hq] at hv; simp at hv; subst hv; rfl

theorem pops_guard {o : Oper} {rest : List Oper} {j d : Nat} {want b : Bool} (hg : o.guard = some (j, want)) (hd : (ops[j]?).bind (·.dst) = some d) (hb : a.t d = .d (.bool b))
    (ho : ∀ d, o.dst = some d → d < a.N)
    (k : b = want → POp P B m o (fun a' h' => POps P B m ops Q rest a' h') Q a h) (k' : b ≠ want → POps P B m ops Q rest (a.put o.dst (.d (.tup []))) h) : POps P B m ops Q (o :: rest) a h := by
  intro hm e w act s ra
  unfold wpList
  have hy := yielded_of ra hd hb
  by_cases hw : b = want
  · rw [if_pos (by simp [Region.wanted, hg, hy, hw])]
    refine .inl (upon_mono (fun act' w' n => ?_) (fun _ _ _ q => q) (k hw hm e w act s ra))
    obtain ⟨e', a', h', q, s', ra', ext⟩ := n
    exact wpList_mono (fun _ _ _ l => lift_trans ext l) rest _ _ (q (by rw [← s'.n]; exact ext.n) e' w' act' s' ra')
  · rw [if_neg (by simp [Region.wanted, hg, hy, hw])]
    exact k' hw hm e w _ s (ra.put _ ho (rv_undef _ _))

/-- an operation behind one that was left out is left out, too -/
theorem pops_skip {o : Oper} {rest : List Oper} {j d : Nat} {want : Bool} {l : List D} (hg : o.guard = some (j, want)) (hd : (ops[j]?).bind (·.dst) = some d) (hb : a.t d = .d (.tup l))
    (ho : ∀ d, o.dst = some d → d < a.N) (k' : POps P B m ops Q rest (a.put o.dst (.d (.tup []))) h) : POps P B m ops Q (o :: rest) a h := by
  intro hm e w act s ra
  unfold wpList
  have hy := yielded_tup (ops := ops) ra hd hb
  rw [if_neg (by simp [Region.wanted, hg, hy])]
  exact k' hm e w _ s (ra.put _ ho (rv_undef _ _))

theorem pop_step {o : Oper} {K : PA → List PObj → Prop} {v : PV} {h' : List PObj} (st : PStep P B o a h v h') (ho : ∀ d, o.dst = some d → d < a.N) (k : K (a.put o.dst v) h') : POp P B m o K Q a h := by
  intro hm e w act s ra
  obtain ⟨e', w', v', hr, s', rv, ext⟩ := st e w act s ra
  have fin : ∃ e' a' h', K a' h' ∧ Sim B e' h' w' ∧ RA w' e' a' (act.put o.dst v') ∧ Ext m e w e' w' :=
    ⟨e', _, h', k, s', (ra.ext ext).put _ ho rv, ext.weaken (by rw [s.n]; exact hm)⟩
  unfold Oper.wp
  rcases hr with hr | ⟨hr, rfl⟩
  · rw [hr]; exact fin
  · rw [hr]; exact fin

/-- lists of operands -/
theorem rvs_map {w : World} {e : Env} {act : Act} (ra : RA w e a act) (l : Array Operand) : RVs w e (l.toList.map a.eval) (l.map act.eval) := by
  refine ⟨by simp, fun i hi => ?_⟩
  simp only [List.length_map, Array.length_toList] at hi
  simp only [List.getD_eq_getElem?_getD, List.getElem?_map, Array.getElem?_toList, Array.getD_eq_getD_getElem?, Array.getElem?_map, Array.getElem?_eq_getElem hi, Option.map_some, Option.getD_some]
  exact ra.eval _

theorem rvs_append {w : World} {e : Env} {ps qs : List PV} {vs us : Array Value} (h1 : RVs w e ps vs) (h2 : RVs w e qs us) : RVs w e (ps ++ qs) (vs ++ us) := by
  refine ⟨by simp [h1.1, h2.1], fun i hi => ?_⟩
  simp only [List.length_append] at hi
  rw [List.getD_eq_getElem?_getD, Array.getD_eq_getD_getElem?, List.getElem?_append, Array.getElem?_append, h1.1]
  by_cases hl : i < ps.length
  · rw [if_pos hl, if_pos hl]
    have := h1.2 i hl
    rwa [List.getD_eq_getElem?_getD, Array.getD_eq_getD_getElem?] at this
  · rw [if_neg hl, if_neg hl]
    have := h2.2 (i - ps.length) (by omega)
    rwa [List.getD_eq_getElem?_getD, Array.getD_eq_getD_getElem?] at this

/-- a function value's own operands -/
def fnOf : PV → Option (FuncId × List PV × List PV)
  | .d (.fn (.func g) first caps) => some (g, first.map .d, caps.map .d)
  | .fn (.func g) first caps => some (g, first, caps)
  | _ => none

theorem fnOf_spec {w : World} {e : Env} {p : PV} {v : Value} {g : FuncId} {first caps : List PV} (hf : fnOf p = some (g, first, caps)) (h : RV w e p v) :
    ∃ fs cs, v = .func (.func g) fs cs ∧ RVs w e first fs ∧ RVs w e caps cs := by
  cases h with
  | d x v h =>
    cases h with
    | fn f first' caps' fs cs h1 h2 h3 h4 =>
      cases f <;> simp [fnOf] at hf
      obtain ⟨rfl, rfl, rfl⟩ := hf
      refine ⟨fs, cs, rfl, ⟨by simpa using h1, fun i hi => ?_⟩, ⟨by simpa using h2, fun i hi => ?_⟩⟩
      · simp only [List.length_map] at hi
        have := h3 i hi
        rw [List.getD_eq_getElem?_getD, List.getElem?_eq_getElem hi] at this
        rw [List.getD_eq_getElem?_getD, List.getElem?_map, List.getElem?_eq_getElem hi]
        exact .d _ _ this
      · simp only [List.length_map] at hi
        have := h4 i hi
        rw [List.getD_eq_getElem?_getD, List.getElem?_eq_getElem hi] at this
        rw [List.getD_eq_getElem?_getD, List.getElem?_map, List.getElem?_eq_getElem hi]
        exact .d _ _ this
    | _ => simp [fnOf] at hf
  | fn f first' caps' fs cs h1 h2 h3 h4 =>
    cases f <;> simp [fnOf] at hf
    obtain ⟨rfl, rfl, rfl⟩ := hf
    exact ⟨fs, cs, rfl, ⟨h1, h3⟩, ⟨h2, h4⟩⟩
  | _ => simp [fnOf] at hf

theorem run_callFunc {f : FuncId} (hc : callable P f) (args : Array Value) (w : World) : (callFunc f args).run P w = .ok (.enter f args) w := by
  obtain ⟨fn, h1, h2, h3⟩ := hc
  have h2' : ¬ fn.name = "runtime.NumGoroutine" := by simpa using h2
  have h3' : ¬ fn.body = none := by intro hh; rw [hh] at h3; simp at h3
  simp [callFunc, program, bind, Sem.bind, Sem.run, h1, h2', h3', pure]

theorem pop_call {o : Oper} {K : PA → List PObj → Prop} {fo : Operand} {args : Array Operand} {at_ : Array TypeId} {g : FuncId} {first caps : List PV}
    (ho : o.op = .call { callee := .value fo, args := args, argTypes := at_ }) (hd : ∀ d, o.dst = some d → d < a.N) (hf : fnOf (a.eval fo) = some (g, first, caps))
    (k : PCalls P B g (first ++ args.toList.map a.eval ++ caps) h fun r h' => match r with | .ret v => K (a.put o.dst v) h' | .panic p => Q (.panic p) a h') : POp P B m o K Q a h := by
  intro hm e w act s ra
  obtain ⟨fs, cs, hv, r1, r2⟩ := fnOf_spec hf (ra.eval fo)
  unfold Oper.wp
  have hex : (execOp act.eval o).run P w = (callFunc g (fs ++ args.map act.eval ++ cs)).run P w := by
    unfold execOp
    rw [ho]
    simp only [resolve, Deferred.ofValue, hv, bind, Sem.bind, pure, invoke]
  have hm' : m ≤ e.n := by rw [s.n]; exact hm
  rw [hex]
  rcases k e w _ s (rvs_append (rvs_append r1 (rvs_map ra args)) r2) with ⟨hrun, hc⟩ | ⟨v, w', hrun, r, e', h', hK, hr, s', ext⟩
  · rw [hrun]
    refine Calls.mono hc fun en w' hk => ?_
    obtain ⟨r, e', h', hK, hr, s', ext⟩ := hk
    cases r <;> cases en <;> try exact hr.elim
    · exact ⟨e', _, h', hK, s', (ra.ext ext).put _ hd hr, ext.weaken hm'⟩
    · exact ⟨_, e', a, h', hK, hr, s', ra.ext ext, ext.weaken hm'⟩
  · rw [hrun]
    cases r <;> try exact hr.elim
    exact ⟨e', _, h', hK, s', (ra.ext ext).put _ hd hr, ext.weaken hm'⟩

/-- a call is put off -/
def PA.dfr (a : PA) (d : PDef) : PA := ⟨a.t, a.N, d :: a.ds⟩
theorem pop_defer {o : Oper} {K : PA → List PObj → Prop} {fo : Operand} {args : Array Operand} {at_ : Array TypeId} {g : FuncId} {first caps : List PV}
    (ho : o.op = .defer { callee := .value fo, args := args, argTypes := at_ }) (hd : ∀ d, o.dst = some d → d < a.N) (hf : fnOf (a.eval fo) = some (g, first, caps))
    (k : K ((a.dfr ⟨g, first ++ args.toList.map a.eval ++ caps⟩).put o.dst (.d (.tup []))) h) : POp P B m o K Q a h := by
  intro hm e w act s ra
  obtain ⟨fs, cs, hv, r1, r2⟩ := fnOf_spec hf (ra.eval fo)
  have hex : (execOp act.eval o).run P w = .ok (.defer { target := .fn (.func g) cs, args := fs ++ args.map act.eval }) w := by
    unfold execOp
    rw [ho]
    simp only [resolve, Deferred.ofValue, hv, bind, Sem.bind, pure, Sem.run]
  unfold Oper.wp
  rw [hex]
  have ra' : RA w e (a.dfr ⟨g, first ++ args.toList.map a.eval ++ caps⟩) { act with defers := { target := .fn (.func g) cs, args := fs ++ args.map act.eval } :: act.defers } := by
    refine ⟨ra.size, ra.t, by simp [PA.dfr, ra.len], fun i p d h1 h2 => ?_⟩
    cases i with
    | zero =>
      simp only [PA.dfr, List.getElem?_cons_zero, Option.some.injEq] at h1 h2
      subst h1; subst h2
      exact ⟨cs, rfl, by
        have := rvs_append (rvs_append r1 (rvs_map ra args)) r2
        exact this⟩
    | succ i => exact ra.ds i p d (by simpa [PA.dfr] using h1) (by simpa using h2)
  exact ⟨e, _, h, k, s, ra'.put _ hd (rv_undef _ _), Ext.refl (by rw [s.n]; exact hm) _⟩

theorem PCalls.mono {f : FuncId} {args : List PV} {K K' : PRes → List PObj → Prop} (k : PCalls P B f args h K) (hk : ∀ r h', K r h' → K' r h') : PCalls P B f args h K' :=
  fun e w vs s r => (k e w vs s r).mono fun _ _ ⟨r, e', h', q, rest⟩ => ⟨r, e', h', hk _ _ q, rest⟩

/-- what the call made for itself is forgotten -/
theorem PCalls.cut {f : FuncId} {args : List PV} {K K' : PRes → List PObj → Prop} (k : PCalls P B f args h K)
    (hk : HB h → ∀ r h', K r h' → ∃ H X, h' = H ++ X ∧ h.length ≤ H.length ∧ HB H ∧ r.Below H.length ∧ K' r H) : PCalls P B f args h K' := by
  refine fun e w vs s r => (k e w vs s r).mono fun en w' ⟨r, e', h', q, hr, s', ext⟩ => ?_
  obtain ⟨H, X, rfl, hl, hH, hb, q'⟩ := hk s.hb r h' q
  refine ⟨r, _, H, q', ?_, s'.cut hH, ext.cut (by rw [s.n]; exact hl)⟩
  cases r <;> cases en <;> try exact hr.elim
  · exact RV.cut hr hb
  · obtain ⟨v, h1, h2⟩ := hr; exact ⟨v, h1, h2.cut hb⟩

/-- the results of a body -/
def pres : List ResultVar → (Nat → PV) → Option PV
  | [], _ => some (.d (.tup []))
  | [.tmp t], f => some (f t)
  | [.tmp t, .tmp u], f => some (.tup [f t, f u])
  | [.tmp t, .tmp u, .tmp v], f => some (.tup [f t, f u, f v])
  | _, _ => none

def bodyP (rl : List ResultVar) (K : PRes → List PObj → Prop) : PPost
  | .normal, a, h => a.ds = [] ∧ ∃ v, pres rl a.t = some v ∧ K (.ret v) h
  | .ret, a, h => a.ds = [] ∧ ∃ v, pres rl a.t = some v ∧ K (.ret v) h
  | .panic p, a, h => a.ds = [] ∧ K (.panic p) h
  | .exit _, _, _ => False
  | .goto _, _, _ => False

theorem rv_pres {w : World} {e : Env} {act : Act} (ra : RA w e a act) {fn : Func} {v : PV} (hv : pres fn.results.toList a.t = some v) :
    ∃ u, (results fn act.tmps).run P w = .ok u w ∧ RV w e v u := by
  have hr : fn.results = fn.results.toList.toArray := by simp
  generalize fn.results.toList = l at *
  unfold pres at hv
  split at hv
  · injection hv with hv; subst hv
    exact ⟨_, results_none hr _ _ _, .d _ _ (.tup _ _ rfl (fun i hi => by simp at hi))⟩
  · injection hv with hv; subst hv
    exact ⟨_, results_tmp hr _ _ _, ra.t _⟩
  · injection hv with hv; subst hv
    refine ⟨_, results_tmp2 hr _ _ _, .tup _ _ rfl (fun i hi => ?_)⟩
    match i, hi with
    | 0, _ => exact ra.t _
    | 1, _ => exact ra.t _
  · injection hv with hv; subst hv
    refine ⟨_, results_tmp3 hr _ _ _, .tup _ _ rfl (fun i hi => ?_)⟩
    match i, hi with
    | 0, _ => exact ra.t _
    | 1, _ => exact ra.t _
    | 2, _ => exact ra.t _
  · cases hv

def PA.init (args : List PV) (N : Nat) : PA := ⟨fun i => args.getD i .junk, N, []⟩

theorem ra_init {w : World} {e : Env} {args : List PV} {vs : Array Value} (r : RVs w e args vs) {N : Nat} (hN : args.length ≤ N) :
    RA w e (PA.init args N) { tmps := vs ++ Array.replicate (N - vs.size) undef, defers := [] } := by
  refine ⟨by simp [PA.init, r.1]; omega, fun i => ?_, rfl, fun i p d h => by simp [PA.init] at h⟩
  simp only [PA.init]
  by_cases hi : i < args.length
  · have := r.2 i hi
    rw [Array.getD_eq_getD_getElem?, Array.getElem?_append, if_pos (by rw [r.1]; exact hi)]
    rw [Array.getD_eq_getD_getElem?] at this
    rw [Array.getElem?_eq_getElem (by rw [r.1]; exact hi)] at this ⊢
    exact this
  · rw [List.getD_eq_getElem?_getD, List.getElem?_eq_none (by omega)]
    exact .junk _

/-- A FUNCTION's CONTRACT OUT OF ITS BODY -/
theorem pcalls_of_wp {f : FuncId} {fn : Func} {c : Code} {args : List PV} {K : PRes → List PObj → Prop} (hf : P.funcs[f]? = some fn) (hb : fn.body = some c)
    (hn : (fn.name == "runtime.NumGoroutine") = false) (hN : args.length ≤ fn.ntmps)
    (k : HB h → PWp P B h.length c (bodyP fn.results.toList K) (PA.init args fn.ntmps) h) : PCalls P B f args h K := by
  refine fun e w vs s r => .inl ⟨run_callFunc ⟨fn, hf, hn, by rw [hb]; rfl⟩ vs w, ?_⟩
  refine calls_of_wp hf hb (wp_mono (k s.hb (Nat.le_refl _) e w _ s (ra_init r hN)) fun ex act w' l => ?_)
  obtain ⟨px, e', a', h', q, rx, s', ra', ext⟩ := l
  have hx : Ext e.n e w e' w' := by rw [s.n]; exact ext
  have hd : a'.ds = [] → act.defers = [] := fun h0 => by
    have := ra'.len; rw [h0] at this; exact List.length_eq_zero_iff.1 (by simpa using this)
  cases px <;> cases ex <;> try (first | exact rx.elim | exact q.elim)
  · obtain ⟨h0, v, hv, hK⟩ := q
    obtain ⟨u, hu, ru⟩ := rv_pres (P := P) ra' hv
    exact ⟨hd h0, u, hu, _, e', h', hK, ru, s', hx⟩
  · obtain ⟨h0, v, hv, hK⟩ := q
    obtain ⟨u, hu, ru⟩ := rv_pres (P := P) ra' hv
    exact ⟨hd h0, u, hu, _, e', h', hK, ru, s', hx⟩
  · obtain ⟨h0, hK⟩ := q
    exact ⟨hd h0, _, e', h', hK, rx, s', hx⟩

end rules
end Go.Proofs.YtgpbkphiipjjoaaGreatDoor.Pv
end

/- Operations over data, first part: types, cells, blocks. -/
section
namespace Go.Proofs.YtgpbkphiipjjoaaGreatDoor.Pv
open Go

/-! ### types -/
inductive TK where
  | int (k : IntKind)
  | bool
  | string
  | ptr (e : TypeId)
  | slice (e : TypeId)
  | array (n : Nat) (e : TypeId)
  | map (k e : TypeId)
  | struct (fs : List (TypeId × Nat))
  | func
  | iface
  | other

def kindOf : TypeDesc → TK
  | .int k => .int k
  | .bool => .bool
  | .string => .string
  | .pointer e => .ptr e
  | .slice e => .slice e
  | .array n e => .array n e
  | .map k e => .map k e
  | .struct fs => .struct (fs.toList.map fun f => (f.type, f.offset))
  | .func _ _ _ => .func
  | .interface _ => .iface
  | _ => .other

def TK.agg : TK → Bool
  | .struct _ => true
  | .array _ _ => true
  | _ => false

structure TD where
  k : TK
  size : Nat
  bytes : Nat
  zero : List D
  places : List (Nat × Nat)

/-- where the parts of a value of this type lie in it -/
def placesOf (P : Program) : TypeDesc → Option (List (Nat × Nat))
  | .struct fields => fields.toList.mapM fun f => (P.info? f.type).map fun i => (f.offset, i.size)
  | .array n e => (P.info? e).map fun i => (List.range n).map fun k => (k * i.size, i.size)
  | _ => some []

def aggV : Value → Bool
  | .agg _ => true
  | _ => false

def tyOf (P : Program) (t : TypeId) : Option TD :=
  match P.info? t, P.underlying t with
  | some i, some d => match i.zero, placesOf P d with
    | some z, some pl => if (z.cells.all scalarV && z.cells.size == i.size) && aggV z == (kindOf d).agg then some ⟨kindOf d, i.size, i.bytes, z.cells.toList.map cD, pl⟩ else none
    | _, _ => none
  | _, _ => none

structure TyIs (P : Program) (t : TypeId) (d : TD) (td : TypeDesc) (i : TypeInfo) (z : Value) : Prop where
  info : P.info? t = some i
  und : P.underlying t = some td
  zero : i.zero = some z
  ag : aggV z = d.k.agg
  k : kindOf td = d.k
  size : i.size = d.size
  bytes : i.bytes = d.bytes
  flat : ∀ j, j < z.cells.size → scalarV (z.cells.getD j default) = true
  len : z.cells.size = d.size
  z : z.cells.toList.map cD = d.zero
  pl : placesOf P td = some d.places

theorem tyOf_spec {P : Program} {t : TypeId} {d : TD} (h : tyOf P t = some d) : ∃ td i z, TyIs P t d td i z := by
  unfold tyOf at h
  split at h
  · rename_i i td hi hd
    split at h
    · rename_i z pl hz hpl
      split at h
      · rename_i hc
        simp only [Bool.and_eq_true, Array.all_eq_true, beq_iff_eq] at hc
        injection h with h; subst h
        refine ⟨td, i, z, hi, hd, hz, hc.2, rfl, rfl, rfl, fun j hj => ?_, hc.1.2, rfl, hpl⟩
        have := hc.1.1 j hj
        rw [Array.getD_eq_getD_getElem?, Array.getElem?_eq_getElem hj]; exact this
      · cases h
    · cases h
  · cases h

section
variable {P : Program} {t : TypeId} {d : TD} {td : TypeDesc} {i : TypeInfo} {z : Value} (T : TyIs P t d td i z) (w : World)
include T
theorem TyIs.run_underlying : (underlying t).run P w = .ok td w := Go.run_underlying T.und w
theorem TyIs.run_typeInfo : (typeInfo t).run P w = .ok i w := by simp [typeInfo, T.info]
theorem TyIs.run_sizeOf : (sizeOf t).run P w = .ok d.size w := by simp [sizeOf, T.run_typeInfo, T.size]
theorem TyIs.run_zeroValue : (zeroValue t).run P w = .ok z w := by simp [zeroValue, T.run_typeInfo, T.zero]
theorem TyIs.run_isAgg : (isAgg t).run P w = .ok d.k.agg w := by
  rw [← T.k]
  simp only [isAgg, Sem.run_bind, T.run_underlying, Result.andThen_ok]
  cases td <;> rfl
theorem TyIs.zlen : d.zero.length = d.size := by rw [← T.z]; simp [T.len]
end

theorem scalarV_one {v : Value} (h : scalarV v = true) : v.oneCell' = true := by cases v <;> simp_all [scalarV, Value.oneCell']

/-! ### aggregates -/
def allD : List PV → Option (List D)
  | [] => some []
  | .d x :: r => (allD r).map (x :: ·)
  | _ :: _ => none

theorem allD_spec : ∀ {l : List PV} {ds : List D}, allD l = some ds → l = ds.map .d
  | [], ds, h => by simp [allD] at h; subst h; rfl
  | .d x :: r, ds, h => by
    simp only [allD, Option.map_eq_some_iff] at h
    obtain ⟨ds', h1, rfl⟩ := h
    rw [allD_spec h1]; rfl
  | .ptr _ _ :: _, _, h | .row _ _ :: _, _, h | .rp _ _ _ _ _ :: _, _, h | .mp _ :: _, _, h | .it _ :: _, _, h | .fn _ _ _ :: _, _, h | .agg _ :: _, _, h | .tup _ :: _, _, h | .ifc _ _ :: _, _, h | .junk :: _, _, h => by simp [allD] at h

def mkAgg (l : List PV) : PV := match allD l with | some ds => .d (.agg ds) | none => .agg l
def mkTup (l : List PV) : PV := match allD l with | some ds => .d (.tup ds) | none => .tup l
def mkFn (f : Fn) (l m : List PV) : PV := match allD l, allD m with | some ds, some es => .d (.fn f ds es) | _, _ => .fn f l m

theorem rv_d {w : World} {e : Env} {x : D} {v : Value} (h : RV w e (.d x) v) : RD w e.I x v := by cases h with | d _ _ h => exact h

theorem getD_map_d {ds : List D} {i : Nat} (hi : i < ds.length) : (ds.map PV.d).getD i .junk = .d (ds.getD i default) := by
  simp [List.getD_eq_getElem?_getD, List.getElem?_eq_getElem hi]

theorem rv_mkAgg {w : World} {e : Env} {l : List PV} {v : Value} (h : RV w e (.agg l) v) : RV w e (mkAgg l) v := by
  unfold mkAgg
  cases ha : allD l with
  | none => exact h
  | some ds =>
    have := allD_spec ha; subst this
    cases h with
    | agg _ vs h1 hs h2 =>
      refine .d _ _ (.agg _ _ (by simpa using h1) (fun i hi => ?_) (fun i hi => ?_))
      · have := hs i (by simpa using hi); rw [getD_map_d hi] at this; exact this
      · have := h2 i (by simpa using hi); rw [getD_map_d hi] at this; exact rv_d this

theorem rv_mkTup {w : World} {e : Env} {l : List PV} {v : Value} (h : RV w e (.tup l) v) : RV w e (mkTup l) v := by
  unfold mkTup
  cases ha : allD l with
  | none => exact h
  | some ds =>
    have := allD_spec ha; subst this
    cases h with
    | tup _ vs h1 h2 =>
      refine .d _ _ (.tup _ _ (by simpa using h1) (fun i hi => ?_))
      have := h2 i (by simpa using hi); rw [getD_map_d hi] at this; exact rv_d this

theorem rv_mkFn {w : World} {e : Env} {f : Fn} {l m : List PV} {v : Value} (h : RV w e (.fn f l m) v) : RV w e (mkFn f l m) v := by
  unfold mkFn
  cases ha : allD l with
  | none => exact h
  | some ds =>
    cases hb : allD m with
    | none => exact h
    | some es =>
      have := allD_spec ha; subst this
      have := allD_spec hb; subst this
      cases h with
      | fn _ _ _ fs cs h1 h2 h3 h4 =>
        refine .d _ _ (.fn _ _ _ _ _ (by simpa using h1) (by simpa using h2) (fun i hi => ?_) (fun i hi => ?_))
        · have := h3 i (by simpa using hi); rw [getD_map_d hi] at this; exact rv_d this
        · have := h4 i (by simpa using hi); rw [getD_map_d hi] at this; exact rv_d this

/-- the cells of a value -/
def flat : PV → Option (List PV)
  | .d (.agg cs) => some (cs.map .d)
  | .agg cs => some cs
  | p => if p.scalar then some [p] else none

theorem flat_spec {w : World} {e : Env} (hG : ∀ id n v, id < e.n → e.G id n = some v → scalarV v = true) {p : PV} {cs : List PV} {v : Value} (hf : flat p = some cs) (h : RV w e p v) :
    CellsAre w e cs v.cells ∧ (∀ u, u ∈ v.cells.toList → scalarV u = true) := by
  have one : ∀ {q : PV} {u : Value}, q.scalar = true → RV w e q u → CellsAre w e [q] #[u] ∧ (∀ x, x ∈ (#[u] : Array Value).toList → scalarV x = true) := fun {q u} hs hr => by
    refine ⟨⟨rfl, fun i hi => ?_, fun i hi => ?_⟩, fun x hx => ?_⟩
    · have : i = 0 := by simpa using hi
      subst this; exact hs
    · have : i = 0 := by simpa using hi
      subst this; exact hr
    · simp at hx; subst hx; exact hr.scalarV hG hs
  have aggc : ∀ {l : List PV} {vs : Array Value}, RV w e (.agg l) (.agg vs) → CellsAre w e l vs ∧ (∀ u, u ∈ vs.toList → scalarV u = true) := fun {l vs} hr => by
    cases hr with
    | agg _ _ h1 hs h2 =>
      refine ⟨⟨h1, hs, h2⟩, fun u hu => ?_⟩
      obtain ⟨i, hi, rfl⟩ := List.mem_iff_getElem.1 hu
      have hi' : i < vs.size := by simpa using hi
      have h3 := h2 i (by omega)
      rw [Array.getD_eq_getD_getElem?, Array.getElem?_eq_getElem hi'] at h3
      exact RV.scalarV hG h3 (hs i (by omega))
  unfold flat at hf
  split at hf
  · rename_i ds
    injection hf with hf; subst hf
    cases rv_d h with
    | agg _ vs h1 hs h2 =>
      refine aggc (vs := vs) (.agg _ _ (by simpa using h1) (fun i hi => ?_) (fun i hi => ?_))
      · rw [getD_map_d (by simpa using hi)]; exact hs i (by simpa using hi)
      · rw [getD_map_d (by simpa using hi)]; exact .d _ _ (h2 i (by simpa using hi))
  · injection hf with hf; subst hf
    cases h with
    | agg _ vs h1 hs h2 => exact aggc (.agg _ _ h1 hs h2)
  · split at hf
    · rename_i hs
      injection hf with hf; subst hf
      have hv := h.scalarV hG hs
      have : v.cells = #[v] := by cases v <;> first | rfl | simp [scalarV] at hv
      rw [this]; exact one hs h
    · cases hf

/-! ### a new object -/
def Env.new (e : Env) (ver : Nat) (v : Value) : Env := { I := e.I, G := fun id n => if id = e.n then (if n = ver then some v else none) else e.G id n, n := e.n + 1 }

theorem RObj.keep {w w' : World} {e e' : Env} {id : Nat} {o : PObj} (h : RObj w e id o) (hG : ∀ n, e'.G id n = e.G id n) (hI : ∀ b, lies e id o b → ¬ e.I b → ¬ e'.I b)
    (hm : ∀ b, e.I b → e'.I b ∧ w'.heap[b]? = w.heap[b]?) (hb : ∀ b, lies e id o b → w'.heap[b]? = w.heap[b]?) (hr : ∀ p v, RV w e p v → RV w' e' p v) : RObj w' e' id o := by
  cases o with
  | cells cs =>
    obtain ⟨b, arr, E, h1, h2, h3, h4, h5, h6⟩ := h
    have l : lies e id (.cells cs) b := ⟨rfl, _, h1, rfl⟩
    exact ⟨b, arr, E, by rw [hG]; exact h1, hI b l h2, by rw [hb b l]; exact h3, h4, h5, fun i hi => hr _ _ (h6 i hi)⟩
  | row E sz es =>
    obtain ⟨h0, v, h1, h2, h3⟩ := h
    refine ⟨h0, v, by rw [hG]; exact h1, fun m hm => by rw [hG]; exact h2 m hm, h3.imp (fun x => x) ?_⟩
    rintro ⟨b, cap, arr, rfl, k2, k3, k4, k5, k6, k7, k8, k9⟩
    have l : lies e id (.row E sz es) b := ⟨rfl, _, h1, rfl⟩
    exact ⟨b, cap, arr, rfl, hI b l k2, by rw [hb b l]; exact k3, k4, k5, k6, k7, k8, fun i j hi hj => hr _ _ (k9 i j hi hj)⟩
  | map ks vs =>
    obtain ⟨b, es, clock, h1, h2, h3, h4, h5, h6, h7, h8, h9⟩ := h
    have l : lies e id (.map ks vs) b := ⟨rfl, _, h1, rfl⟩
    exact ⟨b, es, clock, by rw [hG]; exact h1, hI b l h2, by rw [hb b l]; exact h3, h4, h5, h6, h7, fun i hi => hr _ _ (h8 i hi), fun i hi => hr _ _ (h9 i hi)⟩
  | siter l pos =>
    obtain ⟨b, s, h1, h2, h3, h4⟩ := h
    have ll : lies e id (.siter l pos) b := ⟨rfl, _, h1, rfl⟩
    exact ⟨b, s, by rw [hG]; exact h1, hI b ll h2, by rw [hb b ll]; exact h3, h4⟩
  | miter mid k seen =>
    obtain ⟨b, mm, h1, h2, h3, h4⟩ := h
    have l : lies e id (.miter mid k seen) b := ⟨rfl, _, h1, rfl⟩
    exact ⟨b, mm, by rw [hG]; exact h1, hI b l h2, by rw [hb b l]; exact h3, hr _ _ h4⟩
  | frz ds =>
    obtain ⟨v, h1, h2⟩ := h
    exact ⟨v, by rw [hG]; exact h1, h2.mono (fun b hb => (hm b hb).1) (fun b hb => (hm b hb).2)⟩

theorem RObj.lt {w : World} {e : Env} {id : Nat} {o : PObj} (h : RObj w e id o) {b : Nat} (l : lies e id o b) : b < w.heap.size ∧ ¬ e.I b := by
  obtain ⟨hst, v, hv, hb⟩ := l
  have fin : ∀ {b : Nat} {x : Obj}, w.heap[b]? = some x → b < w.heap.size := fun {b x} hx => (Array.getElem?_eq_some_iff.1 hx).1
  cases o with
  | cells cs =>
    obtain ⟨b', arr, E, h1, h2, h3, _⟩ := h
    simp only [PObj.ver] at hv; rw [h1] at hv; injection hv with hv; subst hv
    simp [blockOf] at hb; subst hb; exact ⟨fin h3, h2⟩
  | row E sz es =>
    obtain ⟨h0, v', h1, h2, h3⟩ := h
    simp only [PObj.ver] at hv; rw [h1] at hv; injection hv with hv; subst hv
    rcases h3 with ⟨rfl, _⟩ | ⟨b', cap, arr, rfl, k2, k3, _⟩
    · simp [blockOf] at hb
    · simp [blockOf] at hb; subst hb; exact ⟨fin k3, k2⟩
  | map ks vs =>
    obtain ⟨b', es, clock, h1, h2, h3, _⟩ := h
    simp only [PObj.ver] at hv; rw [h1] at hv; injection hv with hv; subst hv
    simp [blockOf] at hb; subst hb; exact ⟨fin h3, h2⟩
  | siter l pos =>
    obtain ⟨b', s, h1, h2, h3, _⟩ := h
    simp only [PObj.ver] at hv; rw [h1] at hv; injection hv with hv; subst hv
    simp [blockOf] at hb; subst hb; exact ⟨fin h3, h2⟩
  | miter mid k seen =>
    obtain ⟨b', mm, h1, h2, h3, _⟩ := h
    simp only [PObj.ver] at hv; rw [h1] at hv; injection hv with hv; subst hv
    simp [blockOf] at hb; subst hb; exact ⟨fin h3, h2⟩
  | frz ds => cases hst

theorem ext_new {B : Array Obj} {e : Env} {h : List PObj} {w : World} (s : Sim B e h w) (ver : Nat) (v : Value) (o : Obj) : Ext e.n e w (e.new ver v) (w.alloc o) :=
  ⟨fun _ h => h, fun b hb => RowKit.Below.heap_alloc _ _ _ (s.im b hb), fun id n u hi hu => by simp only [Env.new]; rw [if_neg (by omega)]; exact hu, by simp [Env.new], by show _ ≤ (w.heap.push o).size; simp, rfl, rfl, rfl⟩

theorem sim_new {B : Array Obj} {e : Env} {h : List PObj} {w : World} (s : Sim B e h w) {o : PObj} {v : Value} {ob : Obj} (hv : scalarV v = true)
    (hr : RObj (w.alloc ob) (e.new o.ver v) e.n o) (hb : ∀ b, blockOf v = some b → b = w.heap.size) : Sim B (e.new o.ver v) (h ++ [o]) (w.alloc ob) := by
  have hx := ext_new s o.ver v ob
  have lt : ∀ (id : Nat) (o' : PObj), h[id]? = some o' → id < e.n := fun id o' ho => by rw [s.n]; exact (List.getElem?_eq_some_iff.1 ho).1
  have old : ∀ (id : Nat), id ≠ e.n → ∀ n, (e.new o.ver v).G id n = e.G id n := fun id hi n => by simp only [Env.new]; rw [if_neg hi]
  have get : ∀ (id : Nat) (o' : PObj), (h ++ [o])[id]? = some o' → (h[id]? = some o' ∧ id < e.n) ∨ (id = e.n ∧ o' = o) := fun id o' ho => by
    rw [List.getElem?_append] at ho
    split at ho
    · rename_i hi; exact .inl ⟨ho, by rw [s.n]; exact hi⟩
    · rename_i hi
      have : id - h.length = 0 := by
        cases hk : id - h.length with
        | zero => rfl
        | succ k => rw [hk] at ho; simp at ho
      rw [this] at ho; simp at ho
      exact .inr ⟨by rw [s.n]; omega, ho.symm⟩
  refine ⟨by simp [Env.new, s.n], fun b hb' => ⟨(s.base b hb').1, ?_⟩, fun b hb' => ?_, ?_, ?_, ?_⟩
  · rw [hx.mem b (s.base b hb').1]; exact (s.base b hb').2
  · have := s.im b hb'; show b < (w.heap.push ob).size; simp; omega
  · intro id n u hi hu
    simp only [Env.new] at hu
    split at hu
    · split at hu
      · injection hu with hu; subst hu; exact hv
      · cases hu
    · exact s.sc id n u (by simp [Env.new] at hi; omega) hu
  · intro id o' ho
    rcases get id o' ho with ⟨ho', hlt⟩ | ⟨rfl, rfl⟩
    · have ro := s.obj id o' ho'
      exact ro.keep (old id (by omega)) (fun b _ hn => hn) (fun b hb' => ⟨hb', hx.mem b hb'⟩) (fun b l => RowKit.Below.heap_alloc _ _ _ (ro.lt l).1) (fun p u r => r.ext hx)
    · exact hr
  · intro id id' o1 o2 b h1 h2 l1 l2
    have low : ∀ (id : Nat) (o' : PObj), h[id]? = some o' → id < e.n → lies (e.new o.ver v) id o' b → lies e id o' b := fun id o' ho hlt ⟨hst, u, hu, hub⟩ => ⟨hst, u, by rw [old id (by omega)] at hu; exact hu, hub⟩
    have top : lies (e.new o.ver v) e.n o b → b = w.heap.size := fun ⟨_, u, hu, hub⟩ => by
      simp only [Env.new, if_true] at hu; injection hu with hu; subst hu; exact hb b hub
    rcases get id o1 h1 with ⟨k1, t1⟩ | ⟨rfl, rfl⟩ <;> rcases get id' o2 h2 with ⟨k2, t2⟩ | ⟨rfl, rfl⟩
    · exact s.ne id id' o1 o2 b k1 k2 (low _ _ k1 t1 l1) (low _ _ k2 t2 l2)
    · have := ((s.obj id o1 k1).lt (low _ _ k1 t1 l1)).1; have := top l2; omega
    · have := ((s.obj id' o2 k2).lt (low _ _ k2 t2 l2)).1; have := top l1; omega
    · rfl

/-- an object's new content, where it lies -/
theorem sim_set {B : Array Obj} {e : Env} {h : List PObj} {w w' : World} (s : Sim B e h w) {id : Nat} {o o' : PObj} (ho : h[id]? = some o) (hver : o'.ver = o.ver) (hst : o'.still = true ∨ o.still = false)
    (hne : ∀ b, ¬ lies e id o b → w'.heap[b]? = w.heap[b]?) (hsz : w'.heap.size = w.heap.size) (hos : w'.os = w.os) (htp : w'.tape = w.tape) (hout : w'.output = w.output)
    (hr : (∀ p v, RV w e p v → RV w' e p v) → RObj w' e id o') : Sim B e (h.set id o') w' ∧ Ext e.n e w e w' := by
  have hI : ∀ b, e.I b → w'.heap[b]? = w.heap[b]? := fun b hb => hne b (fun l => ((s.obj id o ho).lt l).2 hb)
  have hx : Ext e.n e w e w' := ⟨fun _ h => h, hI, fun _ _ _ _ h => h, Nat.le_refl _, by omega, hos, htp, hout⟩
  have hlt : id < h.length := (List.getElem?_eq_some_iff.1 ho).1
  have get : ∀ (k : Nat) (x : PObj), (h.set id o')[k]? = some x → (k = id ∧ x = o') ∨ (k ≠ id ∧ h[k]? = some x) := fun k x hk => by
    rw [List.getElem?_set] at hk
    split at hk
    · rename_i hik
      subst hik
      injection hk with hk
      exact .inl ⟨rfl, hk.symm⟩
    · rename_i hik; exact .inr ⟨fun e => hik e.symm, hk⟩
  refine ⟨⟨by rw [s.n]; simp, fun b hb => ⟨(s.base b hb).1, by rw [hI b (s.base b hb).1]; exact (s.base b hb).2⟩, fun b hb => by rw [hsz]; exact s.im b hb, s.sc, ?_, ?_⟩, hx⟩
  · intro k x hk
    rcases get k x hk with ⟨rfl, rfl⟩ | ⟨hne', hk'⟩
    · exact hr (fun p v r => r.ext hx)
    · refine (s.obj k x hk').keep (fun _ => rfl) (fun _ _ h => h) (fun b hb => ⟨hb, hI b hb⟩) (fun b l => hne b (fun l' => hne' (s.ne k id x o b hk' ho l l'))) (fun p v r => r.ext hx)
  · intro k k' x x' b h1 h2 l1 l2
    have up : ∀ (x : PObj), x = o' → lies e id x b → lies e id o b := fun x hx ⟨h1, v, hv, hb⟩ => ⟨hst.elim (fun h2 => by rw [hx, h2] at h1; cases h1) (fun h2 => h2), v, by rw [hx, hver] at hv; exact hv, hb⟩
    rcases get k x h1 with ⟨rfl, e1⟩ | ⟨n1, k1⟩ <;> rcases get k' x' h2 with ⟨rfl, e2⟩ | ⟨n2, k2⟩
    · rfl
    · exact s.ne _ _ _ _ b ho k2 (up _ e1 l1) l2
    · exact s.ne _ _ _ _ b k1 ho l1 (up _ e2 l2)
    · exact s.ne _ _ _ _ b k1 k2 l1 l2

end Go.Proofs.YtgpbkphiipjjoaaGreatDoor.Pv
end

/- Operations over data, second part: moves, cells, fields, elements. -/
section
namespace Go.Proofs.YtgpbkphiipjjoaaGreatDoor.Pv
open Go
section
variable {P : Program} {B : Array Obj} {o : Oper} {a : PA} {h : List PObj}

theorem step_value {w : World} {s : Sem Value} {v : Value} {w' : World} (h : s.run P w = .ok v w') : (do pure (Next.value (← s)) : Sem Next).run P w = .ok (.value v) w' := by
  simp [h]
theorem step_unit {w : World} {s : Sem Unit} {w' : World} (h : s.run P w = .ok () w') : (do s; pure Next.skip : Sem Next).run P w = .ok .skip w' := by
  simp [h]

theorem st_move {x : Operand} (ho : o.op = .move x ∨ o.op = .assign x) : PStep P B o a h (a.eval x) h := by
  intro e w act s ra
  refine ⟨e, w, act.eval x, .inl ?_, s, ra.eval x, Ext.refl (Nat.le_refl _) _⟩
  rcases ho with ho | ho <;> (unfold execOp; rw [ho]; rfl)

theorem st_pick {c x y : Operand} {b : Bool} (ho : o.op = .pick c x y) (hc : a.eval c = .d (.bool b)) : PStep P B o a h (if b then a.eval x else a.eval y) h := by
  intro e w act s ra
  have hv := ra.eval c
  rw [hc] at hv
  generalize hact : act.eval c = v at hv
  cases rv_d hv with
  | bool b =>
    refine ⟨e, w, if b then act.eval x else act.eval y, .inl ?_, s, ?_, Ext.refl (Nat.le_refl _) _⟩
    · unfold execOp; rw [ho]; simp only [hact, asBool]; rfl
    · cases b
      · exact ra.eval y
      · exact ra.eval x

theorem new_cells {e : Env} {w : World} (s : Sim B e h w) (E : TypeId) {cs : List PV} {arr : Array Value} (hc : CellsAre w e cs arr) :
    Sim B (e.new 0 (.pointer (some ⟨w.heap.size, 0, none⟩))) (h ++ [.cells cs]) (w.alloc (.cells arr E)) ∧
    RV (w.alloc (.cells arr E)) (e.new 0 (.pointer (some ⟨w.heap.size, 0, none⟩))) (.ptr h.length 0) (.pointer (some ⟨w.heap.size, 0, none⟩)) ∧
    Ext e.n e w (e.new 0 (.pointer (some ⟨w.heap.size, 0, none⟩))) (w.alloc (.cells arr E)) := by
  have hx := ext_new s 0 (.pointer (some ⟨w.heap.size, 0, none⟩)) (.cells arr E)
  refine ⟨sim_new (o := .cells cs) s rfl ?_ (fun b hb => by simp [blockOf] at hb; exact hb.symm), ?_, hx⟩
  · refine ⟨w.heap.size, arr, E, by simp [Env.new, PObj.ver], fun hI => ?_, ?_, hc.1, hc.2.1, fun i hi => (hc.2.2 i hi).ext hx⟩
    · have := s.im _ hI; omega
    · show (w.heap.push _)[w.heap.size]? = _; simp
  · exact .ptr _ _ _ (by simp [Env.new, s.n]) (by simp [Env.new, s.n])

theorem st_box {t : TypeId} {x : Operand} {cs : List PV} (ho : o.op = .box t x) (hf : flat (a.eval x) = some cs) : PStep P B o a h (.ptr h.length 0) (h ++ [.cells cs]) := by
  intro e w act s ra
  obtain ⟨hc, _⟩ := flat_spec s.sc hf (ra.eval x)
  obtain ⟨s', rv, hx⟩ := new_cells s t hc
  refine ⟨_, _, _, .inl ?_, s', rv, hx⟩
  unfold execOp; rw [ho]
  exact step_value (by simp [Instr.box, newVar, newRow])

theorem st_alloc {t : TypeId} {d : TD} (ho : o.op = .alloc t) (hd : tyOf P t = some d) : PStep P B o a h (.ptr h.length 0) (h ++ [.cells (d.zero.map .d)]) := by
  intro e w act s ra
  obtain ⟨td, i, z, T⟩ := tyOf_spec hd
  have hc : CellsAre w e (d.zero.map .d) z.cells := by
    rw [← T.z]
    refine ⟨by simp, fun j hj => ?_, fun j hj => ?_⟩
    · have hj' : j < z.cells.size := by simpa using hj
      rw [getD_map_d (by simpa using hj)]
      have := T.flat j hj'
      simp only [List.getD_eq_getElem?_getD, List.getElem?_map, Array.getElem?_toList, Array.getElem?_eq_getElem hj', Option.map_some, Option.getD_some]
      rw [Array.getD_eq_getD_getElem?, Array.getElem?_eq_getElem hj'] at this
      exact cD_scalar _ this
    · have hj' : j < z.cells.size := by simpa using hj
      rw [getD_map_d (by simpa using hj)]
      simp only [List.getD_eq_getElem?_getD, List.getElem?_map, Array.getElem?_toList, Array.getElem?_eq_getElem hj', Option.map_some, Option.getD_some, Array.getD_eq_getD_getElem?]
      exact .d _ _ (RD.const _ _ _)
  obtain ⟨s', rv, hx⟩ := new_cells s t hc
  refine ⟨_, _, _, .inl ?_, s', rv, hx⟩
  unfold execOp; rw [ho]
  exact step_value (by simp [Instr.alloc, T.run_zeroValue, newVar, newRow])

/-! ### sealed rows -/
def rsv (h : List PObj) : PV → PV
  | .row id n => match h[id]? with
    | some (.frz ds) => if n = ds.length then .d (.sl ds false) else .row id n
    | _ => .row id n
  | p => p
def rsvA (h : List PObj) : PV → PV
  | .agg cs => mkAgg (cs.map (rsv h))
  | .tup cs => mkTup (cs.map (rsv h))
  | .fn f l m => mkFn f (l.map (rsv h)) (m.map (rsv h))
  | p => rsv h p

theorem rv_rsv {e : Env} {w : World} (s : Sim B e h w) {p : PV} {v : Value} (r : RV w e p v) : RV w e (rsv h p) v := by
  unfold rsv
  split
  · rename_i id n
    split
    · rename_i ds hh
      split
      · rename_i hn
        subst hn
        obtain ⟨u, g1, g2⟩ := s.obj id _ hh
        cases r with
        | row _ _ _ hid hG => rw [hG] at g1; injection g1 with g1; subst g1; exact .d _ _ g2
      · exact r
    · exact r
  · exact r

theorem rsv_scalar {p : PV} (hs : p.scalar = true) : (rsv h p).scalar = true := by
  unfold rsv
  split
  · split
    · split <;> rfl
    · rfl
  · exact hs

theorem getD_map_rsv {l : List PV} {i : Nat} (hi : i < l.length) : (l.map (rsv h)).getD i .junk = rsv h (l.getD i .junk) := by
  simp [List.getD_eq_getElem?_getD, List.getElem?_eq_getElem hi]

theorem rv_rsvA {e : Env} {w : World} (s : Sim B e h w) {p : PV} {v : Value} (r : RV w e p v) : RV w e (rsvA h p) v := by
  cases r with
  | agg cs vs h1 hs h2 =>
    refine rv_mkAgg (.agg _ _ (by simpa using h1) (fun i hi => ?_) (fun i hi => ?_))
    · rw [getD_map_rsv (by simpa using hi)]; exact rsv_scalar (hs i (by simpa using hi))
    · rw [getD_map_rsv (by simpa using hi)]; exact rv_rsv s (h2 i (by simpa using hi))
  | tup cs vs h1 h2 =>
    refine rv_mkTup (.tup _ _ (by simpa using h1) (fun i hi => ?_))
    rw [getD_map_rsv (by simpa using hi)]; exact rv_rsv s (h2 i (by simpa using hi))
  | fn f l m fs cs h1 h2 h3 h4 =>
    refine rv_mkFn (.fn _ _ _ _ _ (by simpa using h1) (by simpa using h2) (fun i hi => ?_) (fun i hi => ?_))
    · rw [getD_map_rsv (by simpa using hi)]; exact rv_rsv s (h3 i (by simpa using hi))
    · rw [getD_map_rsv (by simpa using hi)]; exact rv_rsv s (h4 i (by simpa using hi))
  | d x v r => exact .d _ _ r
  | ptr id off b h1 h2 => exact .ptr _ _ _ h1 h2
  | row id n v h1 h2 => exact rv_rsv s (.row _ _ _ h1 h2)
  | rp id n i sz off b len cap h1 h2 => exact .rp _ _ _ _ _ _ _ _ h1 h2
  | mp id b h1 h2 => exact .mp _ _ h1 h2
  | it id b h1 h2 => exact .it _ _ h1 h2
  | ifc t x v r => exact .ifc _ _ _ r
  | junk v => exact .junk _

/-! ### loads -/
def partOf (agg : Bool) (size : Nat) (cs : List PV) (off : Nat) : Option PV :=
  if agg then (if off + size ≤ cs.length then some (mkAgg ((cs.drop off).take size)) else none) else cs[off]?

/-- an element as a whole -/
def whole (agg : Bool) (size : Nat) : PV → Option PV
  | .d (.agg cs) => if agg then (if cs.length = size then some (.d (.agg cs)) else none) else none
  | .agg cs => if agg then (if cs.length = size then some (.agg cs) else none) else none
  | p => if agg then none else if p.scalar then some p else none

def pload (d : TD) (p : PV) (h : List PObj) : Option (Prop × PV) :=
  match p with
  | .d (.ip x) => (whole d.k.agg d.size (.d x)).map fun v => (True, v)
  | .ptr id off => match h[id]? with
    | some (.cells cs) => (partOf d.k.agg d.size cs off).map fun v => (True, rsvA h v)
    | _ => none
  | .rp id n i sz off => match h[id]? with
    | some (.row _ sz' es) => (whole d.k.agg d.size (es.getD i .junk)).map fun v => (n = es.length ∧ sz = sz' ∧ off = 0 ∧ d.size = sz ∧ i < n, v)
    | _ => none
  | _ => none

theorem run_loadVar {t : TypeId} {d : TD} {td : TypeDesc} {i : TypeInfo} {z : Value} (T : TyIs P t d td i z) {w : World} {b off : Nat} {u : Nat → Value}
    (hu : ∀ j, j < (if d.k.agg then d.size else 1) → w.cell? ⟨b, off + j, none⟩ = some (u j)) :
    (loadVar t ⟨b, off, none⟩).run P w = .ok (if d.k.agg then .agg ((List.range d.size).map u).toArray else u 0) w := by
  simp only [loadVar, Sem.run_bind, T.run_isAgg, Result.andThen_ok]
  cases hk : d.k.agg with
  | true =>
    rw [hk] at hu
    simp only [if_true, Sem.run_bind, T.run_sizeOf, Result.andThen_ok]
    rw [run_loadCells w ⟨b, off, none⟩ d.size u (fun j hj => by
      rw [Addr.add_lit]; exact hu j (by simpa using hj))]
    rfl
  | false =>
    rw [hk] at hu
    have := hu 0 (by simp)
    simp only [Nat.add_zero] at this
    simp [this]

theorem getD_range_map {u : Nat → Value} {n j : Nat} (hj : j < n) : ((List.range n).map u).toArray.getD j default = u j := by
  simp [Array.getD_eq_getD_getElem?, hj]

/-- an aggregate out of its cells -/
theorem rv_aggOf {w : World} {e : Env} {cs : List PV} {u : Nat → Value} (hs : ∀ j, j < cs.length → (cs.getD j .junk).scalar = true) (hr : ∀ j, j < cs.length → RV w e (cs.getD j .junk) (u j)) :
    RV w e (.agg cs) (.agg ((List.range cs.length).map u).toArray) :=
  .agg _ _ (by simp) hs (fun j hj => by rw [getD_range_map hj]; exact hr j hj)

theorem rv_whole {w : World} {e : Env} {ag : Bool} {size : Nat} {p v : PV} (hw : whole ag size p = some v) {u : Nat → Value}
    (hs : ∀ j, j < p.ncells → (p.cell j).scalar = true) (hr : ∀ j, j < p.ncells → RV w e (p.cell j) (u j)) :
    RV w e v (if ag then .agg ((List.range size).map u).toArray else u 0) ∧ p.ncells = (if ag then size else 1) := by
  unfold whole at hw
  split at hw
  · rename_i cs
    cases ag with
    | false => simp at hw
    | true =>
      simp only [if_true] at hw
      split at hw
      · rename_i hc
        injection hw with hw; subst hw
        refine ⟨?_, by simp [PV.ncells, D.ncells, hc]⟩
        simp only [if_true]
        subst hc
        refine .d _ _ (.agg _ _ (by simp) (fun j hj => ?_) (fun j hj => ?_))
        · exact hs j (by simpa [PV.ncells, D.ncells] using hj)
        · rw [getD_range_map hj]; exact rv_d (hr j (by simpa [PV.ncells, D.ncells] using hj))
      · cases hw
  · rename_i cs
    cases ag with
    | false => simp at hw
    | true =>
      simp only [if_true] at hw
      split at hw
      · rename_i hc
        injection hw with hw; subst hw
        refine ⟨?_, by simp [PV.ncells, hc]⟩
        simp only [if_true]
        subst hc
        exact rv_aggOf (fun j hj => hs j hj) (fun j hj => hr j hj)
      · cases hw
  · rename_i q hq1 hq2
    cases ag with
    | true => simp at hw
    | false =>
      simp only [Bool.false_eq_true, if_false] at hw ⊢
      split at hw
      · rename_i hsc
        injection hw with hw; subst hw
        have hn : p.ncells = 1 := by
          cases p with
          | d x => cases x <;> first | rfl | exact (hq1 _ rfl).elim
          | agg cs => exact (hq2 _ rfl).elim
          | _ => rfl
        have hc : p.cell 0 = p := by
          cases p with
          | d x => cases x <;> first | rfl | exact (hq1 _ rfl).elim
          | agg cs => exact (hq2 _ rfl).elim
          | _ => rfl
        refine ⟨?_, hn⟩
        have := hr 0 (by omega)
        rwa [hc] at this
      · cases hw

theorem cell_of {w : World} {b : Nat} {arr : Array Value} {E : TypeId} {fr : Nat × Nat} (hb : w.heap[b]? = some (.cells arr E fr)) {k : Nat} (hk : k < arr.size) : w.cell? ⟨b, k, none⟩ = some (arr.getD k default) := by
  simp [World.cell?, hb, Array.getD_eq_getD_getElem?, Array.getElem?_eq_getElem hk]

theorem run_load_raw {t : TypeId} {d : TD} {c : Prop} {v px : PV} {ax : Value} {e : Env} {w : World} (hd : tyOf P t = some d) (hl : pload d px h = some (c, v)) (hc : c) (s : Sim B e h w) (hv : RV w e px ax) :
    ∃ u, (Instr.loadAt t ax).run P w = .ok u w ∧ RV w e v u := by
  obtain ⟨td, i, z, T⟩ := tyOf_spec hd
  unfold pload at hl
  split at hl
  · rename_i y
    simp only [Option.map_eq_some_iff, Prod.mk.injEq] at hl
    obtain ⟨v', hw, _, rfl⟩ := hl
    cases rv_d hv with
    | ip _ b off u hb hs hu hr =>
      obtain ⟨h1, h2⟩ := rv_whole (w := w) (e := e) (u := u) hw (fun j hj => hs j hj) (fun j hj => .d _ _ (hr j hj))
      refine ⟨_, ?_, h1⟩
      simp only [Instr.loadAt, Instr.sureAddr, Sem.run_bind, Sem.run_pure, Result.andThen_ok]
      exact run_loadVar T (fun j hj => hu j (by have h3 : y.ncells = _ := h2; omega))
  · rename_i id off
    split at hl
    · rename_i cs hh
      simp only [Option.map_eq_some_iff, Prod.mk.injEq] at hl
      obtain ⟨v', hw, _, rfl⟩ := hl
      suffices hq : ∃ u, (Instr.loadAt t ax).run P w = .ok u w ∧ RV w e v' u by
        obtain ⟨u, q1, q2⟩ := hq; exact ⟨u, q1, rv_rsvA s q2⟩
      cases hv with
      | ptr _ _ b hid hG =>
        obtain ⟨b', arr, E, g1, g2, g3, g4, g5, g6⟩ := s.obj id _ hh
        rw [hG] at g1; injection g1 with g1; injection g1 with g1; injection g1 with g1; injection g1 with g1; subst g1
        simp only [Instr.loadAt, Instr.sureAddr, Sem.run_bind, Sem.run_pure, Result.andThen_ok]
        unfold partOf at hw
        cases hk : d.k.agg with
        | true =>
          rw [hk] at hw
          simp only [if_true] at hw
          split at hw
          · rename_i hle
            injection hw with hw; subst hw
            refine ⟨_, run_loadVar T (u := fun j => arr.getD (off + j) default) (fun j hj => cell_of g3 (by rw [hk] at hj; simp at hj; omega)), ?_⟩
            rw [hk]; simp only [if_true]
            refine rv_mkAgg ?_
            have hlen : ((cs.drop off).take d.size).length = d.size := by simp; omega
            have hget : ∀ j, j < d.size → ((cs.drop off).take d.size).getD j .junk = cs.getD (off + j) .junk := fun j hj => by
              simp [List.getD_eq_getElem?_getD, List.getElem?_drop, hj]
            have := rv_aggOf (w := w) (e := e) (cs := (cs.drop off).take d.size) (u := fun j => arr.getD (off + j) default)
              (fun j hj => by rw [hlen] at hj; rw [hget j hj]; exact g5 _ (by omega)) (fun j hj => by rw [hlen] at hj; rw [hget j hj]; exact g6 _ (by omega))
            rwa [hlen] at this
          · cases hw
        | false =>
          rw [hk] at hw
          simp only [Bool.false_eq_true, if_false] at hw
          obtain ⟨hlt, hget⟩ := List.getElem?_eq_some_iff.1 hw
          refine ⟨_, run_loadVar T (u := fun j => arr.getD (off + j) default) (fun j hj => cell_of g3 (by rw [hk] at hj; simp at hj; omega)), ?_⟩
          rw [hk]; simp only [Bool.false_eq_true, if_false, Nat.add_zero]
          have := g6 off hlt
          rwa [List.getD_eq_getElem?_getD, hw] at this
    · cases hl
  · rename_i id n i' sz off
    split at hl
    · rename_i E sz' es hh
      simp only [Option.map_eq_some_iff, Prod.mk.injEq] at hl
      obtain ⟨v', hw, hcc, rfl⟩ := hl
      rw [← hcc] at hc
      obtain ⟨rfl, rfl, rfl, hds, hin⟩ := hc
      cases hv with
      | rp _ _ _ _ _ b len cap hid hG =>
        obtain ⟨g0, v0, g1, g2, g3⟩ := s.obj id _ hh
        rw [hG] at g1; injection g1 with g1; subst g1
        rcases g3 with ⟨g3, _⟩ | ⟨b', cap', arr, k1, k2, k3, k4, k5, k6, k7, k8, k9⟩
        · cases g3
        · injection k1 with k1 _ _; injection k1 with k1; injection k1 with k1; subst k1
          simp only [Instr.loadAt, Instr.sureAddr, Sem.run_bind, Sem.run_pure, Result.andThen_ok]
          have hnc := k7 i' hin
          obtain ⟨h1, h2⟩ := rv_whole (w := w) (e := e) (u := fun j => arr.getD (i' * sz + j) default) hw (fun j hj => k8 i' j hin (by omega)) (fun j hj => k9 i' j hin (by omega))
          refine ⟨_, ?_, h1⟩
          have hle : (i' + 1) * sz ≤ es.length * sz := Nat.mul_le_mul_right _ hin
          rw [Nat.add_mul, Nat.one_mul] at hle
          refine run_loadVar T (fun j hj => ?_)
          rw [Nat.add_zero]
          exact cell_of k3 (by omega)
    · cases hl
  · cases hl

theorem st_load {t : TypeId} {x : Operand} {d : TD} {c : Prop} {v : PV} (ho : o.op = .load t x) (hd : tyOf P t = some d) (hl : pload d (a.eval x) h = some (c, v)) (hc : c) : PStep P B o a h v h := by
  intro e w act s ra
  obtain ⟨u, h1, h2⟩ := run_load_raw hd hl hc s (ra.eval x)
  refine ⟨e, w, u, .inl ?_, s, h2, Ext.refl (Nat.le_refl _) _⟩
  unfold execOp; rw [ho]; exact step_value h1

theorem flat_cells {p : PV} {xs : List PV} (hf : flat p = some xs) : p.ncells = xs.length ∧ ∀ j, j < xs.length → p.cell j = xs.getD j .junk := by
  unfold flat at hf
  split at hf
  · injection hf with hf; subst hf
    refine ⟨by simp [PV.ncells, D.ncells], fun j hj => ?_⟩
    rw [getD_map_d (by simpa using hj)]; rfl
  · injection hf with hf; subst hf
    exact ⟨rfl, fun j hj => rfl⟩
  · rename_i hq1 hq2
    split at hf
    · injection hf with hf; subst hf
      refine ⟨?_, fun j hj => ?_⟩
      · cases p with
        | d x => cases x <;> first | rfl | exact (hq1 _ rfl).elim
        | agg cs => exact (hq2 _ rfl).elim
        | _ => rfl
      · have : j = 0 := by simpa using hj
        subst this
        cases p with
        | d x => cases x <;> first | rfl | exact (hq1 _ rfl).elim
        | agg cs => exact (hq2 _ rfl).elim
        | _ => rfl
    · cases hf

/-! ### stores -/
def pstore (d : TD) (p x : PV) (h : List PObj) : Option (Prop × List PObj) :=
  match p, flat x with
  | .ptr id off, some xs => match h[id]? with
    | some (.cells cs) => some (xs.length = d.size ∧ off + xs.length ≤ cs.length, h.set id (.cells (cs.take off ++ xs ++ cs.drop (off + xs.length))))
    | _ => none
  | .rp id n i sz off, some xs => match h[id]? with
    | some (.row E sz' es) => some (n = es.length ∧ i < n ∧ sz = sz' ∧ off = 0 ∧ xs.length = sz ∧ d.size = sz ∧ x.ncells = sz, h.set id (.row E sz' (es.set i x)))
    | _ => none
  | _, _ => none

theorem run_storeVar {t : TypeId} {d : TD} {td : TypeDesc} {i : TypeInfo} {z : Value} (T : TyIs P t d td i z) {w : World} {b off : Nat} {arr : Array Value} {E : TypeId} {v : Value}
    (hb : w.heap[b]? = some (.cells arr E (0, 0))) (hsz : v.cells.size = d.size) (hle : off + v.cells.size ≤ arr.size) (hs : ∀ u, u ∈ v.cells.toList → scalarV u = true) :
    (storeVar t ⟨b, off, none⟩ v).run P w = .ok () (w.setRow b (arr.toList.take off ++ v.cells.toList ++ arr.toList.drop (off + v.cells.size)).toArray) := by
  simp only [storeVar, Sem.run_bind, T.run_sizeOf, Result.andThen_ok, hsz, ne_eq, not_true_eq_false, if_false]
  have := run_storeCells_at (P := P) b off E v.cells.toList 0 arr w hb (by simp; omega) (fun x hx => scalarV_one (hs x hx))
  simp only [Nat.add_zero, Array.length_toList] at this
  rw [hsz] at this
  simpa using this

theorem toArray_getD (l : List Value) (j : Nat) (x : Value) : l.toArray.getD j x = l.getD j x := by simp [Array.getD_eq_getD_getElem?, List.getD_eq_getElem?_getD]
theorem arr_getD (l : Array Value) (j : Nat) (x : Value) : l.getD j x = l.toList.getD j x := by simp [Array.getD_eq_getD_getElem?, List.getD_eq_getElem?_getD]

theorem getD_set {l : List PV} {i j : Nat} {p : PV} (hj : j < (l.set i p).length) : (l.set i p).getD j .junk = if j = i then p else l.getD j .junk := by
  simp only [List.length_set] at hj
  simp only [List.getD_eq_getElem?_getD, List.getElem?_set]
  by_cases h : i = j
  · subst h; simp [hj]
  · rw [if_neg h, if_neg (fun e => h e.symm)]

/-- a list with a stretch in its middle replaced -/
theorem getD_mid {α : Type} {l m : List α} {off j : Nat} {x : α} (hle : off + m.length ≤ l.length) :
    (l.take off ++ m ++ l.drop (off + m.length)).getD j x = if off ≤ j ∧ j < off + m.length then m.getD (j - off) x else l.getD j x := by
  have ht : (l.take off).length = off := by simp; omega
  simp only [List.getD_eq_getElem?_getD]
  by_cases h1 : j < off
  · rw [if_neg (by omega), List.append_assoc, List.getElem?_append_left (by omega)]
    simp [h1]
  · by_cases h2 : j < off + m.length
    · rw [if_pos ⟨by omega, h2⟩, List.append_assoc, List.getElem?_append_right (by omega), List.getElem?_append_left (by omega), ht]
    · rw [if_neg (by omega), List.getElem?_append_right (by simp; omega), List.getElem?_drop]
      congr 2
      simp; omega

theorem st_store {t : TypeId} {x y : Operand} {d : TD} {c : Prop} {h' : List PObj} (ho : o.op = .store t x y) (hd : tyOf P t = some d) (hl : pstore d (a.eval x) (a.eval y) h = some (c, h')) (hc : c) :
    PStep P B o a h .junk h' := by
  intro e w act s ra
  obtain ⟨td, ti, z, T⟩ := tyOf_spec hd
  suffices hh : ∃ w', (Instr.storeAt t (act.eval x) (act.eval y)).run P w = .ok () w' ∧ Sim B e h' w' ∧ Ext e.n e w e w' by
    obtain ⟨w', h1, h2, h3⟩ := hh
    refine ⟨e, w', undef, .inr ⟨?_, rfl⟩, h2, .junk _, h3⟩
    unfold execOp; rw [ho]; exact step_unit h1
  have hx := ra.eval x
  have hy := ra.eval y
  generalize act.eval x = ax at hx ⊢
  generalize act.eval y = ay at hy ⊢
  generalize a.eval x = px at hx hl
  generalize a.eval y = py at hy hl
  unfold pstore at hl
  split at hl
  · rename_i id off xs hf
    obtain ⟨⟨f1, f2, f3⟩, f4⟩ := flat_spec s.sc hf hy
    split at hl
    · rename_i cs hh
      simp only [Option.some.injEq, Prod.mk.injEq] at hl
      obtain ⟨hcc, rfl⟩ := hl
      rw [← hcc] at hc
      obtain ⟨c1, c2⟩ := hc
      cases hx with
      | ptr _ _ b hid hG =>
        obtain ⟨b', arr, E, g1, g2, g3, g4, g5, g6⟩ := s.obj id _ hh
        rw [hG] at g1; injection g1 with g1; injection g1 with g1; injection g1 with g1; injection g1 with g1; subst g1
        have hlies : lies e id (.cells cs) b := ⟨rfl, _, hG, rfl⟩
        refine ⟨w.setRow b (arr.toList.take off ++ ay.cells.toList ++ arr.toList.drop (off + ay.cells.size)).toArray, ?_,
          sim_set s hh (o' := .cells _) rfl (.inr rfl) (fun k hk => setRow_other _ _ _ _ (fun e => hk (e ▸ hlies))) (setRow_size _ _ _) rfl rfl rfl (fun up => ?_)⟩
        · simp only [Instr.storeAt, Instr.sureAddr, Sem.run_bind, Sem.run_pure, Result.andThen_ok]
          exact run_storeVar T g3 (by omega) (by omega) f4
        · refine ⟨b, _, E, hG, g2, setRow_heap _ _ _ _ _ _ g3, by simp; omega, fun j hj => ?_, fun j hj => ?_⟩
          · rw [getD_mid c2]
            split
            · exact f2 _ (by omega)
            · refine g5 j (by simp at hj; omega)
          · rw [getD_mid c2, toArray_getD, ← f1, ← Array.length_toList, getD_mid (by simp; omega)]
            simp only [Array.length_toList]
            split
            · have := f3 (j - off) (by omega)
              rw [arr_getD] at this
              exact up _ _ this
            · have := g6 j (by simp at hj; omega)
              rw [arr_getD] at this
              exact up _ _ this
    · cases hl
  · rename_i id n i sz off xs hf
    obtain ⟨⟨f1, f2, f3⟩, f4⟩ := flat_spec s.sc hf hy
    split at hl
    · rename_i E sz' es hh
      simp only [Option.some.injEq, Prod.mk.injEq] at hl
      obtain ⟨hcc, rfl⟩ := hl
      rw [← hcc] at hc
      obtain ⟨rfl, c2, rfl, rfl, c5, c6, c7⟩ := hc
      cases hx with
      | rp _ _ _ _ _ b len cap hid hG =>
        obtain ⟨g0, v0, g1, g2, g3⟩ := s.obj id _ hh
        have g1' := g1
        rw [hG] at g1; injection g1 with g1; subst g1
        rcases g3 with ⟨g3, _⟩ | ⟨b', cap', arr, k1, k2, k3, k4, k5, k6, k7, k8, k9⟩
        · cases g3
        · injection k1 with k1 klen kcap; injection k1 with k1; injection k1 with k1; subst k1; subst kcap
          have hlies : lies e id (.row E sz es) b := ⟨rfl, _, hG, rfl⟩
          have hle : (i + 1) * sz ≤ es.length * sz := Nat.mul_le_mul_right _ c2
          rw [Nat.add_mul, Nat.one_mul] at hle
          have hle2 : i * sz + ay.cells.size ≤ arr.size := by omega
          refine ⟨w.setRow b (arr.toList.take (i * sz) ++ ay.cells.toList ++ arr.toList.drop (i * sz + ay.cells.size)).toArray, ?_,
            sim_set s hh (o' := .row E sz (es.set i _)) (by simp [PObj.ver]) (.inr rfl) (fun k hk => setRow_other _ _ _ _ (fun e => hk (e ▸ hlies))) (setRow_size _ _ _) rfl rfl rfl (fun up => ?_)⟩
          · simp only [Instr.storeAt, Instr.sureAddr, Sem.run_bind, Sem.run_pure, Result.andThen_ok]
            exact run_storeVar T k3 (by omega) (by omega) f4
          · refine ⟨g0, _, by simpa using g1', fun m hm => g2 m (by simpa using hm), .inr ⟨b, cap, _, by simp [klen], k2, setRow_heap _ _ _ _ _ _ k3, by simp; omega, by simpa using k5, ?_, ?_, ?_, ?_⟩⟩
            · simp; omega
            · intro j hj
              rw [getD_set hj]; split
              · exact c7
              · exact k7 j (by simpa using hj)
            · intro j m hj hm
              rw [getD_set hj]; split
              · rw [(flat_cells hf).2 m (by omega)]; exact f2 m (by omega)
              · exact k8 j m (by simpa using hj) hm
            · intro j m hj hm
              have hj' : j < es.length := by simpa using hj
              have hidx : j * sz + m < arr.size := by
                have : (j + 1) * sz ≤ es.length * sz := Nat.mul_le_mul_right _ hj'
                rw [Nat.add_mul, Nat.one_mul] at this; omega
              rw [getD_set hj, toArray_getD, ← Array.length_toList, getD_mid (by simp; omega)]
              simp only [Array.length_toList]
              by_cases hji : j = i
              · subst hji
                rw [if_pos rfl, if_pos ⟨by omega, by omega⟩, (flat_cells hf).2 m (by omega)]
                have := f3 m (by omega)
                rw [arr_getD] at this
                rw [show j * sz + m - j * sz = m from by omega]; exact up _ _ this
              · have hout : ¬ (i * sz ≤ j * sz + m ∧ j * sz + m < i * sz + ay.cells.size) := by
                  rintro ⟨q1, q2⟩
                  rcases Nat.lt_or_gt_of_ne hji with hlt | hgt
                  · have : (j + 1) * sz ≤ i * sz := Nat.mul_le_mul_right _ hlt
                    rw [Nat.add_mul, Nat.one_mul] at this; omega
                  · have : (i + 1) * sz ≤ j * sz := Nat.mul_le_mul_right _ hgt
                    rw [Nat.add_mul, Nat.one_mul] at this; omega
                rw [if_neg hji, if_neg hout]
                have := k9 j m hj' hm
                rw [arr_getD] at this
                exact up _ _ this
    · cases hl
  · cases hl

end
end Go.Proofs.YtgpbkphiipjjoaaGreatDoor.Pv
end

/- Operations over data, third part: fields, elements, numbers, texts, tuples, function values. -/
section
namespace Go.Proofs.YtgpbkphiipjjoaaGreatDoor.Pv
open Go
section
variable {P : Program} {B : Array Obj} {o : Oper} {a : PA} {h : List PObj}

/-- the frame with sealed rows told by what they hold -/
def PA.rs (a : PA) (h : List PObj) : PA := ⟨fun i => rsvA h (a.t i), a.N, a.ds⟩
theorem RA.rs {e : Env} {w : World} {act : Act} (s : Sim B e h w) (ra : RA w e a act) : RA w e (a.rs h) act :=
  ⟨ra.size, fun i => rv_rsvA s (ra.t i), ra.len, ra.ds⟩

/-- A ROW IS SEALED: it is written to no more -/
theorem sim_seal {e : Env} {w : World} (s : Sim B e h w) {id sz : Nat} {E : TypeId} {ds : List D} (hh : h[id]? = some (.row E sz (ds.map .d))) :
    ∃ e', Sim B e' (h.set id (.frz ds)) w ∧ Ext e.n e w e' w := by
  obtain ⟨g0, v, g1, g2, g3⟩ := s.obj id _ hh
  rw [List.length_map] at g1 g2
  have hlt : id < h.length := (List.getElem?_eq_some_iff.1 hh).1
  have hlies : ∀ b, blockOf v = some b → lies e id (.row E sz (ds.map .d)) b := fun b hb => ⟨rfl, v, by simpa [PObj.ver] using g1, hb⟩
  let e' : Env := { e with I := fun b => e.I b ∨ blockOf v = some b }
  have hx : Ext e.n e w e' w := ⟨fun b hb => .inl hb, fun _ _ => rfl, fun _ _ _ _ h => h, Nat.le_refl _, Nat.le_refl _, rfl, rfl, rfl⟩
  have get : ∀ (k : Nat) (x : PObj), (h.set id (.frz ds))[k]? = some x → (k = id ∧ x = .frz ds) ∨ (k ≠ id ∧ h[k]? = some x) := fun k x hk => by
    rw [List.getElem?_set] at hk
    split at hk
    · rename_i hik
      subst hik
      injection hk with hk
      exact .inl ⟨rfl, hk.symm⟩
    · rename_i hik; exact .inr ⟨fun e => hik e.symm, hk⟩
  have hI' : ∀ b, blockOf v = some b → b < w.heap.size := fun b hb => ((s.obj id _ hh).lt (hlies b hb)).1
  refine ⟨e', ⟨by show e.n = _; rw [s.n]; simp, fun b hb => ⟨.inl (s.base b hb).1, (s.base b hb).2⟩, fun b hb => hb.elim (s.im b) (hI' b), s.sc, ?_, ?_⟩, hx⟩
  · intro k x hk
    rcases get k x hk with ⟨rfl, rfl⟩ | ⟨hne, hk'⟩
    · refine ⟨v, g1, ?_⟩
      rcases g3 with ⟨rfl, hnil⟩ | ⟨b, cap, arr, rfl, k2, k3, k4, k5, k6, k7, k8, k9⟩
      · have : ds = [] := by simpa using hnil
        subst this; exact .slnil _ _ _ (fun _ => rfl)
      · have hds : (ds.map PV.d).length = ds.length := by simp
        rw [hds] at k5 k6 k7 k8 k9 ⊢
        refine .sl ds false b 0 cap sz (fun i j => arr.getD (i * sz + j) default) (.inr rfl) k5 (fun h => by cases h) (fun i hi => ?_) (fun i j hi hj => ?_) (fun i j hi hj => ?_) (fun i j hi hj => ?_)
        · have := k7 i hi; rw [getD_map_d hi] at this; exact this
        · have := k8 i j hi hj; rw [getD_map_d hi] at this; exact this
        · have hle : (i + 1) * sz ≤ ds.length * sz := Nat.mul_le_mul_right _ hi
          rw [Nat.add_mul, Nat.one_mul] at hle
          rw [Nat.zero_add]; exact cell_of k3 (by omega)
        · have := k9 i j hi hj; rw [getD_map_d hi] at this
          exact (rv_d this).mono (fun b hb => .inl hb) (fun _ _ => rfl)
    · refine (s.obj k x hk').keep (fun _ => rfl) (fun b l hn hn' => hn'.elim hn (fun hb => hne (s.ne k id x _ b hk' hh l (hlies b hb)))) (fun b hb => ⟨.inl hb, rfl⟩) (fun _ _ => rfl) (fun p u r => r.ext hx)
  · intro k k' x x' b h1 h2 l1 l2
    rcases get k x h1 with ⟨rfl, rfl⟩ | ⟨n1, k1⟩
    · exact absurd l1.1 (by simp [PObj.still])
    · rcases get k' x' h2 with ⟨rfl, rfl⟩ | ⟨n2, k2⟩
      · exact absurd l2.1 (by simp [PObj.still])
      · exact s.ne _ _ _ _ b k1 k2 l1 l2

theorem pwp_seal {m : Nat} {c : Code} {Q : PPost} (id : Nat) {E sz : Nat} (ds : List D) (hh : h[id]? = some (.row E sz (ds.map .d))) (k : PWp P B m c Q (a.rs (h.set id (.frz ds))) (h.set id (.frz ds))) : PWp P B m c Q a h := by
  intro hm e w act s ra
  obtain ⟨e', s', hx⟩ := sim_seal s hh
  have hm' : m ≤ e.n := by rw [s.n]; exact hm
  exact wp_mono (k (by simpa using hm) e' w act s' ((ra.ext hx).rs s')) fun _ _ _ l => lift_trans (hx.weaken hm') l

/-! ### addresses -/
def partD (agg : Bool) (size : Nat) (cs : List D) (off : Nat) : Option D :=
  if agg then (if off + size ≤ cs.length then some (.agg ((cs.drop off).take size)) else none) else cs[off]?
def dcells : D → List D
  | .agg cs => cs
  | x => [x]

theorem partD_spec {ag : Bool} {size off : Nat} {cs : List D} {y : D} (hp : partD ag size cs off = some y) (hs : ∀ j, j < cs.length → (cs.getD j default).scalar = true) :
    off + y.ncells ≤ cs.length ∧ ∀ j, j < y.ncells → y.cell j = cs.getD (off + j) default := by
  unfold partD at hp
  cases ag with
  | true =>
    simp only [if_true] at hp
    split at hp
    · injection hp with hp; subst hp
      refine ⟨by simp [D.ncells]; omega, fun j hj => ?_⟩
      have hj' : j < size := by simp [D.ncells] at hj; omega
      simp [D.cell, List.getD_eq_getElem?_getD, List.getElem?_drop, hj']
    · cases hp
  | false =>
    simp only [Bool.false_eq_true, if_false] at hp
    obtain ⟨hlt, hg⟩ := List.getElem?_eq_some_iff.1 hp
    have hy : cs.getD off default = y := by rw [List.getD_eq_getElem?_getD, hp]; rfl
    have hsc := hs off hlt
    rw [hy] at hsc
    have h1 : y.ncells = 1 := by cases y <;> first | rfl | simp [D.scalar] at hsc
    have h2 : ∀ j, y.cell j = y := fun j => by cases y <;> first | rfl | simp [D.scalar] at hsc
    refine ⟨by omega, fun j hj => ?_⟩
    have : j = 0 := by omega
    subst this
    rw [h2, Nat.add_zero, hy]

def pfaddr (P : Program) (d : TD) (f : Nat) (p : PV) : Option PV :=
  match d.k with
  | .struct fs => match fs[f]? with
    | some (ft, off) => match tyOf P ft with
      | some df => if df.size = 0 then none else match p with
        | .ptr id o => some (.ptr id (o + off))
        | .d (.ip (.agg cs)) => (partD df.k.agg df.size cs off).map fun y => .d (.ip y)
        | _ => none
      | none => none
    | none => none
  | _ => none

theorem struct_of {td : TypeDesc} {fs : List (TypeId × Nat)} (h : kindOf td = .struct fs) : ∃ fields : Array Field, td = .struct fields ∧ fs = fields.toList.map fun f => (f.type, f.offset) := by
  cases td <;> simp [kindOf] at h
  exact ⟨_, rfl, h.symm⟩

theorem st_fieldAddr {t : TypeId} {x : Operand} {f : Nat} {d : TD} {v : PV} (ho : o.op = .fieldAddr t x f) (hd : tyOf P t = some d) (hp : pfaddr P d f (a.eval x) = some v) : PStep P B o a h v h := by
  intro e w act s ra
  obtain ⟨td, i, z, T⟩ := tyOf_spec hd
  have hv := ra.eval x
  suffices hh : ∃ u, (Instr.fieldAt t (act.eval x) f).run P w = .ok u w ∧ RV w e v u by
    obtain ⟨u, h1, h2⟩ := hh
    refine ⟨e, w, u, .inl ?_, s, h2, Ext.refl (Nat.le_refl _) _⟩
    unfold execOp; rw [ho]; exact step_value h1
  generalize act.eval x = ax at hv ⊢
  generalize a.eval x = px at hv hp
  unfold pfaddr at hp
  split at hp
  · rename_i fs hk
    obtain ⟨fields, rfl, hfs⟩ := struct_of (T.k.trans hk)
    split at hp
    · rename_i ft off hf
      rw [hfs, List.getElem?_map] at hf
      simp only [Option.map_eq_some_iff, Prod.mk.injEq] at hf
      obtain ⟨fl, hfl, rfl, rfl⟩ := hf
      rw [Array.getElem?_toList] at hfl
      split at hp
      · rename_i df hdf
        obtain ⟨td', i', z', T'⟩ := tyOf_spec hdf
        split at hp
        · cases hp
        · rename_i hsz
          have run : ∀ (b o : Nat), (Instr.fieldAt t (.pointer (some ⟨b, o, none⟩)) f).run P w = .ok (.pointer (some ⟨b, o + fl.offset, none⟩)) w := fun b o => by
            simp [Instr.fieldAt, T.run_underlying, hfl, Instr.sureAddr, fieldPlace, T'.run_sizeOf, hsz, Addr.add_lit]
          split at hp
          · rename_i id oo
            injection hp with hp; subst hp
            cases hv with
            | ptr _ _ b h1 h2 => exact ⟨_, run b oo, .ptr _ _ _ h1 h2⟩
          · rename_i cs
            simp only [Option.map_eq_some_iff] at hp
            obtain ⟨y, hy, rfl⟩ := hp
            cases rv_d hv with
            | ip _ b off u hb hs hu hr =>
              have hs' : ∀ j, j < cs.length → (cs.getD j default).scalar = true := fun j hj => hs j hj
              obtain ⟨p1, p2⟩ := partD_spec hy hs'
              refine ⟨_, run b off, .d _ _ (.ip y b _ (fun j => u (fl.offset + j)) hb (fun j hj => ?_) (fun j hj => ?_) (fun j hj => ?_))⟩
              · rw [p2 j hj]; exact hs' _ (by omega)
              · rw [Nat.add_assoc]; exact hu _ (by show _ < cs.length; omega)
              · rw [p2 j hj]; exact hr _ (by show _ < cs.length; omega)
          · cases hp
      · cases hp
    · cases hp
  · cases hp

/-- an element's address -/
def piaddr (P : Program) (d : TD) (p ix : PV) : Option (Prop × PV) :=
  match ix with
  | .d (.int _ i) => match d.k with
    | .slice et => match tyOf P et with
      | some de => match p with
        | .d (.sl es _) => some (0 ≤ i ∧ i < es.length ∧ (es.getD i.toNat default).ncells = de.size, .d (.ip (es.getD i.toNat default)))
        | .row id n => some (0 ≤ i ∧ i < n, .rp id n i.toNat de.size 0)
        | _ => none
      | none => none
    | .array n et => match tyOf P et with
      | some de => match p with
        | .ptr id o => some (0 ≤ i ∧ i < n, .ptr id (o + i.toNat * de.size))
        | .d (.ip (.agg cs)) => (partD de.k.agg de.size cs (i.toNat * de.size)).map fun y => (0 ≤ i ∧ i < n, .d (.ip y))
        | _ => none
      | none => none
    | _ => none
  | _ => none

theorem st_indexAddr {t : TypeId} {x y : Operand} {d : TD} {c : Prop} {v : PV} (ho : o.op = .indexAddr t x y) (hd : tyOf P t = some d) (hp : piaddr P d (a.eval x) (a.eval y) = some (c, v)) (hc : c)
    (hrow : ∀ id n, a.eval x = .row id n → ∃ E sz es, h[id]? = some (.row E sz es) ∧ es.length = n) : PStep P B o a h v h := by
  intro e w act s ra
  obtain ⟨td, i, z, T⟩ := tyOf_spec hd
  have hv := ra.eval x
  have hi := ra.eval y
  suffices hh : ∃ u, (Instr.indexAt t (act.eval x) (act.eval y)).run P w = .ok u w ∧ RV w e v u by
    obtain ⟨u, h1, h2⟩ := hh
    refine ⟨e, w, u, .inl ?_, s, h2, Ext.refl (Nat.le_refl _) _⟩
    unfold execOp; rw [ho]; exact step_value h1
  generalize act.eval x = ax at hv ⊢
  generalize act.eval y = ay at hi ⊢
  generalize a.eval x = px at hv hp hrow
  generalize a.eval y = py at hi hp
  unfold piaddr at hp
  split at hp
  · rename_i kd ix
    cases rv_d hi with
    | int _ _ =>
      split at hp
      · rename_i et hk
        have htd : td = .slice et := by have := T.k.trans hk; cases td <;> simp [kindOf] at this; rw [this]
        subst htd
        split at hp
        · rename_i de hde
          obtain ⟨td', i', z', T'⟩ := tyOf_spec hde
          have run : ∀ (b o len cap : Nat), 0 ≤ ix → ix < len → (Instr.indexAt t (.slice (some ⟨b, o, none⟩) len cap) (.int kd ix)).run P w = .ok (.pointer (some ⟨b, o + ix.toNat * de.size, none⟩)) w := fun b o len cap h1 h2 => by
            simp [Instr.indexAt, asIntOf, T.run_underlying, h1, h2, T'.run_sizeOf, Addr.add_lit]
          split at hp
          · rename_i es cl
            simp only [Option.some.injEq, Prod.mk.injEq] at hp
            obtain ⟨hcc, rfl⟩ := hp
            rw [← hcc] at hc
            obtain ⟨c1, c2, c3⟩ := hc
            have hlt : ix.toNat < es.length := by omega
            cases rv_d hv with
            | slnil p cap clip hcl => simp at hlt
            | sl _ _ b off cap sz u hb k1 k2 k3 k4 k5 k6 =>
              have hsz : sz = de.size := (k3 _ hlt).symm.trans c3
              subst hsz
              refine ⟨_, run b off _ cap c1 c2, .d _ _ (.ip _ b _ (u ix.toNat) hb (fun j hj => ?_) (fun j hj => ?_) (fun j hj => ?_))⟩
              · exact k4 _ j hlt (by omega)
              · exact k5 _ j hlt (by omega)
              · exact k6 _ j hlt (by omega)
          · rename_i id n
            simp only [Option.some.injEq, Prod.mk.injEq] at hp
            obtain ⟨hcc, rfl⟩ := hp
            rw [← hcc] at hc
            obtain ⟨c1, c2⟩ := hc
            obtain ⟨E, sz, es, hh, hn⟩ := hrow id n rfl
            cases hv with
            | row _ _ _ hid hG =>
              obtain ⟨g0, v0, g1, g2, g3⟩ := s.obj id _ hh
              rw [hn, hG] at g1; injection g1 with g1; subst g1
              rcases g3 with ⟨_, rfl⟩ | ⟨b', cap', arr, rfl, k2, k3, k4, k5, k6, k7, k8, k9⟩
              · simp at hn; omega
              · refine ⟨_, run b' 0 _ cap' c1 (by omega), ?_⟩
                have := RV.rp (w := w) id n ix.toNat de.size 0 b' es.length cap' hid hG
                simpa using this
          · cases hp
        · cases hp
      · rename_i n et hk
        have htd : td = .array n et := by
          have := T.k.trans hk; cases td <;> simp [kindOf] at this; rw [this.1, this.2]
        subst htd
        split at hp
        · rename_i de hde
          obtain ⟨td', i', z', T'⟩ := tyOf_spec hde
          split at hp
          · rename_i id oo
            simp only [Option.some.injEq, Prod.mk.injEq] at hp
            obtain ⟨hcc, rfl⟩ := hp
            rw [← hcc] at hc
            obtain ⟨c1, c2⟩ := hc
            cases hv with
            | ptr _ _ b h1 h2 =>
              refine ⟨.pointer (some ⟨b, oo + ix.toNat * de.size, none⟩), ?_, .ptr _ _ _ h1 h2⟩
              simp [Instr.indexAt, asIntOf, T.run_underlying, Instr.sureAddr, c1, c2, T'.run_sizeOf, Addr.add_lit]
          · rename_i cs
            simp only [Option.map_eq_some_iff, Prod.mk.injEq] at hp
            obtain ⟨y, hy, hcc, rfl⟩ := hp
            rw [← hcc] at hc
            obtain ⟨c1, c2⟩ := hc
            cases rv_d hv with
            | ip _ b off u hb hs hu hr =>
              have hs' : ∀ j, j < cs.length → (cs.getD j default).scalar = true := fun j hj => hs j hj
              obtain ⟨p1, p2⟩ := partD_spec hy hs'
              refine ⟨.pointer (some ⟨b, off + ix.toNat * de.size, none⟩), ?_, .d _ _ (.ip y b _ (fun j => u (ix.toNat * de.size + j)) hb (fun j hj => ?_) (fun j hj => ?_) (fun j hj => ?_))⟩
              · simp [Instr.indexAt, asIntOf, T.run_underlying, Instr.sureAddr, c1, c2, T'.run_sizeOf, Addr.add_lit]
              · rw [p2 j hj]; exact hs' _ (by omega)
              · rw [Nat.add_assoc]; exact hu _ (by show _ < cs.length; omega)
              · rw [p2 j hj]; exact hr _ (by show _ < cs.length; omega)
          · cases hp
        · cases hp
      · cases hp
  · cases hp

end
end Go.Proofs.YtgpbkphiipjjoaaGreatDoor.Pv
end

/- Operations over data, fourth part: fields and elements of values, numbers, texts, lengths, tuples, function values, aggregates. -/
section
namespace Go.Proofs.YtgpbkphiipjjoaaGreatDoor.Pv
open Go
section
variable {P : Program} {B : Array Obj} {o : Oper} {a : PA} {h : List PObj}

/-- out of what a pure operation gives -/
theorem pstep_of {v : PV} (k : ∀ e w act, Sim B e h w → RA w e a act → ∃ u, (execOp act.eval o).run P w = .ok (.value u) w ∧ RV w e v u) : PStep P B o a h v h := by
  intro e w act s ra
  obtain ⟨u, h1, h2⟩ := k e w act s ra
  exact ⟨e, w, u, .inl h1, s, h2, Ext.refl (Nat.le_refl _) _⟩

theorem str_size {s : ByteArray} {l : List UInt8} (h : s.data.toList = l) : s.size = l.length := by
  subst h; show s.data.size = _; exact Array.length_toList.symm

/-! ### parts of values -/
def pfield (P : Program) (d : TD) (f : Nat) (p : PV) : Option PV :=
  match d.k with
  | .struct fs => match fs[f]? with
    | some (ft, off) => match tyOf P ft with
      | some df => match p with
        | .d (.agg cs) => (partD df.k.agg df.size cs off).map .d
        | .agg cs => partOf df.k.agg df.size cs off
        | _ => none
      | none => none
    | none => none
  | _ => none

theorem run_part {t : TypeId} {d : TD} {td : TypeDesc} {i : TypeInfo} {z : Value} (T : TyIs P t d td i z) {w : World} {e : Env} {cs : List PV} {arr : Array Value} (hc : CellsAre w e cs arr) {off : Nat} {v : PV}
    (hp : partOf d.k.agg d.size cs off = some v) : ∃ u, (part t arr off).run P w = .ok u w ∧ RV w e v u := by
  obtain ⟨h1, h2, h3⟩ := hc
  unfold partOf at hp
  simp only [part, Sem.run_bind, T.run_isAgg, Result.andThen_ok]
  cases hk : d.k.agg with
  | true =>
    rw [hk] at hp
    simp only [if_true] at hp ⊢
    split at hp
    · rename_i hle
      injection hp with hp; subst hp
      simp only [Sem.run_bind, T.run_sizeOf, Result.andThen_ok]
      refine ⟨_, rfl, rv_mkAgg (.agg _ _ (by simp; omega) (fun j hj => ?_) (fun j hj => ?_))⟩
      · simp only [List.length_take, List.length_drop] at hj
        have hj' : j < d.size := by omega
        rw [show ((cs.drop off).take d.size).getD j .junk = cs.getD (off + j) .junk from by simp [List.getD_eq_getElem?_getD, List.getElem?_drop, hj']]
        exact h2 _ (by omega)
      · simp only [List.length_take, List.length_drop] at hj
        have hj' : j < d.size := by omega
        rw [show ((cs.drop off).take d.size).getD j .junk = cs.getD (off + j) .junk from by simp [List.getD_eq_getElem?_getD, List.getElem?_drop, hj']]
        have := h3 (off + j) (by omega)
        rw [Array.getD_eq_getD_getElem?] at this ⊢
        rw [Array.getElem?_extract, if_pos (by omega)]; exact this
    · cases hp
  | false =>
    rw [hk] at hp
    simp only [Bool.false_eq_true, if_false] at hp ⊢
    obtain ⟨hlt, hg⟩ := List.getElem?_eq_some_iff.1 hp
    have hlt' : off < arr.size := by omega
    refine ⟨arr[off], by simp [hlt'], ?_⟩
    have := h3 off hlt
    rwa [List.getD_eq_getElem?_getD, hp, Array.getD_eq_getD_getElem?, Array.getElem?_eq_getElem hlt'] at this

theorem mkAgg_d (ds : List D) : mkAgg (ds.map .d) = .d (.agg ds) := by
  have : allD (ds.map .d) = some ds := by
    induction ds with
    | nil => rfl
    | cons x r ih => simp [allD, ih]
  simp [mkAgg, this]

theorem partOf_d {ag : Bool} {size off : Nat} {cs : List D} : partOf ag size (cs.map .d) off = (partD ag size cs off).map .d := by
  unfold partOf partD
  cases ag with
  | true =>
    simp only [if_true, List.length_map]
    split
    · rw [← List.map_drop, ← List.map_take, mkAgg_d]; rfl
    · rfl
  | false => simp

theorem agg_cells {w : World} {e : Env} {p : PV} {v : Value} {cs : List PV} (hp : p = .agg cs ∨ ∃ ds, p = .d (.agg ds) ∧ cs = ds.map .d) (r : RV w e p v) : ∃ arr, v = .agg arr ∧ CellsAre w e cs arr := by
  rcases hp with rfl | ⟨ds, rfl, rfl⟩
  · cases r with
    | agg _ arr h1 h2 h3 => exact ⟨arr, rfl, h1, h2, h3⟩
  · cases rv_d r with
    | agg _ arr h1 h2 h3 =>
      refine ⟨arr, rfl, by simpa using h1, fun j hj => ?_, fun j hj => ?_⟩
      · rw [getD_map_d (by simpa using hj)]; exact h2 j (by simpa using hj)
      · rw [getD_map_d (by simpa using hj)]; exact .d _ _ (h3 j (by simpa using hj))

theorem st_field {t : TypeId} {x : Operand} {f : Nat} {d : TD} {v : PV} (ho : o.op = .field t x f) (hd : tyOf P t = some d) (hp : pfield P d f (a.eval x) = some v) : PStep P B o a h v h := by
  refine pstep_of fun e w act s ra => ?_
  obtain ⟨td, i, z, T⟩ := tyOf_spec hd
  have hv := ra.eval x
  suffices hh : ∃ u, (Instr.field t (act.eval x) f).run P w = .ok u w ∧ RV w e v u by
    obtain ⟨u, h1, h2⟩ := hh
    exact ⟨u, by unfold execOp; rw [ho]; exact step_value h1, h2⟩
  generalize act.eval x = ax at hv ⊢
  generalize a.eval x = px at hv hp
  unfold pfield at hp
  split at hp
  · rename_i fs hk
    obtain ⟨fields, rfl, hfs⟩ := struct_of (T.k.trans hk)
    split at hp
    · rename_i ft off hf
      rw [hfs, List.getElem?_map] at hf
      simp only [Option.map_eq_some_iff, Prod.mk.injEq] at hf
      obtain ⟨fl, hfl, rfl, rfl⟩ := hf
      rw [Array.getElem?_toList] at hfl
      split at hp
      · rename_i df hdf
        obtain ⟨td', i', z', T'⟩ := tyOf_spec hdf
        have go : ∀ (cs : List PV), (px = .agg cs ∨ ∃ ds, px = .d (.agg ds) ∧ cs = ds.map .d) → partOf df.k.agg df.size cs fl.offset = some v → ∃ u, (Instr.field t ax f).run P w = .ok u w ∧ RV w e v u := by
          intro cs hcs hpt
          obtain ⟨arr, rfl, hc⟩ := agg_cells hcs hv
          obtain ⟨u, h1, h2⟩ := run_part T' hc hpt
          exact ⟨u, by simp [Instr.field, T.run_underlying, hfl, asAgg, h1], h2⟩
        split at hp
        · rename_i ds
          exact go (ds.map .d) (.inr ⟨ds, rfl, rfl⟩) (by rw [partOf_d]; exact hp)
        · rename_i cs
          exact go cs (.inl rfl) hp
        · cases hp
      · cases hp
    · cases hp
  · cases hp

def pindex (P : Program) (d : TD) (p ix : PV) : Option (Prop × PV) :=
  match ix with
  | .d (.int _ i) => match d.k with
    | .string => match p with
      | .d (.str l) => some (0 ≤ i ∧ i < l.length, .d (.int .u8 (l.getD i.toNat 0).toNat))
      | _ => none
    | .array n et => match tyOf P et with
      | some de => match p with
        | .d (.agg cs) => (partD de.k.agg de.size cs (i.toNat * de.size)).map fun y => (0 ≤ i ∧ i < n, .d y)
        | .agg cs => (partOf de.k.agg de.size cs (i.toNat * de.size)).map fun y => (0 ≤ i ∧ i < n, y)
        | _ => none
      | none => none
    | _ => none
  | _ => none

theorem st_index {t : TypeId} {x y : Operand} {d : TD} {c : Prop} {v : PV} (ho : o.op = .index t x y) (hd : tyOf P t = some d) (hp : pindex P d (a.eval x) (a.eval y) = some (c, v)) (hc : c) : PStep P B o a h v h := by
  refine pstep_of fun e w act s ra => ?_
  obtain ⟨td, i, z, T⟩ := tyOf_spec hd
  have hv := ra.eval x
  have hi := ra.eval y
  suffices hh : ∃ u, (Instr.index t (act.eval x) (act.eval y)).run P w = .ok u w ∧ RV w e v u by
    obtain ⟨u, h1, h2⟩ := hh
    exact ⟨u, by unfold execOp; rw [ho]; exact step_value h1, h2⟩
  generalize act.eval x = ax at hv ⊢
  generalize act.eval y = ay at hi ⊢
  generalize a.eval x = px at hv hp
  generalize a.eval y = py at hi hp
  unfold pindex at hp
  split at hp
  · rename_i kd ix
    cases rv_d hi with
    | int _ _ =>
      split at hp
      · rename_i hk
        have htd : td = .string := by have := T.k.trans hk; cases td <;> simp [kindOf] at this; rfl
        subst htd
        split at hp
        · rename_i l
          simp only [Option.some.injEq, Prod.mk.injEq] at hp
          obtain ⟨hcc, rfl⟩ := hp
          rw [← hcc] at hc
          obtain ⟨c1, c2⟩ := hc
          cases rv_d hv with
          | str _ sb hl hlim =>
            have hsz : sb.size = l.length := str_size hl
            have hlt : ix.toNat < sb.size := by omega
            refine ⟨.int .u8 (sb[ix.toNat]'hlt).toNat, ?_, ?_⟩
            · simp [Instr.index, asIntOf, T.run_underlying, c1, ByteArray.getElem?_lt' sb _ hlt]
            · have : l.getD ix.toNat 0 = sb[ix.toNat]'hlt := by
                subst hl
                rw [List.getD_eq_getElem?_getD, Array.getElem?_toList, Array.getElem?_eq_getElem (by exact hlt)]; rfl
              rw [this]; exact .d _ _ (.int _ _)
        · cases hp
      · rename_i n et hk
        have htd : td = .array n et := by
          have := T.k.trans hk; cases td <;> simp [kindOf] at this; rw [this.1, this.2]
        subst htd
        split at hp
        · rename_i de hde
          obtain ⟨td', i', z', T'⟩ := tyOf_spec hde
          have go : ∀ (cs : List PV) (v : PV), (px = .agg cs ∨ ∃ ds, px = .d (.agg ds) ∧ cs = ds.map .d) → partOf de.k.agg de.size cs (ix.toNat * de.size) = some v → 0 ≤ ix ∧ ix < n →
              ∃ u, (Instr.index t ax (.int kd ix)).run P w = .ok u w ∧ RV w e v u := by
            intro cs v hcs hpt hin
            obtain ⟨arr, rfl, hcl⟩ := agg_cells hcs hv
            obtain ⟨u, h1, h2⟩ := run_part T' hcl hpt
            exact ⟨u, by simp [Instr.index, asIntOf, T.run_underlying, hin.1, hin.2, T'.run_sizeOf, h1], h2⟩
          split at hp
          · rename_i ds
            simp only [Option.map_eq_some_iff, Prod.mk.injEq] at hp
            obtain ⟨y, hy, hcc, rfl⟩ := hp
            exact go (ds.map .d) _ (.inr ⟨ds, rfl, rfl⟩) (by rw [partOf_d, hy]; rfl) (hcc ▸ hc)
          · rename_i cs
            simp only [Option.map_eq_some_iff, Prod.mk.injEq] at hp
            obtain ⟨y, hy, hcc, rfl⟩ := hp
            exact go cs _ (.inl rfl) hy (hcc ▸ hc)
          · cases hp
        · cases hp
      · cases hp
  · cases hp

/-! ### operators -/
def pbin (op : BinOp) (x y : PV) : Option (Prop × PV) :=
  match x, y with
  | .d (.int k a), .d (.int k' b) =>
    match op with
    | .shl => some (0 ≤ b, .d (.int k (k.wrap (a * 2 ^ (min b.toNat k.bits)))))
    | .shr => some (0 ≤ b, .d (.int k (a.fdiv (2 ^ (min b.toNat k.bits)))))
    | .add => some (k = k', .d (.int k (k.wrap (a + b))))
    | .sub => some (k = k', .d (.int k (k.wrap (a - b))))
    | .mul => some (k = k', .d (.int k (k.wrap (a * b))))
    | .quo => some (k = k' ∧ b ≠ 0, .d (.int k (k.wrap (a.tdiv b))))
    | .rem => some (k = k' ∧ b ≠ 0, .d (.int k (a.tmod b)))
    | .eql => some (k = k', .d (.bool (decide (a = b))))
    | .neq => some (k = k', .d (.bool (decide (a ≠ b))))
    | .lss => some (k = k', .d (.bool (decide (a < b))))
    | .leq => some (k = k', .d (.bool (decide (a ≤ b))))
    | .gtr => some (k = k', .d (.bool (decide (b < a))))
    | .geq => some (k = k', .d (.bool (decide (b ≤ a))))
    | .and => some (k = k', .d (.int k (k.wrap (BitVec.ofInt k.bits a &&& BitVec.ofInt k.bits b).toNat)))
    | .or => some (k = k', .d (.int k (k.wrap (BitVec.ofInt k.bits a ||| BitVec.ofInt k.bits b).toNat)))
    | .xor => some (k = k', .d (.int k (k.wrap (BitVec.ofInt k.bits a ^^^ BitVec.ofInt k.bits b).toNat)))
    | .andNot => some (k = k', .d (.int k (k.wrap (BitVec.ofInt k.bits a &&& ~~~(BitVec.ofInt k.bits b)).toNat)))
  | .d (.str l), .d (.str m) =>
    match op with
    | .add => some ((l.length + m.length : Int) ≤ 9223372036854775807, .d (.str (l ++ m)))
    | .eql => some (True, .d (.bool (decide (l = m))))
    | .neq => some (True, .d (.bool (decide (l ≠ m))))
    | _ => none
  | _, _ => none

theorem int_beq (a b : Int) : (a == b) = decide (a = b) := by by_cases h : a = b <;> simp [h]
theorem int_bne (a b : Int) : (a != b) = decide (a ≠ b) := by by_cases h : a = b <;> simp [h, bne]

theorem st_bin {op : BinOp} {t t' : TypeId} {x y : Operand} {c : Prop} {v : PV} (ho : o.op = .binOp op t x y t') (hp : pbin op (a.eval x) (a.eval y) = some (c, v)) (hc : c) : PStep P B o a h v h := by
  refine pstep_of fun e w act s ra => ?_
  have hx := ra.eval x
  have hy := ra.eval y
  unfold execOp
  rw [ho]
  suffices hh : ∃ u, (do eqGuard op t x y (act.eval x) (act.eval y); binOp op t (act.eval x) (act.eval y) : Sem Value).run P w = .ok u w ∧ RV w e v u by
    obtain ⟨u, h1, h2⟩ := hh
    exact ⟨u, step_value h1, h2⟩
  generalize act.eval x = ax at hx ⊢
  generalize act.eval y = ay at hy ⊢
  generalize a.eval x = px at hx hp
  generalize a.eval y = py at hy hp
  unfold pbin at hp
  split at hp
  · rename_i k n k' m
    cases rv_d hx with
    | int _ _ => cases rv_d hy with
      | int _ _ =>
        cases op <;> simp only [Option.some.injEq, Prod.mk.injEq] at hp <;> obtain ⟨hcc, rfl⟩ := hp <;> rw [← hcc] at hc
        case shl => exact ⟨_, by have : ¬ m < 0 := by omega
                                 simp [eqGuard, binOp, Op.shift, this], .d _ _ (.int _ _)⟩
        case shr => exact ⟨_, by have : ¬ m < 0 := by omega
                                 simp [eqGuard, binOp, Op.shift, this], .d _ _ (.int _ _)⟩
        case quo => obtain ⟨rfl, hm⟩ := hc; exact ⟨_, by simp [eqGuard, binOp, Op.intDiv, hm], .d _ _ (.int _ _)⟩
        case rem => obtain ⟨rfl, hm⟩ := hc; exact ⟨_, by simp [eqGuard, binOp, Op.intDiv, hm], .d _ _ (.int _ _)⟩
        all_goals subst hc
        case eql => exact ⟨.bool (n == m), by simp [eqGuard, binOp, Op.intCmp], by rw [int_beq]; exact .d _ _ (.bool _)⟩
        case neq => exact ⟨.bool (n != m), by simp [eqGuard, binOp, Op.intCmp], by rw [int_bne]; exact .d _ _ (.bool _)⟩
        case lss => exact ⟨.bool (n < m), by simp [eqGuard, binOp, Op.intCmp], .d _ _ (.bool _)⟩
        case leq => exact ⟨.bool (n ≤ m), by simp [eqGuard, binOp, Op.intCmp], .d _ _ (.bool _)⟩
        case gtr => exact ⟨.bool (n > m), by simp [eqGuard, binOp, Op.intCmp], .d _ _ (.bool _)⟩
        case geq => exact ⟨.bool (n ≥ m), by simp [eqGuard, binOp, Op.intCmp], .d _ _ (.bool _)⟩
        all_goals exact ⟨_, by simp [eqGuard, binOp, Op.intArith, Op.intBits], .d _ _ (.int _ _)⟩
  · rename_i l m
    cases rv_d hx with
    | str _ sl hl hlim => cases rv_d hy with
      | str _ sm hm hlim2 =>
        cases op <;> simp only [Option.some.injEq, Prod.mk.injEq, reduceCtorEq] at hp <;> obtain ⟨hcc, rfl⟩ := hp <;> rw [← hcc] at hc
        case add =>
          have h1 : sl.size = l.length := str_size hl
          have h2 : sm.size = m.length := str_size hm
          refine ⟨.string (sl ++ sm), ?_, .d _ _ (.str _ _ (by simp [ByteArray.data_append, hl, hm]) (by rw [List.length_append]; omega))⟩
          have h3 := run_string_add_sum (P := P) (w := w) sl sm (by omega)
          simp [eqGuard, binOp, h3]
        case eql =>
          refine ⟨.bool (sl.toList == sm.toList), by simp [eqGuard, binOp, Op.stringOp], ?_⟩
          rw [ByteArray.toList_eq, ByteArray.toList_eq, hl, hm]
          have : (l == m) = decide (l = m) := by by_cases q : l = m <;> simp [q]
          rw [this]; exact .d _ _ (.bool _)
        case neq =>
          refine ⟨.bool (!(sl.toList == sm.toList)), by simp [eqGuard, binOp, Op.stringOp], ?_⟩
          rw [ByteArray.toList_eq, ByteArray.toList_eq, hl, hm]
          have : (!(l == m)) = decide (l ≠ m) := by by_cases q : l = m <;> simp [q]
          rw [this]; exact .d _ _ (.bool _)
  · cases hp

theorem st_not {t : TypeId} {x : Operand} {b : Bool} (ho : o.op = .unOp .not t x) (hx : a.eval x = .d (.bool b)) : PStep P B o a h (.d (.bool (!b))) h := by
  refine pstep_of fun e w act s ra => ?_
  have hv := ra.eval x
  rw [hx] at hv
  generalize hax : act.eval x = ax at hv
  cases rv_d hv with
  | bool b => exact ⟨.bool (!b), by simp [execOp, ho, hax, Op.unary], .d _ _ (.bool _)⟩

theorem st_convInt {t t' : TypeId} {x : Operand} {k k' : IntKind} {n : Int} {d d' : TD} (ho : o.op = .convert t t' x) (hd : tyOf P t = some d) (hd' : tyOf P t' = some d') (hk' : d'.k = .int k') (hx : a.eval x = .d (.int k n)) :
    PStep P B o a h (.d (.int k' (k'.wrap n))) h := by
  refine pstep_of fun e w act s ra => ?_
  obtain ⟨td, i, z, T⟩ := tyOf_spec hd
  obtain ⟨td', i', z', T'⟩ := tyOf_spec hd'
  have htd : td' = .int k' := by have := T'.k.trans hk'; cases td' <;> simp [kindOf] at this; rw [this]
  subst htd
  have hv := ra.eval x
  rw [hx] at hv
  generalize hax : act.eval x = ax at hv
  cases rv_d hv with
  | int _ _ =>
    refine ⟨.int k' (k'.wrap n), ?_, .d _ _ (.int _ _)⟩
    unfold execOp; rw [ho]
    refine step_value ?_
    rw [hax]
    simp [convert, T.run_underlying, T'.run_underlying, Conv.intToInt]

theorem st_nilCheck {x : Operand} (ho : o.op = .nilCheck x) (hx : (∃ id off, a.eval x = .ptr id off) ∨ (∃ y, a.eval x = .d (.ip y)) ∨ (∃ id n i sz off, a.eval x = .rp id n i sz off)) : PStep P B o a h (a.eval x) h := by
  refine pstep_of fun e w act s ra => ?_
  have hv := ra.eval x
  have fin : ∀ ad, act.eval x = .pointer (some ad) → (execOp act.eval o).run P w = .ok (.value (act.eval x)) w := fun ad hax => by simp [execOp, ho, hax]
  refine ⟨act.eval x, ?_, hv⟩
  rcases hx with ⟨id, off, hx⟩ | ⟨y, hx⟩ | ⟨id, n, i, sz, off, hx⟩ <;> rw [hx] at hv
  · generalize hax : act.eval x = ax at hv
    cases hv with
    | ptr _ _ b h1 h2 => rw [← hax]; exact fin _ hax
  · generalize hax : act.eval x = ax at hv
    cases rv_d hv with
    | ip _ b off u h1 h2 h3 h4 => rw [← hax]; exact fin _ hax
  · generalize hax : act.eval x = ax at hv
    cases hv with
    | rp _ _ _ _ _ b len cap h1 h2 => rw [← hax]; exact fin _ hax

end
end Go.Proofs.YtgpbkphiipjjoaaGreatDoor.Pv
end

/- Operations over data, fifth part: lengths, tuples, function values, aggregates, slices, append. -/
section
namespace Go.Proofs.YtgpbkphiipjjoaaGreatDoor.Pv
open Go
section
variable {P : Program} {B : Array Obj} {o : Oper} {a : PA} {h : List PObj}

theorem run_builtin {act : Act} {b : Builtin} {args : Array Operand} {at_ : Array TypeId} (ho : o.op = .call { callee := .builtin b, args := args, argTypes := at_ }) :
    ∃ cs, execOp act.eval o = builtin b at_ o.type cs (args.map act.eval) := by
  unfold execOp
  rw [ho]
  exact ⟨_, rfl⟩

def plen (k : TK) (p : PV) (h : List PObj) : Option PV :=
  match k with
  | .string => match p with
    | .d (.str l) => some (.d (.int .i64 l.length))
    | _ => none
  | .slice _ => match p with
    | .d (.sl es _) => some (.d (.int .i64 es.length))
    | .row id n => match h[id]? with
      | some (.row _ _ es) => if n = es.length then some (.d (.int .i64 es.length)) else none
      | _ => none
    | _ => none
  | .map _ _ => match p with
    | .mp id => match h[id]? with
      | some (.map ks _) => if ks.length ≤ 9223372036854775807 then some (.d (.int .i64 ks.length)) else none
      | _ => none
    | .d (.vm ks _) => if ks.length ≤ 9223372036854775807 then some (.d (.int .i64 ks.length)) else none
    | _ => none
  | _ => none

theorem sl_form {w : World} {I : Nat → Prop} {es : List D} {cl : Bool} {v : Value} (h : RD w I (.sl es cl) v) : ∃ p c, v = .slice p es.length c := by
  cases h with
  | slnil p cap clip hc => exact ⟨p, cap, rfl⟩
  | sl _ _ b off cap => exact ⟨_, cap, rfl⟩
theorem run_getMap {w : World} {b : Nat} {es : Array MapEntry} {clock : Nat} (h : w.heap[b]? = some (.map es clock)) : (getObj b).run P w = .ok (.map es clock) w := by simp [getObj, Sem.run, h]

theorem kind_string {td : TypeDesc} {k : TK} (h : kindOf td = k) (hk : k = .string) : td = .string := by subst h; cases td <;> simp [kindOf] at hk; rfl
theorem kind_slice {td : TypeDesc} {k : TK} {e : TypeId} (h : kindOf td = k) (hk : k = .slice e) : td = .slice e := by subst h; cases td <;> simp [kindOf] at hk; rw [hk]
theorem kind_map {td : TypeDesc} {k : TK} {e f : TypeId} (h : kindOf td = k) (hk : k = .map e f) : td = .map e f := by subst h; cases td <;> simp [kindOf] at hk; rw [hk.1, hk.2]
theorem kind_array {td : TypeDesc} {k : TK} {n : Nat} {e : TypeId} (h : kindOf td = k) (hk : k = .array n e) : td = .array n e := by subst h; cases td <;> simp [kindOf] at hk; rw [hk.1, hk.2]
theorem kind_int {td : TypeDesc} {k : TK} {i : IntKind} (h : kindOf td = k) (hk : k = .int i) : td = .int i := by subst h; cases td <;> simp [kindOf] at hk; rw [hk]

theorem st_len {x : Operand} {t : TypeId} {d : TD} {v : PV} (ho : o.op = .call { callee := .builtin .len, args := #[x], argTypes := #[t] }) (hd : tyOf P t = some d) (hp : plen d.k (a.eval x) h = some v) : PStep P B o a h v h := by
  refine pstep_of fun e w act s ra => ?_
  obtain ⟨td, i, z, T⟩ := tyOf_spec hd
  have hv := ra.eval x
  obtain ⟨cs, hb⟩ := run_builtin (act := act) ho
  suffices hh : ∃ u, (Builtin.len_ #[t] o.type #[act.eval x]).run P w = .ok u w ∧ RV w e v u by
    obtain ⟨u, h1, h2⟩ := hh
    exact ⟨u, by rw [hb]; simp only [List.map_toArray, List.map_cons, List.map_nil, builtin]; exact step_value h1, h2⟩
  generalize act.eval x = ax at hv ⊢
  generalize a.eval x = px at hv hp
  unfold plen at hp
  split at hp
  · rename_i hk
    have := kind_string T.k hk; subst this
    split at hp
    · injection hp with hp; subst hp
      cases rv_d hv with
      | str _ sb hl hlim => exact ⟨.int .i64 sb.size, by simp [Builtin.len_, T.run_underlying, goInt], by rw [str_size hl]; exact .d _ _ (.int _ _)⟩
    · cases hp
  · rename_i el hk
    have := kind_slice T.k hk; subst this
    split at hp
    · rename_i es _
      injection hp with hp; subst hp
      obtain ⟨p, c, rfl⟩ := sl_form (rv_d hv)
      exact ⟨.int .i64 es.length, by simp [Builtin.len_, T.run_underlying, goInt], .d _ _ (.int _ _)⟩
    · split at hp
      · rename_i id n _ E sz es hh
        split at hp
        · rename_i hn
          injection hp with hp; subst hp; subst hn
          obtain ⟨g0, v0, g1, g2, g3⟩ := s.obj id _ hh
          cases hv with
          | row _ _ _ hid hG =>
            rw [hG] at g1; injection g1 with g1; subst g1
            rcases g3 with ⟨rfl, rfl⟩ | ⟨b', cap', arr, rfl, _⟩
            · exact ⟨.int .i64 0, by simp [Builtin.len_, T.run_underlying, goInt], .d _ _ (.int _ _)⟩
            · exact ⟨.int .i64 es.length, by simp [Builtin.len_, T.run_underlying, goInt], .d _ _ (.int _ _)⟩
        · cases hp
      · cases hp
    · cases hp
  · rename_i ke ve hk
    have := kind_map T.k hk; subst this
    split at hp
    · split at hp
      · rename_i id _ ks vs hh
        split at hp
        case isFalse => cases hp
        injection hp with hp; subst hp
        obtain ⟨b, es, clock, h1, h2, h3, h4, _⟩ := s.obj id _ hh
        cases hv with
        | mp _ b' hid hG =>
          rw [hG] at h1; injection h1 with h1; injection h1 with h1; injection h1 with h1; subst h1
          exact ⟨.int .i64 es.size, by simp [Builtin.len_, T.run_underlying, goInt, run_getMap h3], by rw [h4]; exact .d _ _ (.int _ _)⟩
      · cases hp
    · split at hp
      case isFalse => cases hp
      injection hp with hp; subst hp
      cases rv_d hv with
      | vm ks vs b es clock hb h3 h4 h5 h6 h7 => exact ⟨.int .i64 es.size, by simp [Builtin.len_, T.run_underlying, goInt, run_getMap h3], by rw [h4]; exact .d _ _ (.int _ _)⟩
    · cases hp
  · cases hp

/-- no length is beyond what a number holds -/
theorem plen_le {k : TK} {p : PV} {n : Int} (hp : plen k p h = some (.d (.int .i64 n))) {e : Env} {w : World} (s : Sim B e h w) {v : Value} (hv : RV w e p v) : 0 ≤ n ∧ n ≤ 9223372036854775807 := by
  unfold plen at hp
  split at hp
  · split at hp
    · simp only [Option.some.injEq, PV.d.injEq, D.int.injEq, true_and] at hp
      cases rv_d hv with
      | str _ sb hl hlim => omega
    · cases hp
  · split at hp
    · rename_i es _
      simp only [Option.some.injEq, PV.d.injEq, D.int.injEq, true_and] at hp
      cases rv_d hv with
      | slnil p cap clip hcl => simp at hp; omega
      | sl _ _ b off cap sz u hb h1 => omega
    · split at hp
      · rename_i id n' _ E sz es hh
        split at hp
        · simp only [Option.some.injEq, PV.d.injEq, D.int.injEq, true_and] at hp
          obtain ⟨g0, v0, g1, g2, g3⟩ := s.obj id _ hh
          rcases g3 with ⟨_, rfl⟩ | ⟨b', cap', arr, rfl, k2, k3, k4, k5, _⟩
          · simp at hp; omega
          · have : cap' ≤ maxLen := k5.2
            unfold maxLen at this; omega
        · cases hp
      · cases hp
    · cases hp
  · split at hp
    · split at hp
      · split at hp
        · simp only [Option.some.injEq, PV.d.injEq, D.int.injEq, true_and] at hp; omega
        · cases hp
      · cases hp
    · split at hp
      · simp only [Option.some.injEq, PV.d.injEq, D.int.injEq, true_and] at hp; omega
      · cases hp
    · cases hp
  · cases hp

/-! ### tuples, function values -/
def pextract (p : PV) (i : Nat) : Option PV :=
  match p with
  | .tup vs => vs[i]?
  | .d (.tup vs) => vs[i]?.map .d
  | _ => none

theorem st_extract {x : Operand} {i : Nat} {v : PV} (ho : o.op = .extract x i) (hp : pextract (a.eval x) i = some v) : PStep P B o a h v h := by
  refine pstep_of fun e w act s ra => ?_
  have hv := ra.eval x
  suffices hh : ∃ u, (Instr.extract (act.eval x) i).run P w = .ok u w ∧ RV w e v u by
    obtain ⟨u, h1, h2⟩ := hh
    exact ⟨u, by unfold execOp; rw [ho]; exact step_value h1, h2⟩
  generalize act.eval x = ax at hv ⊢
  generalize a.eval x = px at hv hp
  unfold pextract at hp
  split at hp
  · rename_i vs
    obtain ⟨hlt, hg⟩ := List.getElem?_eq_some_iff.1 hp
    cases hv with
    | tup _ us h1 h2 =>
      have hlt' : i < us.size := by omega
      refine ⟨us[i], by simp [Instr.extract, hlt'], ?_⟩
      have := h2 i hlt
      rwa [List.getD_eq_getElem?_getD, hp, Array.getD_eq_getD_getElem?, Array.getElem?_eq_getElem hlt'] at this
  · rename_i vs
    simp only [Option.map_eq_some_iff] at hp
    obtain ⟨y, hy, rfl⟩ := hp
    obtain ⟨hlt, hg⟩ := List.getElem?_eq_some_iff.1 hy
    cases rv_d hv with
    | tup _ us h1 h2 =>
      have hlt' : i < us.size := by omega
      refine ⟨us[i], by simp [Instr.extract, hlt'], .d _ _ ?_⟩
      have := h2 i hlt
      rwa [List.getD_eq_getElem?_getD, hy, Array.getD_eq_getD_getElem?, Array.getElem?_eq_getElem hlt'] at this
  · cases hp

theorem st_makeFunc {f : Fn} {first caps : Array Operand} (ho : o.op = .makeFunc f first caps) : PStep P B o a h (mkFn f (first.toList.map a.eval) (caps.toList.map a.eval)) h := by
  refine pstep_of fun e w act s ra => ?_
  have h1 := rvs_map ra first
  have h2 := rvs_map ra caps
  refine ⟨_, by unfold execOp; rw [ho]; exact step_value rfl, rv_mkFn (.fn f _ _ _ _ h1.1 h2.1 h1.2 h2.2)⟩

theorem st_makeInterface {t : TypeId} {x : Operand} {d : TD} (ho : o.op = .makeInterface t x) (hd : tyOf P t = some d) (hk : d.k ≠ .iface) :
    PStep P B o a h (match a.eval x with | .d y => .d (.ifc t y) | y => .ifc t y) h := by
  refine pstep_of fun e w act s ra => ?_
  obtain ⟨td, i, z, T⟩ := tyOf_spec hd
  have hv := ra.eval x
  have hnot : ∀ ms, td ≠ .interface ms := fun ms hm => hk (by rw [← T.k, hm]; rfl)
  refine ⟨.iface t (act.eval x), ?_, ?_⟩
  · unfold execOp; rw [ho]
    refine step_value ?_
    simp only [Instr.makeInterface, Sem.run_bind, T.run_underlying, Result.andThen_ok]
    cases td <;> first | rfl | exact absurd rfl (hnot _)
  · split
    · rename_i y hy; rw [hy] at hv; exact .d _ _ (.ifc _ _ _ (rv_d hv))
    · exact .ifc _ _ _ hv

/-! ### aggregates -/
def pfill (place : Nat → Option (Nat × Nat)) (cells : List PV) : List (Nat × PV) → Option (List PV)
  | [] => some cells
  | (i, p) :: r => match place i, flat p with
    | some (off, size), some xs => if xs.length = size ∧ off + size ≤ cells.length then pfill place (cells.take off ++ xs ++ cells.drop (off + size)) r else none
    | _, _ => none

theorem foldset (off : Nat) : ∀ (l : List Value) (k : Nat) (arr : Array Value), off + k + l.length ≤ arr.size →
    ((l.zipIdx k).foldl (fun cs (p : Value × Nat) => cs.setIfInBounds (off + p.2) p.1) arr).size = arr.size ∧
    ∀ j, ((l.zipIdx k).foldl (fun cs (p : Value × Nat) => cs.setIfInBounds (off + p.2) p.1) arr).getD j default =
      if off + k ≤ j ∧ j < off + k + l.length then l.getD (j - (off + k)) default else arr.getD j default
  | [], k, arr, _ => by
    refine ⟨rfl, fun j => ?_⟩
    rw [if_neg (by simp only [List.length_nil]; omega)]; rfl
  | v :: l, k, arr, hle => by
    simp only [List.length_cons] at hle
    obtain ⟨h1, h2⟩ := foldset off l (k + 1) (arr.setIfInBounds (off + k) v) (by simp; omega)
    simp only [List.zipIdx_cons, List.foldl_cons]
    refine ⟨by rw [h1]; simp, fun j => ?_⟩
    rw [h2 j]
    by_cases hj : j = off + k
    · subst hj
      rw [if_neg (by omega), if_pos ⟨Nat.le_refl _, by simp⟩]
      simp [Array.getD_eq_getD_getElem?, show off + k < arr.size from by omega]
    · by_cases hin : off + (k + 1) ≤ j ∧ j < off + (k + 1) + l.length
      · rw [if_pos hin, if_pos ⟨by omega, by simp only [List.length_cons]; omega⟩]
        have : j - (off + k) = (j - (off + (k + 1))) + 1 := by omega
        rw [this, List.getD_cons_succ]
      · rw [if_neg hin, if_neg (by simp only [List.length_cons]; omega)]
        simp only [Array.getD_eq_getD_getElem?, Array.getElem?_setIfInBounds]
        rw [if_neg (fun e => hj e.symm)]

theorem fill_spec {w : World} {e : Env} (hG : ∀ id n v, id < e.n → e.G id n = some v → scalarV v = true) {place : Nat → Option (Nat × Nat)} : ∀ (parts : List (Nat × PV)) (us : List (Nat × Value)) (cells : List PV) (arr : Array Value) (cells' : List PV),
    us.length = parts.length → (∀ i, i < parts.length → (us.getD i default).1 = (parts.getD i (0, .junk)).1 ∧ RV w e (parts.getD i (0, .junk)).2 (us.getD i default).2) →
    CellsAre w e cells arr → pfill place cells parts = some cells' → ∃ arr', Instr.fill place arr us = some arr' ∧ CellsAre w e cells' arr'
  | [], us, cells, arr, cells', hl, _, hc, hp => by
    simp at hl; subst hl
    simp [pfill] at hp; subst hp
    exact ⟨arr, rfl, hc⟩
  | (i, p) :: r, us, cells, arr, cells', hl, hr, hc, hp => by
    match us, hl with
    | (i', u) :: us', hl =>
      have h0 := hr 0 (by simp)
      simp at h0
      obtain ⟨hi, hu⟩ := h0
      subst hi
      simp only [pfill] at hp
      split at hp
      · rename_i off size xs hpl hf
        split at hp
        · rename_i hcond
          obtain ⟨c1, c2⟩ := hcond
          obtain ⟨⟨f1, f2, f3⟩, f4⟩ := flat_spec hG hf hu
          obtain ⟨s1, s2⟩ := foldset off u.cells.toList 0 arr (by simp; have := hc.1; omega)
          have hfold : u.cells.zipIdx.foldl (fun cs (p : Value × Nat) => cs.setIfInBounds (off + p.2) p.1) arr = (u.cells.toList.zipIdx 0).foldl (fun cs (p : Value × Nat) => cs.setIfInBounds (off + p.2) p.1) arr := by
            rw [← Array.foldl_toList, Array.toList_zipIdx]
          have hc' : CellsAre w e (cells.take off ++ xs ++ cells.drop (off + size)) (u.cells.zipIdx.foldl (fun cs (p : Value × Nat) => cs.setIfInBounds (off + p.2) p.1) arr) := by
            rw [hfold]
            obtain ⟨k1, k2, k3⟩ := hc
            subst c1
            refine ⟨by rw [s1, k1]; simp; omega, fun j hj => ?_, fun j hj => ?_⟩
            · rw [getD_mid c2]
              split
              · exact f2 _ (by omega)
              · exact k2 j (by simp at hj; omega)
            · rw [getD_mid c2, s2 j]
              simp only [Nat.add_zero, Array.length_toList, f1]
              split
              · rw [← arr_getD]; exact f3 _ (by omega)
              · exact k3 j (by simp at hj; omega)
          obtain ⟨arr', h1, h2⟩ := fill_spec hG r us' _ _ cells' (by simpa using hl) (fun j hj => by have := hr (j + 1) (by simp; omega); simpa using this) hc' hp
          refine ⟨arr', ?_, h2⟩
          simp only [Instr.fill, hpl]
          rw [if_neg (by simp only [Bool.or_eq_true, decide_eq_true_eq, ne_eq]; have := hc.1; omega)]
          exact h1
        · cases hp
      · cases hp

end
end Go.Proofs.YtgpbkphiipjjoaaGreatDoor.Pv
end

/- Operations over data, sixth part: structs and arrays written out, slices written out, slicing, append, make. -/
section
namespace Go.Proofs.YtgpbkphiipjjoaaGreatDoor.Pv
open Go
section
variable {P : Program} {B : Array Obj} {o : Oper} {a : PA} {h : List PObj}

def pbuild (d : TD) (parts : List (Nat × PV)) : Option PV :=
  if d.k.agg then (pfill (fun i => d.places[i]?) (d.zero.map .d) parts).map mkAgg else none

theorem zero_cells {t : TypeId} {d : TD} {td : TypeDesc} {i : TypeInfo} {z : Value} (T : TyIs P t d td i z) (w : World) (e : Env) : CellsAre w e (d.zero.map .d) z.cells := by
  rw [← T.z]
  refine ⟨by simp, fun j hj => ?_, fun j hj => ?_⟩
  · have hj' : j < z.cells.size := by simpa using hj
    rw [getD_map_d (by simpa using hj)]
    have := T.flat j hj'
    simp only [List.getD_eq_getElem?_getD, List.getElem?_map, Array.getElem?_toList, Array.getElem?_eq_getElem hj', Option.map_some, Option.getD_some]
    rw [Array.getD_eq_getD_getElem?, Array.getElem?_eq_getElem hj'] at this
    exact cD_scalar _ this
  · have hj' : j < z.cells.size := by simpa using hj
    rw [getD_map_d (by simpa using hj)]
    simp only [List.getD_eq_getElem?_getD, List.getElem?_map, Array.getElem?_toList, Array.getElem?_eq_getElem hj', Option.map_some, Option.getD_some, Array.getD_eq_getD_getElem?]
    exact .d _ _ (RD.const _ _ _)

theorem parts_rel {w : World} {e : Env} {act : Act} (ra : RA w e a act) (parts : Array (Nat × Operand)) :
    (parts.map fun (p : Nat × Operand) => (p.1, act.eval p.2)).toList.length = (parts.toList.map fun (p : Nat × Operand) => (p.1, a.eval p.2)).length ∧
    ∀ i, i < (parts.toList.map fun (p : Nat × Operand) => (p.1, a.eval p.2)).length →
      (((parts.map fun (p : Nat × Operand) => (p.1, act.eval p.2)).toList).getD i default).1 = ((parts.toList.map fun (p : Nat × Operand) => (p.1, a.eval p.2)).getD i (0, .junk)).1 ∧
      RV w e ((parts.toList.map fun (p : Nat × Operand) => (p.1, a.eval p.2)).getD i (0, .junk)).2 (((parts.map fun (p : Nat × Operand) => (p.1, act.eval p.2)).toList).getD i default).2 := by
  refine ⟨by simp, fun i hi => ?_⟩
  simp only [List.length_map, Array.length_toList] at hi
  simp only [List.getD_eq_getElem?_getD, List.getElem?_map, Array.getElem?_toList, Array.getElem?_map, Array.getElem?_eq_getElem hi, Option.map_some, Option.getD_some]
  exact ⟨trivial, ra.eval _⟩

theorem st_build {t : TypeId} {parts : Array (Nat × Operand)} {d : TD} {v : PV} (ho : o.op = .build t parts) (hd : tyOf P t = some d) (hp : pbuild d (parts.toList.map fun (p : Nat × Operand) => (p.1, a.eval p.2)) = some v) : PStep P B o a h v h := by
  refine pstep_of fun e w act s ra => ?_
  obtain ⟨td, i, z, T⟩ := tyOf_spec hd
  unfold pbuild at hp
  split at hp
  · rename_i hag
    simp only [Option.map_eq_some_iff] at hp
    obtain ⟨cells', hf, rfl⟩ := hp
    obtain ⟨p1, p2⟩ := parts_rel ra parts
    obtain ⟨arr', f1, f2⟩ := fill_spec s.sc _ _ _ _ _ p1 p2 (zero_cells T w e) hf
    refine ⟨.agg arr', ?_, rv_mkAgg (.agg _ _ f2.1 f2.2.1 f2.2.2)⟩
    unfold execOp; rw [ho]
    refine step_value ?_
    have hpl := T.pl
    have hk := T.k
    rw [← hk] at hag
    cases td <;> simp [kindOf, TK.agg] at hag
    case array n el =>
      simp only [placesOf, Option.map_eq_some_iff] at hpl
      obtain ⟨ie, hie, hpl⟩ := hpl
      refine run_build w t _ _ ?_
      unfold Program.built
      simp only [T.info, T.und, T.zero, hie]
      -- a place beyond the array's length is none of ours
      have key : ∀ (us : List (Nat × Value)) (cells r : Array Value), Instr.fill (fun i => d.places[i]?) cells us = some r → Instr.fill (fun i => some (i * ie.size, ie.size)) cells us = some r := by
        intro us
        induction us with
        | nil => intro cells r hr; exact hr
        | cons p us ih =>
          intro cells r hr
          obtain ⟨k, u⟩ := p
          simp only [Instr.fill] at hr ⊢
          split at hr
          · cases hr
          · rename_i off size hpk
            rw [← hpl, List.getElem?_map] at hpk
            simp only [Option.map_eq_some_iff, Prod.mk.injEq] at hpk
            obtain ⟨k', hk', rfl, rfl⟩ := hpk
            have : k' = k := by
              obtain ⟨q1, q2⟩ := List.getElem?_eq_some_iff.1 hk'
              simpa using q2.symm
            subst this
            split at hr
            · cases hr
            · rename_i hc
              rw [if_neg hc]; exact ih _ _ hr
      exact key _ _ _ f1
    case struct fields =>
      refine run_build w t _ _ ?_
      unfold Program.built
      have hpl' : fields.toList.mapM (fun f => (P.info? f.type).map fun i => (f.offset, i.size)) = some d.places := hpl
      simp only [T.info, T.und, T.zero, hpl']
      simpa using f1
  · cases hp

/-! ### a new block that never turns -/
def Env.newI (e : Env) (b : Nat) : Env := { e with I := fun k => e.I k ∨ k = b }

theorem sim_newI {e : Env} {w : World} (s : Sim B e h w) (ob : Obj) : Sim B (e.newI w.heap.size) h (w.alloc ob) ∧ Ext e.n e w (e.newI w.heap.size) (w.alloc ob) := by
  have hx : Ext e.n e w (e.newI w.heap.size) (w.alloc ob) :=
    ⟨fun b hb => .inl hb, fun b hb => RowKit.Below.heap_alloc _ _ _ (s.im b hb), fun _ _ _ _ h => h, Nat.le_refl _, by show _ ≤ (w.heap.push ob).size; simp, rfl, rfl, rfl⟩
  refine ⟨⟨s.n, fun b hb => ⟨.inl (s.base b hb).1, ?_⟩, fun b hb => ?_, s.sc, fun id o' ho => ?_, fun id id' o1 o2 b h1 h2 l1 l2 => s.ne id id' o1 o2 b h1 h2 l1 l2⟩, hx⟩
  · rw [hx.mem b (s.base b hb).1]; exact (s.base b hb).2
  · show b < (w.heap.push ob).size
    rcases hb with hb | rfl
    · have := s.im b hb; simp; omega
    · simp
  · have ro := s.obj id o' ho
    exact ro.keep (fun _ => rfl) (fun b l hn hn' => hn'.elim hn (fun e => by have := (ro.lt l).1; omega)) (fun b hb => ⟨.inl hb, hx.mem b hb⟩) (fun b l => RowKit.Below.heap_alloc _ _ _ (ro.lt l).1) (fun p u r => r.ext hx)

/-! ### a slice written out -/
/-- its parts, all data, each of as many cells as the element's type has -/
def sliceParts (size : Nat) : Nat → List (Nat × PV) → Option (List D)
  | _, [] => some []
  | k, (i, .d x) :: r => if i = k ∧ x.ncells = size then (match flat (.d x) with | some _ => (sliceParts size (k + 1) r).map (x :: ·) | none => none) else none
  | _, _ :: _ => none

def pbuildSlice (P : Program) (d : TD) (len : Nat) (parts : List (Nat × PV)) : Option PV :=
  match d.k with
  | .slice et => match tyOf P et with
    | some de => if 0 < de.size ∧ len * de.size ≤ 16777216 then (match sliceParts de.size 0 parts with | some ds => if ds.length = len then some (.d (.sl ds true)) else none | none => none) else none
    | none => none
  | _ => none

theorem sliceParts_spec {w : World} {e : Env} (hG : ∀ id n v, id < e.n → e.G id n = some v → scalarV v = true) {size : Nat} : ∀ (parts : List (Nat × PV)) (us : List (Nat × Value)) (k : Nat) (ds : List D) (arr : Array Value),
    us.length = parts.length → (∀ i, i < parts.length → (us.getD i default).1 = (parts.getD i (0, .junk)).1 ∧ RV w e (parts.getD i (0, .junk)).2 (us.getD i default).2) →
    sliceParts size k parts = some ds → (k + ds.length) * size = arr.size →
    ∃ arr', Instr.fill (fun i => some (i * size, size)) arr us = some arr' ∧ arr'.size = arr.size ∧ (∀ j, j < k * size → arr'.getD j default = arr.getD j default) ∧
      ∀ i, i < ds.length → (ds.getD i default).ncells = size ∧ ∀ j, j < size → ((ds.getD i default).cell j).scalar = true ∧ RD w e.I ((ds.getD i default).cell j) (arr'.getD ((k + i) * size + j) default)
  | [], us, k, ds, arr, hl, _, hp, hsz => by
    simp at hl; subst hl
    simp [sliceParts] at hp; subst hp
    exact ⟨arr, rfl, rfl, fun _ _ => rfl, fun i hi => by simp at hi⟩
  | (i0, .d x) :: r, us, k, ds, arr, hl, hr, hp, hsz => by
    match us, hl with
    | (i', u) :: us', hl =>
      have h0 := hr 0 (by simp)
      simp at h0
      obtain ⟨hi, hu⟩ := h0
      subst hi
      simp only [sliceParts] at hp
      split at hp
      · rename_i hc
        obtain ⟨rfl, c2⟩ := hc
        split at hp
        · rename_i xs hf
          simp only [Option.map_eq_some_iff] at hp
          obtain ⟨ds', hd', rfl⟩ := hp
          obtain ⟨⟨f1, f2, f3⟩, f4⟩ := flat_spec hG hf hu
          obtain ⟨g1, g2⟩ := flat_cells hf
          have hxs : xs.length = size := by rw [← g1]; exact c2
          have hexp : (i' + (ds'.length + 1)) * size = i' * size + ds'.length * size + size := by rw [Nat.add_mul, Nat.add_mul, Nat.one_mul]; omega
          simp only [List.length_cons] at hsz
          rw [hexp] at hsz
          obtain ⟨s1, s2⟩ := foldset (i' * size) u.cells.toList 0 arr (by simp; omega)
          have hfold : u.cells.zipIdx.foldl (fun cs (p : Value × Nat) => cs.setIfInBounds (i' * size + p.2) p.1) arr = (u.cells.toList.zipIdx 0).foldl (fun cs (p : Value × Nat) => cs.setIfInBounds (i' * size + p.2) p.1) arr := by
            rw [← Array.foldl_toList, Array.toList_zipIdx]
          obtain ⟨arr', a1, a2, a3, a4⟩ := sliceParts_spec hG r us' (i' + 1) ds' ((u.cells.toList.zipIdx 0).foldl (fun cs (p : Value × Nat) => cs.setIfInBounds (i' * size + p.2) p.1) arr) (by simpa using hl)
            (fun j hj => by have := hr (j + 1) (by simp; omega); simpa using this) hd' (by rw [s1, ← hsz, Nat.add_mul, Nat.add_mul, Nat.one_mul]; omega)
          have hk1 : (i' + 1) * size = i' * size + size := by rw [Nat.add_mul, Nat.one_mul]
          refine ⟨arr', ?_, by rw [a2, s1], fun j hj => ?_, fun i hi => ?_⟩
          · simp only [Instr.fill]
            rw [if_neg (by simp only [Bool.or_eq_true, decide_eq_true_eq, ne_eq]; omega), hfold]
            exact a1
          · rw [a3 j (by omega), s2 j, if_neg (by omega)]
          · cases i with
            | zero =>
              simp only [List.getD_cons_zero, Nat.add_zero]
              refine ⟨c2, fun j hj => ?_⟩
              have e1 := g2 j (by omega)
              have e2 : PV.d (x.cell j) = xs.getD j .junk := e1
              refine ⟨?_, ?_⟩
              · have := f2 j (by omega); rw [← e2] at this; exact this
              · rw [a3 _ (by omega), s2, if_pos (by simp; omega)]
                have := f3 j (by omega); rw [← e2, arr_getD] at this
                have hz : i' * size + j - (i' * size + 0) = j := by omega
                rw [hz]; exact rv_d this
            | succ i =>
              simp only [List.length_cons] at hi
              have := a4 i (by omega)
              simp only [List.getD_cons_succ]
              rw [show i' + (i + 1) = i' + 1 + i from by omega]
              exact this
        · cases hp
      · cases hp

theorem st_buildSlice {t : TypeId} {len : Nat} {parts : Array (Nat × Operand)} {d : TD} {v : PV} (ho : o.op = .buildSlice t len parts) (hd : tyOf P t = some d)
    (hp : pbuildSlice P d len (parts.toList.map fun (p : Nat × Operand) => (p.1, a.eval p.2)) = some v) : PStep P B o a h v h := by
  intro e w act s ra
  obtain ⟨td, i, z, T⟩ := tyOf_spec hd
  unfold pbuildSlice at hp
  split at hp
  · rename_i et hk
    have := kind_slice T.k hk; subst this
    split at hp
    · rename_i de hde
      obtain ⟨td', i', z', T'⟩ := tyOf_spec hde
      split at hp
      · rename_i hc
        split at hp
        · rename_i ds hds
          split at hp
          · rename_i hlen
            injection hp with hp; subst hp
            obtain ⟨p1, p2⟩ := parts_rel ra parts
            let z0 : Array Value := if len * de.size = 0 then #[] else z'.cells
            obtain ⟨arr', a1, a2, a3, a4⟩ := sliceParts_spec s.sc _ _ 0 ds ((Array.range (len * de.size)).map (z0[· % z0.size]!)) p1 p2 hds (by simp [hlen])
            obtain ⟨s', hx⟩ := sim_newI s (.cells arr' et)
            refine ⟨_, _, .slice (some ⟨w.heap.size, 0, none⟩) len len, .inl ?_, s', ?_, hx⟩
            · unfold execOp; rw [ho]
              refine step_value ?_
              have hbig : ¬ len * de.size > 2 ^ 24 := by have := hc.2; omega
              simp only [Instr.buildSlice, Sem.run_bind, T.run_underlying, Result.andThen_ok, T'.run_sizeOf]
              rw [if_neg hbig]
              by_cases hz : len * de.size = 0
              · simp [z0, hz] at a1
                simp [hz, a1, newRow]
              · have hz' : z0 = z'.cells := by simp only [z0, hz, if_false]
                rw [hz'] at a1
                simp at a1
                simp [hz, T'.run_zeroValue, a1, newRow]
            · subst hlen
              refine .d _ _ ?_
              by_cases hnil : ds = []
              · subst hnil; exact .slnil _ _ _ (fun _ => rfl)
              · refine .sl ds true w.heap.size 0 ds.length de.size (fun i j => arr'.getD (i * de.size + j) default) (.inr rfl) ⟨Nat.le_refl _, by have := hc.2; have h1 := hc.1; have : ds.length * 1 ≤ ds.length * de.size := Nat.mul_le_mul_left _ h1; omega⟩ (fun _ => rfl) (fun i hi => (a4 i hi).1) (fun i j hi hj => ((a4 i hi).2 j hj).1) (fun i j hi hj => ?_) (fun i j hi hj => ?_)
                · have hle : (i + 1) * de.size ≤ ds.length * de.size := Nat.mul_le_mul_right _ hi
                  rw [Nat.add_mul, Nat.one_mul] at hle
                  rw [Nat.zero_add]
                  refine cell_of (E := et) (fr := (0, 0)) ?_ (by rw [a2]; simp; omega)
                  show (w.heap.push _)[w.heap.size]? = _; simp
                · have := ((a4 i hi).2 j hj).2
                  rw [Nat.zero_add] at this
                  exact this.mono (fun b hb => .inl hb) (fun b hb => hx.mem b hb)
          · cases hp
        · cases hp
      · cases hp
    · cases hp
  · cases hp

end
end Go.Proofs.YtgpbkphiipjjoaaGreatDoor.Pv
end

/- Operations over data, seventh part: slicing, append, make. -/
section
namespace Go.Proofs.YtgpbkphiipjjoaaGreatDoor.Pv
open Go
section
variable {P : Program} {B : Array Obj} {o : Oper} {a : PA} {h : List PObj}

/-- a bound of a slice expression; none: it isn't told -/
def pbound : Option PV → Option (Option Int)
  | none => some none
  | some (.d (.int _ i)) => some (some i)
  | _ => none

/-- x[lo:hi], x[lo:hi:mx] -/
def pslice (k : TK) (x : PV) (lo hi mx : Option PV) : Option (Prop × PV) :=
  match pbound lo, pbound hi, pbound mx with
  | some l, some r, some m =>
    match k with
    | .string => match x, m with
      | .d (.str s), none => some (0 ≤ l.getD 0 ∧ l.getD 0 ≤ r.getD s.length ∧ r.getD s.length ≤ s.length, .d (.str ((s.take (r.getD s.length).toNat).drop (l.getD 0).toNat)))
      | _, _ => none
    | .slice _ => match x with
      | .d (.sl es _) => match m with
        | none => some (0 ≤ l.getD 0 ∧ l.getD 0 ≤ r.getD es.length ∧ r.getD es.length ≤ es.length, .d (.sl ((es.take (r.getD es.length).toNat).drop (l.getD 0).toNat) false))
        | some mm => some (0 ≤ l.getD 0 ∧ l.getD 0 ≤ mm ∧ r = some mm ∧ mm ≤ es.length, .d (.sl ((es.take mm.toNat).drop (l.getD 0).toNat) true))
      | _ => none
    | _ => none
  | _, _, _ => none

def BoundIs : Option Value → Option Int → Prop
  | none, none => True
  | some v, some i => ∃ k, v = .int k i
  | _, _ => False

theorem pbound_spec {w : World} {e : Env} {act : Act} (ra : RA w e a act) {b : Option Operand} {r : Option Int} (h : pbound (b.map a.eval) = some r) : BoundIs (b.map act.eval) r := by
  cases b with
  | none => simp [pbound] at h; subst h; trivial
  | some x =>
    have hv := ra.eval x
    simp only [Option.map_some] at h ⊢
    unfold pbound at h
    split at h
    · rename_i hh; cases hh
    · rename_i k i hh
      injection hh with hh
      injection h with h; subst h
      rw [hh] at hv
      generalize act.eval x = ax at hv
      cases rv_d hv with
      | int _ _ => exact ⟨_, rfl⟩
    · cases h

theorem run_bounds {w : World} {isS : Bool} {len cap : Nat} {low high : Option Value} {l r : Option Int}
    (hl : BoundIs low l) (hr : BoundIs high r)
    (h0 : 0 ≤ l.getD 0) (h1 : l.getD 0 ≤ r.getD len) (h2 : r.getD len ≤ cap) :
    (Instr.sliceBounds isS len cap low high none).run P w = .ok ((l.getD 0).toNat, (r.getD len).toNat, cap) w := by
  cases low with
  | none => cases l with
    | some _ => exact hl.elim
    | none => cases high with
      | none => cases r with
        | some _ => exact hr.elim
        | none => simp [Instr.sliceBounds]
      | some v => cases r with
        | none => exact hr.elim
        | some i =>
          obtain ⟨k, rfl⟩ := hr
          simp at h1 h2
          simp [Instr.sliceBounds, Instr.sliceBound, asIntOf, h1, h2]
  | some u => cases l with
    | none => exact hl.elim
    | some j =>
      obtain ⟨k', rfl⟩ := hl
      simp at h0
      cases high with
      | none => cases r with
        | some _ => exact hr.elim
        | none =>
          simp at h1
          simp [Instr.sliceBounds, Instr.sliceBound, asIntOf, h0, h1]
      | some v => cases r with
        | none => exact hr.elim
        | some i =>
          obtain ⟨k, rfl⟩ := hr
          simp at h1 h2
          have h3 : 0 ≤ i := by omega
          have h4 : j ≤ max i 0 := by omega
          simp [Instr.sliceBounds, Instr.sliceBound, asIntOf, h0, h2, h3, h4]

theorem run_bounds3 {w : World} {len cap : Nat} {low : Option Value} {k k' : IntKind} {mm : Int} {l : Option Int}
    (hl : BoundIs low l)
    (h0 : 0 ≤ l.getD 0) (h1 : l.getD 0 ≤ mm) (h2 : mm ≤ cap) :
    (Instr.sliceBounds true len cap low (some (.int k mm)) (some (.int k' mm))).run P w = .ok ((l.getD 0).toNat, mm.toNat, mm.toNat) w := by
  have h3 : 0 ≤ mm := by omega
  cases low with
  | none => cases l with
    | some _ => exact hl.elim
    | none => simp [Instr.sliceBounds, Instr.sliceBound, asIntOf, h2, h3]; omega
  | some u => cases l with
    | none => exact hl.elim
    | some j =>
      obtain ⟨k2, rfl⟩ := hl
      simp at h0 h1
      have h4 : j ≤ max mm 0 := by omega
      have h5 : mm ≤ max mm 0 := by omega
      simp [Instr.sliceBounds, Instr.sliceBound, asIntOf, h0, h2, h3, h4, h5]

theorem getD_slice {es : List D} {l r i : Nat} (hi : i < ((es.take r).drop l).length) : ((es.take r).drop l).getD i default = es.getD (l + i) default := by
  simp only [List.length_drop, List.length_take] at hi
  simp [List.getD_eq_getElem?_getD, List.getElem?_drop, show l + i < r from by omega]

theorem rd_slice {w : World} {I : Nat → Prop} {es : List D} {cl : Bool} {p : Option Addr} {n cap : Nat} (h : RD w I (.sl es cl) (.slice p n cap)) {l r m sz : Nat} (hlr : l ≤ r) (hr : r ≤ es.length) (hrm : r ≤ m) (_hm : m ≤ cap)
    (hsz : ∀ i, i < es.length → (es.getD i default).ncells = sz) (cl' : Bool) (hcl : cl' = true → m = r) :
    RD w I (.sl ((es.take r).drop l) cl') (.slice (if m = l then p else p.map (·.add (l * sz))) (r - l) (m - l)) := by
  have hlen : ((es.take r).drop l).length = r - l := by simp; omega
  by_cases hnil : r - l = 0
  · have : (es.take r).drop l = [] := List.eq_nil_of_length_eq_zero (by omega)
    rw [this, hnil]
    exact .slnil _ _ _ (fun hc => by have := hcl hc; omega)
  · cases h with
    | slnil p cap clip hc => simp at hr; omega
    | sl _ _ b off cap sz' u hb h1 h2 h3 h4 h5 h6 =>
      have hss : sz' = sz := (h3 l (by omega)).symm.trans (hsz l (by omega))
      subst hss
      rw [if_neg (by omega)]
      simp only [Option.map_some, Addr.add_lit]
      have := RD.sl (w := w) (I := I) ((es.take r).drop l) cl' b (off + l * sz') (m - l) sz' (fun i j => u (l + i) j) hb (by omega) (fun hc => by have := hcl hc; omega)
        (fun i hi => by rw [getD_slice hi]; exact h3 _ (by omega)) (fun i j hi hj => by rw [getD_slice hi]; exact h4 _ j (by omega) hj)
        (fun i j hi hj => by
          have e1 : off + l * sz' + i * sz' + j = off + (l + i) * sz' + j := by rw [Nat.add_mul]; omega
          rw [e1]; exact h5 _ j (by omega) hj)
        (fun i j hi hj => by rw [getD_slice hi]; exact h6 _ j (by omega) hj)
      rw [hlen] at this
      exact this

theorem st_slice {t : TypeId} {x : Operand} {lo hi mx : Option Operand} {d : TD} {c : Prop} {v : PV} (ho : o.op = .slice t x lo hi mx) (hd : tyOf P t = some d)
    (hsz : ∀ et es cl, d.k = .slice et → a.eval x = .d (.sl es cl) → ∃ de, tyOf P et = some de ∧ ∀ i, i < es.length → (es.getD i default).ncells = de.size)
    (hp : pslice d.k (a.eval x) (lo.map a.eval) (hi.map a.eval) (mx.map a.eval) = some (c, v)) (hc : c) : PStep P B o a h v h := by
  refine pstep_of fun e w act s ra => ?_
  obtain ⟨td, i, z, T⟩ := tyOf_spec hd
  have hv := ra.eval x
  suffices hh : ∃ u, (Instr.sliceAt t (act.eval x) (lo.map act.eval) (hi.map act.eval) (mx.map act.eval)).run P w = .ok u w ∧ RV w e v u by
    obtain ⟨u, h1, h2⟩ := hh
    exact ⟨u, by unfold execOp; rw [ho]; exact step_value h1, h2⟩
  generalize act.eval x = ax at hv ⊢
  generalize a.eval x = px at hv hp hsz
  unfold pslice at hp
  split at hp
  · rename_i l r m hl hr hm
    have bl := pbound_spec ra hl
    have br := pbound_spec ra hr
    have bm := pbound_spec ra hm
    generalize lo.map act.eval = vlo at bl ⊢
    generalize hi.map act.eval = vhi at br ⊢
    generalize mx.map act.eval = vmx at bm ⊢
    split at hp
    · rename_i hk
      have := kind_string T.k hk; subst this
      split at hp
      · rename_i st
        simp only [Option.some.injEq, Prod.mk.injEq] at hp
        obtain ⟨hcc, rfl⟩ := hp
        rw [← hcc] at hc
        obtain ⟨c1, c2, c3⟩ := hc
        cases vmx with
        | some _ => exact bm.elim
        | none =>
          cases rv_d hv with
          | str _ sb hs hlim =>
            have hsize := str_size hs
            have hb := run_bounds (P := P) (w := w) (isS := false) (len := sb.size) (cap := sb.size) bl br c1 (by rw [hsize]; exact c2) (by rw [hsize]; exact c3)
            refine ⟨_, by simp [Instr.sliceAt, Instr.slice, T.run_underlying, hb]; rfl, .d _ _ (.str _ _ ?_ (by simp only [List.length_drop, List.length_take]; omega))⟩
            rw [hsize] at *
            subst hs
            simp [ByteArray.data_extract, Array.toList_extract, List.extract_eq_drop_take']
      · cases hp
    · rename_i et hk
      have := kind_slice T.k hk; subst this
      split at hp
      · rename_i es cl
        obtain ⟨de, hde, hsz⟩ := hsz et es cl hk rfl
        obtain ⟨td', i', z', T'⟩ := tyOf_spec hde
        have hlen : ∃ p cap, ax = .slice p es.length cap ∧ es.length ≤ cap := by
          cases rv_d hv with
          | slnil p cap clip hc => exact ⟨p, cap, rfl, Nat.zero_le _⟩
          | sl _ _ b off cap sz u hb h1 => exact ⟨_, cap, rfl, h1.1⟩
        obtain ⟨p, cap, rfl, hcap⟩ := hlen
        split at hp
        · simp only [Option.some.injEq, Prod.mk.injEq] at hp
          obtain ⟨hcc, rfl⟩ := hp
          rw [← hcc] at hc
          obtain ⟨c1, c2, c3⟩ := hc
          cases vmx with
          | some _ => exact bm.elim
          | none =>
            have hb := run_bounds (P := P) (w := w) (isS := true) (len := es.length) (cap := cap) bl br c1 c2 (by omega)
            refine ⟨_, by simp [Instr.sliceAt, Instr.slice, T.run_underlying, hb, T'.run_sizeOf]; rfl, .d _ _ ?_⟩
            exact rd_slice (rv_d hv) (by omega) (by omega) (by omega) (Nat.le_refl _) hsz false (fun h => by cases h)
        · rename_i mm
          simp only [Option.some.injEq, Prod.mk.injEq] at hp
          obtain ⟨hcc, rfl⟩ := hp
          rw [← hcc] at hc
          obtain ⟨c1, c2, c3, c4⟩ := hc
          subst c3
          cases vmx with
          | none => exact bm.elim
          | some vm =>
            cases vhi with
            | none => exact br.elim
            | some vh =>
              obtain ⟨k1, rfl⟩ := bm
              obtain ⟨k2, rfl⟩ := br
              have hb := run_bounds3 (P := P) (w := w) (len := es.length) (cap := cap) (k := k2) (k' := k1) bl c1 c2 (by omega)
              refine ⟨_, by simp [Instr.sliceAt, Instr.slice, T.run_underlying, hb, T'.run_sizeOf]; rfl, .d _ _ ?_⟩
              exact rd_slice (rv_d hv) (by omega) (by omega) (Nat.le_refl _) (by omega) hsz true (fun _ => rfl)
      · cases hp
    · cases hp
  · cases hp

end
end Go.Proofs.YtgpbkphiipjjoaaGreatDoor.Pv
end

/- Operations over data, eighth part: append, make. -/
section
namespace Go.Proofs.YtgpbkphiipjjoaaGreatDoor.Pv
open Go

/-- a row's elements, told by the values of its cells -/
def RowVals (w : World) (e : Env) (sz : Nat) (es : List PV) (xs : List Value) : Prop :=
  xs.length = es.length * sz ∧ (∀ i, i < es.length → (es.getD i .junk).ncells = sz) ∧
  (∀ i j, i < es.length → j < sz → ((es.getD i .junk).cell j).scalar = true) ∧
  (∀ i j, i < es.length → j < sz → RV w e ((es.getD i .junk).cell j) (xs.getD (i * sz + j) default))

theorem idx_lt {i j n sz : Nat} (hi : i < n) (hj : j < sz) : i * sz + j < n * sz := by
  have : (i + 1) * sz ≤ n * sz := Nat.mul_le_mul_right _ hi
  rw [Nat.add_mul, Nat.one_mul] at this; omega

theorem idx_div {i j sz : Nat} (hj : j < sz) : (i * sz + j) / sz = i ∧ (i * sz + j) % sz = j := by
  have h0 : 0 < sz := by omega
  constructor
  · rw [Nat.mul_comm, Nat.mul_add_div h0, Nat.div_eq_of_lt hj]; omega
  · rw [Nat.mul_comm, Nat.mul_add_mod, Nat.mod_eq_of_lt hj]

theorem getD_app {α : Type} {l m : List α} {i : Nat} {x : α} : (l ++ m).getD i x = if i < l.length then l.getD i x else m.getD (i - l.length) x := by
  simp only [List.getD_eq_getElem?_getD, List.getElem?_append]
  split <;> rfl

theorem RowVals.append {w : World} {e : Env} {sz : Nat} {es fs : List PV} {xs ys : List Value} (h : RowVals w e sz es xs) (k : RowVals w e sz fs ys) : RowVals w e sz (es ++ fs) (xs ++ ys) := by
  obtain ⟨h1, h2, h3, h4⟩ := h
  obtain ⟨k1, k2, k3, k4⟩ := k
  refine ⟨by simp [h1, k1, Nat.add_mul], fun i hi => ?_, fun i j hi hj => ?_, fun i j hi hj => ?_⟩
  · rw [getD_app]
    split
    · exact h2 i ‹_›
    · exact k2 _ (by simp at hi; omega)
  · rw [getD_app]
    split
    · exact h3 i j ‹_› hj
    · exact k3 _ j (by simp at hi; omega) hj
  · rw [getD_app, getD_app]
    by_cases hl : i < es.length
    · have := idx_lt hl hj
      rw [if_pos hl, if_pos (by omega)]
      exact h4 i j hl hj
    · have hle : es.length * sz ≤ i * sz := Nat.mul_le_mul_right _ (by omega)
      rw [if_neg hl, if_neg (by omega)]
      have := k4 (i - es.length) j (by simp at hi; omega) hj
      have e1 : i * sz + j - xs.length = (i - es.length) * sz + j := by rw [h1, Nat.sub_mul]; omega
      rw [e1]; exact this

theorem RowVals.mono {w w' : World} {e e' : Env} {sz : Nat} {es : List PV} {xs : List Value} (h : RowVals w e sz es xs) (hr : ∀ p v, RV w e p v → RV w' e' p v) : RowVals w' e' sz es xs :=
  ⟨h.1, h.2.1, h.2.2.1, fun i j hi hj => hr _ _ (h.2.2.2 i j hi hj)⟩

theorem RowVals.scalar {w : World} {e : Env} {sz : Nat} {es : List PV} {xs : List Value} (hG : ∀ id n v, id < e.n → e.G id n = some v → scalarV v = true) (h : RowVals w e sz es xs) (h0 : sz ≠ 0) : ∀ u, u ∈ xs → scalarV u = true := by
  intro u hu
  obtain ⟨k, hk, rfl⟩ := List.mem_iff_getElem.1 hu
  have hk' : k < es.length * sz := by rw [← h.1]; exact hk
  have hi : k / sz < es.length := Nat.div_lt_of_lt_mul (by rw [Nat.mul_comm]; exact hk')
  have hj : k % sz < sz := Nat.mod_lt _ (by omega)
  have hr := h.2.2.2 _ _ hi hj
  have e1 : k / sz * sz + k % sz = k := by rw [Nat.mul_comm]; exact Nat.div_add_mod k sz
  have e2 : xs.getD k default = xs[k] := by simp [List.getD_eq_getElem?_getD, hk]
  rw [e1, e2] at hr
  exact RV.scalarV hG hr (h.2.2.1 _ _ hi hj)

/-- a row of the code's own, told so -/
theorem RowVals.of_row {w : World} {e : Env} {sz : Nat} {es : List PV} {arr : Array Value} (h : RowIs w e sz es arr) : RowVals w e sz es (arr.toList.take (es.length * sz)) := by
  obtain ⟨h1, h2, h3, h4⟩ := h
  refine ⟨by simp; omega, h2, h3, fun i j hi hj => ?_⟩
  have := idx_lt hi hj
  have hr := h4 i j hi hj
  rw [arr_getD] at hr
  simpa [List.getD_eq_getElem?_getD, this] using hr

theorem RowIs.of_vals {w : World} {e : Env} {sz : Nat} {es : List PV} {xs : List Value} {arr : Array Value} (h : RowVals w e sz es xs) (hle : es.length * sz ≤ arr.size) (ht : arr.toList.take (es.length * sz) = xs) : RowIs w e sz es arr := by
  obtain ⟨h1, h2, h3, h4⟩ := h
  refine ⟨hle, h2, h3, fun i j hi hj => ?_⟩
  have := idx_lt hi hj
  have hr := h4 i j hi hj
  rw [arr_getD]
  rw [← ht] at hr
  simpa [List.getD_eq_getElem?_getD, this] using hr

theorem rowvals_sl {w : World} {e : Env} {es : List D} {cl : Bool} {p : Option Addr} {n cap sz : Nat} (h : RD w e.I (.sl es cl) (.slice p n cap)) (hsz : ∀ i, i < es.length → (es.getD i default).ncells = sz) (hne : 0 < es.length) :
    ∃ ad xs, p = some ad ∧ RowVals w e sz (es.map .d) xs ∧ (∀ j u, xs[j]? = some u → w.cell? (ad.add j) = some u) ∧ n = es.length ∧ (cl = true → cap = es.length) := by
  cases h with
  | slnil p cap clip hc => simp at hne
  | sl _ _ b off cap sz' u hb h1 h2 h3 h4 h5 h6 =>
    have hss : sz' = sz := (h3 0 hne).symm.trans (hsz 0 hne)
    subst hss
    refine ⟨⟨b, off, none⟩, (List.range (es.length * sz')).map (fun k => u (k / sz') (k % sz')), rfl, ⟨by simp, fun i hi => ?_, fun i j hi hj => ?_, fun i j hi hj => ?_⟩, fun j v hv => ?_, rfl, h2⟩
    · rw [getD_map_d (by simpa using hi)]; exact h3 i (by simpa using hi)
    · rw [getD_map_d (by simpa using hi)]; exact h4 i j (by simpa using hi) hj
    · simp only [List.length_map] at hi
      rw [getD_map_d hi]
      have hlt := idx_lt hi hj
      have e1 : ((List.range (es.length * sz')).map (fun k => u (k / sz') (k % sz'))).getD (i * sz' + j) default = u i j := by
        simp [List.getD_eq_getElem?_getD, hlt, (idx_div hj).1, (idx_div hj).2]
      rw [e1]; exact .d _ _ (h6 i j hi hj)
    · simp only [List.getElem?_map, Option.map_eq_some_iff] at hv
      obtain ⟨k, hk, rfl⟩ := hv
      obtain ⟨hk1, hk2⟩ := List.getElem?_eq_some_iff.1 hk
      simp at hk1 hk2
      subst hk2
      have h0 : 0 < sz' := by
        rcases Nat.eq_zero_or_pos sz' with e | e
        · rw [e] at hk1; omega
        · exact e
      rw [Addr.add_lit]
      have hdm : j / sz' * sz' + j % sz' = j := by rw [Nat.mul_comm]; exact Nat.div_add_mod j sz'
      have := h5 (j / sz') (j % sz') (Nat.div_lt_of_lt_mul (by rw [Nat.mul_comm]; exact hk1)) (Nat.mod_lt _ h0)
      rw [Nat.add_assoc, hdm] at this
      exact this

section
variable {P : Program} {B : Array Obj} {o : Oper} {a : PA} {h : List PObj}

theorem sim_drew {e : Env} {w : World} (s : Sim B e h w) : Sim B e h w.drew ∧ Ext e.n e w e w.drew := by
  have hx : Ext e.n e w e w.drew := ⟨fun _ h => h, fun _ _ => rfl, fun _ _ _ _ h => h, Nat.le_refl _, Nat.le_refl _, rfl, rfl, rfl⟩
  exact ⟨⟨s.n, s.base, s.im, s.sc, fun id o' ho => (s.obj id o' ho).keep (fun _ => rfl) (fun _ _ h => h) (fun _ h => ⟨h, rfl⟩) (fun _ _ => rfl) (fun p v r => r.ext hx), s.ne⟩, hx⟩

/-- a new row in a new block -/
theorem new_row {e : Env} {w : World} (s : Sim B e h w) {E sz cap : Nat} {es : List PV} {xs : List Value} {arr : Array Value} (h0 : sz ≠ 0) (hv : RowVals w e sz es xs) (hle : es.length ≤ cap) (hm : cap ≤ maxLen) (hsz : arr.size = cap * sz)
    (ht : arr.toList.take (es.length * sz) = xs) :
    Sim B (e.new es.length (.slice (some ⟨w.heap.size, 0, none⟩) es.length cap)) (h ++ [.row E sz es]) (w.alloc (.cells arr E)) ∧
    RV (w.alloc (.cells arr E)) (e.new es.length (.slice (some ⟨w.heap.size, 0, none⟩) es.length cap)) (.row h.length es.length) (.slice (some ⟨w.heap.size, 0, none⟩) es.length cap) ∧
    Ext e.n e w (e.new es.length (.slice (some ⟨w.heap.size, 0, none⟩) es.length cap)) (w.alloc (.cells arr E)) := by
  have hx := ext_new s es.length (.slice (some ⟨w.heap.size, 0, none⟩) es.length cap) (.cells arr E)
  have hle' : es.length * sz ≤ arr.size := by rw [hsz]; exact Nat.mul_le_mul_right _ hle
  refine ⟨sim_new (o := .row E sz es) s rfl ?_ (fun b hb => by simp [blockOf] at hb; exact hb.symm), ?_, hx⟩
  · refine ⟨h0, .slice (some ⟨w.heap.size, 0, none⟩) es.length cap, by simp [Env.new, PObj.ver], fun m hm => by simp only [Env.new, if_true]; rw [if_neg (by simp only [PObj.ver]; omega)], .inr ⟨w.heap.size, cap, arr, rfl, fun hI => ?_, ?_, hsz, ⟨hle, hm⟩, RowIs.of_vals (hv.mono (fun p v r => r.ext hx)) hle' ht⟩⟩
    · have := s.im _ hI; omega
    · show (w.heap.push _)[w.heap.size]? = _; simp
  · exact .row _ _ _ (by simp [Env.new, s.n]) (by simp [Env.new, s.n])

/-- append to a slice without room: a new row -/
def pappendNew (P : Program) (d : TD) (x y : PV) : Option (Prop × TypeId × Nat × List PV) :=
  match d.k with
  | .slice et => match tyOf P et with
    | some de => match x, y with
      | .d (.sl es true), .d (.sl fs _) => some (0 < fs.length ∧ 0 < de.size ∧ 0 < de.bytes ∧ (∀ i, i < es.length → (es.getD i default).ncells = de.size) ∧ (∀ i, i < fs.length → (fs.getD i default).ncells = de.size) ∧
          (es.length + fs.length) * de.bytes ≤ 140737488355328, et, de.size, es.map .d ++ fs.map .d)
      | _, _ => none
    | none => none
  | _ => none

theorem bound_of {n b : Nat} (hb : 0 < b) (h : n * b ≤ 140737488355328) : n ≤ 140737488355328 :=
  Nat.le_trans (Nat.le_mul_of_pos_right n hb) h

theorem st_appendNew {x y : Operand} {t : TypeId} {d : TD} {c : Prop} {E sz : Nat} {es : List PV} (ho : o.op = .call { callee := .builtin .append, args := #[x, y], argTypes := #[t, t] }) (hd : tyOf P t = some d)
    (hp : pappendNew P d (a.eval x) (a.eval y) = some (c, E, sz, es)) (hc : c) : PStep P B o a h (.row h.length es.length) (h ++ [.row E sz es]) := by
  intro e w act s ra
  obtain ⟨td, i, z, T⟩ := tyOf_spec hd
  have hx := ra.eval x
  have hy := ra.eval y
  obtain ⟨cs, hb⟩ := run_builtin (act := act) ho
  suffices hh : ∃ e' w' v', (Builtin.append_ #[t, t] o.type #[act.eval x, act.eval y]).run P w = .ok v' w' ∧ Sim B e' (h ++ [.row E sz es]) w' ∧ RV w' e' (.row h.length es.length) v' ∧ Ext e.n e w e' w' by
    obtain ⟨e', w', v', h1, h2, h3, h4⟩ := hh
    exact ⟨e', w', v', .inl (by rw [hb]; simp only [List.map_toArray, List.map_cons, List.map_nil, builtin]; exact step_value h1), h2, h3, h4⟩
  generalize act.eval x = ax at hx ⊢
  generalize act.eval y = ay at hy ⊢
  generalize a.eval x = px at hx hp
  generalize a.eval y = py at hy hp
  unfold pappendNew at hp
  split at hp
  · rename_i et hk
    have := kind_slice T.k hk; subst this
    split at hp
    · rename_i de hde
      obtain ⟨td', i', z', T'⟩ := tyOf_spec hde
      split at hp
      · rename_i es0 fs cl
        simp only [Option.some.injEq, Prod.mk.injEq] at hp
        obtain ⟨hcc, rfl, rfl, rfl⟩ := hp
        rw [← hcc] at hc
        obtain ⟨c0, c1, c2, c3, c4, c5⟩ := hc
        have hlen : (es0.map PV.d ++ fs.map PV.d).length = es0.length + fs.length := by simp
        have hbd := bound_of c2 c5
        obtain ⟨q, cq, rfl⟩ := sl_form (rv_d hy)
        obtain ⟨ad, ys, rfl, v2, y2, _, _⟩ := rowvals_sl (rv_d hy) c4 c0
        obtain ⟨sd, hxd⟩ := sim_drew s
        have fin : ∀ (old : Nat) (xs : List Value), RowVals w e de.size (es0.map .d) xs →
            ∃ e' w' v', (Result.ok (Value.slice (some ⟨w.heap.size, 0, none⟩) (es0.length + fs.length) (grownCap w (es0.length + fs.length) old et))
              (w.drew.alloc (.cells (xs.toArray ++ ys.toArray ++ Builtin.zeroCells z'.cells (grownCap w (es0.length + fs.length) old et - (es0.length + fs.length))) et)) : Result Value) = .ok v' w' ∧
              Sim B e' (h ++ [.row et de.size (es0.map .d ++ fs.map .d)]) w' ∧ RV w' e' (.row h.length (es0.map PV.d ++ fs.map PV.d).length) v' ∧ Ext e.n e w e' w' := by
          intro old xs v1
          have v12 := v1.append v2
          have hge := grownCap_ge w (es0.length + fs.length) old et
          have hle := grownCap_le_maxLen w (es0.length + fs.length) old et (by simp only [maxLen]; omega)
          have hxl : (xs ++ ys).length = (es0.length + fs.length) * de.size := by rw [v12.1, hlen]
          obtain ⟨s1, r1, x1⟩ := new_row (E := et) (cap := grownCap w (es0.length + fs.length) old et) (arr := xs.toArray ++ ys.toArray ++ Builtin.zeroCells z'.cells (grownCap w (es0.length + fs.length) old et - (es0.length + fs.length)))
            sd (by omega) (v12.mono (fun p v r => r.ext hxd)) (by rw [hlen]; exact hge) hle
            (by simp only [Array.size_append, List.size_toArray, size_zeroCells, T'.len]
                rw [← List.length_append, hxl, ← Nat.add_mul]; congr 1; omega)
            (by simp only [Array.toList_append, List.append_assoc]
                rw [← List.append_assoc, hlen, ← hxl]; exact List.take_left)
          rw [hlen] at s1 r1 x1
          exact ⟨_, _, _, rfl, s1, by rw [hlen]; exact r1, hxd.trans x1 (Nat.le_refl _)⟩
        by_cases hnil : es0 = []
        · subst hnil
          have vn : RowVals w e de.size (([] : List D).map PV.d) [] := ⟨by simp, fun i hi => by simp at hi, fun i j hi => by simp at hi, fun i j hi => by simp at hi⟩
          obtain ⟨p, cp, rfl⟩ := sl_form (rv_d hx)
          have hcap : cp = 0 := by
            cases rv_d hx with
            | slnil _ _ _ hcl => exact hcl rfl
            | sl _ _ b off cap sz u _ _ hcl => have := hcl rfl; simpa using this
          subst hcap
          have hl : ys.length = fs.length * i'.size := by rw [v2.1, T'.size]; simp
          have h0 := fin 0 [] vn
          simp only [List.length_nil, Nat.zero_add, Array.empty_append] at h0 c5 hbd
          cases p with
          | none =>
            have hr := run_append_nil (P := P) w t o.type et i' z' T.und T'.info T'.zero ad fs.length cq ys hl y2 c0 (by omega) (by rw [T'.bytes]; omega)
            simp only [List.length_nil]
            rw [hr]
            exact h0
          | some ap =>
            have hr := run_append_grow (P := P) w t o.type et i' z' T.und T'.info T'.zero ap 0 0 [] (by simp) (fun j v hv => by simp at hv) ad fs.length cq ys hl y2 (by omega) (by omega)
              (growslice_fits (by omega) (by rw [T'.bytes]; simpa using c5))
            simp only [List.length_nil]
            simp only [Nat.zero_add, Array.empty_append] at hr
            rw [hr]
            exact h0
        · have hpos : 0 < es0.length := by cases es0 with
            | nil => exact absurd rfl hnil
            | cons => simp
          obtain ⟨p, cp, rfl⟩ := sl_form (rv_d hx)
          obtain ⟨ap, xs, rfl, v1, y1, _, hcl⟩ := rowvals_sl (rv_d hx) c3 hpos
          have hcap := hcl rfl
          subst hcap
          have hl : ys.length = fs.length * i'.size := by rw [v2.1, T'.size]; simp
          have hlo : xs.length = es0.length * i'.size := by rw [v1.1, T'.size]; simp
          have hr := run_append_grow (P := P) w t o.type et i' z' T.und T'.info T'.zero ap es0.length es0.length xs hlo y1 ad fs.length cq ys hl y2 (by omega) (by omega)
            (growslice_fits (by omega) (by rw [T'.bytes]; omega))
          rw [hr]
          exact fin es0.length xs v1
      · cases hp
    · cases hp
  · cases hp

/-- append of nothing to nothing -/
theorem run_append_zero {w : World} (t ty e : TypeId) (i : TypeInfo) (ht : P.underlying t = some (.slice e)) (hi : P.info? e = some i) (p q : Option Addr) (n cap cq : Nat) (hn : n ≤ cap) :
    (Builtin.append_ #[t, t] ty #[.slice p n cap, .slice q 0 cq]).run P w = .ok (.slice p n cap) w := by
  have hq : (Builtin.firstCells i.size 0 (.slice q 0 cq)).run P w = .ok #[] w := by
    cases q with
    | none => rfl
    | some a => exact run_firstCells_some (P := P) w i.size 0 a 0 cq [] (by simp) (fun j v hv => by simp at hv)
  cases p with
  | none => simp [Builtin.append_, run_underlying ht, sizeOf, typeInfo, hi, Builtin.lenOf, hn, hq]
  | some a => simp [Builtin.append_, run_underlying ht, sizeOf, typeInfo, hi, Builtin.lenOf, hn, hq, storeCells]

def isE : List D → Bool
  | [] => true
  | _ :: _ => false
theorem isE_nil : isE [] = true := rfl
theorem isE_cons (x : D) (l : List D) : isE (x :: l) = false := rfl
theorem isE_iff (l : List D) : isE l = true ↔ l = [] := by cases l <;> simp [isE]
def isE2 (x y : PV) : Bool :=
  match x, y with
  | .d (.sl es true), .d (.sl fs _) => match isE fs with
    | false => false
    | true => isE es
  | _, _ => false

theorem st_appendNone {x y : Operand} {t : TypeId} {d : TD} {et : TypeId} (ho : o.op = .call { callee := .builtin .append, args := #[x, y], argTypes := #[t, t] }) (hd : tyOf P t = some d) {de : TD} (hk : d.k = .slice et) (hde : tyOf P et = some de)
    (hp : isE2 (a.eval x) (a.eval y) = true) : PStep P B o a h (a.eval x) h := by
  intro e w act s ra
  obtain ⟨td, i, z, T⟩ := tyOf_spec hd
  have hx := ra.eval x
  have hy := ra.eval y
  obtain ⟨cs, hb⟩ := run_builtin (act := act) ho
  suffices hh : (Builtin.append_ #[t, t] o.type #[act.eval x, act.eval y]).run P w = .ok (act.eval x) w by
    exact ⟨e, w, act.eval x, .inl (by rw [hb]; simp only [List.map_toArray, List.map_cons, List.map_nil, builtin]; exact step_value hh), s, hx, Ext.refl (Nat.le_refl _) _⟩
  generalize act.eval x = ax at hx ⊢
  generalize act.eval y = ay at hy ⊢
  generalize a.eval x = px at hx hp
  generalize a.eval y = py at hy hp
  have := kind_slice T.k hk; subst this
  obtain ⟨td', i', z', T'⟩ := tyOf_spec hde
  unfold isE2 at hp
  split at hp
  · rename_i es fs cl
    split at hp
    · cases hp
    · rename_i hf
      rw [isE_iff] at hf hp
      subst hf
      subst hp
      obtain ⟨p, cp, rfl⟩ := sl_form (rv_d hx)
      obtain ⟨q, cq, rfl⟩ := sl_form (rv_d hy)
      exact run_append_zero t o.type et i' T.und T'.info p q _ cp cq (by simp)
  · cases hp

end
end Go.Proofs.YtgpbkphiipjjoaaGreatDoor.Pv
end

/- Operations over data, ninth part: append to a row of the code's own; make. -/
section
namespace Go.Proofs.YtgpbkphiipjjoaaGreatDoor.Pv
open Go
section
variable {P : Program} {B : Array Obj} {o : Oper} {a : PA} {h : List PObj}

def Env.grow (e : Env) (id n : Nat) (v : Value) : Env := { e with G := fun i k => if i = id ∧ k = n then some v else e.G i k }

theorem sim_grow {e : Env} {w w1 : World} (s : Sim B e h w) {id : Nat} {E sz : Nat} {es es' : List PV} {v1 : Value} (ho : h[id]? = some (.row E sz es)) (hlt : es.length < es'.length) (hsv : scalarV v1 = true)
    (hmem : ∀ b, b < w.heap.size → ¬ lies e id (.row E sz es) b → w1.heap[b]? = w.heap[b]?) (hsz : w.heap.size ≤ w1.heap.size) (hos : w1.os = w.os) (htp : w1.tape = w.tape) (hout : w1.output = w.output)
    (hb1 : ∀ b, blockOf v1 = some b → lies e id (.row E sz es) b ∨ w.heap.size ≤ b)
    (hr : Ext e.n e w (e.grow id es'.length v1) w1 → RObj w1 (e.grow id es'.length v1) id (.row E sz es')) :
    Sim B (e.grow id es'.length v1) (h.set id (.row E sz es')) w1 ∧ RV w1 (e.grow id es'.length v1) (.row id es'.length) v1 ∧ Ext e.n e w (e.grow id es'.length v1) w1 := by
  have hid : id < h.length := (List.getElem?_eq_some_iff.1 ho).1
  obtain ⟨g0, v0, g1, g2, g3⟩ := s.obj id _ ho
  have hI : ∀ b, e.I b → w1.heap[b]? = w.heap[b]? := fun b hb => hmem b (s.im b hb) (fun l => ((s.obj id _ ho).lt l).2 hb)
  have hGG : ∀ i k u, i < e.n → e.G i k = some u → (e.grow id es'.length v1).G i k = some u := fun i k u hi hu => by
    simp only [Env.grow]
    rw [if_neg]
    · exact hu
    · rintro ⟨rfl, rfl⟩
      rw [g2 _ hlt] at hu; cases hu
  have hx : Ext e.n e w (e.grow id es'.length v1) w1 := ⟨fun _ h => h, hI, hGG, Nat.le_refl _, hsz, hos, htp, hout⟩
  have get : ∀ (k : Nat) (x : PObj), (h.set id (.row E sz es'))[k]? = some x → (k = id ∧ x = .row E sz es') ∨ (k ≠ id ∧ h[k]? = some x) := fun k x hk => by
    rw [List.getElem?_set] at hk
    split at hk
    · rename_i hik
      subst hik
      injection hk with hk
      exact .inl ⟨rfl, hk.symm⟩
    · rename_i hik; exact .inr ⟨fun e => hik e.symm, hk⟩
  have old : ∀ (k : Nat), k ≠ id → ∀ n, (e.grow id es'.length v1).G k n = e.G k n := fun k hk n => by
    simp only [Env.grow]; rw [if_neg (fun h => hk h.1)]
  refine ⟨⟨by show e.n = _; rw [s.n]; simp, fun b hb => ⟨(s.base b hb).1, by rw [hI b (s.base b hb).1]; exact (s.base b hb).2⟩, fun b hb => Nat.lt_of_lt_of_le (s.im b hb) hsz, fun k n u hk hu => ?_, ?_, ?_⟩, ?_, hx⟩
  · simp only [Env.grow] at hu
    split at hu
    · injection hu with hu; subst hu; exact hsv
    · exact s.sc k n u hk hu
  · intro k x hk
    rcases get k x hk with ⟨rfl, rfl⟩ | ⟨hne, hk'⟩
    · exact hr hx
    · have ro := s.obj k x hk'
      exact ro.keep (old k hne) (fun _ _ h => h) (fun b hb => ⟨hb, hI b hb⟩) (fun b l => hmem b (ro.lt l).1 (fun l' => hne (s.ne k id x _ b hk' ho l l'))) (fun p u r => r.ext hx)
  · intro k k' x x' b h1 h2 l1 l2
    have low : ∀ (k : Nat) (x : PObj), k ≠ id → lies (e.grow id es'.length v1) k x b → lies e k x b := fun k x hk ⟨q, u, hu, hub⟩ => ⟨q, u, by rw [old k hk] at hu; exact hu, hub⟩
    have top : lies (e.grow id es'.length v1) id (.row E sz es') b → blockOf v1 = some b := fun ⟨_, u, hu, hub⟩ => by
      simp only [Env.grow, PObj.ver, and_self, if_true] at hu; injection hu with hu; subst hu; exact hub
    rcases get k x h1 with ⟨rfl, rfl⟩ | ⟨n1, k1⟩ <;> rcases get k' x' h2 with ⟨rfl, rfl⟩ | ⟨n2, k2⟩
    · rfl
    · have lo := low _ _ n2 l2
      rcases hb1 b (top l1) with q | q
      · exact s.ne _ _ _ _ b ho k2 q lo
      · have := ((s.obj _ _ k2).lt lo).1; omega
    · have lo := low _ _ n1 l1
      rcases hb1 b (top l2) with q | q
      · exact s.ne _ _ _ _ b k1 ho lo q
      · have := ((s.obj _ _ k1).lt lo).1; omega
    · exact s.ne _ _ _ _ b k1 k2 (low _ _ n1 l1) (low _ _ n2 l2)
  · exact .row _ _ _ (by show id < e.n; rw [s.n]; exact hid) (by simp [Env.grow])

/-- append to a row of the code's own -/
def pappendRow (P : Program) (d : TD) (x y : PV) (h : List PObj) : Option (Prop × PV × List PObj) :=
  match d.k with
  | .slice et => match tyOf P et with
    | some de => match x, y with
      | .row id n, .d (.sl fs _) => match h[id]? with
        | some (.row E sz es) => some (n = es.length ∧ E = et ∧ sz = de.size ∧ 0 < fs.length ∧ 0 < de.bytes ∧ (∀ i, i < fs.length → (fs.getD i default).ncells = de.size) ∧
            (es.length + fs.length) * de.bytes ≤ 140737488355328, .row id (es.length + fs.length), h.set id (.row E sz (es ++ fs.map .d)))
        | _ => none
      | _, _ => none
    | none => none
  | _ => none

theorem st_appendRow {x y : Operand} {t : TypeId} {d : TD} {c : Prop} {v : PV} {h' : List PObj} (ho : o.op = .call { callee := .builtin .append, args := #[x, y], argTypes := #[t, t] }) (hd : tyOf P t = some d)
    (hp : pappendRow P d (a.eval x) (a.eval y) h = some (c, v, h')) (hc : c) : PStep P B o a h v h' := by
  intro e w act s ra
  obtain ⟨td, i, z, T⟩ := tyOf_spec hd
  have hx := ra.eval x
  have hy := ra.eval y
  obtain ⟨cs, hb⟩ := run_builtin (act := act) ho
  suffices hh : ∃ e' w' v', (Builtin.append_ #[t, t] o.type #[act.eval x, act.eval y]).run P w = .ok v' w' ∧ Sim B e' h' w' ∧ RV w' e' v v' ∧ Ext e.n e w e' w' by
    obtain ⟨e', w', v', h1, h2, h3, h4⟩ := hh
    exact ⟨e', w', v', .inl (by rw [hb]; simp only [List.map_toArray, List.map_cons, List.map_nil, builtin]; exact step_value h1), h2, h3, h4⟩
  generalize act.eval x = ax at hx ⊢
  generalize act.eval y = ay at hy ⊢
  generalize a.eval x = px at hx hp
  generalize a.eval y = py at hy hp
  unfold pappendRow at hp
  split at hp
  · rename_i et hk
    have := kind_slice T.k hk; subst this
    split at hp
    · rename_i de hde
      obtain ⟨td', i', z', T'⟩ := tyOf_spec hde
      split at hp
      · rename_i id n fs cl
        split at hp
        · rename_i E sz es hh
          simp only [Option.some.injEq, Prod.mk.injEq] at hp
          obtain ⟨hcc, rfl, rfl⟩ := hp
          rw [← hcc] at hc
          obtain ⟨rfl, rfl, rfl, c0, c2, c4, c5⟩ := hc
          have hbd := bound_of c2 c5
          obtain ⟨q, cq, rfl⟩ := sl_form (rv_d hy)
          obtain ⟨ad, ys, rfl, v2, y2, _, _⟩ := rowvals_sl (rv_d hy) c4 c0
          obtain ⟨g0, v0, g1, g2, g3⟩ := s.obj id _ hh
          have hlen : (es ++ fs.map PV.d).length = es.length + fs.length := by simp
          cases hx with
          | row _ _ _ hid hG =>
            have g1' := g1
            rw [hG] at g1; injection g1 with g1; subst g1
            have hl : ys.length = fs.length * i'.size := by rw [v2.1, T'.size]; simp
            have grown : ∀ (old : Nat) (xs : List Value), RowVals w e de.size es xs →
                ∃ e' w' v', (Result.ok (Value.slice (some ⟨w.heap.size, 0, none⟩) (es.length + fs.length) (grownCap w (es.length + fs.length) old E))
                  (w.drew.alloc (.cells (xs.toArray ++ ys.toArray ++ Builtin.zeroCells z'.cells (grownCap w (es.length + fs.length) old E - (es.length + fs.length))) E)) : Result Value) = .ok v' w' ∧
                  Sim B e' (h.set id (.row E de.size (es ++ fs.map .d))) w' ∧ RV w' e' (.row id (es.length + fs.length)) v' ∧ Ext e.n e w e' w' := by
              intro old xs v1
              have v12 := v1.append v2
              have hge := grownCap_ge w (es.length + fs.length) old E
              have hle := grownCap_le_maxLen w (es.length + fs.length) old E (by simp only [maxLen]; omega)
              have hxl : (xs ++ ys).length = (es.length + fs.length) * de.size := by rw [v12.1, hlen]
              have hsize : (xs.toArray ++ ys.toArray ++ Builtin.zeroCells z'.cells (grownCap w (es.length + fs.length) old E - (es.length + fs.length))).size = grownCap w (es.length + fs.length) old E * de.size := by
                simp only [Array.size_append, List.size_toArray, size_zeroCells, T'.len]
                rw [← List.length_append, hxl, ← Nat.add_mul]; congr 1; omega
              have res := sim_grow (es' := es ++ fs.map .d) (v1 := .slice (some ⟨w.heap.size, 0, none⟩) (es.length + fs.length) (grownCap w (es.length + fs.length) old E))
                (w1 := w.drew.alloc (.cells (xs.toArray ++ ys.toArray ++ Builtin.zeroCells z'.cells (grownCap w (es.length + fs.length) old E - (es.length + fs.length))) E))
                s hh (by rw [hlen]; omega) rfl (fun b hb _ => RowKit.Below.heap_alloc w.drew _ _ hb) (by show _ ≤ (w.heap.push _).size; simp) rfl rfl rfl (fun b hb => by simp [blockOf] at hb; right; omega)
                (fun hx => ⟨g0, .slice (some ⟨w.heap.size, 0, none⟩) (es.length + fs.length) (grownCap w (es.length + fs.length) old E), by simp [Env.grow], fun m hm => by
                    simp only [Env.grow]; rw [if_neg (by omega)]; exact g2 m (by rw [hlen] at hm; omega),
                  .inr ⟨w.heap.size, grownCap w (es.length + fs.length) old E, _, by rw [hlen], fun hI => by have := s.im _ hI; omega, by show (w.heap.push _)[w.heap.size]? = _; simp, hsize, ⟨by rw [hlen]; exact hge, hle⟩,
                    RowIs.of_vals (v12.mono (fun p v r => r.ext hx)) (by rw [hsize, hlen]; exact Nat.mul_le_mul_right _ hge) (by
                      simp only [Array.toList_append, List.append_assoc]
                      rw [← List.append_assoc, hlen, ← hxl]; exact List.take_left)⟩⟩)
              rw [hlen] at res
              exact ⟨_, _, _, rfl, res.1, res.2.1, res.2.2⟩
            rcases g3 with ⟨rfl, rfl⟩ | ⟨b, cap, arr, rfl, k2, k3, k4, k5, k6⟩
            · have vn : RowVals w e de.size ([] : List PV) [] := ⟨by simp, fun i hi => by simp at hi, fun i j hi => by simp at hi, fun i j hi => by simp at hi⟩
              have hr := run_append_nil (P := P) w t o.type E i' z' T.und T'.info T'.zero ad fs.length cq ys hl y2 c0 (by simp at hbd; omega) (by rw [T'.bytes]; simp at c5; omega)
              rw [hr]
              have := grown 0 [] vn
              simpa using this
            · by_cases hroom : es.length + fs.length ≤ cap
              · have v1 := RowVals.of_row k6
                have v12 := v1.append v2
                have hfit : es.length * i'.size + ys.length ≤ arr.size := by rw [hl, k4, T'.size, ← Nat.add_mul]; exact Nat.mul_le_mul_right _ hroom
                have hr := run_append_room (P := P) w t o.type E i' T.und T'.info b es.length cap arr k3 ad fs.length cq ys hl y2 (fun u hu => scalarV_one (v2.scalar s.sc (by omega) u hu)) hroom hfit
                rw [hr]
                have hl0 : lies e id (.row E de.size es) b := ⟨rfl, _, g1', rfl⟩
                rw [T'.size] at hfit
                have res := sim_grow (es' := es ++ fs.map .d) (v1 := .slice (some ⟨b, 0, none⟩) (es.length + fs.length) cap)
                  (w1 := w.setRow b (arr.toList.take (es.length * de.size) ++ ys ++ arr.toList.drop (es.length * de.size + ys.length)).toArray)
                  s hh (by rw [hlen]; omega) rfl (fun k _ hk => setRow_other _ _ _ _ (fun e => hk (e ▸ hl0))) (by rw [setRow_size]; exact Nat.le_refl _) rfl rfl rfl (fun k hk => by simp [blockOf] at hk; left; rw [← hk]; exact hl0)
                  (fun hx => ⟨g0, .slice (some ⟨b, 0, none⟩) (es.length + fs.length) cap, by simp [Env.grow], fun m hm => by
                      simp only [Env.grow]; rw [if_neg (by omega)]; exact g2 m (by rw [hlen] at hm; omega),
                    .inr ⟨b, cap, _, by rw [hlen], k2, setRow_heap _ _ _ _ _ _ k3, by simp; omega, ⟨by rw [hlen]; exact hroom, k5.2⟩,
                      RowIs.of_vals (v12.mono (fun p v r => r.ext hx)) (by
                        rw [hlen, List.size_toArray]
                        have : (es.length + fs.length) * de.size = es.length * de.size + ys.length := by rw [hl, T'.size, Nat.add_mul]
                        simp; omega) (by
                        have e1 : (List.take (es.length * de.size) arr.toList ++ ys).length = (es.length + fs.length) * de.size := by rw [v12.1, hlen]
                        rw [hlen, ← e1]; exact List.take_left)⟩⟩)
                rw [hlen] at res
                rw [T'.size]
                exact ⟨_, _, _, rfl, res.1, res.2.1, res.2.2⟩
              · have v1 := RowVals.of_row k6
                have hlo : (arr.toList.take (es.length * de.size)).length = es.length * i'.size := by rw [v1.1, T'.size]
                have holds : ∀ j u, (arr.toList.take (es.length * de.size))[j]? = some u → w.cell? ((⟨b, 0, none⟩ : Addr).add j) = some u := fun j u hu => by
                  rw [List.getElem?_take] at hu
                  split at hu
                  · rw [Addr.add_lit, Nat.zero_add]
                    simp only [Array.getElem?_toList] at hu
                    simp [World.cell?, k3, hu]
                  · cases hu
                have hr := run_append_grow (P := P) w t o.type E i' z' T.und T'.info T'.zero ⟨b, 0, none⟩ es.length cap (arr.toList.take (es.length * de.size)) hlo holds ad fs.length cq ys hl y2 (by omega) (by omega)
                  (growslice_fits (by omega) (by rw [T'.bytes]; omega))
                rw [hr]
                exact grown cap _ v1
        · cases hp
      · cases hp
    · cases hp
  · cases hp

/-- make([]T, n): a row of zeros -/
def zeroElem (d : TD) : PV := if d.k.agg then .d (.agg d.zero) else .d (d.zero.getD 0 default)

def pmake (P : Program) (d : TD) (l c : PV) : Option (Prop × TypeId × Nat × List PV) :=
  match d.k with
  | .slice et => match tyOf P et with
    | some de => match l, c with
      | .d (.int _ n), .d (.int _ m) => some (0 ≤ n ∧ n ≤ m ∧ 0 < de.size ∧ (de.k.agg = true ∨ de.size = 1) ∧ (zeroElem de).ncells = de.size ∧ (∀ j, j < de.size → ((zeroElem de).cell j).scalar = true) ∧ de.bytes * m ≤ 140737488355328 ∧ m ≤ 140737488355328, et, de.size, List.replicate n.toNat (zeroElem de))
      | _, _ => none
    | none => none
  | _ => none

theorem st_make {x y : Operand} {t : TypeId} {d : TD} {c : Prop} {E sz : Nat} {es : List PV} (ho : o.op = .makeSlice t x y) (hd : tyOf P t = some d)
    (hp : pmake P d (a.eval x) (a.eval y) = some (c, E, sz, es)) (hc : c) : PStep P B o a h (.row h.length es.length) (h ++ [.row E sz es]) := by
  intro e w act s ra
  obtain ⟨td, i, z, T⟩ := tyOf_spec hd
  have hx := ra.eval x
  have hy := ra.eval y
  suffices hh : ∃ e' w' v', (Instr.makeSlice t (act.eval x) (act.eval y)).run P w = .ok v' w' ∧ Sim B e' (h ++ [.row E sz es]) w' ∧ RV w' e' (.row h.length es.length) v' ∧ Ext e.n e w e' w' by
    obtain ⟨e', w', v', h1, h2, h3, h4⟩ := hh
    exact ⟨e', w', v', .inl (by unfold execOp; rw [ho]; exact step_value h1), h2, h3, h4⟩
  generalize act.eval x = ax at hx ⊢
  generalize act.eval y = ay at hy ⊢
  generalize a.eval x = px at hx hp
  generalize a.eval y = py at hy hp
  unfold pmake at hp
  split at hp
  · rename_i et hk
    have := kind_slice T.k hk; subst this
    split at hp
    · rename_i de hde
      obtain ⟨td', i', z', T'⟩ := tyOf_spec hde
      split at hp
      · rename_i k1 n k2 m
        simp only [Option.some.injEq, Prod.mk.injEq] at hp
        obtain ⟨hcc, rfl, rfl, rfl⟩ := hp
        rw [← hcc] at hc
        obtain ⟨c0, c1, c2, c3, c4, c5, c6, c7⟩ := hc
        cases rv_d hx with
        | int _ _ => cases rv_d hy with
          | int _ _ =>
            have hr := run_make (P := P) w t et i' z' T.und T'.info T'.zero k1 k2 n m c0 c1 (by rw [T'.bytes]; omega) (by omega)
            have zc := zero_cells T' w e
            have cellj : ∀ j, j < de.size → (zeroElem de).cell j = (de.zero.map PV.d).getD j .junk := fun j hj => by
              rw [getD_map_d (by rw [T'.zlen]; exact hj)]
              unfold zeroElem
              split
              · rfl
              · rename_i hag
                have h1 : de.size = 1 := c3.resolve_left hag
                have : j = 0 := by omega
                subst this
                have hc0 := c4
                unfold zeroElem at hc0
                rw [if_neg hag] at hc0
                have hs0 := c5 0 hj
                unfold zeroElem at hs0
                rw [if_neg hag] at hs0
                generalize hz0 : de.zero.getD 0 default = z0 at *
                have hl1 : de.zero.length = 1 := by rw [T'.zlen]; exact h1
                have : de.zero = [z0] := by
                  obtain ⟨q, hq⟩ := List.length_eq_one_iff.1 hl1
                  rw [hq] at hz0 ⊢
                  simp at hz0; rw [hz0]
                cases z0 with
                | agg l =>
                  have hzs := zc.2.1 0 (by simp [hl1])
                  rw [this] at hzs
                  simp [PV.scalar, D.scalar] at hzs
                | _ => rfl
            have getz : ∀ i, i < n.toNat → (List.replicate n.toNat (zeroElem de)).getD i .junk = zeroElem de := fun i hi => by simp [List.getD_eq_getElem?_getD, hi]
            have hmn : n.toNat ≤ m.toNat := by omega
            have gm : ∀ i j, i < n.toNat → j < de.size → (madeCells z'.cells (m.toNat * de.size)).getD (i * de.size + j) default = z'.cells.getD j default := fun i j hi hj => by
              have hlt : i * de.size + j < m.toNat * de.size := idx_lt (Nat.lt_of_lt_of_le hi hmn) hj
              have hjz : j < z'.cells.size := by rw [T'.len]; exact hj
              simp only [madeCells, Array.getD_eq_getD_getElem?, Array.getElem?_map, Array.getElem?_range, hlt, if_true, Option.map_some, Option.getD_some]
              rw [T'.len, (idx_div hj).2, getElem!_pos z'.cells j hjz, Array.getElem?_eq_getElem hjz]; rfl
            have rows : RowIs w e de.size (List.replicate n.toNat (zeroElem de)) (madeCells z'.cells (m.toNat * de.size)) := by
              refine ⟨?_, fun i hi => ?_, fun i j hi hj => ?_, fun i j hi hj => ?_⟩
              · rw [size_madeCells]; simp; exact Nat.mul_le_mul_right _ hmn
              · rw [getz i (by simpa using hi)]; exact c4
              · rw [getz i (by simpa using hi)]; exact c5 j hj
              · rw [getz i (by simpa using hi), gm i j (by simpa using hi) hj, cellj j hj]
                exact zc.2.2 j (by simp [T'.zlen]; exact hj)
            have hlen : (List.replicate n.toNat (zeroElem de)).length = n.toNat := by simp
            obtain ⟨s1, r1, x1⟩ := new_row (E := et) (cap := m.toNat) (arr := madeCells z'.cells (m.toNat * de.size)) s (by omega) (RowVals.of_row rows) (by rw [hlen]; exact hmn) (by simp only [maxLen]; omega) (size_madeCells _ _) rfl
            rw [hlen] at s1 r1 x1
            rw [T'.size] at hr
            exact ⟨_, _, _, hr, s1, by rw [hlen]; exact r1, x1⟩
      · cases hp
    · cases hp
  · cases hp

end
end Go.Proofs.YtgpbkphiipjjoaaGreatDoor.Pv
end


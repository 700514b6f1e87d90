/-
  The layer under all proofs of this seat: abstract values, abstract memory, what it means that a state is met, what it means that an operation takes one abstract state to the next, and that a region whose operations are pairwise independent may be run in the order of its text. Conditions: none; this text proves nothing of the program.
-/
import Derived.WalkKit
import Derived.Orders
import Derived.Maps.AppendAt
namespace Go.Proofs.Ytclpoenfcpefmaa
open Go Go.RowKit

/-! ### Abstract values -/

/-- What a map holds: its keys (structs of integers) and their values. -/
inductive MC where
  | ints (l : List (List Int × Int))
  | bools (l : List (List Int × Bool))

/-- What a row of cells holds: the number of the element's type, and the elements. Further: a map; a struct of a row and a map, by its address; a row of rows; a row and a part of it that is read while the row is appended to. -/
inductive RC where
  | ints (e : Nat) (l : List Int)
  | recs (e k : Nat) (l : List (List Int))
  | bools (e : Nat) (l : List Bool)
  | mp (n : Nat) (m : MC)
  | grp (e k : Nat) (fs : List (List Int)) (n : Nat) (m : MC)
  | rows (e f : Nat) (ll : List (List Int))
  | vwp (e k : Nat) (R B : List (List Int))
def RC.flat : RC → Bool
  | .ints _ _ => true
  | .recs _ _ _ => true
  | .bools _ _ => true
  | _ => false

inductive A0 where
  | bot
  | i (n : Int)
  | b (b : Bool)
  | tt
  | ff
  | s (l : List Int)
  | fn (f : Nat)
  | ref (h off : Nat)
  | el (h sz i f : Nat)
  | row (h : Nat)
  | sub (h sz l r : Nat)
  | cut (h e n : Nat)
  | hd (h n : Nat)
  | co (h : Nat)
  | ci (h q : Nat)
  | oe (h q : Nat)
  | ie (h p sz q f : Nat)
  | ag (h1 h2 : Nat)
  | nil
  | un
  | rw (r : RC)

inductive AV where
  | one (a : A0)
  | tup (l : List A0)

inductive Entry where
  | ibox (t : Nat) (l : List Int)
  | box (t : Nat) (cs : List A0)
  | row (r : RC)
  | ro (r : RC)
  | to (d : Nat)
  | t1 (d : Nat)

abbrev vI (n : Int) : Value := .int .i64 n
def RC.elem : RC → Nat | .ints e _ => e | .recs e _ _ => e | .bools e _ => e | .rows e _ _ => e | _ => 0
def RC.sz : RC → Nat | .ints _ _ => 1 | .recs _ k _ => k | .bools _ _ => 1 | _ => 1
def RC.len : RC → Nat | .ints _ l => l.length | .recs _ _ l => l.length | .bools _ l => l.length | .rows _ _ ll => ll.length | _ => 0
def RC.cells : RC → List Value
  | .ints _ l => l.map vI
  | .recs _ _ l => l.flatMap fun x => x.map vI
  | .bools _ l => l.map .bool
  | _ => []
def RC.wf : RC → Prop
  | .ints _ _ => True
  | .recs _ k l => 0 < k ∧ ∀ x ∈ l, x.length = k
  | .bools _ _ => True
  | _ => False
def RC.slice : RC → Nat → Nat → RC
  | .ints e l, a, b => .ints e ((l.take b).drop a)
  | .recs e k l, a, b => .recs e k ((l.take b).drop a)
  | .bools e l, a, b => .bools e ((l.take b).drop a)
  | r, _, _ => r
def RC.app : RC → RC → Option RC
  | .ints e l, .ints _ m => some (.ints e (l ++ m))
  | .recs e k l, .recs _ k' m => bif k == k' then some (.recs e k (l ++ m)) else none
  | .bools e l, .bools _ m => some (.bools e (l ++ m))
  | _, _ => none
def RC.empty : RC → RC
  | .ints e _ => .ints e []
  | .recs e k _ => .recs e k []
  | .bools e _ => .bools e []
  | r => r
def MC.cells : MC → List (Value × Value)
  | .ints l => l.map fun p => (.agg (p.1.map vI).toArray, vI p.2)
  | .bools l => l.map fun p => (.agg (p.1.map vI).toArray, .bool p.2)
def MC.keys : MC → List (List Int)
  | .ints l => l.map (·.1)
  | .bools l => l.map (·.1)

/-- A handle may stand for several values: the first is the one that the program holds, the others lie behind it. -/
def hdV : Value → Value
  | .tuple vs => vs.getD 0 undef
  | v => v
def seg : Value → Nat → Value
  | .tuple vs, j => vs.getD j undef
  | v, 0 => v
  | _, _ => undef
def addTo : Value → Nat → Value
  | .pointer (some a), n => .pointer (some (a.add n))
  | .slice (some a) _ _, n => .pointer (some (a.add n))
  | _, _ => undef
def subOf : Value → Nat → Nat → Nat → Value
  | .slice a _ cap, sz, l, r => .slice (if cap = l then a else a.map (·.add (l * sz))) (r - l) (cap - l)
  | _, _, _, _ => undef

/-- the slice of a whole array variable -/
def cutOf : Value → Nat → Value
  | .pointer (some a), n => .slice (some a) n n
  | _, _ => undef

/-- the first n elements, and no room behind them -/
def headOf : Value → Nat → Value
  | .slice a _ _, n => .slice a n n
  | _, _ => undef
def A0.conc (ρ : Nat → Value) : A0 → Value
  | .bot => undef
  | .i n => vI n
  | .b x => .bool x
  | .tt => .bool true
  | .ff => .bool false
  | .s l => .agg (l.map vI).toArray
  | .fn f => .func (.func f) #[] #[]
  | .ref h off => addTo (ρ h) off
  | .el h sz q f => addTo (ρ h) (q * sz + f)
  | .row h => ρ h
  | .sub h sz l r => subOf (ρ h) sz l r
  | .cut h _ n => cutOf (ρ h) n
  | .hd h n => headOf (ρ h) n
  | .co h => hdV (ρ h)
  | .ci h q => seg (ρ h) (q + 1)
  | .oe h q => addTo (seg (ρ h) 0) q
  | .ie h p sz q f => addTo (seg (ρ h) (p + 1)) (q * sz + f)
  | .ag h1 h2 => .agg #[ρ h1, hdV (ρ h2)]
  | .nil => .slice none 0 0
  | .un => undef
  | .rw _ => undef

/-- A concrete value fits an abstract one; 'bot' says nothing, 'rw' is met by no value (it stands in contracts alone). -/
def A0.rel (ρ : Nat → Value) (a : A0) (v : Value) : Prop :=
  match a with
  | .bot => True
  | .rw _ => False
  | a => v = a.conc ρ
def AV.rel (ρ : Nat → Value) : AV → Value → Prop
  | .one a, v => a.rel ρ v
  | .tup l, v => ∃ vs : List Value, v = .tuple vs.toArray ∧ vs.length = l.length ∧ ∀ (j : Nat) (a : A0), l[j]? = some a → ∃ u, vs[j]? = some u ∧ a.rel ρ u

/-- The two literals of a bool are written as a bool. -/
def A0.norm : A0 → A0
  | .tt => .b true
  | .ff => .b false
  | a => a
def AV.norm : AV → AV
  | .one a => .one a.norm
  | .tup l => .tup (l.map A0.norm)
def Entry.norm : Entry → Entry
  | .box t cs => .box t (cs.map A0.norm)
  | e => e

theorem A0.conc_norm (ρ : Nat → Value) (a : A0) : a.norm.conc ρ = a.conc ρ := by cases a <;> rfl
theorem A0.rel_norm (ρ : Nat → Value) (a : A0) (v : Value) : a.norm.rel ρ v ↔ a.rel ρ v := by cases a <;> simp [A0.rel, A0.norm, A0.conc]

/-- Which handles a value names. -/
def A0.hs : A0 → List Nat
  | .ref h _ => [h]
  | .el h _ _ _ => [h]
  | .row h => [h]
  | .sub h _ _ _ => [h]
  | .cut h _ _ => [h]
  | .hd h _ => [h]
  | .co h => [h]
  | .ci h _ => [h]
  | .oe h _ => [h]
  | .ie h _ _ _ _ => [h]
  | .ag h1 h2 => [h1, h2]
  | _ => []
def AV.hs : AV → List Nat
  | .one a => a.hs
  | .tup l => l.flatMap A0.hs
def Entry.hs : Entry → List Nat
  | .box _ cs => cs.flatMap A0.hs
  | .to d => [d]
  | .t1 d => [d]
  | _ => []

theorem A0.hs_norm (a : A0) : a.norm.hs = a.hs := by cases a <;> rfl
theorem AV.hs_norm (a : AV) : a.norm.hs = a.hs := by
  cases a with
  | one a => exact A0.hs_norm a
  | tup l => simp [AV.norm, AV.hs, List.flatMap_map, A0.hs_norm]
theorem Entry.hs_norm (e : Entry) : e.norm.hs = e.hs := by
  cases e <;> simp [Entry.norm, Entry.hs, List.flatMap_map, A0.hs_norm]

theorem A0.conc_congr {ρ ρ' : Nat → Value} {a : A0} (h : ∀ x ∈ a.hs, ρ' x = ρ x) : a.conc ρ' = a.conc ρ := by
  cases a <;> simp [A0.hs] at h <;> simp [A0.conc, h]
theorem A0.rel_congr {ρ ρ' : Nat → Value} {a : A0} {v : Value} (h : ∀ x ∈ a.hs, ρ' x = ρ x) (hr : a.rel ρ v) : a.rel ρ' v := by
  have hc := A0.conc_congr h
  cases a <;> simp only [A0.rel] at hr ⊢ <;> first | exact hr.trans hc.symm | exact hr
theorem AV.rel_congr {ρ ρ' : Nat → Value} {a : AV} {v : Value} (h : ∀ x ∈ a.hs, ρ' x = ρ x) (hr : a.rel ρ v) : a.rel ρ' v := by
  cases a with
  | one a => exact A0.rel_congr h hr
  | tup l =>
    obtain ⟨vs, hv, hl, hj⟩ := hr
    refine ⟨vs, hv, hl, fun j a ha => ?_⟩
    obtain ⟨u, hu, hr⟩ := hj j a ha
    exact ⟨u, hu, A0.rel_congr (fun x hx => h x (List.mem_flatMap.2 ⟨a, List.mem_of_getElem? ha, hx⟩)) hr⟩
theorem AV.rel_norm (ρ : Nat → Value) (a : AV) (v : Value) : a.norm.rel ρ v ↔ a.rel ρ v := by
  cases a with
  | one a => exact A0.rel_norm ρ a v
  | tup l =>
    constructor
    · rintro ⟨vs, hv, hl, hj⟩
      refine ⟨vs, hv, by simpa using hl, fun j a ha => ?_⟩
      obtain ⟨u, hu, hr⟩ := hj j a.norm (by simp [ha])
      exact ⟨u, hu, (A0.rel_norm ρ a u).1 hr⟩
    · rintro ⟨vs, hv, hl, hj⟩
      refine ⟨vs, hv, by simpa using hl, fun j a ha => ?_⟩
      simp only [List.getElem?_map, Option.map_eq_some_iff] at ha
      obtain ⟨a', ha', rfl⟩ := ha
      obtain ⟨u, hu, hr⟩ := hj j a' ha'
      exact ⟨u, hu, (A0.rel_norm ρ a' u).2 hr⟩

/-! ### Abstract memory against the world -/

structure Ctx where
  P : Program
  w0 : World
  X : Nat → Prop
  N : Nat
  pins : List (Nat × Value)

/-- A block that this call may write: a new one, or one that was handed over. -/
def Ctx.own (c : Ctx) (k : Nat) : Prop := c.w0.heap.size ≤ k ∨ c.X k

def blkOf : Value → Option Nat
  | .pointer (some a) => some a.block
  | .slice (some a) _ _ => some a.block
  | .map (some b) => some b
  | _ => none
/-- the blocks of a handle's values -/
def Blk : Value → Nat → Prop
  | .tuple vs, k => ∃ (j : Nat) (v : Value), vs.toList[j]? = some v ∧ blkOf v = some k
  | v, k => blkOf v = some k

/-- The slice value v owns the row r. -/
def FlatRow (w : World) (in_ : Nat → Prop) (r : RC) (v : Value) : Prop :=
  r.wf ∧ w.ownsRow 0 r.elem r.sz v r.len r.cells ∧ ∀ k, blkOf v = some k → in_ k
/-- The entries of a map. -/
def MapIs (n : Nat) (es : Array MapEntry) (m : MC) : Prop := es.toList.map (fun e => (e.key, e.val)) = m.cells ∧ ∀ x ∈ m.keys, x.length = n
/-- A row of rows: the outer row's cells are the inner rows' values; all lie apart. -/
structure RowsIs (w : World) (in_ : Nat → Prop) (e f : Nat) (ll : List (List Int)) (O : Value) (Is : List Value) : Prop where
  len : Is.length = ll.length
  outer : w.ownsRow 0 e 1 O ll.length Is
  oin : ∀ k, blkOf O = some k → in_ k
  inner : ∀ (j : Nat) (l : List Int), ll[j]? = some l → ∃ I, Is[j]? = some I ∧ FlatRow w in_ (.ints f l) I
  apart : ∀ (i j : Nat) (I J : Value), i ≠ j → Is[i]? = some I → Is[j]? = some J → ∀ k, blkOf I = some k → blkOf J ≠ some k
  oapart : ∀ (j : Nat) (I : Value), Is[j]? = some I → ∀ k, blkOf I = some k → blkOf O ≠ some k
/-- The slice value v reads as the row r in the world w; its cells lie in blocks that 'in_' lets. -/
def FlatReads (w : World) (in_ : Nat → Prop) (r : RC) (v : Value) : Prop :=
  r.wf ∧ ∃ A n cap, v = .slice A n cap ∧ n = r.len ∧ n ≤ cap ∧ cap ≤ maxLen ∧
    (0 < n → ∃ a, A = some a ∧ in_ a.block ∧ ∀ j u, r.cells[j]? = some u → w.cell? (a.add j) = some u)
/-- The same, and its block lies there even if no element does. -/
def ViewIs (w : World) (in_ : Nat → Prop) (r : RC) (v : Value) : Prop := FlatReads w in_ r v ∧ ∀ k, blkOf v = some k → in_ k ∧ k < w.heap.size
/-- A part that lies in the block of its row lies among its first cells. -/
def ViewAt (V W : Value) (x y : Nat) : Prop := ∀ a n cap, W = .slice (some a) n cap → ∀ k, blkOf V = some k → a.block = k → ∃ off, a = ⟨k, off, none⟩ ∧ off + x ≤ y
def CompRow (w : World) (in_ : Nat → Prop) (r : RC) (v : Value) : Prop :=
  match r with
  | .mp n m => ∃ b es clock, v = .map (some b) ∧ in_ b ∧ w.heap[b]? = some (.map es clock) ∧ MapIs n es m
  | .grp e k fs n m => ∃ g A b es clock t, v = .tuple #[.pointer (some ⟨g, 0, none⟩), A, .map (some b)] ∧ in_ g ∧ w.heap[g]? = some (.cells #[A, .map (some b)] t (0, 0)) ∧ FlatRow w in_ (.recs e k fs) A ∧ in_ b ∧ w.heap[b]? = some (.map es clock) ∧ MapIs n es m
  | .rows e f ll => ∃ O Is, v = .tuple (O :: Is).toArray ∧ RowsIs w in_ e f ll O Is
  | .vwp e k R B => ∃ W V, v = .tuple #[undef, W, V] ∧ ViewIs w in_ (.recs e k B) W ∧ FlatRow w in_ (.recs e k R) V ∧ ViewAt V W (B.length * k) (R.length * k)
  | _ => False
def OwnsRow (w : World) (in_ : Nat → Prop) (r : RC) (v : Value) : Prop := if r.flat = true then FlatRow w in_ r v else CompRow w in_ r v
def ReadsRow (w : World) (in_ : Nat → Prop) (r : RC) (v : Value) : Prop := if r.flat = true then FlatReads w in_ r v else CompRow w in_ r v
theorem OwnsRow.flat {w : World} {in_ : Nat → Prop} {r : RC} {v : Value} (hf : r.flat = true) : OwnsRow w in_ r v ↔ FlatRow w in_ r v := by unfold OwnsRow; rw [if_pos hf]
theorem ReadsRow.flat {w : World} {in_ : Nat → Prop} {r : RC} {v : Value} (hf : r.flat = true) : ReadsRow w in_ r v ↔ FlatReads w in_ r v := by unfold ReadsRow; rw [if_pos hf]
theorem OwnsRow.comp {w : World} {in_ : Nat → Prop} {r : RC} {v : Value} (hf : r.flat = false) : OwnsRow w in_ r v ↔ CompRow w in_ r v := by unfold OwnsRow; rw [if_neg (by rw [hf]; simp)]
theorem ReadsRow.comp {w : World} {in_ : Nat → Prop} {r : RC} {v : Value} (hf : r.flat = false) : ReadsRow w in_ r v ↔ CompRow w in_ r v := by unfold ReadsRow; rw [if_neg (by rw [hf]; simp)]

def Entry.holds (c : Ctx) (w : World) (ρ : Nat → Value) (h : Nat) : Entry → Prop
  | .ibox t l => ∃ k, ρ h = .pointer (some ⟨k, 0, none⟩) ∧ c.own k ∧ w.heap[k]? = some (.cells (l.map vI).toArray t (0, 0))
  | .box t cs => ∃ k arr, ρ h = .pointer (some ⟨k, 0, none⟩) ∧ c.own k ∧ w.heap[k]? = some (.cells arr t (0, 0)) ∧ arr.size = cs.length ∧
      ∀ (j : Nat) (a : A0), cs[j]? = some a → ∃ v, arr[j]? = some v ∧ a.rel ρ v
  | .row r => OwnsRow w c.own r (ρ h)
  | .ro r => ReadsRow w (fun k => k < c.w0.heap.size ∧ ¬ c.X k) r (ρ h)
  | .to d => hdV (ρ h) = hdV (ρ d)
  | .t1 d => seg (ρ h) 1 = seg (ρ d) 1
def Entry.isOwn : Entry → Bool
  | .ro _ => false
  | .to _ => false
  | .t1 _ => false
  | _ => true

structure SS where
  fr : Nat → AV
  mem : Nat → Option Entry

structure Frame0 (c : Ctx) (w : World) : Prop where
  os : w.os = c.w0.os
  tape : w.tape = c.w0.tape
  output : w.output = c.w0.output
  size : c.w0.heap.size ≤ w.heap.size
  block : ∀ k, k < c.w0.heap.size → ¬ c.X k → w.heap[k]? = c.w0.heap[k]?

structure SatR (c : Ctx) (S : SS) (ρ : Nat → Value) (tmps : Array Value) (w : World) : Prop where
  fr : ∀ s, (S.fr s).rel ρ (tmps.getD s undef)
  mem : ∀ h e, S.mem h = some e → e.holds c w ρ h
  sep : ∀ h h' e e', S.mem h = some e → S.mem h' = some e' → e.isOwn = true → e'.isOwn = true → h ≠ h' → ∀ k, Blk (ρ h) k → ¬ Blk (ρ h') k
  frame : Frame0 c w
  pin : ∀ p ∈ c.pins, ρ p.1 = p.2
  inX : ∀ k, c.X k → k < c.w0.heap.size

def Sat (c : Ctx) (S : SS) (a : Act) (w : World) : Prop := a.defers = [] ∧ a.tmps.size = c.N ∧ ∃ ρ, SatR c S ρ a.tmps w

/-- A handle that nothing names and that no pin holds. -/
structure SS.Fresh (c : Ctx) (S : SS) (h : Nat) : Prop where
  mem : S.mem h = none
  fr : ∀ s, h ∉ (S.fr s).hs
  ent : ∀ h' e, S.mem h' = some e → h ∉ e.hs
  pin : ∀ p ∈ c.pins, p.1 ≠ h

/-! ### States -/

def look {α : Type} (d : Nat) : List (Nat × α) → Option α
  | [] => none
  | p :: l => bif p.1 == d then some p.2 else look d l
def rem {α : Type} (d : Nat) : List (Nat × α) → List (Nat × α)
  | [] => []
  | p :: l => bif p.1 == d then rem d l else p :: rem d l

theorem look_rem {α : Type} (d k : Nat) : ∀ l : List (Nat × α), look k (rem d l) = if k = d then none else look k l
  | [] => by simp [rem, look]
  | p :: l => by
    have ih := look_rem d k l
    simp only [rem, look]
    by_cases h : p.1 = d
    · simp only [h, beq_self_eq_true, cond_true, ih]
      by_cases hk : k = d
      · simp [hk]
      · have : (d == k) = false := by simp; omega
        simp [hk, this]
    · have h' : (p.1 == d) = false := by simpa using h
      simp only [h', cond_false, look]
      by_cases hk : k = d
      · subst hk; simp [h', ih]
      · simp only [ih, hk, if_false]

/-- what is written to memory: some entry, or nothing any more -/
abbrev Wr := List (Nat × Option Entry)

def SS.apply (S : SS) (dst : Option Nat) (val : AV) (wr : Wr) : SS :=
  { fr := fun s => if dst = some s then val else S.fr s
    mem := fun h => match look h wr with | some oe => oe | none => S.mem h }

def wrHs (wr : Wr) : List Nat := wr.map (·.1)
theorem look_none_iff {α : Type} (h : Nat) : ∀ l : List (Nat × α), look h l = none ↔ h ∉ l.map (·.1)
  | [] => by simp [look]
  | p :: l => by
    simp only [look, List.map_cons, List.mem_cons, not_or]
    by_cases hp : p.1 = h
    · simp [hp]
    · have h' : (p.1 == h) = false := by simpa using hp
      simp only [h', cond_false, look_none_iff h l]
      constructor
      · exact fun hh => ⟨fun e => hp e.symm, hh⟩
      · exact fun hh => hh.2

theorem SS.apply_mem_other {S : SS} {dst : Option Nat} {val : AV} {wr : Wr} {h : Nat} (hh : h ∉ wrHs wr) : (S.apply dst val wr).mem h = S.mem h := by
  simp [SS.apply, (look_none_iff h wr).2 hh]

theorem SS.apply_comm (S : SS) {d d' : Option Nat} {v v' : AV} {wr wr' : Wr} (hd : ∀ s, d = some s → d' ≠ some s) (hw : ∀ h ∈ wrHs wr, h ∉ wrHs wr') :
    (S.apply d v wr).apply d' v' wr' = (S.apply d' v' wr').apply d v wr := by
  simp only [SS.apply, SS.mk.injEq]
  constructor
  · funext s
    by_cases h1 : d = some s
    · have := hd s h1; simp [h1, this]
    · simp [h1]
  · funext h
    by_cases h1 : h ∈ wrHs wr
    · have h2 := (look_none_iff h wr').2 (hw h h1)
      simp [h2]
    · have h2 := (look_none_iff h wr).2 h1
      simp [h2]

/-! ### One operation from one abstract state to the next -/

def opAt (P : Program) (ops : Array Oper) (o : Oper) (a : Act) (w : World) (K : Act → World → Prop) (Q : Exit → Act → World → Prop) : Prop :=
  if Region.wanted o (yielded ops a.tmps) then o.wp P a w K Q else K (a.put o.dst undef) w

structure Agree (ops : Array Oper) (o : Oper) (R : List Nat) (S S' : SS) : Prop where
  fr : ∀ t ∈ o.looksAt ops, S'.fr t = S.fr t
  mem : ∀ h ∈ R, S'.mem h = S.mem h

/-- In every state that agrees with S on what the operation looks at, it takes the state to the one with this value in its slot and these entries in memory. -/
def Good (c : Ctx) (ops : Array Oper) (o : Oper) (S : SS) (R : List Nat) (val : AV) (wr : Wr) : Prop :=
  ∀ S', Agree ops o R S S' → (∀ h ∈ wrHs wr, h ∉ R → S'.Fresh c h) → ∀ a w, Sat c S' a w →
    ∀ (K : Act → World → Prop) (Q : Exit → Act → World → Prop), (∀ a' w', Sat c (S'.apply o.dst val wr) a' w' → K a' w') → opAt c.P ops o a w K Q

theorem Good.agree {c : Ctx} {ops : Array Oper} {o : Oper} {S T : SS} {R : List Nat} {val : AV} {wr : Wr} (h : Good c ops o S R val wr) (ha : Agree ops o R T S) : Good c ops o T R val wr :=
  fun S' hag => h S' ⟨fun t ht => (hag.fr t ht).trans (ha.fr t ht).symm, fun x hx => (hag.mem x hx).trans (ha.mem x hx).symm⟩

/-! ### Any order -/

/-- An operation of a region as the text's run has met it. -/
structure Ev where
  i : Nat
  o : Oper
  R : List Nat
  val : AV
  wr : Wr

def Ev.W (e : Ev) : List Nat := wrHs e.wr
/-- the handles that it makes -/
def Ev.Nw (e : Ev) : List Nat := e.W.filter fun h => !e.R.contains h
/-- all handles that it names behind it -/
def Ev.O (e : Ev) : List Nat := e.W ++ (e.val.hs ++ e.wr.flatMap fun p => (p.2.map Entry.hs).getD [])
def SS.ev (S : SS) (e : Ev) : SS := S.apply e.o.dst e.val e.wr

def disj (l m : List Nat) : Bool := l.all fun x => !m.contains x
theorem disj_spec {l m : List Nat} (h : disj l m = true) : ∀ x ∈ l, x ∉ m := by
  intro x hx hm
  have := List.all_eq_true.1 h x hx
  simp [hm] at this

structure Indep (ops : Array Oper) (x y : Ev) : Prop where
  slots : x.o.apart ops y.o = true
  xy : ∀ h ∈ x.W, h ∉ y.R ∧ h ∉ y.W
  yx : ∀ h ∈ y.W, h ∉ x.R

def RunOk (c : Ctx) (ops : Array Oper) : List Ev → SS → Prop
  | [], _ => True
  | e :: l, S => Good c ops e.o S e.R e.val e.wr ∧ RunOk c ops l (S.ev e)
def runEv : List Ev → SS → SS
  | [], S => S
  | e :: l, S => runEv l (S.ev e)

section
variable {c : Ctx} {ops : Array Oper}

theorem agree_ev {x y : Ev} (S : SS) (hs : ∀ d, x.o.dst = some d → d ∉ y.o.looksAt ops) (hw : ∀ h ∈ x.W, h ∉ y.R) : Agree ops y.o y.R S (S.ev x) :=
  ⟨fun t ht => by
    have : x.o.dst ≠ some t := fun e => hs t e ht
    simp [SS.ev, SS.apply, this],
   fun h hh => SS.apply_mem_other (fun hx => hw h hx hh)⟩
theorem Agree.symm {o : Oper} {R : List Nat} {S T : SS} (h : Agree ops o R S T) : Agree ops o R T S := ⟨fun t ht => (h.fr t ht).symm, fun x hx => (h.mem x hx).symm⟩

theorem swap_ok {x y : Ev} {l : List Ev} {S : SS} (hi : Indep ops x y) (h : RunOk c ops (x :: y :: l) S) : RunOk c ops (y :: x :: l) S ∧ runEv (y :: x :: l) S = runEv (x :: y :: l) S := by
  obtain ⟨h1, h2, h3⟩ := Oper.apart_spec hi.slots
  obtain ⟨gx, gy, gl⟩ := h
  have comm : (S.ev y).ev x = (S.ev x).ev y := (SS.apply_comm S (d := x.o.dst) (d' := y.o.dst) (v := x.val) (v' := y.val) (wr := x.wr) (wr' := y.wr) h2 (fun h hh => (hi.xy h hh).2)).symm
  refine ⟨⟨gy.agree (agree_ev S h1 (fun h hh => (hi.xy h hh).1)), gx.agree (agree_ev S h3 hi.yx).symm, ?_⟩, ?_⟩
  · rw [comm]; exact gl
  · simp only [runEv, comm]

theorem front_ok {y : Ev} {post : List Ev} : ∀ (pre : List Ev) (S : SS), (∀ x ∈ pre, Indep ops x y) → RunOk c ops (pre ++ y :: post) S →
    RunOk c ops (y :: (pre ++ post)) S ∧ runEv (y :: (pre ++ post)) S = runEv (pre ++ y :: post) S
  | [], S, _, h => ⟨h, rfl⟩
  | x :: pre, S, hi, h => by
    obtain ⟨gx, hr⟩ := h
    obtain ⟨h1, h2⟩ := front_ok pre (S.ev x) (fun z hz => hi z (by simp [hz])) hr
    have h3 : RunOk c ops (x :: y :: (pre ++ post)) S := ⟨gx, h1⟩
    obtain ⟨h4, h5⟩ := swap_ok (hi x (by simp)) h3
    exact ⟨h4, h5.trans h2⟩
end

/-- o waits for i, through n others at most -/
def waitsF (ops : Array Oper) : Nat → Oper → Nat → Bool
  | 0, _, _ => false
  | n + 1, o, i => o.after.any fun e => Region.binds .any e && (e.on == i || (match ops[e.on]? with | some z => waitsF ops n z i | none => false))
/-- what is waited for is listed before -/
theorem waitsF_listed {ops : Array Oper} {listed : Array Bool} (hc : ∀ i oi, ops[i]? = some oi → listed.getD i false = true → ∀ d ∈ oi.after, Region.binds .any d = true → listed.getD d.on false = true) {i : Nat} :
    ∀ (n : Nat) (o : Oper), (∀ d ∈ o.after, Region.binds .any d = true → listed.getD d.on false = true) → waitsF ops n o i = true → listed.getD i false = true
  | 0, o, _, h => by simp [waitsF] at h
  | n + 1, o, hd, h => by
    simp only [waitsF] at h
    obtain ⟨e, he, hb⟩ := Array.any_eq_true'.1 h
    simp only [Bool.and_eq_true, Bool.or_eq_true, beq_iff_eq] at hb
    obtain ⟨hb1, hb2⟩ := hb
    have hl := hd e he hb1
    rcases hb2 with hb2 | hb2
    · rw [← hb2]; exact hl
    · cases hz : ops[e.on]? with
      | none => rw [hz] at hb2; cases hb2
      | some z =>
        rw [hz] at hb2
        exact waitsF_listed hc n z (hc e.on z hz hl) hb2

structure AnyInv (c : Ctx) (ops : Array Oper) (l : List Ev) (listed : Array Bool) (S : SS) : Prop where
  unl : ∀ i oi, ops[i]? = some oi → listed.getD i true = false → ∃ e ∈ l, e.i = i
  lis : ∀ e ∈ l, listed.getD e.i true = false
  ops_ : ∀ e ∈ l, ops[e.i]? = some e.o
  sorted : l.Pairwise fun x y => x.i < y.i
  size : listed.size = ops.size
  edges : ∀ e ∈ l, ∀ d ∈ e.o.after, Region.binds .any d = true → d.on < e.i
  pairs : l.Pairwise fun x y => waitsF ops 6 y.o x.i = true ∨ Indep ops x y
  outs : ∀ x ∈ l, ∀ y ∈ l, x.i ≠ y.i → waitsF ops 4 x.o y.i = true ∨ ∀ h ∈ y.Nw, h ∉ x.O
  closed : ∀ i oi, ops[i]? = some oi → listed.getD i false = true → ∀ d ∈ oi.after, Region.binds .any d = true → listed.getD d.on false = true
  fresh : ∀ e ∈ l, ∀ h ∈ e.Nw, S.Fresh c h
  run : RunOk c ops l S

theorem Fresh.ev {c : Ctx} {S : SS} {e : Ev} {h : Nat} (hf : S.Fresh c h) (hO : h ∉ e.O) : (S.ev e).Fresh c h := by
  simp only [Ev.O, List.mem_append, List.mem_flatMap, not_or, not_exists] at hO
  refine ⟨?_, fun s => ?_, fun h' e' he' => ?_, hf.pin⟩
  · rw [SS.ev, SS.apply_mem_other hO.1]; exact hf.mem
  · simp only [SS.ev, SS.apply]
    split
    · exact hO.2.1
    · exact hf.fr s
  · simp only [SS.ev, SS.apply] at he'
    cases hl : look h' e.wr with
    | none => rw [hl] at he'; exact hf.ent h' e' he'
    | some oe =>
      rw [hl] at he'
      simp only at he'
      subst he'
      intro hm
      have hmem : (h', some e') ∈ e.wr := by
        have : ∀ l : Wr, look h' l = some (some e') → (h', some e') ∈ l := by
          intro l
          induction l with
          | nil => simp [look]
          | cons p l ih =>
            simp only [look]
            by_cases hp : p.1 = h'
            · have : (p.1 == h') = true := by simpa using hp
              rw [this]
              simp only [cond_true, Option.some.injEq]
              intro he
              have : p = (h', some e') := by cases p; simp_all
              rw [this]
              exact List.mem_cons_self
            · have : (p.1 == h') = false := by simpa using hp
              rw [this]
              simp only [cond_false]
              intro he
              exact List.mem_cons_of_mem _ (ih he)
        exact this _ hl
      exact hO.2.2 _ ⟨hmem, by simpa using hm⟩

theorem any_order {c : Ctx} {ops : Array Oper} {Q : Exit → Act → World → Prop} : ∀ (fuel : Nat) (l : List Ev) (listed : Array Bool) (S : SS), l.length = fuel → AnyInv c ops l listed S →
    ∀ a w, Sat c S a w → (∀ a' w', Sat c (runEv l S) a' w' → Q .normal a' w') → wpAny c.P .any ops Q fuel listed a w := by
  intro fuel
  induction fuel with
  | zero =>
    intro l listed S hl inv a w hs hQ
    have hl0 : l = [] := List.eq_nil_of_length_eq_zero hl
    subst hl0
    refine ⟨?_, hQ a w hs⟩
    rw [List.eq_nil_iff_forall_not_mem]
    intro i hi
    obtain ⟨hu, oi, ho, _⟩ := mem_ready.1 hi
    obtain ⟨e, he, _⟩ := inv.unl i oi ho hu
    cases he
  | succ fuel ih =>
    intro l listed S hl inv a w hs hQ
    refine ⟨fun hnil => ?_, fun i hi => ?_⟩
    · exfalso
      cases l with
      | nil => simp at hl
      | cons e l' =>
        have he : e ∈ e :: l' := by simp
        have hmem : e.i ∈ Region.ready .any ops listed := by
          refine mem_ready.2 ⟨inv.lis e he, e.o, inv.ops_ e he, fun d hd hb => ?_⟩
          have hlt := inv.edges e he d hd hb
          have hei : e.i < ops.size := (Array.getElem?_eq_some_iff.1 (inv.ops_ e he)).1
          have hds : d.on < listed.size := by rw [inv.size]; omega
          cases hc : listed.getD d.on true with
          | true => simpa [hds] using hc
          | false =>
            have hdo : d.on < ops.size := by omega
            obtain ⟨x, hx, hxi⟩ := inv.unl d.on ops[d.on] (by simp [hdo]) hc
            simp only [List.mem_cons] at hx
            rcases hx with rfl | hx
            · omega
            · have := (List.pairwise_cons.1 inv.sorted).1 x hx
              omega
        rw [hnil] at hmem
        cases hmem
    · obtain ⟨hu, oi, ho, hall⟩ := mem_ready.1 hi
      obtain ⟨e, he, hei⟩ := inv.unl i oi ho hu
      subst hei
      obtain ⟨pre, post, hsplit⟩ := List.append_of_mem he
      subst hsplit
      have hoe : oi = e.o := Option.some.inj (ho.symm.trans (inv.ops_ e he))
      subst hoe
      have hind : ∀ x ∈ pre, Indep ops x e := by
        intro x hx
        have hp := (List.pairwise_append.1 inv.pairs).2.2 x hx e (by simp)
        rcases hp with hwt | hind
        · exfalso
          have hlis := waitsF_listed inv.closed 6 e.o hall hwt
          have hx' := inv.lis x (by simp [hx])
          rcases Nat.lt_or_ge x.i listed.size with h' | h'
          · simp [h'] at hx' hlis; rw [hx'] at hlis; cases hlis
          · simp [Array.getElem?_eq_none h'] at hlis
        · exact hind
      obtain ⟨hrun, hrunEq⟩ := front_ok (c := c) pre S hind inv.run
      have hgood := hrun.1
      -- the invariant behind it
      have hsub : ∀ x ∈ pre ++ post, x ∈ pre ++ e :: post := by
        intro x hx
        simp only [List.mem_append, List.mem_cons] at hx ⊢
        rcases hx with h | h
        · exact .inl h
        · exact .inr (.inr h)
      have hne : ∀ x ∈ pre ++ post, x.i ≠ e.i := by
        intro x hx
        simp only [List.mem_append] at hx
        have hp := List.pairwise_append.1 inv.sorted
        rcases hx with h | h
        · have := hp.2.2 x h e (by simp); omega
        · have := (List.pairwise_cons.1 hp.2.1).1 x h; omega
      have hnw : ∀ x ∈ pre ++ post, waitsF ops 4 e.o x.i = false := by
        intro x hx
        cases hwt : waitsF ops 4 e.o x.i with
        | false => rfl
        | true =>
          exfalso
          have hlis := waitsF_listed inv.closed 4 e.o hall hwt
          have hx' := inv.lis x (hsub x hx)
          rcases Nat.lt_or_ge x.i listed.size with h' | h'
          · simp [h'] at hx' hlis; rw [hx'] at hlis; cases hlis
          · simp [Array.getElem?_eq_none h'] at hlis
      have inv' : AnyInv c ops (pre ++ post) (listed.setIfInBounds e.i true) (S.ev e) := by
        refine ⟨fun j oj hj hjun => ?_, fun x hx => ?_, fun x hx => inv.ops_ x (hsub x hx), ?_, by simp [inv.size], fun x hx => inv.edges x (hsub x hx), ?_, fun x hx y hy hxy => inv.outs x (hsub x hx) y (hsub y hy) hxy, fun j oj hj hjl d hd hb => ?_, fun x hx h hh => ?_, hrun.2⟩
        · have hji : e.i ≠ j := by
            intro heq
            subst heq
            rcases Nat.lt_or_ge e.i listed.size with h' | h'
            · simp [h'] at hjun
            · simp at hjun
          rw [getD_set_ne true hji] at hjun
          obtain ⟨x, hx, hxi⟩ := inv.unl j oj hj hjun
          refine ⟨x, ?_, hxi⟩
          simp only [List.mem_append, List.mem_cons] at hx ⊢
          rcases hx with h | h | h
          · exact .inl h
          · exact absurd (by rw [← hxi, h]) hji
          · exact .inr h
        · rw [getD_set_ne true (fun heq => hne x hx heq.symm)]
          exact inv.lis x (hsub x hx)
        · have hp := List.pairwise_append.1 inv.sorted
          exact List.pairwise_append.2 ⟨hp.1, (List.pairwise_cons.1 hp.2.1).2, fun x hx y hy => hp.2.2 x hx y (by simp [hy])⟩
        · have hp := List.pairwise_append.1 inv.pairs
          exact List.pairwise_append.2 ⟨hp.1, (List.pairwise_cons.1 hp.2.1).2, fun x hx y hy => hp.2.2 x hx y (by simp [hy])⟩
        · have mono : ∀ q, listed.getD q false = true → (listed.setIfInBounds e.i true).getD q false = true := fun q hq => by
            by_cases hqe : e.i = q
            · subst hqe
              have hlt : e.i < listed.size := by
                rcases Nat.lt_or_ge e.i listed.size with h' | h'
                · exact h'
                · simp [Array.getElem?_eq_none h'] at hq
              simp [hlt]
            · rw [getD_set_ne false hqe]; exact hq
          by_cases hje : e.i = j
          · subst hje
            have : oj = e.o := Option.some.inj (hj.symm.trans (inv.ops_ e he))
            subst this
            exact mono _ (hall d hd hb)
          · rw [getD_set_ne false hje] at hjl
            exact mono _ (inv.closed j oj hj hjl d hd hb)
        · refine Fresh.ev (inv.fresh x (hsub x hx) h hh) ?_
          rcases inv.outs e he x (hsub x hx) (fun heq => hne x hx heq.symm) with hwt | hO
          · rw [hnw x hx] at hwt; cases hwt
          · exact hO h hh
      have hfr : ∀ h ∈ wrHs e.wr, h ∉ e.R → S.Fresh c h := fun h hh hR => inv.fresh e he h (by simp [Ev.Nw, Ev.W, hh, hR])
      have hat := hgood S ⟨fun _ _ => rfl, fun _ _ => rfl⟩ hfr a w hs (wpAny c.P .any ops Q fuel (listed.setIfInBounds e.i true)) Q
        (fun a' w' hs' => ih (pre ++ post) _ (S.ev e) (by simp only [List.length_append, List.length_cons] at hl ⊢; omega) inv' a' w' hs' (fun a'' w'' h'' => hQ a'' w'' (by rw [← hrunEq]; exact h'')))
      unfold wpOp
      rw [ho]
      unfold opAt at hat
      simp only
      split
      · rename_i hwant; rw [if_pos hwant] at hat; exact .inl hat
      · rename_i hwant; rw [if_neg hwant] at hat; exact hat

end Go.Proofs.Ytclpoenfcpefmaa

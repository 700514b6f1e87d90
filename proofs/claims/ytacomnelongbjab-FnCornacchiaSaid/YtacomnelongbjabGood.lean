/-
The layer under all proofs of this seat: abstract values, abstract memory, what it means that a state is met, what it means that an operation takes one abstract state to the next, and that a region whose operations are pairwise independent may be run in the order of its text. Conditions: none; this text proves nothing of the program. The abstract machine: what each operation gives on abstract states ('eff'), and the verification condition of a stack of code ('vc'). Conditions: none; definitions only. How a met state goes on being met: a value put into a slot, a new block, a store into a block of the call's own. Conditions: none; this text proves nothing of the program. Each operation of the abstract machine against the model's own: what it reads off the program's table of types, and that it takes a met state to the next. Conditions: none; this text proves nothing of the program. Each effect of the abstract machine is sound: values, boxes, arithmetic. Conditions: none; this text proves nothing of the program.
-/
import Derived.WalkKit
import Derived.Orders
import Derived.Maps.AppendAt
import Derived.Laws.StructEq
namespace Go.Proofs.Ytacomnelongbjab
open Go Go.RowKit

/-! ### Abstract values -/

/-- What a map holds: its keys (structs of integers) and their values. -/
inductive MC where
  | ints (l : List (List Int × Int))
  | bools (l : List (List Int × Bool))

/-- What a row of cells holds: the number of the element's type, and the elements. Further: a map; a struct of a row and a map, by its address; a row of rows; a row and a part of it that is read while the row is appended to. -/
inductive RC where
  | ints (e : Nat) (l : List Int)
  | recs (e k : Nat) (l : List (List Int))
  | bools (e : Nat) (l : List Bool)
  | mp (n : Nat) (m : MC)
  | grp (e k : Nat) (fs : List (List Int)) (n : Nat) (m : MC)
  | rows (e f : Nat) (ll : List (List Int))
  | vwp (e k : Nat) (R B : List (List Int))
  | wd (e : Nat) (n : Int) (l : List Int)
  | bx (e : Nat) (l : List Int)
  | clo (f e : Nat) (l : List Int)
def RC.flat : RC → Bool
  | .ints _ _ => true
  | .recs _ _ _ => true
  | .bools _ _ => true
  | _ => false

inductive A0 where
  | bot
  | i (n : Int)
  | b (b : Bool)
  | tt
  | ff
  | s (l : List Int)
  | fn (f : Nat)
  | ref (h off : Nat)
  | el (h sz i f : Nat)
  | row (h : Nat)
  | sub (h sz l r : Nat)
  | cut (h e n : Nat)
  | hd (h n : Nat)
  | co (h : Nat)
  | ci (h q : Nat)
  | oe (h q : Nat)
  | ie (h p sz q f : Nat)
  | ag (h1 h2 : Nat)
  | cl (f h h2 : Nat)
  | cur (l : List Int) (at_ sd : Int)
  | byt (l : List Int)
  | cz (h : Nat)
  | cs (h : Nat)
  | ce (h q : Nat)
  | u (k : IntKind) (n : Int)
  | nil
  | un
  | rw (r : RC)

inductive AV where
  | one (a : A0)
  | tup (l : List A0)

inductive Entry where
  | ibox (t : Nat) (l : List Int)
  | box (t : Nat) (cs : List A0)
  | row (r : RC)
  | ro (r : RC)
  | to (d : Nat)
  | t1 (d : Nat)
  | st (l : List Int)
  | cu (l : List Int) (at_ sd : Int)

abbrev vI (n : Int) : Value := .int .i64 n
def RC.elem : RC → Nat | .ints e _ => e | .recs e _ _ => e | .bools e _ => e | .rows e _ _ => e | _ => 0
def RC.sz : RC → Nat | .ints _ _ => 1 | .recs _ k _ => k | .bools _ _ => 1 | _ => 1
def RC.len : RC → Nat | .ints _ l => l.length | .recs _ _ l => l.length | .bools _ l => l.length | .rows _ _ ll => ll.length | _ => 0
def RC.cells : RC → List Value
  | .ints _ l => l.map vI
  | .recs _ _ l => l.flatMap fun x => x.map vI
  | .bools _ l => l.map .bool
  | _ => []
def RC.wf : RC → Prop
  | .ints _ _ => True
  | .recs _ k l => 0 < k ∧ ∀ x ∈ l, x.length = k
  | .bools _ _ => True
  | _ => False
def RC.slice : RC → Nat → Nat → RC
  | .ints e l, a, b => .ints e ((l.take b).drop a)
  | .recs e k l, a, b => .recs e k ((l.take b).drop a)
  | .bools e l, a, b => .bools e ((l.take b).drop a)
  | r, _, _ => r
def RC.app : RC → RC → Option RC
  | .ints e l, .ints _ m => some (.ints e (l ++ m))
  | .recs e k l, .recs _ k' m => bif k == k' then some (.recs e k (l ++ m)) else none
  | .bools e l, .bools _ m => some (.bools e (l ++ m))
  | _, _ => none
def RC.empty : RC → RC
  | .ints e _ => .ints e []
  | .recs e k _ => .recs e k []
  | .bools e _ => .bools e []
  | r => r
def MC.cells : MC → List (Value × Value)
  | .ints l => l.map fun p => (.agg (p.1.map vI).toArray, vI p.2)
  | .bools l => l.map fun p => (.agg (p.1.map vI).toArray, .bool p.2)
def MC.keys : MC → List (List Int)
  | .ints l => l.map (·.1)
  | .bools l => l.map (·.1)

/-- A handle may stand for several values: the first is the one that the program holds, the others lie behind it. -/
def hdV : Value → Value
  | .tuple vs => vs.getD 0 undef
  | v => v
def seg : Value → Nat → Value
  | .tuple vs, j => vs.getD j undef
  | v, 0 => v
  | _, _ => undef
def addTo : Value → Nat → Value
  | .pointer (some a), n => .pointer (some (a.add n))
  | .slice (some a) _ _, n => .pointer (some (a.add n))
  | _, _ => undef
def subOf : Value → Nat → Nat → Nat → Value
  | .slice a _ cap, sz, l, r => .slice (if cap = l then a else a.map (·.add (l * sz))) (r - l) (cap - l)
  | _, _, _, _ => undef

/-- the slice of a whole array variable -/
def cutOf : Value → Nat → Value
  | .pointer (some a), n => .slice (some a) n n
  | _, _ => undef

/-- the first n elements, and no room behind them -/
def headOf : Value → Nat → Value
  | .slice a _ _, n => .slice a n n
  | _, _ => undef
/-- the slice that a cursor's handle has beside it -/
def unA : Value → Value
  | .agg cs => cs.getD 0 undef
  | _ => undef
def codeOf (v : Value) : Value := unA (seg v 1)
def A0.conc (ρ : Nat → Value) : A0 → Value
  | .bot => undef
  | .i n => vI n
  | .b x => .bool x
  | .tt => .bool true
  | .ff => .bool false
  | .s l => .agg (l.map vI).toArray
  | .fn f => .func (.func f) #[] #[]
  | .ref h off => addTo (ρ h) off
  | .el h sz q f => addTo (ρ h) (q * sz + f)
  | .row h => ρ h
  | .sub h sz l r => subOf (ρ h) sz l r
  | .cut h _ n => cutOf (ρ h) n
  | .hd h n => headOf (ρ h) n
  | .co h => hdV (ρ h)
  | .ci h q => seg (ρ h) (q + 1)
  | .oe h q => addTo (seg (ρ h) 0) q
  | .ie h p sz q f => addTo (seg (ρ h) (p + 1)) (q * sz + f)
  | .ag h1 h2 => .agg #[ρ h1, hdV (ρ h2)]
  | .cl f h _ => .func (.func f) #[] #[ρ h]
  | .cur _ _ _ => undef
  | .byt _ => undef
  | .cz h => .agg #[ρ h, vI 0, .int .u64 0]
  | .cs h => codeOf (ρ h)
  | .ce h q => addTo (codeOf (ρ h)) q
  | .u k n => .int k n
  | .nil => .slice none 0 0
  | .un => undef
  | .rw _ => undef

/-- A concrete value fits an abstract one; 'bot' says nothing, 'rw' is met by no value (it stands in contracts alone). -/
def A0.rel (ρ : Nat → Value) (a : A0) (v : Value) : Prop :=
  match a with
  | .bot => True
  | .rw _ => False
  | .cur _ _ _ => False
  | .byt _ => False
  | a => v = a.conc ρ
def AV.rel (ρ : Nat → Value) : AV → Value → Prop
  | .one a, v => a.rel ρ v
  | .tup l, v => ∃ vs : List Value, v = .tuple vs.toArray ∧ vs.length = l.length ∧ ∀ (j : Nat) (a : A0), l[j]? = some a → ∃ u, vs[j]? = some u ∧ a.rel ρ u

/-- The two literals of a bool are written as a bool. -/
def A0.norm : A0 → A0
  | .tt => .b true
  | .ff => .b false
  | a => a
def AV.norm : AV → AV
  | .one a => .one a.norm
  | .tup l => .tup (l.map A0.norm)
def Entry.norm : Entry → Entry
  | .box t cs => .box t (cs.map A0.norm)
  | e => e

theorem A0.conc_norm (ρ : Nat → Value) (a : A0) : a.norm.conc ρ = a.conc ρ := by cases a <;> rfl
theorem A0.rel_norm (ρ : Nat → Value) (a : A0) (v : Value) : a.norm.rel ρ v ↔ a.rel ρ v := by cases a <;> simp [A0.rel, A0.norm, A0.conc]

/-- Which handles a value names. -/
def A0.hs : A0 → List Nat
  | .ref h _ => [h]
  | .el h _ _ _ => [h]
  | .row h => [h]
  | .sub h _ _ _ => [h]
  | .cut h _ _ => [h]
  | .hd h _ => [h]
  | .co h => [h]
  | .ci h _ => [h]
  | .oe h _ => [h]
  | .ie h _ _ _ _ => [h]
  | .ag h1 h2 => [h1, h2]
  | .cl _ h h2 => [h, h2]
  | .cz h => [h]
  | .cs h => [h]
  | .ce h _ => [h]
  | _ => []
def AV.hs : AV → List Nat
  | .one a => a.hs
  | .tup l => l.flatMap A0.hs
def Entry.hs : Entry → List Nat
  | .box _ cs => cs.flatMap A0.hs
  | .to d => [d]
  | .t1 d => [d]
  | _ => []

theorem A0.hs_norm (a : A0) : a.norm.hs = a.hs := by cases a <;> rfl
theorem AV.hs_norm (a : AV) : a.norm.hs = a.hs := by
  cases a with
  | one a => exact A0.hs_norm a
  | tup l => simp [AV.norm, AV.hs, List.flatMap_map, A0.hs_norm]
theorem Entry.hs_norm (e : Entry) : e.norm.hs = e.hs := by
  cases e <;> simp [Entry.norm, Entry.hs, List.flatMap_map, A0.hs_norm]

theorem A0.conc_congr {ρ ρ' : Nat → Value} {a : A0} (h : ∀ x ∈ a.hs, ρ' x = ρ x) : a.conc ρ' = a.conc ρ := by
  cases a <;> simp [A0.hs] at h <;> simp [A0.conc, h]
theorem A0.rel_congr {ρ ρ' : Nat → Value} {a : A0} {v : Value} (h : ∀ x ∈ a.hs, ρ' x = ρ x) (hr : a.rel ρ v) : a.rel ρ' v := by
  have hc := A0.conc_congr h
  cases a <;> simp only [A0.rel] at hr ⊢ <;> first | exact hr.trans hc.symm | exact hr
theorem AV.rel_congr {ρ ρ' : Nat → Value} {a : AV} {v : Value} (h : ∀ x ∈ a.hs, ρ' x = ρ x) (hr : a.rel ρ v) : a.rel ρ' v := by
  cases a with
  | one a => exact A0.rel_congr h hr
  | tup l =>
    obtain ⟨vs, hv, hl, hj⟩ := hr
    refine ⟨vs, hv, hl, fun j a ha => ?_⟩
    obtain ⟨u, hu, hr⟩ := hj j a ha
    exact ⟨u, hu, A0.rel_congr (fun x hx => h x (List.mem_flatMap.2 ⟨a, List.mem_of_getElem? ha, hx⟩)) hr⟩
theorem AV.rel_norm (ρ : Nat → Value) (a : AV) (v : Value) : a.norm.rel ρ v ↔ a.rel ρ v := by
  cases a with
  | one a => exact A0.rel_norm ρ a v
  | tup l =>
    constructor
    · rintro ⟨vs, hv, hl, hj⟩
      refine ⟨vs, hv, by simpa using hl, fun j a ha => ?_⟩
      obtain ⟨u, hu, hr⟩ := hj j a.norm (by simp [ha])
      exact ⟨u, hu, (A0.rel_norm ρ a u).1 hr⟩
    · rintro ⟨vs, hv, hl, hj⟩
      refine ⟨vs, hv, by simpa using hl, fun j a ha => ?_⟩
      simp only [List.getElem?_map, Option.map_eq_some_iff] at ha
      obtain ⟨a', ha', rfl⟩ := ha
      obtain ⟨u, hu, hr⟩ := hj j a' ha'
      exact ⟨u, hu, (A0.rel_norm ρ a' u).2 hr⟩

/-! ### Abstract memory against the world -/

structure Ctx where
  P : Program
  w0 : World
  X : Nat → Prop
  N : Nat
  pins : List (Nat × Value)

/-- A block that this call may write: a new one, or one that was handed over. -/
def Ctx.own (c : Ctx) (k : Nat) : Prop := c.w0.heap.size ≤ k ∨ c.X k

def blkOf : Value → Option Nat
  | .pointer (some a) => some a.block
  | .slice (some a) _ _ => some a.block
  | .map (some b) => some b
  | _ => none
/-- the blocks of a handle's values -/
def Blk : Value → Nat → Prop
  | .tuple vs, k => ∃ (j : Nat) (v : Value), vs.toList[j]? = some v ∧ blkOf v = some k
  | v, k => blkOf v = some k

/-- The slice value v owns the row r. -/
def FlatRow (w : World) (in_ : Nat → Prop) (r : RC) (v : Value) : Prop :=
  r.wf ∧ w.ownsRow 0 r.elem r.sz v r.len r.cells ∧ ∀ k, blkOf v = some k → in_ k
/-- The entries of a map. -/
def MapIs (n : Nat) (es : Array MapEntry) (m : MC) : Prop := es.toList.map (fun e => (e.key, e.val)) = m.cells ∧ ∀ x ∈ m.keys, x.length = n
/-- A row of rows: the outer row's cells are the inner rows' values; all lie apart. -/
structure RowsIs (w : World) (in_ : Nat → Prop) (e f : Nat) (ll : List (List Int)) (O : Value) (Is : List Value) : Prop where
  len : Is.length = ll.length
  outer : w.ownsRow 0 e 1 O ll.length Is
  oin : ∀ k, blkOf O = some k → in_ k
  inner : ∀ (j : Nat) (l : List Int), ll[j]? = some l → ∃ I, Is[j]? = some I ∧ FlatRow w in_ (.ints f l) I
  apart : ∀ (i j : Nat) (I J : Value), i ≠ j → Is[i]? = some I → Is[j]? = some J → ∀ k, blkOf I = some k → blkOf J ≠ some k
  oapart : ∀ (j : Nat) (I : Value), Is[j]? = some I → ∀ k, blkOf I = some k → blkOf O ≠ some k
/-- The slice value v reads as the row r in the world w; its cells lie in blocks that 'in_' lets. -/
def FlatReads (w : World) (in_ : Nat → Prop) (r : RC) (v : Value) : Prop :=
  r.wf ∧ ∃ A n cap, v = .slice A n cap ∧ n = r.len ∧ n ≤ cap ∧ cap ≤ maxLen ∧
    (0 < n → ∃ a, A = some a ∧ in_ a.block ∧ ∀ j u, r.cells[j]? = some u → w.cell? (a.add j) = some u)
/-- The same, and its block lies there even if no element does. -/
def ViewIs (w : World) (in_ : Nat → Prop) (r : RC) (v : Value) : Prop := FlatReads w in_ r v ∧ ∀ k, blkOf v = some k → in_ k ∧ k < w.heap.size
/-- A part that lies in the block of its row lies among its first cells. -/
def ViewAt (V W : Value) (x y : Nat) : Prop := ∀ a n cap, W = .slice (some a) n cap → ∀ k, blkOf V = some k → a.block = k → ∃ off, a = ⟨k, off, none⟩ ∧ off + x ≤ y
def CompRow (w : World) (in_ : Nat → Prop) (r : RC) (v : Value) : Prop :=
  match r with
  | .mp n m => ∃ b es clock, v = .map (some b) ∧ in_ b ∧ w.heap[b]? = some (.map es clock) ∧ MapIs n es m
  | .grp e k fs n m => ∃ g A b es clock t, v = .tuple #[.pointer (some ⟨g, 0, none⟩), A, .map (some b)] ∧ in_ g ∧ w.heap[g]? = some (.cells #[A, .map (some b)] t (0, 0)) ∧ FlatRow w in_ (.recs e k fs) A ∧ in_ b ∧ w.heap[b]? = some (.map es clock) ∧ MapIs n es m
  | .rows e f ll => ∃ O Is, v = .tuple (O :: Is).toArray ∧ RowsIs w in_ e f ll O Is
  | .vwp e k R B => ∃ W V, v = .tuple #[undef, W, V] ∧ ViewIs w in_ (.recs e k B) W ∧ FlatRow w in_ (.recs e k R) V ∧ ViewAt V W (B.length * k) (R.length * k)
  | .wd e n l => ∃ A, v = .tuple #[.agg #[vI n, A], A] ∧ FlatRow w in_ (.ints e l) A
  | .bx e l => ∃ g A t, v = .tuple #[.pointer (some ⟨g, 0, none⟩), A] ∧ in_ g ∧ w.heap[g]? = some (.cells #[A] t (0, 0)) ∧ FlatReads w in_ (.ints e l) A ∧ 0 < l.length
  | .clo f e l => ∃ g A t, v = .tuple #[.func (.func f) #[] #[.pointer (some ⟨g, 0, none⟩)], .pointer (some ⟨g, 0, none⟩), A] ∧ in_ g ∧ w.heap[g]? = some (.cells #[A] t (0, 0)) ∧ FlatReads w in_ (.ints e l) A ∧ 0 < l.length
  | _ => False
def OwnsRow (w : World) (in_ : Nat → Prop) (r : RC) (v : Value) : Prop := if r.flat = true then FlatRow w in_ r v else CompRow w in_ r v
def ReadsRow (w : World) (in_ : Nat → Prop) (r : RC) (v : Value) : Prop := if r.flat = true then FlatReads w in_ r v else CompRow w in_ r v
theorem OwnsRow.flat {w : World} {in_ : Nat → Prop} {r : RC} {v : Value} (hf : r.flat = true) : OwnsRow w in_ r v ↔ FlatRow w in_ r v := by unfold OwnsRow; rw [if_pos hf]
theorem ReadsRow.flat {w : World} {in_ : Nat → Prop} {r : RC} {v : Value} (hf : r.flat = true) : ReadsRow w in_ r v ↔ FlatReads w in_ r v := by unfold ReadsRow; rw [if_pos hf]
theorem OwnsRow.comp {w : World} {in_ : Nat → Prop} {r : RC} {v : Value} (hf : r.flat = false) : OwnsRow w in_ r v ↔ CompRow w in_ r v := by unfold OwnsRow; rw [if_neg (by rw [hf]; simp)]
theorem ReadsRow.comp {w : World} {in_ : Nat → Prop} {r : RC} {v : Value} (hf : r.flat = false) : ReadsRow w in_ r v ↔ CompRow w in_ r v := by unfold ReadsRow; rw [if_neg (by rw [hf]; simp)]

/-- The slice v reads as these bytes; its cells lie in blocks that 'p' lets. -/
def CodeAt (w : World) (p : Nat → Prop) (l : List Int) (v : Value) : Prop :=
  (∀ x ∈ l, 0 ≤ x ∧ x < 256) ∧ ∃ A n cap, v = .slice A n cap ∧ n = l.length ∧ n ≤ cap ∧ cap ≤ maxLen ∧
    (0 < n → ∃ a, A = some a ∧ p a.block ∧ ∀ j x, l[j]? = some x → w.cell? (a.add j) = some (.int .u8 x))
/-- A cursor's box: a slice, a place, a seed. -/
def CurAt (w : World) (g : Nat) (C : Value) (at_ sd : Int) : Prop := ∃ t, w.heap[g]? = some (.cells #[C, vI at_, .int .u64 sd] t (0, 0))
def Entry.holds (c : Ctx) (w : World) (ρ : Nat → Value) (h : Nat) : Entry → Prop
  | .ibox t l => ∃ k, ρ h = .pointer (some ⟨k, 0, none⟩) ∧ c.own k ∧ w.heap[k]? = some (.cells (l.map vI).toArray t (0, 0))
  | .box t cs => ∃ k arr, ρ h = .pointer (some ⟨k, 0, none⟩) ∧ c.own k ∧ w.heap[k]? = some (.cells arr t (0, 0)) ∧ arr.size = cs.length ∧
      ∀ (j : Nat) (a : A0), cs[j]? = some a → ∃ v, arr[j]? = some v ∧ a.rel ρ v
  | .row r => OwnsRow w c.own r (ρ h)
  | .ro r => ReadsRow w (fun k => k < c.w0.heap.size ∧ ¬ c.X k) r (ρ h)
  | .to d => hdV (ρ h) = hdV (ρ d)
  | .t1 d => seg (ρ h) 1 = seg (ρ d) 1
  | .st l => CodeAt c.w0 (fun k => k < c.w0.heap.size ∧ ¬ c.X k) l (ρ h)
  | .cu l at_ sd => ∃ g C, ρ h = .tuple #[.pointer (some ⟨g, 0, none⟩), .agg #[C]] ∧ c.own g ∧ CurAt w g C at_ sd ∧ CodeAt c.w0 (fun k => k < c.w0.heap.size ∧ ¬ c.X k) l C
def Entry.isOwn : Entry → Bool
  | .ro _ => false
  | .to _ => false
  | .t1 _ => false
  | .st _ => false
  | _ => true

structure SS where
  fr : Nat → AV
  mem : Nat → Option Entry

structure Frame0 (c : Ctx) (w : World) : Prop where
  os : w.os = c.w0.os
  tape : w.tape = c.w0.tape
  output : w.output = c.w0.output
  size : c.w0.heap.size ≤ w.heap.size
  block : ∀ k, k < c.w0.heap.size → ¬ c.X k → w.heap[k]? = c.w0.heap[k]?

structure SatR (c : Ctx) (S : SS) (ρ : Nat → Value) (tmps : Array Value) (w : World) : Prop where
  fr : ∀ s, (S.fr s).rel ρ (tmps.getD s undef)
  mem : ∀ h e, S.mem h = some e → e.holds c w ρ h
  sep : ∀ h h' e e', S.mem h = some e → S.mem h' = some e' → e.isOwn = true → e'.isOwn = true → h ≠ h' → ∀ k, Blk (ρ h) k → ¬ Blk (ρ h') k
  frame : Frame0 c w
  pin : ∀ p ∈ c.pins, ρ p.1 = p.2
  inX : ∀ k, c.X k → k < c.w0.heap.size

def Sat (c : Ctx) (S : SS) (a : Act) (w : World) : Prop := a.defers = [] ∧ a.tmps.size = c.N ∧ ∃ ρ, SatR c S ρ a.tmps w

/-- A handle that nothing names and that no pin holds. -/
structure SS.Fresh (c : Ctx) (S : SS) (h : Nat) : Prop where
  mem : S.mem h = none
  fr : ∀ s, h ∉ (S.fr s).hs
  ent : ∀ h' e, S.mem h' = some e → h ∉ e.hs
  pin : ∀ p ∈ c.pins, p.1 ≠ h

/-! ### States -/

def look {α : Type} (d : Nat) : List (Nat × α) → Option α
  | [] => none
  | p :: l => bif p.1 == d then some p.2 else look d l
def rem {α : Type} (d : Nat) : List (Nat × α) → List (Nat × α)
  | [] => []
  | p :: l => bif p.1 == d then rem d l else p :: rem d l

theorem look_rem {α : Type} (d k : Nat) : ∀ l : List (Nat × α), look k (rem d l) = if k = d then none else look k l
  | [] => by simp [rem, look]
  | p :: l => by
    have ih := look_rem d k l
    simp only [rem, look]
    by_cases h : p.1 = d
    · simp only [h, beq_self_eq_true, cond_true, ih]
      by_cases hk : k = d
      · simp [hk]
      · have : (d == k) = false := by simp; omega
        simp [hk, this]
    · have h' : (p.1 == d) = false := by simpa using h
      simp only [h', cond_false, look]
      by_cases hk : k = d
      · subst hk; simp [h', ih]
      · simp only [ih, hk, if_false]

/-- what is written to memory: some entry, or nothing any more -/
abbrev Wr := List (Nat × Option Entry)

def SS.apply (S : SS) (dst : Option Nat) (val : AV) (wr : Wr) : SS :=
  { fr := fun s => if dst = some s then val else S.fr s
    mem := fun h => match look h wr with | some oe => oe | none => S.mem h }

def wrHs (wr : Wr) : List Nat := wr.map (·.1)
theorem look_none_iff {α : Type} (h : Nat) : ∀ l : List (Nat × α), look h l = none ↔ h ∉ l.map (·.1)
  | [] => by simp [look]
  | p :: l => by
    simp only [look, List.map_cons, List.mem_cons, not_or]
    by_cases hp : p.1 = h
    · simp [hp]
    · have h' : (p.1 == h) = false := by simpa using hp
      simp only [h', cond_false, look_none_iff h l]
      constructor
      · exact fun hh => ⟨fun e => hp e.symm, hh⟩
      · exact fun hh => hh.2

theorem SS.apply_mem_other {S : SS} {dst : Option Nat} {val : AV} {wr : Wr} {h : Nat} (hh : h ∉ wrHs wr) : (S.apply dst val wr).mem h = S.mem h := by
  simp [SS.apply, (look_none_iff h wr).2 hh]

theorem SS.apply_comm (S : SS) {d d' : Option Nat} {v v' : AV} {wr wr' : Wr} (hd : ∀ s, d = some s → d' ≠ some s) (hw : ∀ h ∈ wrHs wr, h ∉ wrHs wr') :
    (S.apply d v wr).apply d' v' wr' = (S.apply d' v' wr').apply d v wr := by
  simp only [SS.apply, SS.mk.injEq]
  constructor
  · funext s
    by_cases h1 : d = some s
    · have := hd s h1; simp [h1, this]
    · simp [h1]
  · funext h
    by_cases h1 : h ∈ wrHs wr
    · have h2 := (look_none_iff h wr').2 (hw h h1)
      simp [h2]
    · have h2 := (look_none_iff h wr).2 h1
      simp [h2]

/-! ### One operation from one abstract state to the next -/

def opAt (P : Program) (ops : Array Oper) (o : Oper) (a : Act) (w : World) (K : Act → World → Prop) (Q : Exit → Act → World → Prop) : Prop :=
  if Region.wanted o (yielded ops a.tmps) then o.wp P a w K Q else K (a.put o.dst undef) w

structure Agree (ops : Array Oper) (o : Oper) (R : List Nat) (S S' : SS) : Prop where
  fr : ∀ t ∈ o.looksAt ops, S'.fr t = S.fr t
  mem : ∀ h ∈ R, S'.mem h = S.mem h

/-- In every state that agrees with S on what the operation looks at, it takes the state to the one with this value in its slot and these entries in memory. -/
def Good (c : Ctx) (ops : Array Oper) (o : Oper) (S : SS) (R : List Nat) (val : AV) (wr : Wr) : Prop :=
  ∀ S', Agree ops o R S S' → (∀ h ∈ wrHs wr, h ∉ R → S'.Fresh c h) → ∀ a w, Sat c S' a w →
    ∀ (K : Act → World → Prop) (Q : Exit → Act → World → Prop), (∀ a' w', Sat c (S'.apply o.dst val wr) a' w' → K a' w') → opAt c.P ops o a w K Q

theorem Good.agree {c : Ctx} {ops : Array Oper} {o : Oper} {S T : SS} {R : List Nat} {val : AV} {wr : Wr} (h : Good c ops o S R val wr) (ha : Agree ops o R T S) : Good c ops o T R val wr :=
  fun S' hag => h S' ⟨fun t ht => (hag.fr t ht).trans (ha.fr t ht).symm, fun x hx => (hag.mem x hx).trans (ha.mem x hx).symm⟩

/-! ### Any order -/

/-- An operation of a region as the text's run has met it. -/
structure Ev where
  i : Nat
  o : Oper
  R : List Nat
  val : AV
  wr : Wr

def Ev.W (e : Ev) : List Nat := wrHs e.wr
/-- the handles that it makes -/
def Ev.Nw (e : Ev) : List Nat := e.W.filter fun h => !e.R.contains h
/-- all handles that it names behind it -/
def Ev.O (e : Ev) : List Nat := e.W ++ (e.val.hs ++ e.wr.flatMap fun p => (p.2.map Entry.hs).getD [])
def SS.ev (S : SS) (e : Ev) : SS := S.apply e.o.dst e.val e.wr

def disj (l m : List Nat) : Bool := l.all fun x => !m.contains x
theorem disj_spec {l m : List Nat} (h : disj l m = true) : ∀ x ∈ l, x ∉ m := by
  intro x hx hm
  have := List.all_eq_true.1 h x hx
  simp [hm] at this

structure Indep (ops : Array Oper) (x y : Ev) : Prop where
  slots : x.o.apart ops y.o = true
  xy : ∀ h ∈ x.W, h ∉ y.R ∧ h ∉ y.W
  yx : ∀ h ∈ y.W, h ∉ x.R

def RunOk (c : Ctx) (ops : Array Oper) : List Ev → SS → Prop
  | [], _ => True
  | e :: l, S => Good c ops e.o S e.R e.val e.wr ∧ RunOk c ops l (S.ev e)
def runEv : List Ev → SS → SS
  | [], S => S
  | e :: l, S => runEv l (S.ev e)

section
variable {c : Ctx} {ops : Array Oper}

theorem agree_ev {x y : Ev} (S : SS) (hs : ∀ d, x.o.dst = some d → d ∉ y.o.looksAt ops) (hw : ∀ h ∈ x.W, h ∉ y.R) : Agree ops y.o y.R S (S.ev x) :=
  ⟨fun t ht => by
    have : x.o.dst ≠ some t := fun e => hs t e ht
    simp [SS.ev, SS.apply, this],
   fun h hh => SS.apply_mem_other (fun hx => hw h hx hh)⟩
theorem Agree.symm {o : Oper} {R : List Nat} {S T : SS} (h : Agree ops o R S T) : Agree ops o R T S := ⟨fun t ht => (h.fr t ht).symm, fun x hx => (h.mem x hx).symm⟩

theorem swap_ok {x y : Ev} {l : List Ev} {S : SS} (hi : Indep ops x y) (h : RunOk c ops (x :: y :: l) S) : RunOk c ops (y :: x :: l) S ∧ runEv (y :: x :: l) S = runEv (x :: y :: l) S := by
  obtain ⟨h1, h2, h3⟩ := Oper.apart_spec hi.slots
  obtain ⟨gx, gy, gl⟩ := h
  have comm : (S.ev y).ev x = (S.ev x).ev y := (SS.apply_comm S (d := x.o.dst) (d' := y.o.dst) (v := x.val) (v' := y.val) (wr := x.wr) (wr' := y.wr) h2 (fun h hh => (hi.xy h hh).2)).symm
  refine ⟨⟨gy.agree (agree_ev S h1 (fun h hh => (hi.xy h hh).1)), gx.agree (agree_ev S h3 hi.yx).symm, ?_⟩, ?_⟩
  · rw [comm]; exact gl
  · simp only [runEv, comm]

theorem front_ok {y : Ev} {post : List Ev} : ∀ (pre : List Ev) (S : SS), (∀ x ∈ pre, Indep ops x y) → RunOk c ops (pre ++ y :: post) S →
    RunOk c ops (y :: (pre ++ post)) S ∧ runEv (y :: (pre ++ post)) S = runEv (pre ++ y :: post) S
  | [], S, _, h => ⟨h, rfl⟩
  | x :: pre, S, hi, h => by
    obtain ⟨gx, hr⟩ := h
    obtain ⟨h1, h2⟩ := front_ok pre (S.ev x) (fun z hz => hi z (by simp [hz])) hr
    have h3 : RunOk c ops (x :: y :: (pre ++ post)) S := ⟨gx, h1⟩
    obtain ⟨h4, h5⟩ := swap_ok (hi x (by simp)) h3
    exact ⟨h4, h5.trans h2⟩
end

/-- o waits for i, through n others at most -/
def waitsF (ops : Array Oper) : Nat → Oper → Nat → Bool
  | 0, _, _ => false
  | n + 1, o, i => o.after.any fun e => Region.binds .any e && (e.on == i || (match ops[e.on]? with | some z => waitsF ops n z i | none => false))
/-- what is waited for is listed before -/
theorem waitsF_listed {ops : Array Oper} {listed : Array Bool} (hc : ∀ i oi, ops[i]? = some oi → listed.getD i false = true → ∀ d ∈ oi.after, Region.binds .any d = true → listed.getD d.on false = true) {i : Nat} :
    ∀ (n : Nat) (o : Oper), (∀ d ∈ o.after, Region.binds .any d = true → listed.getD d.on false = true) → waitsF ops n o i = true → listed.getD i false = true
  | 0, o, _, h => by simp [waitsF] at h
  | n + 1, o, hd, h => by
    simp only [waitsF] at h
    obtain ⟨e, he, hb⟩ := Array.any_eq_true'.1 h
    simp only [Bool.and_eq_true, Bool.or_eq_true, beq_iff_eq] at hb
    obtain ⟨hb1, hb2⟩ := hb
    have hl := hd e he hb1
    rcases hb2 with hb2 | hb2
    · rw [← hb2]; exact hl
    · cases hz : ops[e.on]? with
      | none => rw [hz] at hb2; cases hb2
      | some z =>
        rw [hz] at hb2
        exact waitsF_listed hc n z (hc e.on z hz hl) hb2

structure AnyInv (c : Ctx) (ops : Array Oper) (l : List Ev) (listed : Array Bool) (S : SS) : Prop where
  unl : ∀ i oi, ops[i]? = some oi → listed.getD i true = false → ∃ e ∈ l, e.i = i
  lis : ∀ e ∈ l, listed.getD e.i true = false
  ops_ : ∀ e ∈ l, ops[e.i]? = some e.o
  sorted : l.Pairwise fun x y => x.i < y.i
  size : listed.size = ops.size
  edges : ∀ e ∈ l, ∀ d ∈ e.o.after, Region.binds .any d = true → d.on < e.i
  pairs : l.Pairwise fun x y => waitsF ops 6 y.o x.i = true ∨ Indep ops x y
  outs : ∀ x ∈ l, ∀ y ∈ l, x.i ≠ y.i → waitsF ops 4 x.o y.i = true ∨ ∀ h ∈ y.Nw, h ∉ x.O
  closed : ∀ i oi, ops[i]? = some oi → listed.getD i false = true → ∀ d ∈ oi.after, Region.binds .any d = true → listed.getD d.on false = true
  fresh : ∀ e ∈ l, ∀ h ∈ e.Nw, S.Fresh c h
  run : RunOk c ops l S

theorem Fresh.ev {c : Ctx} {S : SS} {e : Ev} {h : Nat} (hf : S.Fresh c h) (hO : h ∉ e.O) : (S.ev e).Fresh c h := by
  simp only [Ev.O, List.mem_append, List.mem_flatMap, not_or, not_exists] at hO
  refine ⟨?_, fun s => ?_, fun h' e' he' => ?_, hf.pin⟩
  · rw [SS.ev, SS.apply_mem_other hO.1]; exact hf.mem
  · simp only [SS.ev, SS.apply]
    split
    · exact hO.2.1
    · exact hf.fr s
  · simp only [SS.ev, SS.apply] at he'
    cases hl : look h' e.wr with
    | none => rw [hl] at he'; exact hf.ent h' e' he'
    | some oe =>
      rw [hl] at he'
      simp only at he'
      subst he'
      intro hm
      have hmem : (h', some e') ∈ e.wr := by
        have : ∀ l : Wr, look h' l = some (some e') → (h', some e') ∈ l := by
          intro l
          induction l with
          | nil => simp [look]
          | cons p l ih =>
            simp only [look]
            by_cases hp : p.1 = h'
            · have : (p.1 == h') = true := by simpa using hp
              rw [this]
              simp only [cond_true, Option.some.injEq]
              intro he
              have : p = (h', some e') := by cases p; simp_all
              rw [this]
              exact List.mem_cons_self
            · have : (p.1 == h') = false := by simpa using hp
              rw [this]
              simp only [cond_false]
              intro he
              exact List.mem_cons_of_mem _ (ih he)
        exact this _ hl
      exact hO.2.2 _ ⟨hmem, by simpa using hm⟩

theorem any_order {c : Ctx} {ops : Array Oper} {Q : Exit → Act → World → Prop} : ∀ (fuel : Nat) (l : List Ev) (listed : Array Bool) (S : SS), l.length = fuel → AnyInv c ops l listed S →
    ∀ a w, Sat c S a w → (∀ a' w', Sat c (runEv l S) a' w' → Q .normal a' w') → wpAny c.P .any ops Q fuel listed a w := by
  intro fuel
  induction fuel with
  | zero =>
    intro l listed S hl inv a w hs hQ
    have hl0 : l = [] := List.eq_nil_of_length_eq_zero hl
    subst hl0
    refine ⟨?_, hQ a w hs⟩
    rw [List.eq_nil_iff_forall_not_mem]
    intro i hi
    obtain ⟨hu, oi, ho, _⟩ := mem_ready.1 hi
    obtain ⟨e, he, _⟩ := inv.unl i oi ho hu
    cases he
  | succ fuel ih =>
    intro l listed S hl inv a w hs hQ
    refine ⟨fun hnil => ?_, fun i hi => ?_⟩
    · exfalso
      cases l with
      | nil => simp at hl
      | cons e l' =>
        have he : e ∈ e :: l' := by simp
        have hmem : e.i ∈ Region.ready .any ops listed := by
          refine mem_ready.2 ⟨inv.lis e he, e.o, inv.ops_ e he, fun d hd hb => ?_⟩
          have hlt := inv.edges e he d hd hb
          have hei : e.i < ops.size := (Array.getElem?_eq_some_iff.1 (inv.ops_ e he)).1
          have hds : d.on < listed.size := by rw [inv.size]; omega
          cases hc : listed.getD d.on true with
          | true => simpa [hds] using hc
          | false =>
            have hdo : d.on < ops.size := by omega
            obtain ⟨x, hx, hxi⟩ := inv.unl d.on ops[d.on] (by simp [hdo]) hc
            simp only [List.mem_cons] at hx
            rcases hx with rfl | hx
            · omega
            · have := (List.pairwise_cons.1 inv.sorted).1 x hx
              omega
        rw [hnil] at hmem
        cases hmem
    · obtain ⟨hu, oi, ho, hall⟩ := mem_ready.1 hi
      obtain ⟨e, he, hei⟩ := inv.unl i oi ho hu
      subst hei
      obtain ⟨pre, post, hsplit⟩ := List.append_of_mem he
      subst hsplit
      have hoe : oi = e.o := Option.some.inj (ho.symm.trans (inv.ops_ e he))
      subst hoe
      have hind : ∀ x ∈ pre, Indep ops x e := by
        intro x hx
        have hp := (List.pairwise_append.1 inv.pairs).2.2 x hx e (by simp)
        rcases hp with hwt | hind
        · exfalso
          have hlis := waitsF_listed inv.closed 6 e.o hall hwt
          have hx' := inv.lis x (by simp [hx])
          rcases Nat.lt_or_ge x.i listed.size with h' | h'
          · simp [h'] at hx' hlis; rw [hx'] at hlis; cases hlis
          · simp [Array.getElem?_eq_none h'] at hlis
        · exact hind
      obtain ⟨hrun, hrunEq⟩ := front_ok (c := c) pre S hind inv.run
      have hgood := hrun.1
      -- the invariant behind it
      have hsub : ∀ x ∈ pre ++ post, x ∈ pre ++ e :: post := by
        intro x hx
        simp only [List.mem_append, List.mem_cons] at hx ⊢
        rcases hx with h | h
        · exact .inl h
        · exact .inr (.inr h)
      have hne : ∀ x ∈ pre ++ post, x.i ≠ e.i := by
        intro x hx
        simp only [List.mem_append] at hx
        have hp := List.pairwise_append.1 inv.sorted
        rcases hx with h | h
        · have := hp.2.2 x h e (by simp); omega
        · have := (List.pairwise_cons.1 hp.2.1).1 x h; omega
      have hnw : ∀ x ∈ pre ++ post, waitsF ops 4 e.o x.i = false := by
        intro x hx
        cases hwt : waitsF ops 4 e.o x.i with
        | false => rfl
        | true =>
          exfalso
          have hlis := waitsF_listed inv.closed 4 e.o hall hwt
          have hx' := inv.lis x (hsub x hx)
          rcases Nat.lt_or_ge x.i listed.size with h' | h'
          · simp [h'] at hx' hlis; rw [hx'] at hlis; cases hlis
          · simp [Array.getElem?_eq_none h'] at hlis
      have inv' : AnyInv c ops (pre ++ post) (listed.setIfInBounds e.i true) (S.ev e) := by
        refine ⟨fun j oj hj hjun => ?_, fun x hx => ?_, fun x hx => inv.ops_ x (hsub x hx), ?_, by simp [inv.size], fun x hx => inv.edges x (hsub x hx), ?_, fun x hx y hy hxy => inv.outs x (hsub x hx) y (hsub y hy) hxy, fun j oj hj hjl d hd hb => ?_, fun x hx h hh => ?_, hrun.2⟩
        · have hji : e.i ≠ j := by
            intro heq
            subst heq
            rcases Nat.lt_or_ge e.i listed.size with h' | h'
            · simp [h'] at hjun
            · simp at hjun
          rw [getD_set_ne true hji] at hjun
          obtain ⟨x, hx, hxi⟩ := inv.unl j oj hj hjun
          refine ⟨x, ?_, hxi⟩
          simp only [List.mem_append, List.mem_cons] at hx ⊢
          rcases hx with h | h | h
          · exact .inl h
          · exact absurd (by rw [← hxi, h]) hji
          · exact .inr h
        · rw [getD_set_ne true (fun heq => hne x hx heq.symm)]
          exact inv.lis x (hsub x hx)
        · have hp := List.pairwise_append.1 inv.sorted
          exact List.pairwise_append.2 ⟨hp.1, (List.pairwise_cons.1 hp.2.1).2, fun x hx y hy => hp.2.2 x hx y (by simp [hy])⟩
        · have hp := List.pairwise_append.1 inv.pairs
          exact List.pairwise_append.2 ⟨hp.1, (List.pairwise_cons.1 hp.2.1).2, fun x hx y hy => hp.2.2 x hx y (by simp [hy])⟩
        · have mono : ∀ q, listed.getD q false = true → (listed.setIfInBounds e.i true).getD q false = true := fun q hq => by
            by_cases hqe : e.i = q
            · subst hqe
              have hlt : e.i < listed.size := by
                rcases Nat.lt_or_ge e.i listed.size with h' | h'
                · exact h'
                · simp [Array.getElem?_eq_none h'] at hq
              simp [hlt]
            · rw [getD_set_ne false hqe]; exact hq
          by_cases hje : e.i = j
          · subst hje
            have : oj = e.o := Option.some.inj (hj.symm.trans (inv.ops_ e he))
            subst this
            exact mono _ (hall d hd hb)
          · rw [getD_set_ne false hje] at hjl
            exact mono _ (inv.closed j oj hj hjl d hd hb)
        · refine Fresh.ev (inv.fresh x (hsub x hx) h hh) ?_
          rcases inv.outs e he x (hsub x hx) (fun heq => hne x hx heq.symm) with hwt | hO
          · rw [hnw x hx] at hwt; cases hwt
          · exact hO h hh
      have hfr : ∀ h ∈ wrHs e.wr, h ∉ e.R → S.Fresh c h := fun h hh hR => inv.fresh e he h (by simp [Ev.Nw, Ev.W, hh, hR])
      have hat := hgood S ⟨fun _ _ => rfl, fun _ _ => rfl⟩ hfr a w hs (wpAny c.P .any ops Q fuel (listed.setIfInBounds e.i true)) Q
        (fun a' w' hs' => ih (pre ++ post) _ (S.ev e) (by simp only [List.length_append, List.length_cons] at hl ⊢; omega) inv' a' w' hs' (fun a'' w'' h'' => hQ a'' w'' (by rw [← hrunEq]; exact h'')))
      unfold wpOp
      rw [ho]
      unfold opAt at hat
      simp only
      split
      · rename_i hwant; rw [if_pos hwant] at hat; exact .inl hat
      · rename_i hwant; rw [if_neg hwant] at hat; exact hat

end Go.Proofs.Ytacomnelongbjab
namespace Go.Proofs.Ytacomnelongbjab
open Go Go.RowKit

inductive TK where
  | int
  | bool
  | struct (fs : List (Nat × Nat))
  | array (n e : Nat)
  | slice (e : Nat)
  | mapT (k e : Nat)
  | two (f g : Nat)
  | word (e : Nat)
  | cur
  | uk (k : IntKind)
structure TI where
  k : TK
  sz : Nat
  bytes : Nat
abbrev Tab := List (Nat × TI)

structure St where
  fr : List (Nat × AV)
  mem : List (Nat × Entry)

def St.put (S : St) (d : Option Nat) (v : AV) : St :=
  match d with
  | none => S
  | some d => ⟨(d, v) :: rem d S.fr, S.mem⟩
def St.setMem (S : St) (h : Nat) : Option Entry → St
  | some e => ⟨S.fr, (h, e) :: rem h S.mem⟩
  | none => ⟨S.fr, rem h S.mem⟩
def setMems (S : St) : Wr → St
  | [] => S
  | p :: l => (setMems S l).setMem p.1 p.2

def cst : Value → AV
  | .int .i64 n => .one (.i n)
  | .int k n => .one (.u k n)
  | .bool true => .one .tt
  | .bool false => .one .ff
  | .slice none 0 0 => .one .nil
  | _ => .one .bot
def St.eval (S : St) : Operand → AV
  | .tmp t => (look t S.fr).getD (.one .bot)
  | .const v => cst v
  | .global _ => .one .bot
  | .func f => .one (.fn f)

/-- a handle that leads to another one gives way to it -/
def Entry.toO : Entry → Option (Bool × Nat)
  | .to d => some (true, d)
  | .t1 d => some (false, d)
  | .ibox _ _ => none
  | .box _ _ => none
  | .row _ => none
  | .ro _ => none
  | .st _ => none
  | .cu _ _ _ => none
def toOf : List (Nat × Entry) → Option Nat
  | [] => none
  | p :: l => match p.2.toO with
    | some _ => some p.1
    | none => toOf l
def A0.mv (h d : Nat) : A0 → A0
  | .co x => bif x == h then .co d else .co x
  | a => a
def A0.mv1 (h d : Nat) : A0 → A0
  | .ci x 0 => bif x == h then .ci d 0 else .ci x 0
  | .ie x 0 z q f => bif x == h then .ie d 0 z q f else .ie x 0 z q f
  | a => a
def AV.mv1 (h d : Nat) : AV → AV
  | .one a => .one (a.mv1 h d)
  | .tup l => .tup (l.map (A0.mv1 h d))
def AV.mv (h d : Nat) : AV → AV
  | .one a => .one (a.mv h d)
  | .tup l => .tup (l.map (A0.mv h d))
def mvTo (S : St) (h : Nat) : Option (Bool × Nat) → St
  | some (true, d) => ⟨S.fr.map fun p => (p.1, p.2.mv h d), rem h S.mem⟩
  | some (false, d) => ⟨S.fr.map fun p => (p.1, p.2.mv1 h d), rem h S.mem⟩
  | none => S
def St.res (S : St) : St :=
  match toOf S.mem with
  | some h => mvTo S h ((look h S.mem).bind Entry.toO)
  | none => S
structure Eff where
  pre : Prop
  val : AV
  wr : Wr
def val1 (a : AV) : Option Eff := some ⟨True, a, []⟩
def St.after (S : St) (d : Option Nat) (e : Eff) : St := (setMems S e.wr).put d e.val

def setAt {α : Type} : List α → Nat → List α → List α
  | l, _, [] => l
  | l, i, x :: xs => setAt (l.set i x) (i + 1) xs

/-! #### memory: boxes -/
def effBox (t : Nat) (d : Option Nat) (a : AV) : Option Eff :=
  match d, a with
  | some d, .one (.s l) => some ⟨True, .one (.ref d 0), [(d, some (.ibox t l))]⟩
  | some d, .one (.i n) => some ⟨True, .one (.ref d 0), [(d, some (.ibox t [n]))]⟩
  | some d, .one (.b x) => some ⟨True, .one (.ref d 0), [(d, some (.box t [.b x]))]⟩
  | some d, .one .tt => some ⟨True, .one (.ref d 0), [(d, some (.box t [.tt]))]⟩
  | some d, .one .ff => some ⟨True, .one (.ref d 0), [(d, some (.box t [.ff]))]⟩
  | _, _ => none
/-- a struct of a row and a map, put in a box: from then on one handle -/
def boxPair (S : St) (d h1 h2 : Nat) : Option Eff :=
  match look h1 S.mem with
  | some (.row (.recs e k fs)) => match look h2 S.mem with
    | some (.row (.mp n m)) => bif d == h1 || (d == h2 || h1 == h2) then none else some ⟨True, .one (.co d), [(h1, none), (h2, none), (d, some (.row (.grp e k fs n m)))]⟩
    | _ => none
  | _ => none
def effBox2 (S : St) (t : Nat) (d : Option Nat) (a : AV) : Option Eff :=
  match a with
  | .one (.ag h1 h2) => match d with
    | some d => boxPair S d h1 h2
    | none => none
  | a => effBox t d a
def effAlloc (t : Nat) (d : Option Nat) (ti : Option TI) : Option Eff :=
  match d, ti with
  | some d, some ⟨.int, _, _⟩ => some ⟨True, .one (.ref d 0), [(d, some (.ibox t [0]))]⟩
  | some d, some ⟨.bool, _, _⟩ => some ⟨True, .one (.ref d 0), [(d, some (.box t [.ff]))]⟩
  | some d, some ⟨.struct _, n, _⟩ => some ⟨True, .one (.ref d 0), [(d, some (.ibox t (List.replicate n 0)))]⟩
  | some d, some ⟨.array _ _, n, _⟩ => some ⟨True, .one (.ref d 0), [(d, some (.ibox t (List.replicate n 0)))]⟩
  | _, _ => none
def entryRow : Option Entry → Option RC
  | some (.row r) => bif r.flat then some r else none
  | some (.ro r) => bif r.flat then some r else none
  | _ => none
/-- what a handle of several values stands for -/
def compOf : Option Entry → Option RC
  | some (.row r) => bif r.flat then none else some r
  | some (.ro r) => bif r.flat then none else some r
  | _ => none
/-- a row within it -/
def innerOf : Option RC → Nat → Option RC
  | some (.grp e k fs _ _), 0 => some (.recs e k fs)
  | some (.rows _ f ll), p => some (.ints f (ll.getD p []))
  | some (.vwp e k _ B), 0 => some (.recs e k B)
  | some (.vwp e k R _), 1 => some (.recs e k R)
  | some (.wd e _ l), 0 => some (.ints e l)
  | some (.bx e l), 0 => some (.ints e l)
  | _, _ => none
def innerPre : Option RC → Nat → Prop
  | some (.rows _ _ ll), p => p < ll.length
  | _, _ => True
def fieldTwo (S : St) (x : AV) (f : Nat) : Option Eff :=
  match x with
  | .one (.co h) => match compOf (look h S.mem) with
    | some (.grp _ _ _ _ _) => bif Nat.blt f 2 then val1 (.one (.oe h f)) else none
    | _ => none
  | _ => none
def fieldOff (ti : Option TI) (f : Nat) : Option Nat :=
  match ti with
  | some ⟨.struct fs, _, _⟩ => (fs[f]?).map (·.1)
  | _ => none
def effField (ti : Option TI) (S : St) (x : AV) (f : Nat) : Option Eff :=
  match fieldOff ti f with
  | some p => match x with
    | .one (.ref h off) => match look h S.mem with
      | some (.ibox _ _) => val1 (.one (.ref h (off + p)))
      | some (.box _ _) => val1 (.one (.ref h (off + p)))
      | _ => none
    | .one (.el h sz q g) => match look h S.mem with
      | some (.ibox _ _) => val1 (.one (.el h sz q (g + p)))
      | some (.row r) => bif r.flat then some ⟨q < r.len, .one (.el h sz q (g + p)), []⟩ else none
      | some (.ro r) => bif r.flat then some ⟨q < r.len, .one (.el h sz q (g + p)), []⟩ else none
      | _ => none
    | _ => none
  | none => match ti with
    | some ⟨.two _ _, _, _⟩ => fieldTwo S x f
    | _ => none
def loadI (ti : Option TI) (off : Nat) (l : List Int) : Option Eff :=
  match ti with
  | some ⟨.int, _, _⟩ => match l[off]? with
    | some x => val1 (.one (.i x))
    | none => none
  | some ⟨.struct _, n, _⟩ => bif Nat.ble (off + n) l.length then val1 (.one (.s ((l.drop off).take n))) else none
  | some ⟨.array _ _, n, _⟩ => bif Nat.ble (off + n) l.length then val1 (.one (.s ((l.drop off).take n))) else none
  | _ => none
def load1 (ti : Option TI) : Option A0 → Option Eff
  | some a => match ti with
    | some ⟨.int, _, _⟩ => val1 (.one a)
    | some ⟨.bool, _, _⟩ => val1 (.one a)
    | _ => none
  | none => none
/-- element q of a row, cell f of it -/
def loadR (ti : Option TI) (sz q f : Nat) : RC → Option Eff
  | .ints _ l => match ti with
    | some ⟨.int, _, _⟩ => bif sz == 1 && f == 0 then some ⟨q < l.length, .one (.i (l.getD q 0)), []⟩ else none
    | _ => none
  | .bools _ l => match ti with
    | some ⟨.bool, _, _⟩ => bif sz == 1 && f == 0 then some ⟨q < l.length, .one (.b (l.getD q false)), []⟩ else none
    | _ => none
  | .recs _ k l => match ti with
    | some ⟨.int, _, _⟩ => bif sz == k && Nat.blt f k then some ⟨q < l.length, .one (.i ((l.getD q (List.replicate k 0)).getD f 0)), []⟩ else none
    | some ⟨.struct _, n, _⟩ => bif sz == k && (f == 0 && n == k) then some ⟨q < l.length, .one (.s ((List.range k).map fun j => (l.getD q (List.replicate k 0)).getD j 0)), []⟩ else none
    | _ => none
  | _ => none
/-- a cell of the first value: another value -/
def loadO (ti : Option TI) (h q : Nat) : Option RC → Option Eff
  | some (.grp _ _ _ _ _) => match ti with
    | some ⟨.slice _, _, _⟩ => bif q == 0 then val1 (.one (.ci h 0)) else none
    | some ⟨.mapT _ _, _, _⟩ => bif q == 1 then val1 (.one (.ci h 1)) else none
    | _ => none
  | some (.rows _ _ ll) => match ti with
    | some ⟨.slice _, _, _⟩ => some ⟨q < ll.length, .one (.ci h q), []⟩
    | _ => none
  | _ => none
/-- a cell of a row within -/
def loadN (ti : Option TI) (p sz q f : Nat) (r : Option RC) : Option Eff :=
  match innerOf r p with
  | some r' => match loadR ti sz q f r' with
    | some e => some ⟨innerPre r p ∧ e.pre, e.val, []⟩
    | none => none
  | none => none
def effLoad (ti : Option TI) (S : St) (x : AV) : Option Eff :=
  match x with
  | .one (.ref h off) => match look h S.mem with
    | some (.ibox _ l) => loadI ti off l
    | some (.box _ cs) => load1 ti (cs[off]?)
    | _ => none
  | .one (.el h sz q f) => match look h S.mem with
    | some (.row r) => loadR ti sz q f r
    | some (.ro r) => loadR ti sz q f r
    | some (.ibox _ l) => match ti with
      | some ⟨.int, _, _⟩ => some ⟨q * sz + f < l.length, .one (.i (l.getD (q * sz + f) 0)), []⟩
      | _ => none
    | _ => none
  | .one (.oe h q) => loadO ti h q (compOf (look h S.mem))
  | .one (.ie h p sz q f) => loadN ti p sz q f (compOf (look h S.mem))
  | _ => none
def storeI (t h off : Nat) (l : List Int) : A0 → Option Eff
  | .i n => bif Nat.blt off l.length then some ⟨True, .one .bot, [(h, some (.ibox t (l.set off n)))]⟩ else none
  | .s m => bif Nat.ble (off + m.length) l.length then some ⟨True, .one .bot, [(h, some (.ibox t (setAt l off m)))]⟩ else none
  | _ => none
def storeB (t h off : Nat) (l : List A0) (a : A0) : Option Eff :=
  bif Nat.blt off l.length then (match a with
    | .i n => some ⟨True, .one .bot, [(h, some (.box t (l.set off (.i n))))]⟩
    | .b n => some ⟨True, .one .bot, [(h, some (.box t (l.set off (.b n))))]⟩
    | .tt => some ⟨True, .one .bot, [(h, some (.box t (l.set off .tt)))]⟩
    | .ff => some ⟨True, .one .bot, [(h, some (.box t (l.set off .ff)))]⟩
    | .nil => some ⟨True, .one .bot, [(h, some (.box t (l.set off .nil)))]⟩
    | _ => none) else none
def storeR (h sz q f : Nat) : RC → A0 → Option Eff
  | .ints e l, .i n => bif sz == 1 && f == 0 then some ⟨q < l.length, .one .bot, [(h, some (.row (.ints e (l.set q n))))]⟩ else none
  | .bools e l, .b x => bif sz == 1 && f == 0 then some ⟨q < l.length, .one .bot, [(h, some (.row (.bools e (l.set q x))))]⟩ else none
  | .bools e l, .tt => bif sz == 1 && f == 0 then some ⟨q < l.length, .one .bot, [(h, some (.row (.bools e (l.set q true))))]⟩ else none
  | .bools e l, .ff => bif sz == 1 && f == 0 then some ⟨q < l.length, .one .bot, [(h, some (.row (.bools e (l.set q false))))]⟩ else none
  | .recs e k l, .i n => bif sz == k && Nat.blt f k then some ⟨q < l.length, .one .bot, [(h, some (.row (.recs e k (l.set q ((l.getD q (List.replicate k 0)).set f n)))))]⟩ else none
  | .recs e k l, .s m => bif sz == k && (f == 0 && m.length == k) then some ⟨q < l.length, .one .bot, [(h, some (.row (.recs e k (l.set q m))))]⟩ else none
  | _, _ => none
def szOk (ti : Option TI) (a : A0) : Bool :=
  match ti with
  | some ti => match a with
    | .s m => ti.sz == m.length
    | _ => ti.sz == 1
  | none => false
/-- a cell of a row within a row of rows -/
def storeN (S : St) (h p sz q f : Nat) (n : Int) : Option Eff :=
  match look h S.mem with
  | some (.row (.rows e g ll)) => bif sz == 1 && f == 0 then some ⟨p < ll.length ∧ q < (ll.getD p []).length, .one .bot, [(h, some (.row (.rows e g (ll.set p ((ll.getD p []).set q n)))))]⟩ else none
  | _ => none
/-- a row becomes one of a row of rows, which gets a new handle: the old one leads to it -/
def nxtH (h : Nat) : Nat := h + 40000
def storeRow (S : St) (h q h2 : Nat) : Option Eff :=
  match look h S.mem, look h2 S.mem with
  | some (.row (.rows e f ll)), some (.row (.ints f' l)) => bif f == f' && (!(h == h2) && !(nxtH h == h2)) then some ⟨q < ll.length, .one .bot, [(h2, none), (h, some (.to (nxtH h))), (nxtH h, some (.row (.rows e f (ll.set q l))))]⟩ else none
  | _, _ => none
def storeTo (S : St) (x : AV) (a : A0) : Option Eff :=
  match x with
  | .one (.oe h q) => match a with
    | .row h2 => storeRow S h q h2
    | _ => none
  | .one (.ref h off) => match look h S.mem with
    | some (.ibox t l) => storeI t h off l a
    | some (.box t l) => storeB t h off l a
    | _ => none
  | .one (.el h sz q f) => match look h S.mem with
    | some (.row r) => storeR h sz q f r a
    | some (.ibox t l) => match a with
      | .i n => some ⟨q * sz + f < l.length, .one .bot, [(h, some (.ibox t (l.set (q * sz + f) n)))]⟩
      | _ => none
    | _ => none
  | .one (.ie h p sz q f) => match a with
    | .i n => storeN S h p sz q f n
    | _ => none
  | _ => none
def effStore (ti : Option TI) (S : St) (x y : AV) : Option Eff :=
  match y with
  | .one a => bif szOk ti a then storeTo S x a else none
  | _ => none
def buildOf (fs : List (Nat × Nat)) : List (Nat × AV) → List Int → Option (List Int)
  | [], cs => some cs
  | (i, .one (.i x)) :: r, cs => match fs[i]? with
    | some p => bif p.2 == 1 && Nat.blt p.1 cs.length then buildOf fs r (cs.set p.1 x) else none
    | none => none
  | (i, .one (.s x)) :: r, cs => match fs[i]? with
    | some p => bif p.2 == x.length && Nat.ble (p.1 + x.length) cs.length then buildOf fs r (setAt cs p.1 x) else none
    | none => none
  | _, _ => none
def effBuild (ti : Option TI) (ps : List (Nat × AV)) : Option Eff :=
  match ti with
  | some ⟨.struct fs, n, _⟩ => match buildOf fs ps (List.replicate n 0) with
    | some cs => val1 (.one (.s cs))
    | none => none
  | some ⟨.array n _, _, _⟩ => match buildOf ((List.range n).map fun j => (j, 1)) ps (List.replicate n 0) with
    | some cs => val1 (.one (.s cs))
    | none => none
  | _ => none
def buildTwo (S : St) (ps : List (Nat × AV)) : Option Eff :=
  match ps with
  | [(0, .one (.row h1)), (1, .one (.co h2))] => match look h1 S.mem, look h2 S.mem with
    | some (.row (.recs _ _ _)), some (.row (.mp _ _)) => val1 (.one (.ag h1 h2))
    | _, _ => none
  | _ => none
def effBuild2 (S : St) (ti : Option TI) (ps : List (Nat × AV)) : Option Eff :=
  match ti with
  | some ⟨.two _ _, _, _⟩ => buildTwo S ps
  | ti => effBuild ti ps

/-! #### arithmetic -/
def binInt (op : BinOp) (a b : Int) : Option Eff :=
  match op with
  | .add => val1 (.one (.i (wrap64 (a + b))))
  | .sub => val1 (.one (.i (wrap64 (a - b))))
  | .mul => val1 (.one (.i (wrap64 (a * b))))
  | .quo => some ⟨b ≠ 0, .one (.i (wrap64 (a.tdiv b))), []⟩
  | .rem => some ⟨b ≠ 0, .one (.i (a.tmod b)), []⟩
  | .eql => val1 (.one (.b (a == b)))
  | .neq => val1 (.one (.b (a != b)))
  | .lss => val1 (.one (.b (decide (a < b))))
  | .leq => val1 (.one (.b (decide (a ≤ b))))
  | .gtr => val1 (.one (.b (decide (a > b))))
  | .geq => val1 (.one (.b (decide (a ≥ b))))
  | _ => none
def eqI : List Int → List Int → Bool
  | [], _ => true
  | a :: l, m => bif a == m.headD 0 then eqI l m.tail else false
/-- a struct of n fields of one cell each -/
def flatB (n : Nat) (fs : List (Nat × Nat)) : Bool := fs.length == n && fs == (List.range n).map fun j => (j, 1)
def boolOf : A0 → Option Bool
  | .b x => some x
  | .tt => some true
  | .ff => some false
  | _ => none
def binBool (op : BinOp) (a b : A0) : Option Eff :=
  match boolOf a, boolOf b with
  | some a, some b => match op with
    | .eql => val1 (.one (.b (a == b)))
    | .neq => val1 (.one (.b (a != b)))
    | _ => none
  | _, _ => none
def effBin (ti : Option TI) (op : BinOp) (x y : AV) : Option Eff :=
  match x, y with
  | .one (.i a), .one (.i b) => binInt op a b
  | .one (.s a), .one (.s b) => match ti with
    | some ⟨.struct fs, n, _⟩ => bif a.length == n && (b.length == n && flatB n fs) then (match op with
      | .eql => val1 (.one (.b (eqI a b)))
      | .neq => val1 (.one (.b (!eqI a b)))
      | _ => none) else none
    | _ => none
  | .one a, .one b => match ti with
    | some ⟨.bool, _, _⟩ => binBool op a b
    | _ => none
  | _, _ => none
def effUn (op : UnOp) (x : AV) : Option Eff :=
  match op, x with
  | .neg, .one (.i a) => val1 (.one (.i (wrap64 (0 - a))))
  | .not, .one (.b a) => val1 (.one (.b (!a)))
  | .not, .one .tt => val1 (.one .ff)
  | .not, .one .ff => val1 (.one .tt)
  | _, _ => none
def effPick (c x y : AV) : Option Eff :=
  match c with
  | .one .tt => val1 x
  | .one .ff => val1 y
  | _ => none
def effExtract (t : AV) (i : Nat) : Option Eff :=
  match t with
  | .tup l => match l[i]? with
    | some a => val1 (.one a)
    | none => none
  | _ => none

/-! #### slices -/
def ivs : List AV → Option (List Int)
  | [] => some []
  | .one (.i x) :: l => (ivs l).map (x :: ·)
  | _ => none
def svs (k : Nat) : List AV → Option (List (List Int))
  | [] => some []
  | .one (.s x) :: l => bif x.length == k then (svs k l).map (x :: ·) else none
  | _ => none
def rowOf (e : Nat) (ei : Option TI) (vs : List AV) : Option RC :=
  match ei with
  | some ⟨.int, _, _⟩ => (ivs vs).map (.ints e)
  | some ⟨.struct _, k, _⟩ => bif Nat.blt 0 k then (svs k vs).map (.recs e k) else none
  | some ⟨.bool, _, _⟩ => match vs with
    | [] => some (.bools e [])
    | _ => none
  | _ => none
/-- the parts, in order, all of them -/
def allParts (n : Nat) : List (Nat × AV) → Nat → Option (List AV)
  | [], i => bif i == n then some [] else none
  | p :: r, i => bif p.1 == i then (allParts n r (i + 1)).map (p.2 :: ·) else none
def effBuildSlice (tab : Tab) (t : Nat) (d : Option Nat) (n : Nat) (ps : List (Nat × AV)) : Option Eff :=
  match d, look t tab with
  | some d, some ⟨.slice e, _, _⟩ => match allParts n ps 0 with
    | some vs => match rowOf e (look e tab) vs with
      | some r => bif Nat.ble n 1000 && Nat.ble r.sz 1000 then some ⟨True, .one (.row d), [(d, some (.row r))]⟩ else none
      | none => none
    | none => none
  | _, _ => none
/-- a row of one row, or of none -/
def buildRows (S : St) (d e f n : Nat) (ps : List (Nat × AV)) : Option Eff :=
  match ps with
  | [] => bif n == 0 then some ⟨True, .one (.co d), [(d, some (.row (.rows e f [])))]⟩ else none
  | [(0, .one (.row h))] => match look h S.mem with
    | some (.row (.ints f' l)) => bif n == 1 && (f == f' && !(d == h)) then some ⟨True, .one (.co d), [(h, none), (d, some (.row (.rows e f [l])))]⟩ else none
    | _ => none
  | _ => none
def effBuildSl (tab : Tab) (t : Nat) (S : St) (d : Option Nat) (n : Nat) (ps : List (Nat × AV)) : Option Eff :=
  match look t tab with
  | some ⟨.slice e, _, _⟩ => match look e tab with
    | some ⟨.slice f, _, _⟩ => match d with
      | some d => buildRows S d e f n ps
      | none => none
    | _ => effBuildSlice tab t d n ps
  | _ => none
def zeroRow (e : Nat) (ei : Option TI) (n : Nat) : Option RC :=
  match ei with
  | some ⟨.int, _, _⟩ => some (.ints e (List.replicate n 0))
  | some ⟨.bool, _, _⟩ => some (.bools e (List.replicate n false))
  | some ⟨.struct _, k, _⟩ => bif Nat.blt 0 k then some (.recs e k (List.replicate n (List.replicate k 0))) else none
  | _ => none
def effMakeSlice (tab : Tab) (t : Nat) (d : Option Nat) (x y : AV) : Option Eff :=
  match d, look t tab with
  | some d, some ⟨.slice e, _, _⟩ => match x, y with
    | .one (.i n), .one (.i m) => match zeroRow e (look e tab) n.toNat with
      | some r => some ⟨n = m ∧ 0 ≤ n ∧ n ≤ 1000000000, .one (.row d), [(d, some (.row r))]⟩
      | none => none
    | _, _ => none
  | _, _ => none
/-- a row of rows, all of them empty -/
def makeRows (d : Option Nat) (e f : Nat) (x y : AV) : Option Eff :=
  match d, x, y with
  | some d, .one (.i n), .one (.i m) => some ⟨n = m ∧ 0 ≤ n ∧ n ≤ 1000000000, .one (.co d), [(d, some (.row (.rows e f (List.replicate n.toNat []))))]⟩
  | _, _, _ => none
def effMakeSl (tab : Tab) (t : Nat) (d : Option Nat) (x y : AV) : Option Eff :=
  match look t tab with
  | some ⟨.slice e, _, _⟩ => match look e tab with
    | some ⟨.slice f, _, _⟩ => makeRows d e f x y
    | _ => effMakeSlice tab t d x y
  | _ => none
def elemSz (tab : Tab) (t : Nat) : Option Nat :=
  match look t tab with
  | some ⟨.slice e, _, _⟩ => (look e tab).map (·.sz)
  | _ => none
def idxA (m sz : Nat) (S : St) (x : AV) (n : Int) : Option Eff :=
  match x with
  | .one (.ref h off) => match look h S.mem with
    | some (.ibox _ _) => bif Nat.blt 1 m then some ⟨0 ≤ n ∧ n < m, .one (.el h sz n.toNat off), []⟩ else none
    | _ => none
  | _ => none
def idxS (sz : Nat) (S : St) (x : AV) (n : Int) : Option Eff :=
  match x with
  | .one (.row h) => match entryRow (look h S.mem) with
    | some r => bif sz == r.sz then some ⟨0 ≤ n ∧ n < r.len, .one (.el h sz n.toNat 0), []⟩ else none
    | none => none
  | .one (.sub h sz' l r) => match entryRow (look h S.mem) with
    | some rc => bif sz == rc.sz && sz' == sz then some ⟨0 ≤ n ∧ l + n < r ∧ r ≤ rc.len, .one (.el h sz (l + n.toNat) 0), []⟩ else none
    | none => none
  | .one (.ci h p) => match innerOf (compOf (look h S.mem)) p with
    | some r => bif sz == r.sz then some ⟨innerPre (compOf (look h S.mem)) p ∧ 0 ≤ n ∧ n < r.len, .one (.ie h p sz n.toNat 0), []⟩ else none
    | none => none
  | .one (.co h) => match compOf (look h S.mem) with
    | some (.rows _ _ ll) => bif sz == 1 then some ⟨0 ≤ n ∧ n < ll.length, .one (.oe h n.toNat), []⟩ else none
    | _ => none
  | _ => none
def effIndex (tab : Tab) (S : St) (t : Nat) (x i : AV) : Option Eff :=
  match i with
  | .one (.i n) => match look t tab with
    | some ⟨.slice e, _, _⟩ => match look e tab with
      | some ei => idxS ei.sz S x n
      | none => none
    | some ⟨.array m e, _, _⟩ => match look e tab with
      | some ei => idxA m ei.sz S x n
      | none => none
    | _ => none
  | _ => none
def lenOf (S : St) (x : AV) : Option Eff :=
  match x with
  | .one (.row h) => match entryRow (look h S.mem) with
    | some r => val1 (.one (.i r.len))
    | none => none
  | .one (.sub h _ l r) => match entryRow (look h S.mem) with
    | some _ => some ⟨l ≤ r, .one (.i ((r - l : Nat) : Int)), []⟩
    | none => none
  | .one (.ci h p) => match innerOf (compOf (look h S.mem)) p with
    | some r => some ⟨innerPre (compOf (look h S.mem)) p, .one (.i r.len), []⟩
    | none => none
  | .one (.co h) => match compOf (look h S.mem) with
    | some (.rows _ _ ll) => val1 (.one (.i ll.length))
    | _ => none
  | .one .nil => val1 (.one (.i 0))
  | .one (.hd h n) => match entryRow (look h S.mem) with
    | some _ => val1 (.one (.i n))
    | none => none
  | _ => none
/-- what a slice value reads as -/
def readOf (S : St) : AV → Option RC
  | .one (.cut h e n) => match look h S.mem with
    | some (.ibox _ l) => bif l.length == n && Nat.ble n 1000 then some (.ints e l) else none
    | _ => none
  | .one (.row h) => entryRow (look h S.mem)
  | .one (.sub h sz l r) => match entryRow (look h S.mem) with
    | some rc => bif sz == rc.sz then some (rc.slice l r) else none
    | none => none
  | _ => none
/-- a cut lies within its row -/
def subPre (S : St) : AV → Prop
  | .one (.sub h _ l r) => match entryRow (look h S.mem) with
    | some rc => l ≤ r ∧ r ≤ rc.len
    | none => False
  | .one (.ci h p) => innerPre (compOf (look h S.mem)) p
  | .one (.cl _ _ h2) => match entryRow (look h2 S.mem) with
    | some (.ints _ l) => 0 < l.length
    | _ => False
  | _ => True
def maxRow : Nat := 100000000000
def plainTI (ti : TI) : Bool :=
  match ti.k with
  | .slice _ => false
  | .mapT _ _ => false
  | .two _ _ => false
  | .word _ => false
  | .cur => false
  | .uk _ => false
  | _ => true
/-- a row is appended to while a part of it is read: both get a new handle, and the part's old one leads there -/
def appView (S : St) (d e sz h : Nat) (x : AV) (r' : RC) : Option Eff :=
  match look h S.mem, r' with
  | some (.row (.vwp e0 k R B)), .recs _ k' m => bif e0 == e && (k == sz && (k' == k && !(x.hs.contains h || (d == h || x.hs.contains d)))) then some ⟨R.length + m.length ≤ maxRow ∧ subPre S x, .one (.ci d 1), [(h, some (.t1 d)), (d, some (.row (.vwp e0 k (R ++ m) B)))]⟩ else none
  | _, _ => none
def appTo (S : St) (d : Nat) (e : Nat) (sz : Nat) (s x : AV) (r' : RC) : Option Eff :=
  match s with
  | .one (.row h) => match look h S.mem with
    | some (.row r) => match r.app r' with
      | some r'' => bif x.hs.contains h || (d == h || x.hs.contains d) then none else bif r.elem == e && r.sz == sz then some ⟨r''.len ≤ maxRow ∧ subPre S x, .one (.row d), [(h, none), (d, some (.row r''))]⟩ else none
      | none => none
    | _ => none
  | .one .nil => bif r'.elem == e && !x.hs.contains d then some ⟨r'.len ≤ maxRow ∧ subPre S x, .one (.row d), [(d, some (.row r'))]⟩ else none
  | .one (.ci h 1) => appView S d e sz h x r'
  | _ => none
/-- rows of rows put behind each other: both are consumed -/
def appRows (S : St) (d : Nat) (e : Nat) (s x : AV) : Option Eff :=
  match s, x with
  | .one (.co h), .one (.co h2) => match look h S.mem, look h2 S.mem with
    | some (.row (.rows e1 f1 l1)), some (.row (.rows e2 f2 l2)) => bif d == h || (d == h2 || h == h2) then none else bif e1 == e && (e2 == e && f1 == f2) then some ⟨(l1 ++ l2).length ≤ maxRow, .one (.co d), [(h, none), (h2, none), (d, some (.row (.rows e f1 (l1 ++ l2))))]⟩ else none
    | _, _ => none
  | _, _ => none
def effApp2 (tab : Tab) (t : Nat) (S : St) (d : Option Nat) (s x : AV) : Option Eff :=
  match d with
  | some d => match look t tab with
    | some ⟨.slice e, _, _⟩ => match look e tab with
      | some ⟨.slice _, _, _⟩ => appRows S d e s x
      | _ => none
    | _ => none
  | none => none
def effAppend (tab : Tab) (t : Nat) (S : St) (d : Option Nat) (s x : AV) : Option Eff :=
  match d with
  | some d => match readOf S x with
    | some r' => match look t tab with
      | some ⟨.slice e, _, _⟩ => match look e tab with
        | some ei => bif ei.sz == r'.sz && (plainTI ei && Nat.blt 0 ei.sz) then appTo S d e ei.sz s x r' else none
        | none => none
      | _ => none
    | none => effApp2 tab t S (some d) s x
  | none => none
def slcOf (S : St) (sz : Nat) (x : AV) (lo hi : Option AV) : Option Eff :=
  match x with
  | .one (.row h) => match entryRow (look h S.mem) with
    | some r => bif sz == r.sz then (match lo, hi with
      | none, none => some ⟨True, .one (.sub h sz 0 r.len), []⟩
      | some (.one (.i a)), none => some ⟨0 ≤ a ∧ a ≤ r.len, .one (.sub h sz a.toNat r.len), []⟩
      | none, some (.one (.i b)) => some ⟨0 ≤ b ∧ b ≤ r.len, .one (.sub h sz 0 b.toNat), []⟩
      | some (.one (.i a)), some (.one (.i b)) => some ⟨0 ≤ a ∧ a ≤ b ∧ b ≤ r.len, .one (.sub h sz a.toNat b.toNat), []⟩
      | _, _ => none) else none
    | none => none
  | _ => none
/-- an array variable as a slice -/
def cutSlc (S : St) (m e : Nat) (x : AV) (lo hi : Option AV) : Option Eff :=
  match x, lo, hi with
  | .one (.ref h 0), none, none => match look h S.mem with
    | some (.ibox _ l) => bif l.length == m then val1 (.one (.cut h e m)) else none
    | _ => none
  | _, _, _ => none
def arrElem (tab : Tab) (t : Nat) : Option (Nat × Nat) :=
  match look t tab with
  | some ⟨.array m e, _, _⟩ => some (m, e)
  | _ => none
/-- the whole of a row, and no room behind it -/
def hdSlc (S : St) (sz : Nat) (x : AV) (lo hi : Option AV) (m : AV) : Option Eff :=
  match x, lo, hi, m with
  | .one (.row h), none, some (.one (.i a)), .one (.i b) => match entryRow (look h S.mem) with
    | some r => bif sz == r.sz then some ⟨a = r.len ∧ b = r.len, .one (.hd h r.len), []⟩ else none
    | none => none
  | _, _, _, _ => none
def effSlice (tab : Tab) (t : Nat) (S : St) (x : AV) (lo hi mx : Option AV) : Option Eff :=
  match mx with
  | none => match elemSz tab t with
    | some sz => slcOf S sz x lo hi
    | none => match arrElem tab t with
      | some p => cutSlc S p.1 p.2 x lo hi
      | none => none
  | some m => match elemSz tab t with
    | some sz => hdSlc S sz x lo hi m
    | none => none

/-- one part of a row over another part of it -/
def effCopy (S : St) (z : Option Nat) (x y : AV) : Option Eff :=
  match x, y with
  | .one (.sub h sz l1 r1), .one (.sub h2 sz2 l2 r2) => match look h S.mem with
    | some (.row (.recs e k R)) => bif h == h2 && (sz == k && (sz2 == k && z == some k)) then some ⟨(l1 ≤ r1 ∧ r1 ≤ R.length) ∧ l2 ≤ r2 ∧ r2 ≤ R.length, .one (.i ((min (r2 - l2) (r1 - l1) : Nat) : Int)), [(h, some (.row (.recs e k (R.take l1 ++ ((R.drop l2).take (min (r2 - l2) (r1 - l1)) ++ R.drop (l1 + min (r2 - l2) (r1 - l1)))))))]⟩ else none
    | _ => none
  | _, _ => none

/-! #### calls -/
/-- what a contract says of a call: its premise, its result ('rw': a new row), and of arguments that are handed over by position what they hold behind it ('none': consumed) -/
structure CEff where
  pre : Prop
  res : AV
  outs : List (Nat × Option RC)
abbrev Spec := Nat → List A0 → Option CEff
/-- a function value with a box of a slice: the box's entry and the slice's row -/
def argCl (f h2 : Nat) (b : Option Entry) (r : Option RC) : A0 :=
  match b, r with
  | some (.box _ [.row x]), some (.ints e l) => bif x == h2 then .rw (.clo f e l) else .bot
  | _, _ => .bot
def argCo : Option Entry → A0
  | some (.st l) => .byt l
  | e => match compOf e with
    | some r => .rw r
    | none => .bot
def argOf (S : St) : AV → A0
  | .one (.row h) => match entryRow (look h S.mem) with
    | some r => .rw r
    | none => .bot
  | .one (.sub h sz l r) => match readOf S (.one (.sub h sz l r)) with
    | some rc => .rw rc
    | none => .bot
  | .one (.co h) => argCo (look h S.mem)
  | .one (.ci h p) => match innerOf (compOf (look h S.mem)) p with
    | some r => .rw r
    | none => .bot
  | .one (.cl f h h2) => argCl f h2 (look h S.mem) (entryRow (look h2 S.mem))
  | .one .tt => .b true
  | .one .ff => .b false
  | .one a => a
  | .tup _ => .bot
/-- a result's rows get handles: the slot's own number, and further ones behind it -/
def resA (d : Nat) : A0 → A0 × Wr
  | .rw r => (bif r.flat then .row d else .co d, [(d, some (.row r))])
  | a => (a, [])
def resL (d : Nat) : Nat → List A0 → List A0 × Wr
  | _, [] => ([], [])
  | j, a :: l => ((resA (d + 1000 * j) a).1 :: (resL d (j + 1) l).1, (resA (d + 1000 * j) a).2 ++ (resL d (j + 1) l).2)
def resV (d : Nat) : AV → AV × Wr
  | .one a => (.one (resA d a).1, (resA d a).2)
  | .tup l => (.tup (resL d 0 l).1, (resL d 0 l).2)
/-- the handles of arguments that are handed over -/
def outWr (S : St) (args : List AV) : List (Nat × Option RC) → Option Wr
  | [] => some []
  | p :: l => match args[p.1]? with
    | some (.one (.row h)) => match look h S.mem with
      | some (.row r) => bif r.flat then (outWr S args l).map ((h, p.2.map .row) :: ·) else none
      | _ => none
    | some (.one (.co h)) => match look h S.mem with
      | some (.row r) => bif r.flat then none else (outWr S args l).map ((h, p.2.map .row) :: ·)
      | _ => none
    | _ => none
def nodupB : List Nat → Bool
  | [] => true
  | x :: l => !l.contains x && nodupB l
/-- the arguments that are not handed over name none of the handles -/
def restOk (hs : List Nat) (outs : List (Nat × Option RC)) : Nat → List AV → Bool
  | _, [] => true
  | j, x :: l => (outs.any (fun p => p.1 == j) || disj x.hs hs) && restOk hs outs (j + 1) l
def argsPre (S : St) : List AV → Prop
  | [] => True
  | x :: l => subPre S x ∧ argsPre S l
def argOk : A0 → Bool
  | .bot => false
  | .ref _ _ => false
  | .el _ _ _ _ => false
  | .row _ => false
  | .sub _ _ _ _ => false
  | .cut _ _ _ => false
  | .hd _ _ => false
  | .co _ => false
  | .ci _ _ => false
  | .oe _ _ => false
  | .ie _ _ _ _ _ => false
  | .ag _ _ => false
  | .cl _ _ _ => false
  | .cur _ _ _ => false
  | .cz _ => false
  | .cs _ => false
  | .ce _ _ => false
  | .u _ _ => false
  | .un => false
  | _ => true
def callWr (S : St) (args : List AV) (d : Nat) (ce : CEff) : Option Eff :=
  match ce.outs with
  | [] => bif disj (wrHs (resV d ce.res).2) (args.flatMap AV.hs) then some ⟨ce.pre ∧ argsPre S args, (resV d ce.res).1, (resV d ce.res).2⟩ else none
  | outs => match outWr S args outs with
    | some wr => bif disj (wrHs (resV d ce.res).2) (args.flatMap AV.hs) && (nodupB (wrHs wr) && restOk (wrHs wr) outs 0 args) then some ⟨ce.pre ∧ argsPre S args, (resV d ce.res).1, wr ++ (resV d ce.res).2⟩ else none
    | none => none
/-- a row within a row of rows, handed over as the first argument; the others are plain, so is the result -/
def plainA : A0 → Bool
  | .i _ => true
  | .b _ => true
  | _ => false
def callIn (S : St) (h p : Nat) (args : List AV) (ce : CEff) : Option Eff :=
  match ce.outs, ce.res, look h S.mem with
  | [(0, some (.ints f' l'))], .one a, some (.row (.rows e f ll)) => bif plainA a && (f == f' && (args.map (argOf S)).all plainA) then some ⟨ce.pre ∧ p < ll.length, .one a, [(h, some (.row (.rows e f (ll.set p l'))))]⟩ else none
  | [(0, some (.ints f' l'))], .one a, some (.row (.wd f n _)) => bif (plainA a && p == 0) && (f == f' && (args.map (argOf S)).all plainA) then some ⟨ce.pre, .one a, [(h, some (.row (.wd f n l')))]⟩ else none
  | _, _, _ => none
def outsEmpty : List (Nat × Option RC) → Bool
  | [] => true
  | _ => false
def callGo (S : St) (args : List AV) (d : Nat) (ce : CEff) : Option Eff :=
  match args with
  | .one (.ci h p) :: rest => bif outsEmpty ce.outs then callWr S args d ce else callIn S h p rest ce
  | _ => callWr S args d ce
def effCall (spec : Spec) (S : St) (d : Option Nat) (f : Nat) (args : List AV) : Option Eff :=
  match d with
  | some d => bif (args.map (argOf S)).all argOk then (match spec f (args.map (argOf S)) with
    | some ce => callGo S args d ce
    | none => none) else none
  | none => none
def effMax (x y : AV) : Option Eff :=
  match x, y with
  | .one (.i a), .one (.i b) => val1 (.one (.i (max a b)))
  | _, _ => none

def effMin (x y : AV) : Option Eff :=
  match x, y with
  | .one (.i a), .one (.i b) => val1 (.one (.i (min a b)))
  | _, _ => none

/-- an element of an array that is no variable -/
def effIndexV (tab : Tab) (t : Nat) (x i : AV) : Option Eff :=
  match look t tab with
  | some ⟨.array m e, _, _⟩ => match look e tab with
    | some ⟨.int, _, _⟩ => match x, i with
      | .one (.s l), .one (.i n) => bif l.length == m then some ⟨0 ≤ n ∧ n < m, .one (.i (l.getD n.toNat 0)), []⟩ else none
      | _, _ => none
    | _ => none
  | _ => none

/-! #### maps -/
def getL {α : Type} (z : α) (k : List Int) : List (List Int × α) → α
  | [] => z
  | p :: l => bif p.1 == k then p.2 else getL z k l
def hasL {α : Type} (k : List Int) : List (List Int × α) → Bool
  | [] => false
  | p :: l => bif p.1 == k then true else hasL k l
def putL {α : Type} (k : List Int) (v : α) : List (List Int × α) → List (List Int × α)
  | [] => [(k, v)]
  | p :: l => bif p.1 == k then (k, v) :: l else p :: putL k v l
def MC.get (k : List Int) : MC → A0
  | .ints l => .i (getL 0 k l)
  | .bools l => .b (getL false k l)
def MC.has (k : List Int) : MC → Bool
  | .ints l => hasL k l
  | .bools l => hasL k l
def MC.put (k : List Int) : MC → A0 → Option MC
  | .ints l, .i v => some (.ints (putL k v l))
  | .bools l, .b v => some (.bools (putL k v l))
  | .bools l, .tt => some (.bools (putL k true l))
  | .bools l, .ff => some (.bools (putL k false l))
  | _, _ => none
/-- the kind of a map's values -/
def mcTI (ti : Option TI) : MC → Bool
  | .ints _ => match ti with
    | some ⟨.int, _, _⟩ => true
    | _ => false
  | .bools _ => match ti with
    | some ⟨.bool, _, _⟩ => true
    | _ => false
def keyTI (ti : Option TI) (n : Nat) : Bool :=
  match ti with
  | some ⟨.struct fs, m, _⟩ => m == n && flatB n fs
  | _ => false
def emptyMC (ti : Option TI) : Option MC :=
  match ti with
  | some ⟨.int, _, _⟩ => some (.ints [])
  | some ⟨.bool, _, _⟩ => some (.bools [])
  | _ => none
def effMakeMap (tab : Tab) (t : Nat) (d : Option Nat) : Option Eff :=
  match d, look t tab with
  | some d, some ⟨.mapT k e, _, _⟩ => match look k tab with
    | some ⟨.struct _, n, _⟩ => match emptyMC (look e tab) with
      | some m => some ⟨True, .one (.co d), [(d, some (.row (.mp n m)))]⟩
      | none => none
    | _ => none
  | _, _ => none
def mapIn : AV → Option RC → Option (Nat × MC)
  | .one (.co _), some (.mp n m) => some (n, m)
  | .one (.ci _ 1), some (.grp _ _ _ n m) => some (n, m)
  | _, _ => none
def hOf1 : AV → Nat
  | .one (.co h) => h
  | .one (.ci h _) => h
  | _ => 0
def lookV (k : List Int) (m : MC) (ok : Bool) : AV := bif ok then .tup [m.get k, .b (m.has k)] else .one (m.get k)
def effLookup (tab : Tab) (t : Nat) (S : St) (x i : AV) (ok : Bool) : Option Eff :=
  match mapIn x (compOf (look (hOf1 x) S.mem)), i with
  | some (n, m), .one (.s k) => match look t tab with
    | some ⟨.mapT kt et, _, _⟩ => bif k.length == n && (keyTI (look kt tab) n && mcTI (look et tab) m) then val1 (lookV k m ok) else none
    | _ => none
  | _, _ => none
def mapBack (e : Option Entry) (m : MC) : Option Entry :=
  match e with
  | some (.row (.mp n _)) => some (.row (.mp n m))
  | some (.row (.grp e k fs n _)) => some (.row (.grp e k fs n m))
  | _ => none
def effUpdate (tab : Tab) (t : Nat) (S : St) (x i v : AV) : Option Eff :=
  match mapIn x (compOf (look (hOf1 x) S.mem)), i, v with
  | some (n, m), .one (.s k), .one a => match look t tab with
    | some ⟨.mapT kt et, _, _⟩ => bif k.length == n && (keyTI (look kt tab) n && mcTI (look et tab) m) then (match m.put k a with
      | some m' => match mapBack (look (hOf1 x) S.mem) m' with
        | some e => some ⟨True, .one .bot, [(hOf1 x, some e)]⟩
        | none => none
      | none => none) else none
    | _ => none
  | _, _, _ => none
def effNil (S : St) (x : AV) : Option Eff :=
  match x with
  | .one (.co h) => match compOf (look h S.mem) with
    | some (.grp _ _ _ _ _) => val1 (.one (.co h))
    | _ => none
  | _ => none

/-! #### a struct of a number and a row, in a box; a box of a slice; a function value with such a box -/
def boxWord (S : St) (t : Nat) (d : Option Nat) (h : Nat) : Option Eff :=
  match d, compOf (look h S.mem) with
  | some d, some (.wd _ n _) => bif d == h then none else some ⟨True, .one (.ref d 0), [(d, some (.box t [.i n, .ci h 0]))]⟩
  | _, _ => none
def boxRow (S : St) (t : Nat) (d : Option Nat) (h : Nat) : Option Eff :=
  match d, entryRow (look h S.mem) with
  | some d, some (.ints _ _) => bif d == h then none else some ⟨True, .one (.ref d 0), [(d, some (.box t [.row h]))]⟩
  | _, _ => none
def effBox3 (S : St) (t : Nat) (d : Option Nat) (a : AV) : Option Eff :=
  match a with
  | .one (.co h) => boxWord S t d h
  | .one (.row h) => boxRow S t d h
  | a => effBox2 S t d a
def allocWord (e t : Nat) (d : Option Nat) : Option Eff :=
  match d with
  | some d => some ⟨True, .one (.ref d 0), [(d, some (.box t [.i 0, .ci (nxtH d) 0])), (nxtH d, some (.row (.wd e 0 [])))]⟩
  | none => none
def effAlloc2 (t : Nat) (d : Option Nat) (ti : Option TI) : Option Eff :=
  match ti with
  | some ⟨.word e, _, _⟩ => allocWord e t d
  | ti => effAlloc t d ti
def loadWd (n : Int) (h : Nat) : Option RC → Option Eff
  | some (.wd _ m _) => bif n == m then val1 (.one (.co h)) else none
  | _ => none
def loadWord (S : St) (x : AV) : Option Eff :=
  match x with
  | .one (.ref h 0) => match look h S.mem with
    | some (.box _ [.i n, .ci h2 0]) => loadWd n h2 (compOf (look h2 S.mem))
    | _ => none
  | _ => none
def loadSl (ti : Option TI) (S : St) (x : AV) : Option Eff :=
  match x with
  | .one (.ref h off) => match look h S.mem with
    | some (.box _ cs) => match cs[off]? with
      | some a => val1 (.one a)
      | none => none
    | _ => none
  | .one (.co h) => match compOf (look h S.mem) with
    | some (.bx _ _) => val1 (.one (.ci h 0))
    | _ => none
  | x => effLoad ti S x
def effLoad2 (ti : Option TI) (S : St) (x : AV) : Option Eff :=
  match ti with
  | some ⟨.word _, _, _⟩ => loadWord S x
  | some ⟨.slice _, _, _⟩ => loadSl ti S x
  | ti => effLoad ti S x
def storeWd (h h2 : Nat) : Option Entry → Option RC → Option Eff
  | some (.box t [_, _]), some (.wd _ n _) => some ⟨True, .one .bot, [(h, some (.box t [.i n, .ci h2 0]))]⟩
  | _, _ => none
def storeWord (S : St) (x y : AV) : Option Eff :=
  match x, y with
  | .one (.ref h 0), .one (.co h2) => storeWd h h2 (look h S.mem) (compOf (look h2 S.mem))
  | _, _ => none
def storeCi (h off h2 : Nat) : Option Entry → Option RC → Option Eff
  | some (.box t l), some (.wd _ _ _) => bif Nat.blt off l.length then some ⟨True, .one .bot, [(h, some (.box t (l.set off (.ci h2 0))))]⟩ else none
  | _, _ => none
def storeSl (ti : Option TI) (S : St) (x y : AV) : Option Eff :=
  match x, y with
  | .one (.ref h off), .one (.ci h2 0) => storeCi h off h2 (look h S.mem) (compOf (look h2 S.mem))
  | x, y => effStore ti S x y
def effStore2 (ti : Option TI) (S : St) (x y : AV) : Option Eff :=
  match ti with
  | some ⟨.word _, _, _⟩ => storeWord S x y
  | some ⟨.slice _, _, _⟩ => storeSl ti S x y
  | ti => effStore ti S x y
def buildWord (e : Nat) (d : Option Nat) (ps : List (Nat × AV)) : Option Eff :=
  match d, ps with
  | some d, [] => some ⟨True, .one (.co d), [(d, some (.row (.wd e 0 [])))]⟩
  | some d, [(0, .one (.i n))] => some ⟨True, .one (.co d), [(d, some (.row (.wd e n [])))]⟩
  | _, _ => none
def effBuild3 (S : St) (d : Option Nat) (ti : Option TI) (ps : List (Nat × AV)) : Option Eff :=
  match ti with
  | some ⟨.word e, _, _⟩ => buildWord e d ps
  | ti => effBuild2 S ti ps
def fieldWord (S : St) (x : AV) (f : Nat) : Option Eff :=
  match x with
  | .one (.ref h 0) => match look h S.mem with
    | some (.box _ _) => bif Nat.blt f 2 then val1 (.one (.ref h f)) else none
    | _ => none
  | _ => none
def effField2 (ti : Option TI) (S : St) (x : AV) (f : Nat) : Option Eff :=
  match ti with
  | some ⟨.word _, _, _⟩ => fieldWord S x f
  | ti => effField ti S x f
/-- the number that a box holds beside a row: any number will do -/
def signOf (h : Nat) (g : Int) : List (Nat × Entry) → Int
  | [] => g
  | p :: l => match p.2 with
    | .box _ [.i n, .ci x 0] => bif x == h then n else signOf h g l
    | _ => signOf h g l
def appWd (S : St) (d e sz h : Nat) (x : AV) (r' : RC) : Option Eff :=
  match look h S.mem, r' with
  | some (.row (.wd e0 g l)), .ints _ m => bif e0 == e && (sz == 1 && !(x.hs.contains h || (d == h || x.hs.contains d))) then some ⟨l.length + m.length ≤ maxRow ∧ subPre S x, .one (.ci d 0), [(h, none), (d, some (.row (.wd e0 (signOf h g S.mem) (l ++ m))))]⟩ else none
  | _, _ => none
def appWord (tab : Tab) (t : Nat) (S : St) (d : Option Nat) (h : Nat) (x : AV) : Option Eff :=
  match d, readOf S x, look t tab with
  | some d, some r', some ⟨.slice e, _, _⟩ => match look e tab with
    | some ⟨.int, sz, _⟩ => appWd S d e sz h x r'
    | _ => none
  | _, _, _ => none
def effAppend2 (tab : Tab) (t : Nat) (S : St) (d : Option Nat) (s x : AV) : Option Eff :=
  match s with
  | .one (.ci h 0) => appWord tab t S d h x
  | s => effAppend tab t S d s x
/-- a function value with one captured box of a slice -/
def effClo (S : St) (fn : Fn) (first captured : List AV) : Option Eff :=
  match fn, first, captured with
  | .func f, [], [.one (.ref h 0)] => match look h S.mem with
    | some (.box _ [.row h2]) => val1 (.one (.cl f h h2))
    | _ => none
  | _, _, _ => none
def plainS : A0 → Bool
  | .i _ => true
  | .b _ => true
  | .s _ => true
  | _ => false
def cloGo (d : Option Nat) (ce : Option CEff) : Option Eff :=
  match d, ce with
  | some _, some ce => match ce.outs, ce.res with
    | [], .one a => bif plainA a then some ⟨ce.pre, .one a, []⟩ else none
    | _, _ => none
  | _, _ => none
def callClo (spec : Spec) (S : St) (d : Option Nat) (h : Nat) (args : List AV) : Option Eff :=
  match compOf (look h S.mem) with
  | some (.clo f e l) => bif (args.map (argOf S)).all plainS then cloGo d (spec f (args.map (argOf S) ++ [.rw (.bx e l)])) else none
  | _ => none

/-! #### a cursor over bytes -/
def effNil2 (S : St) (x : AV) : Option Eff :=
  match x with
  | .one (.co h) => match look h S.mem with
    | some (.cu _ _ _) => val1 (.one (.co h))
    | _ => effNil S (.one (.co h))
  | x => effNil S x
def fieldCur (S : St) (x : AV) (f : Nat) : Option Eff :=
  match x with
  | .one (.co h) => match look h S.mem with
    | some (.cu _ _ _) => bif Nat.blt f 3 then val1 (.one (.oe h f)) else none
    | _ => none
  | _ => none
def effField3 (ti : Option TI) (S : St) (x : AV) (f : Nat) : Option Eff :=
  match ti with
  | some ⟨.cur, _, _⟩ => fieldCur S x f
  | ti => effField2 ti S x f
def loadCu (ti : Option TI) (h q : Nat) (a s : Int) : Option Eff :=
  match q, ti with
  | 0, some ⟨.slice _, _, _⟩ => val1 (.one (.cs h))
  | 1, some ⟨.int, _, _⟩ => val1 (.one (.i a))
  | 2, some ⟨.uk .u64, _, _⟩ => val1 (.one (.u .u64 s))
  | _, _ => none
def loadOe (ti : Option TI) (S : St) (h q : Nat) : Option Entry → Option Eff
  | some (.cu _ a s) => loadCu ti h q a s
  | _ => effLoad2 ti S (.one (.oe h q))
def loadCe (ti : Option TI) (q : Nat) : Option Entry → Option Eff
  | some (.cu l _ _) => match ti with
    | some ⟨.uk .u8, _, _⟩ => some ⟨q < l.length, .one (.u .u8 (l.getD q 0)), []⟩
    | _ => none
  | _ => none
def effLoad3 (ti : Option TI) (S : St) (x : AV) : Option Eff :=
  match x with
  | .one (.oe h q) => loadOe ti S h q (look h S.mem)
  | .one (.ce h q) => loadCe ti q (look h S.mem)
  | x => effLoad2 ti S x
def storeCu (ti : Option TI) (h q : Nat) (l : List Int) (a s : Int) (y : AV) : Option Eff :=
  match q, ti, y with
  | 1, some ⟨.int, _, _⟩, .one (.i n) => some ⟨True, .one .bot, [(h, some (.cu l n s))]⟩
  | 2, some ⟨.uk .u64, _, _⟩, .one (.u .u64 m) => some ⟨True, .one .bot, [(h, some (.cu l a m))]⟩
  | _, _, _ => none
def storeOe (ti : Option TI) (S : St) (h q : Nat) (y : AV) : Option Entry → Option Eff
  | some (.cu l a s) => storeCu ti h q l a s y
  | _ => effStore2 ti S (.one (.oe h q)) y
def effStore3 (ti : Option TI) (S : St) (x y : AV) : Option Eff :=
  match x with
  | .one (.oe h q) => storeOe ti S h q y (look h S.mem)
  | x => effStore2 ti S x y
def lenOf2 (S : St) (x : AV) : Option Eff :=
  match x with
  | .one (.cs h) => match look h S.mem with
    | some (.cu l _ _) => val1 (.one (.i l.length))
    | _ => none
  | .one (.co h) => match look h S.mem with
    | some (.st l) => val1 (.one (.i l.length))
    | _ => lenOf S (.one (.co h))
  | x => lenOf S x
def idxCs (ei : Option TI) (h : Nat) (n : Int) : Option Entry → Option Eff
  | some (.cu l _ _) => match ei with
    | some ⟨.uk .u8, _, _⟩ => some ⟨0 ≤ n ∧ n < l.length, .one (.ce h n.toNat), []⟩
    | _ => none
  | _ => none
def idxCur (tab : Tab) (t h : Nat) (S : St) (i : AV) : Option Eff :=
  match i, look t tab with
  | .one (.i n), some ⟨.slice e, _, _⟩ => idxCs (look e tab) h n (look h S.mem)
  | _, _ => none
def effIndex2 (tab : Tab) (S : St) (t : Nat) (x i : AV) : Option Eff :=
  match x with
  | .one (.cs h) => idxCur tab t h S i
  | x => effIndex tab S t x i
def effConv (src dst : Option TI) (x : AV) : Option Eff :=
  match src, dst, x with
  | some _, some ⟨.int, _, _⟩, .one (.u _ n) => val1 (.one (.i (wrap64 n)))
  | some _, some ⟨.uk k, _, _⟩, .one (.i n) => val1 (.one (.u k (k.wrap n)))
  | _, _, _ => none
def binU (op : BinOp) (k : IntKind) (a b : Int) : Option Eff :=
  match op with
  | .add => val1 (.one (.u k (k.wrap (a + b))))
  | .mul => val1 (.one (.u k (k.wrap (a * b))))
  | .and => val1 (.one (.u k (k.wrap ((BitVec.ofInt k.bits a &&& BitVec.ofInt k.bits b).toNat : Nat))))
  | .shr => some ⟨0 ≤ b, .one (.u k (a.fdiv (2 ^ (min b.toNat k.bits)))), []⟩
  | _ => none
def effBin2 (ti : Option TI) (op : BinOp) (x y : AV) : Option Eff :=
  match x, y with
  | .one (.u k a), .one (.u k' b) => bif k == k' then binU op k a b else none
  | x, y => effBin ti op x y
def buildCur (S : St) (ps : List (Nat × AV)) : Option Eff :=
  match ps with
  | [(0, .one (.co h))] => match look h S.mem with
    | some (.st _) => val1 (.one (.cz h))
    | _ => none
  | _ => none
def effBuild4 (S : St) (d : Option Nat) (ti : Option TI) (ps : List (Nat × AV)) : Option Eff :=
  match ti with
  | some ⟨.cur, _, _⟩ => buildCur S ps
  | ti => effBuild3 S d ti ps
def boxCur (d : Option Nat) (h : Nat) (e : Option Entry) : Option Eff :=
  match d, e with
  | some d, some (.st l) => bif d == h then none else some ⟨True, .one (.co d), [(d, some (.cu l 0 0))]⟩
  | _, _ => none
def effBox4 (S : St) (t : Nat) (d : Option Nat) (a : AV) : Option Eff :=
  match a with
  | .one (.cz h) => boxCur d h (look h S.mem)
  | a => effBox3 S t d a
def cuArg : A0 → Bool
  | .i _ => true
  | .b _ => true
  | .s _ => true
  | .rw r => r.flat
  | _ => false
def plainV : AV → Bool
  | .one a => plainS a
  | .tup l => l.all plainS
/-- a contract of a cursor's method: the premise, the result, and the cursor's place and seed behind it -/
def cuGo (S : St) (d : Option Nat) (h : Nat) (l : List Int) (rest : List AV) (ce : Option CEff) : Option Eff :=
  match d, ce with
  | some _, some ce => match ce.outs with
    | [(0, some (.ints 0 [a, s]))] => bif plainV ce.res then some ⟨ce.pre ∧ argsPre S rest, ce.res, [(h, some (.cu l a s))]⟩ else none
    | _ => none
  | _, _ => none
def cuX : AV → Bool
  | .one (.ci _ _) => false
  | .one (.sub _ _ _ _) => false
  | _ => true
def callCu (spec : Spec) (S : St) (d : Option Nat) (f h : Nat) (l : List Int) (a s : Int) (rest : List AV) : Option Eff :=
  bif rest.all cuX && (rest.map (argOf S)).all cuArg then cuGo S d h l rest (spec f (.cur l a s :: rest.map (argOf S))) else none
def callCo (spec : Spec) (S : St) (d : Option Nat) (f h : Nat) (rest : List AV) : Option Entry → Option Eff
  | some (.cu l a s) => callCu spec S d f h l a s rest
  | _ => effCall spec S d f (.one (.co h) :: rest)
def effCall2 (spec : Spec) (S : St) (d : Option Nat) (f : Nat) (args : List AV) : Option Eff :=
  match args with
  | .one (.co h) :: rest => callCo spec S d f h rest (look h S.mem)
  | args => effCall spec S d f args

def eff (tab : Tab) (spec : Spec) (d : Option Nat) (op : Op) (S : St) : Option Eff :=
  match op with
  | .move x => val1 (S.eval x)
  | .assign x => val1 (S.eval x)
  | .box t x => effBox4 S t d (S.eval x)
  | .nilCheck x => effNil2 S (S.eval x)
  | .makeMap t none => effMakeMap tab t d
  | .lookup t x i ok => effLookup tab t S (S.eval x) (S.eval i) ok
  | .mapUpdate t m i v => effUpdate tab t S (S.eval m) (S.eval i) (S.eval v)
  | .insert t m i v => effUpdate tab t S (S.eval m) (S.eval i) (S.eval v)
  | .alloc t => effAlloc2 t d (look t tab)
  | .fieldAddr t x f => effField3 (look t tab) S (S.eval x) f
  | .load t x => effLoad3 (look t tab) S (S.eval x)
  | .store t x y => effStore3 (look t tab) S (S.eval x) (S.eval y)
  | .build t ps => effBuild4 S d (look t tab) (ps.toList.map fun p => (p.1, S.eval p.2))
  | .makeFunc fn first captured => effClo S fn (first.toList.map S.eval) (captured.toList.map S.eval)
  | .buildSlice t n ps => effBuildSl tab t S d n (ps.toList.map fun p => (p.1, S.eval p.2))
  | .makeSlice t x y => effMakeSl tab t d (S.eval x) (S.eval y)
  | .binOp op t x y _ => effBin2 (look t tab) op (S.eval x) (S.eval y)
  | .unOp op _ x => effUn op (S.eval x)
  | .convert src dst x => effConv (look src tab) (look dst tab) (S.eval x)
  | .pick c x y => effPick (S.eval c) (S.eval x) (S.eval y)
  | .extract t i => effExtract (S.eval t) i
  | .indexAddr t x i => effIndex2 tab S t (S.eval x) (S.eval i)
  | .slice t x lo hi mx => effSlice tab t S (S.eval x) (lo.map S.eval) (hi.map S.eval) (mx.map S.eval)
  | .index t x i => effIndexV tab t (S.eval x) (S.eval i)
  | .call ⟨.value x, args, _⟩ => match S.eval x with
    | .one (.fn f) => effCall2 spec S d f (args.toList.map S.eval)
    | .one (.co h) => callClo spec S d h (args.toList.map S.eval)
    | _ => none
  | .call ⟨.builtin .len, args, ts⟩ => match args.toList, ts.toList with
    | [x], [t] => bif (elemSz tab t).isSome then lenOf2 S (S.eval x) else none
    | _, _ => none
  | .call ⟨.builtin .append, args, ts⟩ => match args.toList, ts.toList with
    | [s, x], [t, t'] => bif t == t' then effAppend2 tab t S d (S.eval s) (S.eval x) else none
    | _, _ => none
  | .call ⟨.builtin .copy, args, ts⟩ => match args.toList, ts.toList with
    | [x, y], [t, _] => effCopy S (elemSz tab t) (S.eval x) (S.eval y)
    | _, _ => none
  | .call ⟨.builtin .max, args, _⟩ => match args.toList with
    | [x, y] => effMax (S.eval x) (S.eval y)
    | _ => none
  | .call ⟨.builtin .min, args, _⟩ => match args.toList with
    | [x, y] => effMin (S.eval x) (S.eval y)
    | _ => none
  | _ => none

/-- the handles that a box names -/
def inHs (S : St) : AV → List Nat
  | .one (.ref h _) => match look h S.mem with
    | some (.box _ cs) => cs.flatMap A0.hs
    | _ => []
  | _ => []
def calleeHs (S : St) : Callee → List Nat
  | .value x => (S.eval x).hs
  | _ => []
/-- the handles whose entries an operation looks at -/
def rdOf (S : St) : Op → List Nat
  | .load _ x => (S.eval x).hs ++ inHs S (S.eval x)
  | .fieldAddr _ x _ => (S.eval x).hs
  | .store _ x y => (S.eval x).hs ++ (S.eval y).hs
  | .box _ x => (S.eval x).hs
  | .build _ ps => ps.toList.flatMap fun p => (S.eval p.2).hs
  | .buildSlice _ _ ps => ps.toList.flatMap fun p => (S.eval p.2).hs
  | .nilCheck x => (S.eval x).hs
  | .lookup _ x _ _ => (S.eval x).hs
  | .mapUpdate _ x _ _ => (S.eval x).hs
  | .insert _ x _ _ => (S.eval x).hs
  | .indexAddr _ x _ => (S.eval x).hs
  | .slice _ x _ _ _ => (S.eval x).hs
  | .makeFunc _ _ xs => xs.toList.flatMap fun x => (S.eval x).hs
  | .call c => calleeHs S c.callee ++ c.args.toList.flatMap fun x => (S.eval x).hs
  | _ => []

/-- all handles that a state names -/
def allHs (S : St) : List Nat := S.mem.map (·.1) ++ (S.fr.flatMap (fun p => p.2.hs) ++ S.mem.flatMap (fun p => p.2.hs))

/-! ### a row of which a part is read while it is appended to: made at a loop, undone behind it -/
def A0.vwT (h d : Nat) : A0 → A0
  | .row x => bif x == h then .ci d 1 else .row x
  | a => bif a.hs.contains h then .bot else a
def AV.vwT (h d : Nat) : AV → AV
  | .one a => .one (a.vwT h d)
  | .tup l => .tup (l.map (A0.vwT h d))
def viewV : AV → Option (Nat × Nat × Nat × Nat)
  | .one (.sub h sz l r) => some (h, sz, l, r)
  | .one (.hd h n) => some (h, 0, 0, n)
  | _ => none
def viewTo (S : St) (s d h l r : Nat) : Option Entry → St
  | some (.row (.recs e k R)) => ⟨(s, .one (.ci d 0)) :: (rem s S.fr).map fun p => (p.1, p.2.vwT h d), (d, .row (.vwp e k R ((R.take r).drop l))) :: rem h S.mem⟩
  | _ => S
def viewS (S : St) (p : Nat × Nat) : St :=
  match viewV (S.eval (.tmp p.1)) with
  | some q => viewTo S p.1 p.2 q.1 q.2.2.1 q.2.2.2 (look q.1 S.mem)
  | none => S
def noneNames (h : Nat) : List (Nat × Entry) → Bool
  | [] => true
  | p :: l => !p.2.hs.contains h && noneNames h l
def viewEn (pins : List Nat) (S : St) (d : Nat) (q : Nat × Nat × Nat × Nat) : Option Entry → Prop
  | some (.row (.recs _ k R)) => (q.2.2.1 ≤ q.2.2.2 ∧ q.2.2.2 ≤ R.length) ∧ ((q.2.2.1 == 0 || q.2.1 == k) && (!(pins ++ allHs S).contains d && noneNames q.1 S.mem)) = true
  | _ => False
def viewOk (pins : List Nat) (S : St) (p : Nat × Nat) : Prop :=
  match viewV (S.eval (.tmp p.1)) with
  | some q => viewEn pins S p.2 q (look q.1 S.mem)
  | none => False
def viewsS (S : St) : Option (Nat × Nat) → St
  | none => S
  | some p => viewS S p
def viewsOk (pins : List Nat) (S : St) : Option (Nat × Nat) → Prop
  | none => True
  | some p => viewOk pins S p
def RC.vwO : RC → Option RC
  | .vwp e k R _ => some (.recs e k R)
  | .ints _ _ => none
  | .recs _ _ _ => none
  | .bools _ _ => none
  | .mp _ _ => none
  | .grp _ _ _ _ _ => none
  | .rows _ _ _ => none
  | .wd _ _ _ => none
  | .bx _ _ => none
  | .clo _ _ _ => none
def Entry.vwO : Entry → Option RC
  | .row r => r.vwO
  | .ro _ => none
  | .ibox _ _ => none
  | .box _ _ => none
  | .to _ => none
  | .t1 _ => none
  | .st _ => none
  | .cu _ _ _ => none
def vwAt : List (Nat × Entry) → Option Nat
  | [] => none
  | p :: l => match p.2.vwO with
    | some _ => some p.1
    | none => vwAt l
def A0.dr (h : Nat) : A0 → A0
  | .ci x 1 => bif x == h then .row h else .ci x 1
  | a => bif a.hs.contains h then .bot else a
def AV.dr (h : Nat) : AV → AV
  | .one a => .one (a.dr h)
  | .tup l => .tup (l.map (A0.dr h))
def dropAt (pins : List Nat) (S : St) (h : Nat) : Option RC → St
  | some r => bif pins.contains h || !noneNames h S.mem then S else ⟨S.fr.map fun p => (p.1, p.2.dr h), (h, .row r) :: rem h S.mem⟩
  | none => S
def St.drop (pins : List Nat) (S : St) : St :=
  match vwAt S.mem with
  | some h => dropAt pins S h ((look h S.mem).bind Entry.vwO)
  | none => S

/-! ### The machine -/
structure FP where
  R : List Nat
  W : List Nat
  O : List Nat
inductive Item where
  | code (c : Code)
  | ops (all rest : List Oper)
  | dops (all rest : List Oper) (acc : List FP) (hs : List Nat)
  | blk (id : Nat)
  | back (J : St → Prop)

def slotOf (ops : List Oper) (j : Nat) : Option Nat := (ops[j]?).bind (·.dst)
def outHs (e : Eff) : List Nat := wrHs e.wr ++ (e.val.hs ++ e.wr.flatMap fun p => (p.2.map Entry.hs).getD [])
def newHs (R W : List Nat) : List Nat := W.filter fun h => !R.contains h

def waitsB (y : Oper) (i : Nat) : Bool := y.after.any fun e => Region.binds .any e && e.on == i
/-- one operation against a later one -/
def pairOk (ops : Array Oper) (i : Nat) (x : Oper) (fx : FP) (j : Nat) (y : Oper) (fy : FP) : Bool :=
  (waitsB y i || ((x.apart ops y && (disj fx.W fy.R && (disj fx.W fy.W && disj fy.W fx.R))) || waitsF ops 6 y i)) &&
  ((disj (newHs fy.R fy.W) fx.O || waitsF ops 4 x j) && (disj (newHs fx.R fx.W) fy.O || waitsF ops 4 y i))
def rowOk (ops : Array Oper) (i : Nat) (x : Oper) (fx : FP) : Nat → List Oper → List FP → Bool
  | j, y :: ys, fy :: fs => pairOk ops i x fx j y fy && rowOk ops i x fx (j + 1) ys fs
  | _, [], [] => true
  | _, _, _ => false
def pairsOk (ops : Array Oper) (hs : List Nat) : Nat → List Oper → List FP → Bool
  | i, x :: xs, fx :: fs => (x.after.all (fun d => !Region.binds .any d || Nat.blt d.on i)) && (disj (newHs fx.R fx.W) hs && (rowOk ops i x fx (i + 1) xs fs && pairsOk ops hs (i + 1) xs fs))
  | _, [], [] => true
  | _, _, _ => false
def regOk (ops : List Oper) (fps : List FP) (hs : List Nat) : Bool := pairsOk ops.toArray hs 0 ops fps

inductive Out where
  | go (p : Prop) (k : List Item) (S : St)
  | two (b : Bool) (k1 : List Item) (S1 : St) (k2 : List Item) (S2 : St)
  | fin (S : St)
  | lp (c : Code) (k : List Item) (S : St)
  | back (J : St → Prop) (S : St)
  | stuck

/-- the stack with the region one operation further: 'd' tells whether the region draws -/
inductive Reg where
  | s
  | d (acc : List FP) (hs : List Nat)
def Reg.item (all rest : List Oper) : Reg → Item
  | .s => .ops all rest
  | .d acc hs => .dops all rest acc hs
def Reg.next (S : St) (op : Op) (e : Eff) : Reg → Reg
  | .s => .s
  | .d acc hs => .d (acc ++ [⟨rdOf S op, wrHs e.wr, outHs e⟩]) hs
def Reg.skip : Reg → Reg
  | .s => .s
  | .d acc hs => .d (acc ++ [⟨[], [], []⟩]) hs

variable (pins : List Nat)
def okNew (S : St) (op : Op) (e : Eff) : Bool :=
  match e.wr with
  | [] => true
  | _ => disj (newHs (rdOf S op) (wrHs e.wr)) (pins ++ allHs S)
def stepE (all r : List Oper) (k : List Item) (g : Reg) (o : Oper) (S : St) : Option Eff → Out
  | some e => bif okNew pins S o.op e then .go e.pre ((g.next S o.op e).item all r :: k) (S.after o.dst e) else .stuck
  | none => .stuck
def stepPick (all : List Oper) (o : Oper) (r : List Oper) (k : List Item) (g : Reg) (S : St) (e : Option Eff) : Op → Out
  | .pick (.tmp s) _ _ => match look s S.fr with
    | some (.one (.b b)) => .two b (g.item all (o :: r) :: k) (S.put (some s) (.one .tt)) (g.item all (o :: r) :: k) (S.put (some s) (.one .ff))
    | _ => stepE pins all r k g o S e
  | _ => stepE pins all r k g o S e
def stepG (all : List Oper) (o : Oper) (r : List Oper) (k : List Item) (g : Reg) (S : St) (e : Option Eff) (want : Bool) (s : Nat) : Option AV → Out
  | some (.one .tt) => bif want then stepPick pins all o r k g S e o.op else .go True (g.skip.item all r :: k) (S.put o.dst (.one .un))
  | some (.one .ff) => bif want then .go True (g.skip.item all r :: k) (S.put o.dst (.one .un)) else stepPick pins all o r k g S e o.op
  | some (.one (.b b)) => .two b (g.item all (o :: r) :: k) (S.put (some s) (.one .tt)) (g.item all (o :: r) :: k) (S.put (some s) (.one .ff))
  | some (.one .un) => .go True (g.skip.item all r :: k) (S.put o.dst (.one .un))
  | _ => .stuck
def stepO (all : List Oper) (o : Oper) (r : List Oper) (k : List Item) (g : Reg) (S : St) (e : Option Eff) : Out :=
  match o.guard with
  | none => stepPick pins all o r k g S e o.op
  | some gd => match slotOf all gd.1 with
    | none => .stuck
    | some s => stepG pins all o r k g S e gd.2 s (look s S.fr)
def stepC (x y : Code) (k : List Item) (S : St) : AV → Out
  | .one .tt => .go True (.code x :: k) S
  | .one .ff => .go True (.code y :: k) S
  | .one (.b b) => .two b (.code x :: k) S (.code y :: k) S
  | _ => .stuck
def step (tab : Tab) (spec : Spec) : List Item → St → Out
  | [], S => .fin S
  | .back J :: _, S => .back J S
  | .blk _ :: k, S => .go True k S
  | .ops _ [] :: k, S => .go True k S.res
  | .ops all (o :: r) :: k, S => stepO pins all o r k .s S (eff tab spec o.dst o.op S)
  | .dops all [] acc hs :: k, S => .go (regOk all acc hs = true) k S.res
  | .dops all (o :: r) acc hs :: k, S => stepO pins all o r k (.d acc hs) S (eff tab spec o.dst o.op S)
  | .code .skip :: k, S => .go True k S
  | .code (.region _ ops false) :: k, S => .go True (.ops ops.toList ops.toList :: k) S
  | .code (.region _ ops true) :: k, S => .go True (.dops ops.toList ops.toList [] (pins ++ allHs S) :: k) S
  | .code (.seq a b) :: k, S => .go True (.code a :: .code b :: k) S
  | .code (.cond c x y) :: k, S => stepC x y k S (S.eval c)
  | .code (.block id b) :: k, S => .go True (.code b :: .blk id :: k) S
  | .code .ret :: _, S => .fin S
  | .code (.exit id) :: .blk id' :: k, S => bif id == id' then .go True k S else .go True (.code (.exit id) :: k) S
  | .code (.exit id) :: _ :: k, S => .go True (.code (.exit id) :: k) S
  | .code c :: k, S => .lp c k S
def out (f : List Item → St → Prop) (fin : St → Prop) (lp : Code → List Item → St → Prop) : Out → Prop
  | .go p k S => p ∧ f k S
  | .two b k1 S1 k2 S2 => bif b then f k1 S1 else f k2 S2
  | .fin S => fin S
  | .lp c k S => lp c k S
  | .back J S => J S
  | .stuck => False
def vc (tab : Tab) (spec : Spec) (fin : St → Prop) (lp : Code → List Item → St → Prop) : Nat → List Item → St → Prop
  | 0, _, _ => False
  | n + 1, k, S => out (vc tab spec fin lp n) fin lp (step pins tab spec k S)

end Go.Proofs.Ytacomnelongbjab
namespace Go.Proofs.Ytacomnelongbjab
open Go Go.RowKit

def normWr (wr : Wr) : Wr := wr.map fun p => (p.1, p.2.map Entry.norm)
def den (S : St) : SS := ⟨fun s => ((look s S.fr).getD (.one .bot)).norm, fun h => (look h S.mem).map Entry.norm⟩

theorem look_normWr (h : Nat) : ∀ wr : Wr, look h (normWr wr) = (look h wr).map fun oe => oe.map Entry.norm
  | [] => rfl
  | p :: l => by
    simp only [normWr, List.map_cons, look]
    by_cases hp : (p.1 == h) = true
    · simp [hp]
    · simp only [Bool.not_eq_true] at hp
      have := look_normWr h l
      simp only [normWr] at this
      simp [hp, this]
theorem wrHs_normWr (wr : Wr) : wrHs (normWr wr) = wrHs wr := by simp [wrHs, normWr]

theorem look_setMem (S : St) (h k : Nat) (e : Option Entry) : look k (S.setMem h e).mem = if h = k then e else look k S.mem := by
  cases e with
  | none =>
    simp only [St.setMem, look_rem]
    by_cases hk : k = h
    · simp [hk]
    · have : h ≠ k := fun e => hk e.symm
      simp [hk, this]
  | some e =>
    simp only [St.setMem, look, look_rem]
    by_cases hk : h = k
    · simp [hk]
    · have h1 : (h == k) = false := by simpa using hk
      have h2 : k ≠ h := fun e => hk e.symm
      simp [h1, hk, h2]
theorem look_setMems (S : St) (k : Nat) : ∀ wr : Wr, look k (setMems S wr).mem = match look k wr with | some oe => oe | none => look k S.mem
  | [] => rfl
  | p :: l => by
    simp only [setMems, look_setMem, look, look_setMems S k l]
    by_cases hp : p.1 = k
    · simp [hp]
    · have h1 : (p.1 == k) = false := by simpa using hp
      simp [hp, h1]
theorem setMem_fr (S : St) (h : Nat) (e : Option Entry) : (S.setMem h e).fr = S.fr := by cases e <;> rfl
theorem setMems_fr (S : St) : ∀ wr : Wr, (setMems S wr).fr = S.fr
  | [] => rfl
  | p :: l => by rw [setMems, setMem_fr, setMems_fr S l]
theorem look_put (S : St) (d : Option Nat) (v : AV) (s : Nat) : look s (S.put d v).fr = if d = some s then some v else look s S.fr := by
  cases d with
  | none => simp [St.put]
  | some d =>
    simp only [St.put, look, look_rem]
    by_cases hd : d = s
    · simp [hd]
    · have h1 : (d == s) = false := by simpa using hd
      have h2 : s ≠ d := fun e => hd e.symm
      simp [hd, h1, h2]
theorem put_mem (S : St) (d : Option Nat) (v : AV) : (S.put d v).mem = S.mem := by cases d <;> rfl

theorem den_after (S : St) (d : Option Nat) (e : Eff) : den (S.after d e) = (den S).apply d e.val.norm (normWr e.wr) := by
  simp only [den, St.after, SS.apply, SS.mk.injEq]
  constructor
  · funext s
    rw [look_put, setMems_fr]
    by_cases h : d = some s <;> simp [h]
  · funext h
    rw [put_mem, look_setMems, look_normWr]
    cases look h e.wr <;> simp
theorem den_put (S : St) (d : Option Nat) (v : AV) : den (S.put d v) = (den S).apply d v.norm [] := by
  simp only [den, SS.apply, look, SS.mk.injEq]
  constructor
  · funext s
    rw [look_put]
    by_cases h : d = some s <;> simp [h]
  · funext h
    rw [put_mem]
/-- A slot that holds the bool b may be given the literal. -/
theorem den_lit (S : St) (s : Nat) (b : Bool) (h : look s S.fr = some (.one (.b b))) : den (S.put (some s) (.one (if b then .tt else .ff))) = den S := by
  rw [den_put]
  simp only [den, SS.apply, look, SS.mk.injEq, and_true]
  funext t
  by_cases ht : s = t
  · subst ht
    cases b <;> simp [h, AV.norm, A0.norm]
  · have : ¬ some s = some t := by simpa using ht
    simp [this]

theorem look_one {α : Type} (d x : Nat) (v : α) : look x [(d, v)] = if d = x then some v else none := by
  by_cases h : d = x <;> simp [look, h]
  have : (d == x) = false := by simpa using h
  simp [this]

/-! ### the world goes on -/
structure Chg (w w' : World) (D : Nat → Prop) : Prop where
  os : w'.os = w.os
  tape : w'.tape = w.tape
  output : w'.output = w.output
  size : w.heap.size ≤ w'.heap.size
  block : ∀ k, k < w.heap.size → ¬ D k → w'.heap[k]? = w.heap[k]?
theorem Chg.refl (w : World) (D : Nat → Prop) : Chg w w D := ⟨rfl, rfl, rfl, Nat.le_refl _, fun _ _ _ => rfl⟩
theorem Chg.alloc (w : World) (o : Obj) : Chg w (w.alloc o) (fun _ => False) := ⟨rfl, rfl, rfl, by simp, fun k hk _ => Below.heap_alloc w o k hk⟩
theorem Chg.setRow (w : World) (g : Nat) (cs : Array Value) : Chg w (w.setRow g cs) (fun k => k = g) := ⟨rfl, rfl, rfl, by simp, fun k _ hd => setRow_other w g k cs hd⟩
theorem Chg.drew (w : World) (D : Nat → Prop) : Chg w { w with drawn := w.drawn + 1 } D := ⟨rfl, rfl, rfl, Nat.le_refl _, fun _ _ _ => rfl⟩
theorem Chg.grown {w w' : World} {row : Option Nat} (h : w.grownBy w' row) : Chg w w' (fun k => some k = row) := ⟨h.os, h.tape, h.output, h.size, fun k hk hd => h.block k hk hd⟩
theorem Chg.mono {w w' : World} {D E : Nat → Prop} (h : Chg w w' D) (hd : ∀ k, D k → E k) : Chg w w' E := ⟨h.os, h.tape, h.output, h.size, fun k hk he => h.block k hk (fun x => he (hd k x))⟩

section
variable {c : Ctx} {S : SS} {ρ ρ' : Nat → Value} {tmps : Array Value} {w w' : World} {D : Nat → Prop}

theorem Frame0.chg (h : Frame0 c w) (ch : Chg w w' D) (hD : ∀ k, D k → c.own k) : Frame0 c w' :=
  ⟨ch.os.trans h.os, ch.tape.trans h.tape, ch.output.trans h.output, Nat.le_trans h.size ch.size, fun k hk hx => by
    refine (ch.block k (Nat.lt_of_lt_of_le hk h.size) (fun hd => ?_)).trans (h.block k hk hx)
    rcases hD k hd with h1 | h1
    · omega
    · exact hx h1⟩

theorem heap_lt {w : World} {k : Nat} {o : Obj} (h : w.heap[k]? = some o) : k < w.heap.size := (Array.getElem?_eq_some_iff.1 h).1

theorem FlatRow.blk {in_ : Nat → Prop} {r : RC} {v : Value} (h : FlatRow w in_ r v) {k : Nat} (hk : blkOf v = some k) : in_ k ∧ k < w.heap.size := by
  refine ⟨h.2.2 k hk, ?_⟩
  rcases h.2.1.2 with ⟨rfl, _⟩ | ⟨g, cap, cur, rfl, _, hg, _⟩
  · simp [blkOf] at hk
  · simp [blkOf] at hk; subst hk; exact heap_lt hg
theorem FlatRow.thin {in_ : Nat → Prop} {r : RC} {v : Value} (h : FlatRow w in_ r v) {k : Nat} : Blk v k ↔ blkOf v = some k := by
  rcases h.2.1.2 with ⟨rfl, _⟩ | ⟨g, cap, cur, rfl, _, hg, _⟩ <;> exact Iff.rfl
theorem FlatRow.chg {in_ : Nat → Prop} {r : RC} {v : Value} (h : FlatRow w in_ r v) (hk : ∀ k, blkOf v = some k → w'.heap[k]? = w.heap[k]?) : FlatRow w' in_ r v := by
  refine ⟨h.1, ⟨h.2.1.1, ?_⟩, h.2.2⟩
  rcases h.2.1.2 with hn | ⟨g, cap, cur, hv, hb, hg, rest⟩
  · exact .inl hn
  · exact .inr ⟨g, cap, cur, hv, hb, (hk g (by simp [hv, blkOf])).trans hg, rest⟩
theorem ownsRow_chg {e sz n : Nat} {v : Value} {xs : List Value} (h : w.ownsRow 0 e sz v n xs) (hk : ∀ k, blkOf v = some k → w'.heap[k]? = w.heap[k]?) : w'.ownsRow 0 e sz v n xs := by
  refine ⟨h.1, ?_⟩
  rcases h.2 with hn | ⟨g, cap, cur, hv, hb, hg, rest⟩
  · exact .inl hn
  · exact .inr ⟨g, cap, cur, hv, hb, (hk g (by simp [hv, blkOf])).trans hg, rest⟩
theorem ownsRow_blk {e sz n : Nat} {v : Value} {xs : List Value} (h : w.ownsRow 0 e sz v n xs) {k : Nat} (hk : blkOf v = some k) : k < w.heap.size := by
  rcases h.2 with ⟨rfl, _⟩ | ⟨g, cap, cur, rfl, _, hg, _⟩
  · simp [blkOf] at hk
  · simp [blkOf] at hk; subst hk; exact heap_lt hg
theorem FlatReads.blk {in_ : Nat → Prop} {e : Nat} {l : List Int} {v : Value} (h : FlatReads w in_ (.ints e l) v) (h0 : 0 < l.length) {k : Nat} (hk : blkOf v = some k) : in_ k ∧ k < w.heap.size := by
  obtain ⟨_, A, n, cap, rfl, hn, _, _, hr⟩ := h
  have hn' : n = l.length := hn
  obtain ⟨a, rfl, hin, hcell⟩ := hr (by omega)
  simp only [blkOf, Option.some.injEq] at hk
  subst hk
  refine ⟨hin, ?_⟩
  have h1 := hcell 0 (vI (l.getD 0 0)) (by cases l with
    | nil => simp at h0
    | cons x l => rfl)
  have hb : (a.add 0).block = a.block := by unfold Addr.add; split <;> rfl
  unfold World.cell? at h1
  rw [hb] at h1
  cases hh : w.heap[a.block]? with
  | none => rw [hh] at h1; cases h1
  | some x => exact heap_lt hh
theorem Blk.of_tuple {vs : List Value} {j k : Nat} {v : Value} (h : vs[j]? = some v) (hk : blkOf v = some k) : Blk (.tuple vs.toArray) k := ⟨j, v, by simpa using h, hk⟩
theorem Blk.tuple {vs : List Value} {k : Nat} : Blk (.tuple vs.toArray) k ↔ ∃ (j : Nat) (v : Value), vs[j]? = some v ∧ blkOf v = some k := by
  simp [Blk]
theorem CompRow.blk {in_ : Nat → Prop} {r : RC} {v : Value} (h : CompRow w in_ r v) {k : Nat} (hk : Blk v k) : in_ k ∧ k < w.heap.size := by
  cases r with
  | mp n m =>
    obtain ⟨b, es, clock, rfl, h1, h2, _⟩ := h
    simp [Blk, blkOf] at hk; subst hk; exact ⟨h1, heap_lt h2⟩
  | grp e q fs n m =>
    obtain ⟨g, A, b, es, clock, t, rfl, h1, h2, h3, h4, h5, _⟩ := h
    obtain ⟨j, v, hv, hb⟩ := hk
    match j, hv with
    | 0, hv => simp at hv; subst hv; simp [blkOf] at hb; subst hb; exact ⟨h1, heap_lt h2⟩
    | 1, hv => simp at hv; subst hv; exact h3.blk hb
    | 2, hv => simp at hv; subst hv; simp [blkOf] at hb; subst hb; exact ⟨h4, heap_lt h5⟩
    | j + 3, hv => simp at hv
  | rows e f ll =>
    obtain ⟨O, Is, rfl, hr⟩ := h
    obtain ⟨j, v, hv, hb⟩ := Blk.tuple.1 hk
    cases j with
    | zero => simp at hv; subst hv; exact ⟨hr.oin k hb, ownsRow_blk hr.outer hb⟩
    | succ j =>
      simp only [List.getElem?_cons_succ] at hv
      have hj : j < ll.length := by rw [← hr.len]; exact (List.getElem?_eq_some_iff.1 hv).1
      obtain ⟨I, hI, hf⟩ := hr.inner j ll[j] (by simp [hj])
      rw [hv] at hI; cases hI
      exact hf.blk hb
  | vwp e q R B =>
    obtain ⟨W, V, rfl, h1, h2, h3⟩ := h
    obtain ⟨j, v, hv, hb⟩ := hk
    match j, hv with
    | 0, hv => simp at hv; subst hv; simp [blkOf, undef] at hb
    | 1, hv => simp at hv; subst hv; exact h1.2 k hb
    | 2, hv => simp at hv; subst hv; exact h2.blk hb
    | j + 3, hv => simp at hv
  | wd e n l =>
    obtain ⟨A, rfl, h1⟩ := h
    obtain ⟨j, v, hv, hb⟩ := hk
    match j, hv with
    | 0, hv => simp at hv; subst hv; simp [blkOf] at hb
    | 1, hv => simp at hv; subst hv; exact h1.blk hb
    | j + 2, hv => simp at hv
  | bx e l =>
    obtain ⟨g, A, t, rfl, h1, h2, h3, h4⟩ := h
    obtain ⟨j, v, hv, hb⟩ := hk
    match j, hv with
    | 0, hv => simp at hv; subst hv; simp [blkOf] at hb; subst hb; exact ⟨h1, heap_lt h2⟩
    | 1, hv => simp at hv; subst hv; exact h3.blk h4 hb
    | j + 2, hv => simp at hv
  | clo f e l =>
    obtain ⟨g, A, t, rfl, h1, h2, h3, h4⟩ := h
    obtain ⟨j, v, hv, hb⟩ := hk
    match j, hv with
    | 0, hv => simp at hv; subst hv; simp [blkOf] at hb
    | 1, hv => simp at hv; subst hv; simp [blkOf] at hb; subst hb; exact ⟨h1, heap_lt h2⟩
    | 2, hv => simp at hv; subst hv; exact h3.blk h4 hb
    | j + 3, hv => simp at hv
  | _ => exact h.elim
theorem RowsIs.chg {in_ : Nat → Prop} {e f : Nat} {ll : List (List Int)} {O : Value} {Is : List Value} (hr : RowsIs w in_ e f ll O Is) (hk : ∀ k, Blk (.tuple (O :: Is).toArray) k → w'.heap[k]? = w.heap[k]?) : RowsIs w' in_ e f ll O Is :=
  ⟨hr.len, ownsRow_chg hr.outer fun k hb => hk k (Blk.of_tuple (j := 0) rfl hb), hr.oin, fun j l hj => by
    obtain ⟨I, hI, hf⟩ := hr.inner j l hj
    exact ⟨I, hI, hf.chg fun k hb => hk k (Blk.of_tuple (j := j + 1) (by simpa using hI) hb)⟩, hr.apart, hr.oapart⟩
theorem FlatReads.chg {in_ : Nat → Prop} {r : RC} {v : Value} (h : FlatReads w in_ r v) (hk : ∀ k, blkOf v = some k → w'.heap[k]? = w.heap[k]?) : FlatReads w' in_ r v := by
  obtain ⟨hwf, A, n, cap, hv, hn, hc, hm', hr⟩ := h
  refine ⟨hwf, A, n, cap, hv, hn, hc, hm', fun h0 => ?_⟩
  obtain ⟨a, hA, hin, hcell⟩ := hr h0
  refine ⟨a, hA, hin, fun j u hu => ?_⟩
  have hb : (a.add j).block = a.block := by unfold Addr.add; split <;> rfl
  rw [World.cell?_of_block (w := w) (by rw [hb]; exact hk _ (by rw [hv, hA]; rfl))]
  exact hcell j u hu
theorem ViewIs.chg {in_ : Nat → Prop} {r : RC} {v : Value} (h : ViewIs w in_ r v) (hk : ∀ k, blkOf v = some k → w'.heap[k]? = w.heap[k]?) : ViewIs w' in_ r v := by
  refine ⟨h.1.chg hk, fun k hb => ⟨(h.2 k hb).1, ?_⟩⟩
  have h1 := (h.2 k hb).2
  have h2 := hk k hb
  rw [Array.getElem?_eq_getElem h1] at h2
  exact heap_lt h2
theorem FlatReads.mono {p q : Nat → Prop} {r : RC} {v : Value} (h : FlatReads w p r v) (hpq : ∀ k, blkOf v = some k → p k → q k) : FlatReads w q r v := by
  obtain ⟨hwf, A, n, cap, hv, hn, hc, hm', hr⟩ := h
  refine ⟨hwf, A, n, cap, hv, hn, hc, hm', fun h0 => ?_⟩
  obtain ⟨a, hA, hin, hcell⟩ := hr h0
  exact ⟨a, hA, hpq _ (by rw [hv, hA]; rfl) hin, hcell⟩
theorem CompRow.chg {in_ : Nat → Prop} {r : RC} {v : Value} (h : CompRow w in_ r v) (hk : ∀ k, Blk v k → w'.heap[k]? = w.heap[k]?) : CompRow w' in_ r v := by
  cases r with
  | mp n m =>
    obtain ⟨b, es, clock, rfl, h1, h2, h3⟩ := h
    exact ⟨b, es, clock, rfl, h1, (hk b rfl).trans h2, h3⟩
  | grp e q fs n m =>
    obtain ⟨g, A, b, es, clock, t, rfl, h1, h2, h3, h4, h5, h6⟩ := h
    exact ⟨g, A, b, es, clock, t, rfl, h1, (hk g ⟨0, _, rfl, rfl⟩).trans h2, h3.chg (fun k hb => hk k ⟨1, _, rfl, hb⟩), h4, (hk b ⟨2, _, rfl, rfl⟩).trans h5, h6⟩
  | rows e f ll =>
    obtain ⟨O, Is, rfl, hr⟩ := h
    exact ⟨O, Is, rfl, hr.chg hk⟩
  | vwp e q R B =>
    obtain ⟨W, V, rfl, h1, h2, h3⟩ := h
    exact ⟨W, V, rfl, h1.chg (fun k hb => hk k ⟨1, _, rfl, hb⟩), h2.chg (fun k hb => hk k ⟨2, _, rfl, hb⟩), h3⟩
  | wd e n l =>
    obtain ⟨A, rfl, h1⟩ := h
    exact ⟨A, rfl, h1.chg (fun k hb => hk k ⟨1, _, rfl, hb⟩)⟩
  | bx e l =>
    obtain ⟨g, A, t, rfl, h1, h2, h3, h4⟩ := h
    exact ⟨g, A, t, rfl, h1, (hk g ⟨0, _, rfl, rfl⟩).trans h2, h3.chg (fun k hb => hk k ⟨1, _, rfl, hb⟩), h4⟩
  | clo f e l =>
    obtain ⟨g, A, t, rfl, h1, h2, h3, h4⟩ := h
    exact ⟨g, A, t, rfl, h1, (hk g ⟨1, _, rfl, rfl⟩).trans h2, h3.chg (fun k hb => hk k ⟨2, _, rfl, hb⟩), h4⟩
  | _ => exact h.elim
theorem FlatRow.mono {p q : Nat → Prop} {r : RC} {v : Value} (h : FlatRow w p r v) (hpq : ∀ k, k < w.heap.size → blkOf v = some k → p k → q k) : FlatRow w q r v :=
  ⟨h.1, h.2.1, fun k hk => hpq k (h.blk hk).2 hk (h.2.2 k hk)⟩
theorem CompRow.mono {p q : Nat → Prop} {r : RC} {v : Value} (h : CompRow w p r v) (hpq : ∀ k, k < w.heap.size → Blk v k → p k → q k) : CompRow w q r v := by
  cases r with
  | mp n m =>
    obtain ⟨b, es, clock, rfl, h1, h2, h3⟩ := h
    exact ⟨b, es, clock, rfl, hpq b (heap_lt h2) rfl h1, h2, h3⟩
  | grp e m' fs n m =>
    obtain ⟨g, A, b, es, clock, t, rfl, h1, h2, h3, h4, h5, h6⟩ := h
    exact ⟨g, A, b, es, clock, t, rfl, hpq g (heap_lt h2) ⟨0, _, rfl, rfl⟩ h1, h2, h3.mono (fun k hlt hb hp => hpq k hlt ⟨1, _, rfl, hb⟩ hp), hpq b (heap_lt h5) ⟨2, _, rfl, rfl⟩ h4, h5, h6⟩
  | rows e f ll =>
    obtain ⟨O, Is, rfl, hr⟩ := h
    exact ⟨O, Is, rfl, hr.len, hr.outer, fun k hb => hpq k (ownsRow_blk hr.outer hb) (Blk.of_tuple (j := 0) rfl hb) (hr.oin k hb), fun j l hj => by
      obtain ⟨I, hI, hf⟩ := hr.inner j l hj
      exact ⟨I, hI, hf.mono fun k hlt hb hp => hpq k hlt (Blk.of_tuple (j := j + 1) (by simpa using hI) hb) hp⟩, hr.apart, hr.oapart⟩
  | vwp e m' R B =>
    obtain ⟨W, V, rfl, h1, h2, h3⟩ := h
    exact ⟨W, V, rfl, ⟨h1.1.mono fun k hb hp => hpq k (h1.2 k hb).2 ⟨1, _, rfl, hb⟩ hp, fun k hb => ⟨hpq k (h1.2 k hb).2 ⟨1, _, rfl, hb⟩ (h1.2 k hb).1, (h1.2 k hb).2⟩⟩, h2.mono (fun k hlt hb hp => hpq k hlt ⟨2, _, rfl, hb⟩ hp), h3⟩
  | wd e n l =>
    obtain ⟨A, rfl, h1⟩ := h
    exact ⟨A, rfl, h1.mono (fun k hlt hb hp => hpq k hlt ⟨1, _, rfl, hb⟩ hp)⟩
  | bx e l =>
    obtain ⟨g, A, t, rfl, h1, h2, h3, h4⟩ := h
    exact ⟨g, A, t, rfl, hpq g (heap_lt h2) ⟨0, _, rfl, rfl⟩ h1, h2, h3.mono (fun k hb hp => hpq k (h3.blk h4 hb).2 ⟨1, _, rfl, hb⟩ hp), h4⟩
  | clo f e l =>
    obtain ⟨g, A, t, rfl, h1, h2, h3, h4⟩ := h
    exact ⟨g, A, t, rfl, hpq g (heap_lt h2) ⟨1, _, rfl, rfl⟩ h1, h2, h3.mono (fun k hb hp => hpq k (h3.blk h4 hb).2 ⟨2, _, rfl, hb⟩ hp), h4⟩
  | _ => exact h.elim
theorem OwnsRow.blk {in_ : Nat → Prop} {r : RC} {v : Value} (h : OwnsRow w in_ r v) {k : Nat} (hk : Blk v k) : in_ k ∧ k < w.heap.size := by
  cases hf : r.flat with
  | true => have h' := (OwnsRow.flat hf).1 h; exact h'.blk (h'.thin.1 hk)
  | false => exact ((OwnsRow.comp hf).1 h).blk hk
theorem OwnsRow.chg {in_ : Nat → Prop} {r : RC} {v : Value} (h : OwnsRow w in_ r v) (hk : ∀ k, Blk v k → w'.heap[k]? = w.heap[k]?) : OwnsRow w' in_ r v := by
  cases hf : r.flat with
  | true => have h' := (OwnsRow.flat hf).1 h; exact (OwnsRow.flat hf).2 (h'.chg fun k hb => hk k (h'.thin.2 hb))
  | false => exact (OwnsRow.comp hf).2 (((OwnsRow.comp hf).1 h).chg hk)

theorem CodeAt.chg {w w' : World} {p q : Nat → Prop} {l : List Int} {v : Value} (h : CodeAt w p l v) (hq : ∀ k, p k → q k ∧ w'.heap[k]? = w.heap[k]?) : CodeAt w' q l v := by
  obtain ⟨h1, A, n, cap, hv, hn, hc, hm, hr⟩ := h
  refine ⟨h1, A, n, cap, hv, hn, hc, hm, fun h0 => ?_⟩
  obtain ⟨a, hA, hin, hcell⟩ := hr h0
  obtain ⟨k1, k2⟩ := hq _ hin
  refine ⟨a, hA, k1, fun j u hu => ?_⟩
  have hb : (a.add j).block = a.block := by unfold Addr.add; split <;> rfl
  rw [World.cell?_of_block (w := w) (by rw [hb]; exact k2)]
  exact hcell j u hu
/-- Bytes that lay there at the start lie there. -/
theorem CodeAt.now {l : List Int} {v : Value} (h : CodeAt c.w0 (fun k => k < c.w0.heap.size ∧ ¬ c.X k) l v) (hf : Frame0 c w) {q : Nat → Prop} (hq : ∀ k, k < w.heap.size → ¬ c.own k → q k) : CodeAt w q l v :=
  h.chg fun k hk => ⟨hq k (Nat.lt_of_lt_of_le hk.1 hf.size) (fun ho => by
    rcases ho with ho | ho
    · have := hk.1; omega
    · exact hk.2 ho), hf.block k hk.1 hk.2⟩
theorem CodeAt.thin {w : World} {p : Nat → Prop} {l : List Int} {v : Value} (h : CodeAt w p l v) : hdV v = v := by
  obtain ⟨_, A, n, cap, hv, _⟩ := h
  rw [hv]; rfl
/-- The block of an entry of one's own: it is one's own, and it is there. -/
theorem holds_own {h : Nat} {e : Entry} (he : e.holds c w ρ h) (ho : e.isOwn = true) : ∀ k, Blk (ρ h) k → c.own k ∧ k < w.heap.size := by
  intro k hk
  cases e with
  | ro r => cases ho
  | to d => cases ho
  | t1 d => cases ho
  | st l => cases ho
  | cu l a s =>
    obtain ⟨g, C, hv, hg, ⟨t, hh⟩, _⟩ := he
    rw [hv] at hk
    obtain ⟨j, v, hj, hb⟩ := hk
    match j, hj with
    | 0, hj => simp at hj; subst hj; simp [blkOf] at hb; subst hb; exact ⟨hg, heap_lt hh⟩
    | 1, hj => simp at hj; subst hj; simp [blkOf] at hb
    | j + 2, hj => simp at hj
  | row r => exact OwnsRow.blk he hk
  | ibox t l =>
    obtain ⟨g, hv, hg, hh⟩ := he
    rw [hv] at hk; simp [Blk, blkOf] at hk; subst hk
    exact ⟨hg, heap_lt hh⟩
  | box t cs =>
    obtain ⟨g, arr, hv, hg, hh, _⟩ := he
    rw [hv] at hk; simp [Blk, blkOf] at hk; subst hk
    exact ⟨hg, heap_lt hh⟩

/-- An entry goes on to hold where its block has not changed and what it names reads as it did. -/
theorem holds_keep {h : Nat} {e : Entry} (he : e.holds c w ρ h) (hf : Frame0 c w) (ch : Chg w w' D) (hD : ∀ k, D k → c.own k)
    (ho : e.isOwn = true → ∀ k, Blk (ρ h) k → ¬ D k) (hρ : ρ' h = ρ h) (hm : ∀ x ∈ e.hs, ρ' x = ρ x) : e.holds c w' ρ' h := by
  have key : e.isOwn = true → ∀ k, Blk (ρ h) k → w'.heap[k]? = w.heap[k]? := fun hi k hk =>
    ch.block k (holds_own he hi k hk).2 (ho hi k hk)
  cases e with
  | ibox t l =>
    obtain ⟨g, hv, hg, hh⟩ := he
    exact ⟨g, by rw [hρ]; exact hv, hg, (key rfl g (by rw [hv]; rfl)).trans hh⟩
  | box t cs =>
    obtain ⟨g, arr, hv, hg, hh, hs, hj⟩ := he
    refine ⟨g, arr, by rw [hρ]; exact hv, hg, (key rfl g (by rw [hv]; rfl)).trans hh, hs, fun j a ha => ?_⟩
    obtain ⟨v, h1, h2⟩ := hj j a ha
    exact ⟨v, h1, A0.rel_congr (fun x hx => hm x (List.mem_flatMap.2 ⟨a, List.mem_of_getElem? ha, hx⟩)) h2⟩
  | row r =>
    show OwnsRow w' c.own r (ρ' h)
    rw [hρ]
    exact OwnsRow.chg he (key rfl)
  | t1 d =>
    show seg (ρ' h) 1 = seg (ρ' d) 1
    rw [hρ, hm d (by simp [Entry.hs])]
    exact he
  | st l =>
    have he' : CodeAt c.w0 (fun k => k < c.w0.heap.size ∧ ¬ c.X k) l (ρ h) := he
    rw [← hρ] at he'
    exact he'
  | cu l a s =>
    obtain ⟨g, C, hv, hg, ⟨t, hh⟩, hc⟩ := he
    exact ⟨g, C, by rw [hρ]; exact hv, hg, ⟨t, (key rfl g (by rw [hv]; exact ⟨0, _, rfl, rfl⟩)).trans hh⟩, hc⟩
  | to d =>
    show hdV (ρ' h) = hdV (ρ' d)
    rw [hρ, hm d (by simp [Entry.hs])]
    exact he
  | ro r =>
    show ReadsRow w' (fun k => k < c.w0.heap.size ∧ ¬ c.X k) r (ρ' h)
    rw [hρ]
    have hblk : ∀ k, k < c.w0.heap.size → ¬ c.X k → w'.heap[k]? = w.heap[k]? := fun k hk hx => ch.block _ (Nat.lt_of_lt_of_le hk hf.size) (fun hd => by
      rcases hD _ hd with h1 | h1
      · omega
      · exact hx h1)
    cases hfl : r.flat with
    | false =>
      have h1 := (ReadsRow.comp hfl).1 (show ReadsRow _ _ _ _ from he)
      exact (ReadsRow.comp hfl).2 (h1.chg fun k hk => hblk k (h1.blk hk).1.1 (h1.blk hk).1.2)
    | true =>
    obtain ⟨hwf, A, n, cap, hv, hn, hc, hm', hr⟩ := (ReadsRow.flat hfl).1 (show ReadsRow _ _ _ _ from he)
    refine (ReadsRow.flat hfl).2 ⟨hwf, A, n, cap, hv, hn, hc, hm', fun h0 => ?_⟩
    obtain ⟨a, hA, hin, hcell⟩ := hr h0
    refine ⟨a, hA, hin, fun j u hu => ?_⟩
    have hb : (a.add j).block = a.block := by unfold Addr.add; split <;> rfl
    rw [World.cell?_of_block (w := w) (by rw [hb]; exact hblk _ hin.1 hin.2)]
    exact hcell j u hu

theorem put_tmps (a : Act) (dst : Option Nat) (v : Value) (s : Nat) (hd : ∀ d, dst = some d → d < a.tmps.size) : (a.put dst v).tmps.getD s undef = if dst = some s then v else a.tmps.getD s undef := by
  cases dst with
  | none => simp [Act.put]
  | some d =>
    have := hd d rfl
    by_cases h : d = s
    · subst h; simp [Act.put, this]
    · have h' : ¬ some d = some s := by simpa using h
      simp [Act.put, h', Array.getElem?_setIfInBounds_ne h]
theorem put_size (a : Act) (dst : Option Nat) (v : Value) : (a.put dst v).tmps.size = a.tmps.size := by cases dst <;> simp [Act.put]
theorem put_defs (a : Act) (dst : Option Nat) (v : Value) : (a.put dst v).defers = a.defers := by cases dst <;> rfl

/-- THE GENERAL STEP: the world has changed in blocks of one's own alone; the handles that are written are new ones, or their old entries are gone; every other entry of one's own lies outside the changed blocks. -/
theorem SatR.step {a : Act} {dst : Option Nat} {val : AV} {wr : Wr} {v : Value} (h : SatR c S ρ a.tmps w) (hd : ∀ d, dst = some d → d < a.tmps.size)
    (ch : Chg w w' D) (hD : ∀ k, D k → c.own k)
    (hρ : ∀ x, ρ' x ≠ ρ x → S.Fresh c x)
    (hρw : ∀ x, x ∉ wrHs wr → ρ' x = ρ x)
    (hout : ∀ x e, S.mem x = some e → e.isOwn = true → x ∉ wrHs wr → ∀ k, Blk (ρ x) k → ¬ D k)
    (hnew : ∀ x e, look x wr = some (some e) → e.holds c w' ρ' x)
    (hsep : ∀ x e, look x wr = some (some e) → e.isOwn = true → ∀ k, Blk (ρ' x) k → (∀ y e', S.mem y = some e' → e'.isOwn = true → y ∉ wrHs wr → ¬ Blk (ρ y) k) ∧ (∀ y e', look y wr = some (some e') → e'.isOwn = true → y ≠ x → ¬ Blk (ρ' y) k))
    (hval : val.rel ρ' v) : SatR c (S.apply dst val wr) ρ' (a.put dst v).tmps w' := by
  have hnm : ∀ s, ∀ x ∈ (S.fr s).hs, ρ' x = ρ x := fun s x hx => Classical.byContradiction fun hne => (hρ x hne).fr s hx
  have hem : ∀ y e, S.mem y = some e → ∀ x ∈ e.hs, ρ' x = ρ x := fun y e he x hx => Classical.byContradiction fun hne => (hρ x hne).ent y e he hx
  refine ⟨fun s => ?_, fun x e hx => ?_, fun x y e e' hx hy ho ho' hne k hk => ?_, h.frame.chg ch hD, fun p hp => ?_, h.inX⟩
  · rw [put_tmps a dst v s hd]
    simp only [SS.apply]
    by_cases hs : dst = some s
    · simp only [hs, if_true]; exact hval
    · simp only [hs, if_false]
      exact AV.rel_congr (hnm s) (h.fr s)
  · simp only [SS.apply] at hx
    cases hl : look x wr with
    | some oe =>
      rw [hl] at hx
      simp only at hx
      subst hx
      exact hnew x e hl
    | none =>
      rw [hl] at hx
      have hnot : x ∉ wrHs wr := (look_none_iff x wr).1 hl
      exact holds_keep (h.mem x e hx) h.frame ch hD (fun hi => hout x e hx hi hnot) (hρw x hnot) (hem x e hx)
  · simp only [SS.apply] at hx hy
    cases hlx : look x wr with
    | some oe =>
      rw [hlx] at hx; simp only at hx; subst hx
      have hs := hsep x e hlx ho k hk
      cases hly : look y wr with
      | some oe' =>
        rw [hly] at hy; simp only at hy; subst hy
        exact hs.2 y e' hly ho' (fun e => hne e.symm)
      | none =>
        rw [hly] at hy
        have hnot : y ∉ wrHs wr := (look_none_iff y wr).1 hly
        rw [hρw y hnot]
        exact hs.1 y e' hy ho' hnot
    | none =>
      rw [hlx] at hx
      have hnot : x ∉ wrHs wr := (look_none_iff x wr).1 hlx
      rw [hρw x hnot] at hk
      cases hly : look y wr with
      | some oe' =>
        rw [hly] at hy; simp only at hy; subst hy
        intro hk'
        exact (hsep y e' hly ho' k hk').1 x e hx ho hnot hk
      | none =>
        rw [hly] at hy
        have hnot' : y ∉ wrHs wr := (look_none_iff y wr).1 hly
        rw [hρw y hnot']
        exact h.sep x y e e' hx hy ho ho' hne k hk
  · refine (Classical.byContradiction fun hne => ?_ : ρ' p.1 = ρ p.1).trans (h.pin p hp)
    exact (hρ p.1 hne).pin p hp rfl

/-- A value into a slot. -/
theorem SatR.val {a : Act} {dst : Option Nat} {val : AV} {v : Value} (h : SatR c S ρ a.tmps w) (hd : ∀ d, dst = some d → d < a.tmps.size) (hv : val.rel ρ v) :
    SatR c (S.apply dst val []) ρ (a.put dst v).tmps w :=
  h.step hd (Chg.refl w (fun _ => False)) (fun _ hk => hk.elim) (fun _ hne => absurd rfl hne) (fun _ _ => rfl) (fun _ _ _ _ _ _ _ hk => hk) (fun x e hx => by simp [look] at hx) (fun x e hx => by simp [look] at hx) hv

theorem SatR.blk_lt (h : SatR c S ρ tmps w) {x : Nat} {e : Entry} (hx : S.mem x = some e) (ho : e.isOwn = true) {k : Nat} (hk : Blk (ρ x) k) : k < w.heap.size := (holds_own (h.mem x e hx) ho k hk).2

def upd (ρ : Nat → Value) (d : Nat) (v : Value) : Nat → Value := fun x => if x = d then v else ρ x
theorem upd_same (ρ : Nat → Value) (d : Nat) (v : Value) : upd ρ d v d = v := by simp [upd]
theorem upd_ne {ρ : Nat → Value} {d : Nat} {v : Value} {x : Nat} (h : x ≠ d) : upd ρ d v x = ρ x := by simp [upd, h]

/-- A new block, its handle a new one. -/
theorem SatR.alloc {a : Act} {d : Nat} {e : Entry} {o : Obj} {v u : Value} {val : AV} (h : SatR c S ρ a.tmps w) (hd : d < a.tmps.size) (hf : S.Fresh c d)
    (hb : ∀ k, Blk u k → k = w.heap.size) (he : e.holds c (w.alloc o) (upd ρ d u) d) (hv : val.rel (upd ρ d u) v) :
    SatR c (S.apply (some d) val [(d, some e)]) (upd ρ d u) (a.put (some d) v).tmps (w.alloc o) := by
  refine h.step (fun x hx => by cases hx; exact hd) (Chg.alloc w o) (fun _ hk => hk.elim) (fun x hne => ?_) (fun x hx => ?_) (fun _ _ _ _ _ _ _ hk => hk) (fun x e' hx => ?_) (fun x e' hx ho k hk => ⟨fun y e'' hy ho' hnot => ?_, fun y e'' hy ho' hne => ?_⟩) hv
  · by_cases hx : x = d
    · subst hx; exact hf
    · exact absurd (upd_ne hx) hne
  · exact upd_ne (by simpa [wrHs] using hx)
  · by_cases hxd : d = x
    · subst hxd
      simp [look_one] at hx
      subst hx
      exact he
    · simp [look_one, hxd] at hx
  · intro hk'
    have hlt := h.blk_lt hy ho' hk'
    by_cases hxd : d = x
    · subst hxd
      rw [upd_same] at hk
      have := hb k hk
      omega
    · simp [look_one, hxd] at hx
  · by_cases hxd : d = x
    · subst hxd
      by_cases hyd : d = y
      · subst hyd; exact absurd rfl hne
      · simp [look_one, hyd] at hy
    · simp [look_one, hxd] at hx

/-- A block of one's own is written over; its handle's entry is the new one. -/
theorem SatR.write {a : Act} {hh : Nat} {e e' : Entry} {g : Nat} {cs : Array Value} {dst : Option Nat} {val : AV} {v : Value} (h : SatR c S ρ a.tmps w) (hd : ∀ d, dst = some d → d < a.tmps.size)
    (hm : S.mem hh = some e) (ho : e.isOwn = true) (hb : Blk (ρ hh) g) (he : e'.holds c (w.setRow g cs) ρ hh) (hv : val.rel ρ v) :
    SatR c (S.apply dst val [(hh, some e')]) ρ (a.put dst v).tmps (w.setRow g cs) := by
  refine h.step hd (Chg.setRow w g cs) (fun k hk => by subst hk; exact (holds_own (h.mem hh e hm) ho _ hb).1) (fun x hne => absurd rfl hne) (fun x hx => rfl)
    (fun x e'' hx ho' hnot k hk hkg => ?_) (fun x e'' hx => ?_) (fun x e'' hx ho' k hk => ⟨fun y e3 hy ho3 hnot => ?_, fun y e3 hy ho3 hne => ?_⟩) hv
  · subst hkg
    have hne : x ≠ hh := by simpa [wrHs] using hnot
    exact h.sep x hh e'' e hx hm ho' ho hne _ hk hb
  · by_cases hxd : hh = x
    · subst hxd
      simp [look_one] at hx
      subst hx
      exact he
    · simp [look_one, hxd] at hx
  · by_cases hxd : hh = x
    · subst hxd
      have hne : y ≠ hh := by simpa [wrHs] using hnot
      intro hk'
      exact h.sep y hh e3 e hy hm ho3 ho hne k hk' hk
    · simp [look_one, hxd] at hx
  · by_cases hxd : hh = x
    · subst hxd
      by_cases hyd : hh = y
      · subst hyd; exact absurd rfl hne
      · simp [look_one, hyd] at hy
    · simp [look_one, hxd] at hx
end

end Go.Proofs.Ytacomnelongbjab
namespace Go.Proofs.Ytacomnelongbjab
open Go Go.RowKit

/-! ### The table of types -/
def isI0 : Value → Bool
  | .int .i64 0 => true
  | _ => false
def isZ (n : Nat) : Option Value → Bool
  | some (.agg cs) => cs.size == n && cs.toList.all isI0
  | _ => false
def isI64 : Option TypeDesc → Bool
  | some (.int .i64) => true
  | _ => false
def fieldsB (P : Program) : List Field → List (Nat × Nat) → Bool
  | [], [] => true
  | f :: F, p :: fs => f.offset == p.1 && (((P.info? f.type).map (·.size)) == some p.2 && (Nat.blt 0 p.2 && (((p.2 != 1) || (isI64 (P.underlying f.type) && f.name != "_")) && fieldsB P F fs)))
  | _, _ => false
def isNilZ : Option Value → Bool
  | some (.slice none 0 0) => true
  | _ => false
def isTwoZ : Option Value → Bool
  | some (.agg cs) => cs.size == 2
  | _ => false
def sizeB (P : Program) (t : Nat) : Bool := ((P.info? t).map (·.size)) == some 1
def twoB (P : Program) (f g : Nat) : List Field → Bool
  | [a, b] => a.offset == 0 && (b.offset == 1 && (a.type == f && (b.type == g && (sizeB P f && sizeB P g))))
  | _ => false
def sz1 (P : Program) (e : Nat) : Bool := ((P.info? e).map (·.size)) == some 1
def isWordL : List Value → Bool
  | [a, b] => isI0 a && isNilZ (some b)
  | _ => false
def isWordZ : Option Value → Bool
  | some (.agg cs) => isWordL cs.toList
  | _ => false
def isSlc (e : Nat) : Option TypeDesc → Bool
  | some (.slice e') => e == e'
  | _ => false
/-- a struct of a number and a slice -/
def wordB (P : Program) (e : Nat) : List Field → Bool
  | [a, b] => a.offset == 0 && (b.offset == 1 && (isI64 (P.underlying a.type) && (isSlc e (P.underlying b.type) && (sizeB P a.type && sizeB P b.type))))
  | _ => false
def isSlcA : Option TypeDesc → Bool
  | some (.slice _) => true
  | _ => false
def isU64 : Option TypeDesc → Bool
  | some (.int .u64) => true
  | _ => false
def isCurL : List Value → Bool
  | [a, .int .i64 0, .int .u64 0] => isNilZ (some a)
  | _ => false
def isCurZ : Option Value → Bool
  | some (.agg cs) => isCurL cs.toList
  | _ => false
/-- a struct of a slice, an int and a uint64 -/
def curB (P : Program) : List Field → Bool
  | [a, b, c] => a.offset == 0 && (b.offset == 1 && (c.offset == 2 && (isSlcA (P.underlying a.type) && (isI64 (P.underlying b.type) && (isU64 (P.underlying c.type) && (sizeB P a.type && (sizeB P b.type && sizeB P c.type)))))))
  | _ => false
def tiB (P : Program) (t : Nat) (ti : TI) : Bool :=
  match P.info? t, P.underlying t with
  | some i, some d => i.size == ti.sz && (i.bytes == ti.bytes && (Nat.ble ti.bytes 1000 && (match ti.k, d with
    | .int, .int .i64 => ti.sz == 1 && (match i.zero with | some (.int .i64 0) => true | _ => false)
    | .bool, .bool => ti.sz == 1 && (match i.zero with | some (.bool false) => true | _ => false)
    | .struct fs, .struct F => isZ ti.sz i.zero && (fieldsB P F.toList fs && (!P.stoodInHeld t && !P.eqGuardType P.depth t))
    | .array n e, .array m e' => n == m && (e == e' && (isZ ti.sz i.zero && (n == ti.sz && sz1 P e)))
    | .slice e, .slice e' => e == e' && (ti.sz == 1 && isNilZ i.zero)
    | .mapT k e, .map k' e' => k == k' && (e == e' && ti.sz == 1)
    | .two f g, .struct F => ti.sz == 2 && (twoB P f g F.toList && isTwoZ i.zero)
    | .word e, .struct F => ti.sz == 2 && (wordB P e F.toList && isWordZ i.zero)
    | .cur, .struct F => ti.sz == 3 && (curB P F.toList && isCurZ i.zero)
    | .uk k, .int k' => k == k' && ti.sz == 1
    | _, _ => false)))
  | _, _ => false
def tabB (P : Program) (tab : Tab) : Bool := tab.all fun p => tiB P p.1 p.2

def TabOk (P : Program) (tab : Tab) : Prop := ∀ t ti, look t tab = some ti → tiB P t ti = true
theorem look_mem {α : Type} {d : Nat} {v : α} : ∀ {l : List (Nat × α)}, look d l = some v → (d, v) ∈ l
  | [], h => by simp [look] at h
  | p :: l, h => by
    simp only [look] at h
    by_cases hp : p.1 = d
    · have h1 : (p.1 == d) = true := by simpa using hp
      rw [h1] at h
      simp only [cond_true, Option.some.injEq] at h
      have : p = (d, v) := by cases p; simp_all
      rw [this]; exact List.mem_cons_self
    · have h1 : (p.1 == d) = false := by simpa using hp
      rw [h1] at h
      exact List.mem_cons_of_mem _ (look_mem h)
theorem TabOk.of {P : Program} {tab : Tab} (h : tabB P tab = true) : TabOk P tab := fun _ _ hl => List.all_eq_true.1 h _ (look_mem hl)

theorem isI0_spec {v : Value} (h : isI0 v = true) : v = vI 0 := by
  unfold isI0 at h; split at h
  · rfl
  · cases h
theorem isZ_spec {n : Nat} {z : Option Value} (h : isZ n z = true) : z = some (.agg (List.replicate n (vI 0)).toArray) := by
  unfold isZ at h
  split at h
  · rename_i cs
    simp only [Bool.and_eq_true, beq_iff_eq, List.all_eq_true] at h
    have : cs.toList = List.replicate n (vI 0) := by
      apply List.eq_replicate_iff.2
      exact ⟨by simpa using h.1, fun b hb => isI0_spec (h.2 b hb)⟩
    rw [← this]
  · cases h
theorem isI64_spec {d : Option TypeDesc} (h : isI64 d = true) : d = some (.int .i64) := by
  unfold isI64 at h; split at h
  · rfl
  · cases h

section
variable {P : Program} {t : Nat} {ti : TI}
theorem tiB_info (h : tiB P t ti = true) : ∃ i d, P.info? t = some i ∧ P.underlying t = some d ∧ i.size = ti.sz ∧ i.bytes = ti.bytes ∧ ti.bytes ≤ 1000 := by
  unfold tiB at h
  split at h
  · rename_i i d hi hd
    simp only [Bool.and_eq_true, beq_iff_eq, Nat.ble_eq] at h
    exact ⟨i, d, hi, hd, h.1, h.2.1, h.2.2.1⟩
  · cases h
theorem tiB_int {sz bytes : Nat} (h : tiB P t ⟨.int, sz, bytes⟩ = true) : P.underlying t = some (.int .i64) ∧ sz = 1 ∧ ∃ i, P.info? t = some i ∧ i.size = 1 ∧ i.bytes = bytes ∧ i.zero = some (vI 0) := by
  unfold tiB at h
  split at h
  · rename_i i d hi hd
    simp only [Bool.and_eq_true, beq_iff_eq] at h
    obtain ⟨h1, h2, h3, h4⟩ := h
    split at h4 <;> try cases h4
    all_goals (rename_i hk; first | cases hk | skip)
    simp only [Bool.and_eq_true, beq_iff_eq] at h4
    obtain ⟨h4, h5⟩ := h4
    split at h5
    · rename_i hz
      exact ⟨hd, h4, i, hi, h1.trans h4, h2, hz⟩
    · cases h5
  · cases h
theorem tiB_bool {sz bytes : Nat} (h : tiB P t ⟨.bool, sz, bytes⟩ = true) : P.underlying t = some .bool ∧ sz = 1 ∧ ∃ i, P.info? t = some i ∧ i.size = 1 ∧ i.bytes = bytes ∧ i.zero = some (.bool false) := by
  unfold tiB at h
  split at h
  · rename_i i d hi hd
    simp only [Bool.and_eq_true, beq_iff_eq] at h
    obtain ⟨h1, h2, h3, h4⟩ := h
    split at h4 <;> try cases h4
    all_goals (rename_i hk; first | cases hk | skip)
    simp only [Bool.and_eq_true, beq_iff_eq] at h4
    obtain ⟨h4, h5⟩ := h4
    split at h5
    · rename_i hz
      exact ⟨hd, h4, i, hi, h1.trans h4, h2, hz⟩
    · cases h5
  · cases h
theorem tiB_struct {fs : List (Nat × Nat)} {sz bytes : Nat} (h : tiB P t ⟨.struct fs, sz, bytes⟩ = true) :
    ∃ F i, P.underlying t = some (.struct F) ∧ P.info? t = some i ∧ i.size = sz ∧ i.bytes = bytes ∧ i.zero = some (.agg (List.replicate sz (vI 0)).toArray) ∧ fieldsB P F.toList fs = true ∧ P.stoodInHeld t = false ∧ P.eqGuardType P.depth t = false := by
  unfold tiB at h
  split at h
  · rename_i i d hi hd
    simp only [Bool.and_eq_true, beq_iff_eq] at h
    obtain ⟨h1, h2, h3, h4⟩ := h
    split at h4 <;> try cases h4
    all_goals (rename_i hk; first | cases hk | skip)
    simp only [Bool.and_eq_true, Bool.not_eq_true'] at h4
    exact ⟨_, i, hd, hi, h1, h2, isZ_spec h4.1, h4.2.1, h4.2.2.1, h4.2.2.2⟩
  · cases h
theorem tiB_array {n e sz bytes : Nat} (h : tiB P t ⟨.array n e, sz, bytes⟩ = true) :
    ∃ i ei, P.underlying t = some (.array n e) ∧ P.info? t = some i ∧ i.size = sz ∧ i.bytes = bytes ∧ i.zero = some (.agg (List.replicate sz (vI 0)).toArray) ∧ n = sz ∧ P.info? e = some ei ∧ ei.size = 1 := by
  unfold tiB at h
  split at h
  · rename_i i d hi hd
    simp only [Bool.and_eq_true, beq_iff_eq] at h
    obtain ⟨h1, h2, h3, h4⟩ := h
    split at h4 <;> try cases h4
    all_goals (rename_i hk; first | cases hk | skip)
    simp only [Bool.and_eq_true, beq_iff_eq, sz1, Option.map_eq_some_iff] at h4
    obtain ⟨h5, h6, h7, h8, ei, he, hs⟩ := h4
    subst h5; subst h6
    exact ⟨i, ei, hd, hi, h1, h2, isZ_spec h7, h8, he, hs⟩
  · cases h
theorem tiB_slice {e sz bytes : Nat} (h : tiB P t ⟨.slice e, sz, bytes⟩ = true) : P.underlying t = some (.slice e) := by
  unfold tiB at h
  split at h
  · rename_i i d hi hd
    simp only [Bool.and_eq_true, beq_iff_eq] at h
    obtain ⟨h1, h2, h3, h4⟩ := h
    split at h4 <;> try cases h4
    all_goals (rename_i hk; first | cases hk | skip)
    simp only [Bool.and_eq_true, beq_iff_eq] at h4
    rw [h4.1]; exact hd
  · cases h
theorem isNilZ_spec {z : Option Value} (h : isNilZ z = true) : z = some (.slice none 0 0) := by
  unfold isNilZ at h; split at h
  · rfl
  · cases h
theorem isTwoZ_spec {z : Option Value} (h : isTwoZ z = true) : ∃ cs, z = some (.agg cs) ∧ cs.size = 2 := by
  unfold isTwoZ at h; split at h
  · rename_i cs; exact ⟨cs, rfl, by simpa using h⟩
  · cases h
theorem sizeB_spec {t : Nat} (h : sizeB P t = true) : ∃ i, P.info? t = some i ∧ i.size = 1 := by
  simpa [sizeB] using h
theorem twoB_spec {f g : Nat} {F : List Field} (h : twoB P f g F = true) : ∃ a b, F = [a, b] ∧ a.offset = 0 ∧ b.offset = 1 ∧ a.type = f ∧ b.type = g ∧ (∃ i, P.info? f = some i ∧ i.size = 1) ∧ ∃ i, P.info? g = some i ∧ i.size = 1 := by
  unfold twoB at h; split at h
  · rename_i a b
    simp only [Bool.and_eq_true, beq_iff_eq] at h
    obtain ⟨h1, h2, h3, h4, h5, h6⟩ := h
    exact ⟨a, b, rfl, h1, h2, h3, h4, sizeB_spec h5, sizeB_spec h6⟩
  · cases h
theorem tiB_slice2 {e sz bytes : Nat} (h : tiB P t ⟨.slice e, sz, bytes⟩ = true) : ∃ i, P.underlying t = some (.slice e) ∧ P.info? t = some i ∧ i.size = 1 ∧ i.bytes = bytes ∧ bytes ≤ 1000 ∧ i.zero = some (.slice none 0 0) ∧ sz = 1 := by
  unfold tiB at h
  split at h
  · rename_i i d hi hd
    simp only [Bool.and_eq_true, beq_iff_eq, Nat.ble_eq] at h
    obtain ⟨h1, h2, h3, h4⟩ := h
    split at h4 <;> try cases h4
    all_goals (rename_i hk; first | cases hk | skip)
    simp only [Bool.and_eq_true, beq_iff_eq] at h4
    exact ⟨i, by rw [h4.1]; exact hd, hi, h1.trans h4.2.1, h2, h3, isNilZ_spec h4.2.2, h4.2.1⟩
  · cases h
theorem tiB_map {k e sz bytes : Nat} (h : tiB P t ⟨.mapT k e, sz, bytes⟩ = true) : P.underlying t = some (.map k e) := by
  unfold tiB at h
  split at h
  · rename_i i d hi hd
    simp only [Bool.and_eq_true, beq_iff_eq] at h
    obtain ⟨h1, h2, h3, h4⟩ := h
    split at h4 <;> try cases h4
    all_goals (rename_i hk; first | cases hk | skip)
    simp only [Bool.and_eq_true, beq_iff_eq] at h4
    rw [h4.1, h4.2.1]; exact hd
  · cases h
theorem tiB_two {f g sz bytes : Nat} (h : tiB P t ⟨.two f g, sz, bytes⟩ = true) : ∃ F i cs, P.underlying t = some (.struct F) ∧ P.info? t = some i ∧ i.size = 2 ∧ i.zero = some (.agg cs) ∧ cs.size = 2 ∧ twoB P f g F.toList = true := by
  unfold tiB at h
  split at h
  · rename_i i d hi hd
    simp only [Bool.and_eq_true, beq_iff_eq] at h
    obtain ⟨h1, h2, h3, h4⟩ := h
    split at h4 <;> try cases h4
    all_goals (rename_i hk; first | cases hk | skip)
    simp only [Bool.and_eq_true, beq_iff_eq] at h4
    obtain ⟨cs, h5, h6⟩ := isTwoZ_spec h4.2.2
    exact ⟨_, i, cs, hd, hi, h1.trans h4.1, h5, h6, h4.2.1⟩
  · cases h
theorem isWordZ_spec {z : Option Value} (h : isWordZ z = true) : z = some (.agg #[vI 0, .slice none 0 0]) := by
  unfold isWordZ at h; split at h
  · rename_i cs
    unfold isWordL at h; split at h
    · rename_i a b hab
      simp only [Bool.and_eq_true] at h
      have h2 := isNilZ_spec h.2
      simp only [Option.some.injEq] at h2
      have : cs = #[a, b] := by apply Array.ext'; simpa using hab
      rw [this, isI0_spec h.1, h2]
    · cases h
  · cases h
theorem isSlc_spec {e : Nat} {d : Option TypeDesc} (h : isSlc e d = true) : d = some (.slice e) := by
  unfold isSlc at h; split at h
  · rename_i e'
    have : e = e' := by simpa using h
    rw [this]
  · cases h
theorem wordB_spec {e : Nat} {F : List Field} (h : wordB P e F = true) : ∃ a b, F = [a, b] ∧ a.offset = 0 ∧ b.offset = 1 ∧ P.underlying a.type = some (.int .i64) ∧ P.underlying b.type = some (.slice e) ∧ (∃ i, P.info? a.type = some i ∧ i.size = 1) ∧ ∃ i, P.info? b.type = some i ∧ i.size = 1 := by
  unfold wordB at h; split at h
  · rename_i a b
    simp only [Bool.and_eq_true, beq_iff_eq] at h
    obtain ⟨h1, h2, h3, h4, h5, h6⟩ := h
    exact ⟨a, b, rfl, h1, h2, isI64_spec h3, isSlc_spec h4, sizeB_spec h5, sizeB_spec h6⟩
  · cases h
theorem tiB_word {e sz bytes : Nat} (h : tiB P t ⟨.word e, sz, bytes⟩ = true) : ∃ F i, P.underlying t = some (.struct F) ∧ P.info? t = some i ∧ i.size = 2 ∧ i.zero = some (.agg #[vI 0, .slice none 0 0]) ∧ wordB P e F.toList = true := by
  unfold tiB at h
  split at h
  · rename_i i d hi hd
    simp only [Bool.and_eq_true, beq_iff_eq] at h
    obtain ⟨h1, h2, h3, h4⟩ := h
    split at h4 <;> try cases h4
    all_goals (rename_i hk; first | cases hk | skip)
    simp only [Bool.and_eq_true, beq_iff_eq] at h4
    exact ⟨_, i, hd, hi, h1.trans h4.1, isWordZ_spec h4.2.2, h4.2.1⟩
  · cases h
theorem isCurZ_spec {z : Option Value} (h : isCurZ z = true) : z = some (.agg #[.slice none 0 0, vI 0, .int .u64 0]) := by
  unfold isCurZ at h; split at h
  · rename_i cs
    unfold isCurL at h; split at h
    · rename_i a hab
      have h2 := isNilZ_spec h
      simp only [Option.some.injEq] at h2
      have : cs = #[a, .int .i64 0, .int .u64 0] := by apply Array.ext'; simpa using hab
      rw [this, h2]
    · cases h
  · cases h
theorem isSlcA_spec {d : Option TypeDesc} (h : isSlcA d = true) : ∃ e, d = some (.slice e) := by
  unfold isSlcA at h; split at h
  · exact ⟨_, rfl⟩
  · cases h
theorem isU64_spec {d : Option TypeDesc} (h : isU64 d = true) : d = some (.int .u64) := by
  unfold isU64 at h; split at h
  · rfl
  · cases h
theorem curB_spec {F : List Field} (h : curB P F = true) : ∃ a b c, F = [a, b, c] ∧ (a.offset = 0 ∧ b.offset = 1 ∧ c.offset = 2) ∧ (∃ i, P.info? a.type = some i ∧ i.size = 1) ∧ (∃ i, P.info? b.type = some i ∧ i.size = 1) ∧ ∃ i, P.info? c.type = some i ∧ i.size = 1 := by
  unfold curB at h; split at h
  · rename_i a b c
    simp only [Bool.and_eq_true, beq_iff_eq] at h
    obtain ⟨h1, h2, h3, h4, h5, h6, h7, h8, h9⟩ := h
    exact ⟨a, b, c, rfl, ⟨h1, h2, h3⟩, sizeB_spec h7, sizeB_spec h8, sizeB_spec h9⟩
  · cases h
theorem tiB_cur {sz bytes : Nat} (h : tiB P t ⟨.cur, sz, bytes⟩ = true) : ∃ F i, P.underlying t = some (.struct F) ∧ P.info? t = some i ∧ i.size = 3 ∧ i.zero = some (.agg #[.slice none 0 0, vI 0, .int .u64 0]) ∧ curB P F.toList = true := by
  unfold tiB at h
  split at h
  · rename_i i d hi hd
    simp only [Bool.and_eq_true, beq_iff_eq] at h
    obtain ⟨h1, h2, h3, h4⟩ := h
    split at h4 <;> try cases h4
    all_goals (rename_i hk; first | cases hk | skip)
    simp only [Bool.and_eq_true, beq_iff_eq] at h4
    exact ⟨_, i, hd, hi, h1.trans h4.1, isCurZ_spec h4.2.2, h4.2.1⟩
  · cases h
theorem tiB_uk {k : IntKind} {sz bytes : Nat} (h : tiB P t ⟨.uk k, sz, bytes⟩ = true) : P.underlying t = some (.int k) ∧ sz = 1 ∧ ∃ i, P.info? t = some i ∧ i.size = 1 := by
  unfold tiB at h
  split at h
  · rename_i i d hi hd
    simp only [Bool.and_eq_true, beq_iff_eq] at h
    obtain ⟨h1, h2, h3, h4⟩ := h
    split at h4 <;> try cases h4
    all_goals (rename_i hk; first | cases hk | skip)
    simp only [Bool.and_eq_true, beq_iff_eq] at h4
    exact ⟨by rw [h4.1]; exact hd, h4.2, i, hi, h1.trans h4.2⟩
  · cases h
theorem fieldsB_at : ∀ {F : List Field} {fs : List (Nat × Nat)}, fieldsB P F fs = true → F.length = fs.length ∧ ∀ (j : Nat) (p : Nat × Nat), fs[j]? = some p → ∃ (f : Field) (fi : TypeInfo), F[j]? = some f ∧ f.offset = p.1 ∧ P.info? f.type = some fi ∧ fi.size = p.2 ∧ 0 < p.2 ∧ (p.2 = 1 → P.underlying f.type = some (.int .i64) ∧ f.name ≠ "_")
  | [], [], _ => ⟨rfl, fun j p h => by simp at h⟩
  | [], _ :: _, h => by simp [fieldsB] at h
  | _ :: _, [], h => by simp [fieldsB] at h
  | f :: F, p :: fs, h => by
    simp only [fieldsB, Bool.and_eq_true, beq_iff_eq, Option.map_eq_some_iff, Nat.blt_eq, Bool.or_eq_true, bne_iff_ne] at h
    obtain ⟨h1, ⟨fi, h2, h3⟩, h4, h5, h6⟩ := h
    obtain ⟨hl, hj⟩ := fieldsB_at h6
    refine ⟨by simp [hl], fun j q hq => ?_⟩
    cases j with
    | zero =>
      simp only [List.getElem?_cons_zero, Option.some.injEq] at hq
      subst hq
      refine ⟨f, fi, rfl, h1, h2, h3, h4, fun hp => ?_⟩
      rcases h5 with h5 | h5
      · exact absurd hp h5
      · exact ⟨isI64_spec h5.1, h5.2⟩
    | succ j => simpa using hj j q (by simpa using hq)
end

/-! ### Runs -/
section
variable {P : Program} {w : World}
theorem run_info {t : TypeId} {i : TypeInfo} (h : P.info? t = some i) : (typeInfo t).run P w = .ok i w := by simp [typeInfo, h]
theorem run_size {t : TypeId} {i : TypeInfo} (h : P.info? t = some i) : (sizeOf t).run P w = .ok i.size w := by simp [sizeOf, typeInfo, h]
theorem run_zero {t : TypeId} {i : TypeInfo} {z : Value} (h : P.info? t = some i) (hz : i.zero = some z) : (zeroValue t).run P w = .ok z w := by simp [zeroValue, typeInfo, h, hz]
theorem run_isAgg_struct {t : TypeId} {F : Array Field} (h : P.underlying t = some (.struct F)) : (isAgg t).run P w = .ok true w := by simp [isAgg, run_underlying h]
theorem run_isAgg_array {t : TypeId} {n e : Nat} (h : P.underlying t = some (.array n e)) : (isAgg t).run P w = .ok true w := by simp [isAgg, run_underlying h]
theorem run_isAgg_int {t : TypeId} {k : IntKind} (h : P.underlying t = some (.int k)) : (isAgg t).run P w = .ok false w := by simp [isAgg, run_underlying h]
theorem run_isAgg_bool {t : TypeId} (h : P.underlying t = some .bool) : (isAgg t).run P w = .ok false w := by simp [isAgg, run_underlying h]
theorem run_load_cell {a : Addr} {v : Value} (h : w.cell? a = some v) : (load a).run P w = .ok v w := by simp [load, Sem.run, h]
theorem run_loadAt_int {t : TypeId} {a : Addr} {v : Value} (ht : P.underlying t = some (.int .i64)) (h : w.cell? a = some v) : (Instr.loadAt t (.pointer (some a))).run P w = .ok v w := by
  simp [Instr.loadAt, Instr.sureAddr, loadVar, run_isAgg_int ht, h]
theorem run_loadAt_bool {t : TypeId} {a : Addr} {v : Value} (ht : P.underlying t = some .bool) (h : w.cell? a = some v) : (Instr.loadAt t (.pointer (some a))).run P w = .ok v w := by
  simp [Instr.loadAt, Instr.sureAddr, loadVar, run_isAgg_bool ht, h]
theorem run_loadAt_slice {t e : TypeId} {a : Addr} {v : Value} (ht : P.underlying t = some (.slice e)) (h : w.cell? a = some v) : (Instr.loadAt t (.pointer (some a))).run P w = .ok v w := by
  have : (isAgg t).run P w = .ok false w := by simp [isAgg, run_underlying ht]
  simp [Instr.loadAt, Instr.sureAddr, loadVar, this, h]
theorem run_loadAt_map {t k e : TypeId} {a : Addr} {v : Value} (ht : P.underlying t = some (.map k e)) (h : w.cell? a = some v) : (Instr.loadAt t (.pointer (some a))).run P w = .ok v w := by
  have : (isAgg t).run P w = .ok false w := by simp [isAgg, run_underlying ht]
  simp [Instr.loadAt, Instr.sureAddr, loadVar, this, h]
theorem run_loadAt_agg {t : TypeId} {a : Addr} {i : TypeInfo} {cs : List Value} (ht : (isAgg t).run P w = .ok true w) (hi : P.info? t = some i) (hs : i.size = cs.length) (h : ∀ j v, cs[j]? = some v → w.cell? (a.add j) = some v) :
    (Instr.loadAt t (.pointer (some a))).run P w = .ok (.agg cs.toArray) w := by
  have := run_loadCells_list (P := P) w a cs h
  simp [Instr.loadAt, Instr.sureAddr, loadVar, ht, run_size hi, hs, this]
theorem add_lit (g j k : Nat) : (⟨g, j, none⟩ : Addr).add k = ⟨g, j + k, none⟩ := by unfold Addr.add; split <;> simp_all
theorem add0 (g k : Nat) : (⟨g, 0, none⟩ : Addr).add k = ⟨g, k, none⟩ := by rw [add_lit]; simp

/-- a store of cells into a block that is known -/
theorem run_storeAt {t : TypeId} {i : TypeInfo} {g o : Nat} {el : TypeId} {cur : Array Value} {v : Value} (hi : P.info? t = some i) (hs : v.cells.size = i.size) (hg : w.heap[g]? = some (.cells cur el (0, 0)))
    (hfit : o + v.cells.size ≤ cur.size) (h1 : ∀ u ∈ v.cells.toList, u.oneCell' = true) :
    (Instr.storeAt t (.pointer (some ⟨g, o, none⟩)) v).run P w = .ok () (w.setRow g (cur.toList.take o ++ v.cells.toList ++ cur.toList.drop (o + v.cells.size)).toArray) := by
  have := run_storeCells_at P g o el v.cells.toList 0 cur w hg (by simpa using hfit) h1
  simp only [Nat.add_zero, Array.length_toList] at this
  simp [Instr.storeAt, Instr.sureAddr, storeVar, run_size hi, hs, this]
theorem run_box {t : TypeId} {v : Value} : (Instr.box t v).run P w = .ok (.pointer (some ⟨w.heap.size, 0, none⟩)) (w.alloc (.cells v.cells t)) := by
  simp [Instr.box, newVar, newRow]
theorem run_alloc {t : TypeId} {i : TypeInfo} {z u : Value} (hi : P.info? t = some i) (hz : i.zero = some z) : (Instr.alloc t true u).run P w = .ok (.pointer (some ⟨w.heap.size, 0, none⟩)) (w.alloc (.cells z.cells t)) := by
  simp [Instr.alloc, run_zero hi hz, newVar, newRow]
theorem run_fieldAt {t : TypeId} {F : Array Field} {f : Nat} {fd : Field} {fi : TypeInfo} {a : Addr} (ht : P.underlying t = some (.struct F)) (hf : F[f]? = some fd) (hi : P.info? fd.type = some fi) (h0 : 0 < fi.size) :
    (Instr.fieldAt t (.pointer (some a)) f).run P w = .ok (.pointer (some (a.add fd.offset))) w := by
  have : fi.size ≠ 0 := by omega
  simp [Instr.fieldAt, run_underlying ht, hf, Instr.sureAddr, fieldPlace, run_size hi, this]
end

theorem cells_s (l : List Int) : (Value.agg (l.map vI).toArray).cells = (l.map vI).toArray := rfl
theorem one_vI {l : List Int} : ∀ u ∈ l.map vI, u.oneCell' = true := by
  intro u hu
  obtain ⟨n, _, rfl⟩ := List.mem_map.1 hu
  rfl

/-- what 'setAt' leaves -/
theorem setAt_eq {α : Type} : ∀ (m l : List α) (o : Nat), o + m.length ≤ l.length → setAt l o m = l.take o ++ m ++ l.drop (o + m.length)
  | [], l, o, _ => by simp [setAt]
  | x :: m, l, o, h => by
    simp only [List.length_cons] at h
    rw [setAt, setAt_eq m (l.set o x) (o + 1) (by simp; omega)]
    have hs : l.set o x = l.take o ++ x :: l.drop (o + 1) := by rw [List.set_eq_take_append_cons_drop, if_pos (by omega)]
    have hl : (l.take o).length = o := by simp; omega
    have h1 : (l.set o x).take (o + 1) = l.take o ++ [x] := by
      rw [hs, List.take_append, hl, List.take_of_length_le (by omega)]
      simp
    have h2 : (l.set o x).drop (o + 1 + m.length) = l.drop (o + (m.length + 1)) := by
      rw [List.drop_set, if_pos (by omega)]
      congr 1
      omega
    rw [h1, h2]
    simp
theorem setAt_length {α : Type} : ∀ (m l : List α) (o : Nat), (setAt l o m).length = l.length
  | [], _, _ => rfl
  | x :: m, l, o => by rw [setAt, setAt_length m]; simp

end Go.Proofs.Ytacomnelongbjab
namespace Go.Proofs.Ytacomnelongbjab
open Go Go.RowKit

section
variable {c : Ctx} {ops : Array Oper} {o : Oper} {S : St} {R : List Nat} {val : AV} {wr : Wr}

def Wanted (c : Ctx) (ops : Array Oper) (o : Oper) (S : St) : Prop := ∀ (S' : SS) (a : Act) (w : World), Agree ops o [] (den S) S' → Sat c S' a w → Region.wanted o (yielded ops a.tmps) = true
theorem Agree.nil {S S' : SS} (h : Agree ops o R S S') : Agree ops o [] S S' := ⟨h.fr, fun _ hx => by cases hx⟩

theorem wp_value {P : Program} {a : Act} {w w' : World} {v : Value} {K : Act → World → Prop} {Q : Exit → Act → World → Prop} (h : (execOp a.eval o).run P w = .ok (.value v) w') (hk : K (a.put o.dst v) w') : o.wp P a w K Q := by
  unfold Oper.wp; rw [h]; exact hk
theorem wp_skipped {P : Program} {a : Act} {w w' : World} {K : Act → World → Prop} {Q : Exit → Act → World → Prop} (h : (execOp a.eval o).run P w = .ok .skip w') (hk : K (a.put o.dst undef) w') : o.wp P a w K Q := by
  unfold Oper.wp; rw [h]; exact hk

theorem good_of (hN : ∀ d, o.dst = some d → d < c.N) (hw : Wanted c ops o S)
    (h : ∀ (S' : SS) (ρ : Nat → Value) (a : Act) (w : World), Agree ops o R (den S) S' → (∀ x ∈ wrHs wr, x ∉ R → S'.Fresh c x) → SatR c S' ρ a.tmps w → (∀ d, o.dst = some d → d < a.tmps.size) →
      ∃ v w' ρ', ((execOp a.eval o).run c.P w = .ok (.value v) w' ∨ ((execOp a.eval o).run c.P w = .ok .skip w' ∧ v = undef)) ∧ SatR c (S'.apply o.dst val wr) ρ' (a.put o.dst v).tmps w') :
    Good c ops o (den S) R val wr := by
  intro S' hag hfr a w hsat K Q hK
  unfold opAt
  rw [if_pos (hw S' a w hag.nil hsat)]
  obtain ⟨hdef, hsz, ρ, hs⟩ := hsat
  obtain ⟨v, w', ρ', hr, hs'⟩ := h S' ρ a w hag hfr hs (fun d hd => by rw [hsz]; exact hN d hd)
  have hk : K (a.put o.dst v) w' := hK _ _ ⟨(put_defs a o.dst v).trans hdef, (put_size a o.dst v).trans hsz, ρ', hs'⟩
  rcases hr with hr | ⟨hr, hv⟩
  · exact wp_value hr hk
  · subst hv; exact wp_skipped hr hk

theorem cst_rel (ρ : Nat → Value) (v : Value) : (cst v).rel ρ v := by
  unfold cst
  split <;> simp [AV.rel, A0.rel, A0.conc]
theorem eval_rel {S' : SS} {ρ : Nat → Value} {a : Act} {w : World} (hag : Agree ops o R (den S) S') (h : SatR c S' ρ a.tmps w) {x : Operand} (hx : x ∈ o.op.operands.toList) : (S.eval x).rel ρ (a.eval x) := by
  cases x with
  | tmp t =>
    have ht : t ∈ o.looksAt ops := by
      unfold Oper.looksAt
      exact List.mem_append_left _ (List.mem_filterMap.2 ⟨.tmp t, hx, rfl⟩)
    have := h.fr t
    rw [hag.fr t ht] at this
    exact (AV.rel_norm ρ _ _).1 this
  | const v => exact cst_rel ρ v
  | global g => simp [St.eval, AV.rel, A0.rel]
  | func f => simp [St.eval, AV.rel, A0.rel, A0.conc, Act.eval]
theorem mem_at {S' : SS} (hag : Agree ops o R (den S) S') {h : Nat} {e : Entry} (hh : h ∈ R) (hl : look h S.mem = some e) : S'.mem h = some e.norm := by
  rw [hag.mem h hh]
  simp [den, hl]

theorem rel_i {ρ : Nat → Value} {n : Int} {v : Value} (h : (AV.one (.i n)).rel ρ v) : v = vI n := h
theorem rel_b {ρ : Nat → Value} {n : Bool} {v : Value} (h : (AV.one (.b n)).rel ρ v) : v = .bool n := h
theorem rel_s {ρ : Nat → Value} {l : List Int} {v : Value} (h : (AV.one (.s l)).rel ρ v) : v = .agg (l.map vI).toArray := h

/-- An operation that only computes a value. -/
theorem good_val (hN : ∀ d, o.dst = some d → d < c.N) (hw : Wanted c ops o S) {a0 : AV}
    (h : ∀ ρ (a : Act) w, (∀ x ∈ o.op.operands.toList, (S.eval x).rel ρ (a.eval x)) → ∃ v, (execOp a.eval o).run c.P w = .ok (.value v) w ∧ a0.rel ρ v) : Good c ops o (den S) R a0.norm [] := by
  refine good_of hN hw fun S' ρ a w hag _ hs hd => ?_
  obtain ⟨v, hr, hv⟩ := h ρ a w (fun x hx => eval_rel hag hs hx)
  exact ⟨v, w, ρ, .inl hr, hs.val hd ((AV.rel_norm ρ _ _).2 hv)⟩

theorem good_move {x : Operand} (hN : ∀ d, o.dst = some d → d < c.N) (hw : Wanted c ops o S) (hop : o.op = .move x ∨ o.op = .assign x) : Good c ops o (den S) R (S.eval x).norm [] := by
  refine good_val hN hw fun ρ a w hx => ⟨a.eval x, ?_, hx x ?_⟩
  · rcases hop with h | h <;> simp [execOp, h]
  · rcases hop with h | h <;> simp [h, Op.operands]

theorem good_pick {cc x y : Operand} {e : Eff} (hN : ∀ d, o.dst = some d → d < c.N) (hw : Wanted c ops o S) (hop : o.op = .pick cc x y) (he : effPick (S.eval cc) (S.eval x) (S.eval y) = some e) : Good c ops o (den S) R e.val.norm (normWr e.wr) := by
  unfold effPick at he
  split at he
  · rename_i hc
    simp only [val1, Option.some.injEq] at he; subst he
    refine good_val hN hw fun ρ a w hx => ⟨a.eval x, ?_, hx x (by simp [hop, Op.operands])⟩
    have h1 := hx cc (by simp [hop, Op.operands])
    rw [hc] at h1
    have h2 : a.eval cc = .bool true := h1
    simp [execOp, hop, h2, asBool]
  · rename_i hc
    simp only [val1, Option.some.injEq] at he; subst he
    refine good_val hN hw fun ρ a w hx => ⟨a.eval y, ?_, hx y (by simp [hop, Op.operands])⟩
    have h1 := hx cc (by simp [hop, Op.operands])
    rw [hc] at h1
    have h2 : a.eval cc = .bool false := h1
    simp [execOp, hop, h2, asBool]
  · cases he

theorem good_extract {x : Operand} {j : Nat} {e : Eff} (hN : ∀ d, o.dst = some d → d < c.N) (hw : Wanted c ops o S) (hop : o.op = .extract x j) (he : effExtract (S.eval x) j = some e) : Good c ops o (den S) R e.val.norm (normWr e.wr) := by
  unfold effExtract at he
  split at he
  · rename_i l hl
    split at he
    · rename_i a0 ha
      simp only [val1, Option.some.injEq] at he; subst he
      refine good_val hN hw fun ρ a w hx => ?_
      have h1 := hx x (by simp [hop, Op.operands])
      rw [hl] at h1
      obtain ⟨vs, hv, _, hj⟩ := h1
      obtain ⟨u, hu, hr⟩ := hj j a0 ha
      exact ⟨u, by simp [execOp, hop, hv, Instr.extract, hu], hr⟩
    · cases he
  · cases he

theorem wrap64_eq (n : Int) : IntKind.i64.wrap n = wrap64 n := by simp [wrap64, IntKind.wrap_i64]

theorem good_un {x : Operand} {op : UnOp} {t : Nat} {e : Eff} (hN : ∀ d, o.dst = some d → d < c.N) (hw : Wanted c ops o S) (hop : o.op = .unOp op t x) (he : effUn op (S.eval x) = some e) : Good c ops o (den S) R e.val.norm (normWr e.wr) := by
  unfold effUn at he
  split at he <;> (try cases he)
  · rename_i n hx
    refine good_val hN hw fun ρ a w hxx => ?_
    have h1 := hxx x (by simp [hop, Op.operands])
    rw [hx] at h1
    exact ⟨vI (wrap64 (0 - n)), by simp [execOp, hop, rel_i h1, Op.unary, Op.intArith, wrap64_eq], rfl⟩
  · rename_i n hx
    refine good_val hN hw fun ρ a w hxx => ?_
    have h1 := hxx x (by simp [hop, Op.operands])
    rw [hx] at h1
    exact ⟨.bool (!n), by simp [execOp, hop, rel_b h1, Op.unary], rfl⟩
  · rename_i hx
    refine good_val hN hw fun ρ a w hxx => ?_
    have h1 := hxx x (by simp [hop, Op.operands])
    rw [hx] at h1
    have h2 : a.eval x = .bool true := h1
    exact ⟨.bool false, by simp [execOp, hop, h2, Op.unary], rfl⟩
  · rename_i hx
    refine good_val hN hw fun ρ a w hxx => ?_
    have h1 := hxx x (by simp [hop, Op.operands])
    rw [hx] at h1
    have h2 : a.eval x = .bool false := h1
    exact ⟨.bool true, by simp [execOp, hop, h2, Op.unary], rfl⟩

theorem binInt_run {P : Program} {op : BinOp} {a b : Int} {e : Eff} (t : Nat) (x y : Operand) (he : binInt op a b = some e) (hp : e.pre) (w : World) :
    ∃ v, (do eqGuard op t x y (vI a) (vI b); binOp op t (vI a) (vI b) : Sem Value).run P w = .ok v w ∧ (∀ ρ, e.val.rel ρ v) ∧ e.wr = [] := by
  unfold binInt at he
  split at he <;> simp only [val1, Option.some.injEq, reduceCtorEq] at he <;> subst he
  · exact ⟨vI (wrap64 (a + b)), by simp [eqGuard_add, binOp_add, Op.intArith, wrap64_eq], fun _ => rfl, rfl⟩
  · exact ⟨vI (wrap64 (a - b)), by simp [eqGuard_sub, binOp_sub, Op.intArith, wrap64_eq], fun _ => rfl, rfl⟩
  · exact ⟨vI (wrap64 (a * b)), by simp [eqGuard_mul, binOp_mul, Op.intArith, wrap64_eq], fun _ => rfl, rfl⟩
  · have hp' : b ≠ 0 := hp
    exact ⟨vI (wrap64 (a.tdiv b)), by simp [eqGuard_quo, binOp_quo, Op.intDiv, wrap64_eq, hp'], fun _ => rfl, rfl⟩
  · have hp' : b ≠ 0 := hp
    exact ⟨vI (a.tmod b), by simp [eqGuard_rem, binOp_rem, Op.intDiv, hp'], fun _ => rfl, rfl⟩
  · exact ⟨.bool (a == b), by simp [eqGuard_at_int, binOp_eql], fun _ => rfl, rfl⟩
  · exact ⟨.bool (a != b), by simp [eqGuard_at_int, binOp_neq], fun _ => rfl, rfl⟩
  · exact ⟨.bool (decide (a < b)), by simp [eqGuard_at_int, binOp_lss], fun _ => rfl, rfl⟩
  · exact ⟨.bool (decide (a ≤ b)), by simp [eqGuard_at_int, binOp_leq], fun _ => rfl, rfl⟩
  · exact ⟨.bool (decide (a > b)), by simp [eqGuard_at_int, binOp_gtr], fun _ => rfl, rfl⟩
  · exact ⟨.bool (decide (a ≥ b)), by simp [eqGuard_at_int, binOp_geq], fun _ => rfl, rfl⟩

theorem good_bin {x y : Operand} {op : BinOp} {t t' : Nat} {e : Eff} {a b : Int} (hN : ∀ d, o.dst = some d → d < c.N) (hw : Wanted c ops o S) (hop : o.op = .binOp op t x y t') (hx : S.eval x = .one (.i a)) (hy : S.eval y = .one (.i b))
    (he : binInt op a b = some e) (hp : e.pre) : Good c ops o (den S) R e.val.norm (normWr e.wr) := by
  obtain ⟨_, _, _, hwr⟩ := binInt_run (P := c.P) t x y he hp default
  rw [hwr]
  refine good_val hN hw fun ρ a' w hxx => ?_
  have h1 := hxx x (by simp [hop, Op.operands])
  have h2 := hxx y (by simp [hop, Op.operands])
  rw [hx] at h1; rw [hy] at h2
  obtain ⟨v, hr, hv, _⟩ := binInt_run (P := c.P) t x y he hp w
  refine ⟨v, ?_, hv ρ⟩
  have h1' := rel_i h1
  have h2' := rel_i h2
  simp only [execOp, hop, h1', h2']
  have : ((do eqGuard op t x y (vI a) (vI b); binOp op t (vI a) (vI b) : Sem Value) >>= fun v => pure (Next.value v)).run c.P w = .ok (.value v) w := by
    rw [Sem.run_bind, hr]; simp
  exact this
end
end Go.Proofs.Ytacomnelongbjab

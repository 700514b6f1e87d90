/-
  The abstract machine: what each operation gives on abstract states ('eff'), and the verification condition of a stack of code ('vc'). Conditions: none; definitions only.
-/
import Derived.Test.YtclpoenfcpefmaaCore
namespace Go.Proofs.Ytclpoenfcpefmaa
open Go Go.RowKit

inductive TK where
  | int
  | bool
  | struct (fs : List (Nat × Nat))
  | array (n e : Nat)
  | slice (e : Nat)
  | mapT (k e : Nat)
  | two (f g : Nat)
structure TI where
  k : TK
  sz : Nat
  bytes : Nat
abbrev Tab := List (Nat × TI)

structure St where
  fr : List (Nat × AV)
  mem : List (Nat × Entry)

def St.put (S : St) (d : Option Nat) (v : AV) : St :=
  match d with
  | none => S
  | some d => ⟨(d, v) :: rem d S.fr, S.mem⟩
def St.setMem (S : St) (h : Nat) : Option Entry → St
  | some e => ⟨S.fr, (h, e) :: rem h S.mem⟩
  | none => ⟨S.fr, rem h S.mem⟩
def setMems (S : St) : Wr → St
  | [] => S
  | p :: l => (setMems S l).setMem p.1 p.2

def cst : Value → AV
  | .int .i64 n => .one (.i n)
  | .bool true => .one .tt
  | .bool false => .one .ff
  | .slice none 0 0 => .one .nil
  | _ => .one .bot
def St.eval (S : St) : Operand → AV
  | .tmp t => (look t S.fr).getD (.one .bot)
  | .const v => cst v
  | .global _ => .one .bot
  | .func f => .one (.fn f)

/-- a handle that leads to another one gives way to it -/
def Entry.toO : Entry → Option (Bool × Nat)
  | .to d => some (true, d)
  | .t1 d => some (false, d)
  | .ibox _ _ => none
  | .box _ _ => none
  | .row _ => none
  | .ro _ => none
def toOf : List (Nat × Entry) → Option Nat
  | [] => none
  | p :: l => match p.2.toO with
    | some _ => some p.1
    | none => toOf l
def A0.mv (h d : Nat) : A0 → A0
  | .co x => bif x == h then .co d else .co x
  | a => a
def A0.mv1 (h d : Nat) : A0 → A0
  | .ci x 0 => bif x == h then .ci d 0 else .ci x 0
  | .ie x 0 z q f => bif x == h then .ie d 0 z q f else .ie x 0 z q f
  | a => a
def AV.mv1 (h d : Nat) : AV → AV
  | .one a => .one (a.mv1 h d)
  | .tup l => .tup (l.map (A0.mv1 h d))
def AV.mv (h d : Nat) : AV → AV
  | .one a => .one (a.mv h d)
  | .tup l => .tup (l.map (A0.mv h d))
def mvTo (S : St) (h : Nat) : Option (Bool × Nat) → St
  | some (true, d) => ⟨S.fr.map fun p => (p.1, p.2.mv h d), rem h S.mem⟩
  | some (false, d) => ⟨S.fr.map fun p => (p.1, p.2.mv1 h d), rem h S.mem⟩
  | none => S
def St.res (S : St) : St :=
  match toOf S.mem with
  | some h => mvTo S h ((look h S.mem).bind Entry.toO)
  | none => S
structure Eff where
  pre : Prop
  val : AV
  wr : Wr
def val1 (a : AV) : Option Eff := some ⟨True, a, []⟩
def St.after (S : St) (d : Option Nat) (e : Eff) : St := (setMems S e.wr).put d e.val

def setAt {α : Type} : List α → Nat → List α → List α
  | l, _, [] => l
  | l, i, x :: xs => setAt (l.set i x) (i + 1) xs

/-! #### memory: boxes -/
def effBox (t : Nat) (d : Option Nat) (a : AV) : Option Eff :=
  match d, a with
  | some d, .one (.s l) => some ⟨True, .one (.ref d 0), [(d, some (.ibox t l))]⟩
  | some d, .one (.i n) => some ⟨True, .one (.ref d 0), [(d, some (.ibox t [n]))]⟩
  | some d, .one (.b x) => some ⟨True, .one (.ref d 0), [(d, some (.box t [.b x]))]⟩
  | some d, .one .tt => some ⟨True, .one (.ref d 0), [(d, some (.box t [.tt]))]⟩
  | some d, .one .ff => some ⟨True, .one (.ref d 0), [(d, some (.box t [.ff]))]⟩
  | _, _ => none
/-- a struct of a row and a map, put in a box: from then on one handle -/
def boxPair (S : St) (d h1 h2 : Nat) : Option Eff :=
  match look h1 S.mem with
  | some (.row (.recs e k fs)) => match look h2 S.mem with
    | some (.row (.mp n m)) => bif d == h1 || (d == h2 || h1 == h2) then none else some ⟨True, .one (.co d), [(h1, none), (h2, none), (d, some (.row (.grp e k fs n m)))]⟩
    | _ => none
  | _ => none
def effBox2 (S : St) (t : Nat) (d : Option Nat) (a : AV) : Option Eff :=
  match a with
  | .one (.ag h1 h2) => match d with
    | some d => boxPair S d h1 h2
    | none => none
  | a => effBox t d a
def effAlloc (t : Nat) (d : Option Nat) (ti : Option TI) : Option Eff :=
  match d, ti with
  | some d, some ⟨.int, _, _⟩ => some ⟨True, .one (.ref d 0), [(d, some (.ibox t [0]))]⟩
  | some d, some ⟨.bool, _, _⟩ => some ⟨True, .one (.ref d 0), [(d, some (.box t [.ff]))]⟩
  | some d, some ⟨.struct _, n, _⟩ => some ⟨True, .one (.ref d 0), [(d, some (.ibox t (List.replicate n 0)))]⟩
  | some d, some ⟨.array _ _, n, _⟩ => some ⟨True, .one (.ref d 0), [(d, some (.ibox t (List.replicate n 0)))]⟩
  | _, _ => none
def entryRow : Option Entry → Option RC
  | some (.row r) => bif r.flat then some r else none
  | some (.ro r) => bif r.flat then some r else none
  | _ => none
/-- what a handle of several values stands for -/
def compOf : Option Entry → Option RC
  | some (.row r) => bif r.flat then none else some r
  | some (.ro r) => bif r.flat then none else some r
  | _ => none
/-- a row within it -/
def innerOf : Option RC → Nat → Option RC
  | some (.grp e k fs _ _), 0 => some (.recs e k fs)
  | some (.rows _ f ll), p => some (.ints f (ll.getD p []))
  | some (.vwp e k _ B), 0 => some (.recs e k B)
  | some (.vwp e k R _), 1 => some (.recs e k R)
  | _, _ => none
def innerPre : Option RC → Nat → Prop
  | some (.rows _ _ ll), p => p < ll.length
  | _, _ => True
def fieldTwo (S : St) (x : AV) (f : Nat) : Option Eff :=
  match x with
  | .one (.co h) => match compOf (look h S.mem) with
    | some (.grp _ _ _ _ _) => bif Nat.blt f 2 then val1 (.one (.oe h f)) else none
    | _ => none
  | _ => none
def fieldOff (ti : Option TI) (f : Nat) : Option Nat :=
  match ti with
  | some ⟨.struct fs, _, _⟩ => (fs[f]?).map (·.1)
  | _ => none
def effField (ti : Option TI) (S : St) (x : AV) (f : Nat) : Option Eff :=
  match fieldOff ti f with
  | some p => match x with
    | .one (.ref h off) => match look h S.mem with
      | some (.ibox _ _) => val1 (.one (.ref h (off + p)))
      | some (.box _ _) => val1 (.one (.ref h (off + p)))
      | _ => none
    | .one (.el h sz q g) => match look h S.mem with
      | some (.ibox _ _) => val1 (.one (.el h sz q (g + p)))
      | some (.row r) => bif r.flat then some ⟨q < r.len, .one (.el h sz q (g + p)), []⟩ else none
      | some (.ro r) => bif r.flat then some ⟨q < r.len, .one (.el h sz q (g + p)), []⟩ else none
      | _ => none
    | _ => none
  | none => match ti with
    | some ⟨.two _ _, _, _⟩ => fieldTwo S x f
    | _ => none
def loadI (ti : Option TI) (off : Nat) (l : List Int) : Option Eff :=
  match ti with
  | some ⟨.int, _, _⟩ => match l[off]? with
    | some x => val1 (.one (.i x))
    | none => none
  | some ⟨.struct _, n, _⟩ => bif Nat.ble (off + n) l.length then val1 (.one (.s ((l.drop off).take n))) else none
  | some ⟨.array _ _, n, _⟩ => bif Nat.ble (off + n) l.length then val1 (.one (.s ((l.drop off).take n))) else none
  | _ => none
def load1 (ti : Option TI) : Option A0 → Option Eff
  | some a => match ti with
    | some ⟨.int, _, _⟩ => val1 (.one a)
    | some ⟨.bool, _, _⟩ => val1 (.one a)
    | _ => none
  | none => none
/-- element q of a row, cell f of it -/
def loadR (ti : Option TI) (sz q f : Nat) : RC → Option Eff
  | .ints _ l => match ti with
    | some ⟨.int, _, _⟩ => bif sz == 1 && f == 0 then some ⟨q < l.length, .one (.i (l.getD q 0)), []⟩ else none
    | _ => none
  | .bools _ l => match ti with
    | some ⟨.bool, _, _⟩ => bif sz == 1 && f == 0 then some ⟨q < l.length, .one (.b (l.getD q false)), []⟩ else none
    | _ => none
  | .recs _ k l => match ti with
    | some ⟨.int, _, _⟩ => bif sz == k && Nat.blt f k then some ⟨q < l.length, .one (.i ((l.getD q (List.replicate k 0)).getD f 0)), []⟩ else none
    | some ⟨.struct _, n, _⟩ => bif sz == k && (f == 0 && n == k) then some ⟨q < l.length, .one (.s ((List.range k).map fun j => (l.getD q (List.replicate k 0)).getD j 0)), []⟩ else none
    | _ => none
  | _ => none
/-- a cell of the first value: another value -/
def loadO (ti : Option TI) (h q : Nat) : Option RC → Option Eff
  | some (.grp _ _ _ _ _) => match ti with
    | some ⟨.slice _, _, _⟩ => bif q == 0 then val1 (.one (.ci h 0)) else none
    | some ⟨.mapT _ _, _, _⟩ => bif q == 1 then val1 (.one (.ci h 1)) else none
    | _ => none
  | some (.rows _ _ ll) => match ti with
    | some ⟨.slice _, _, _⟩ => some ⟨q < ll.length, .one (.ci h q), []⟩
    | _ => none
  | _ => none
/-- a cell of a row within -/
def loadN (ti : Option TI) (p sz q f : Nat) (r : Option RC) : Option Eff :=
  match innerOf r p with
  | some r' => match loadR ti sz q f r' with
    | some e => some ⟨innerPre r p ∧ e.pre, e.val, []⟩
    | none => none
  | none => none
def effLoad (ti : Option TI) (S : St) (x : AV) : Option Eff :=
  match x with
  | .one (.ref h off) => match look h S.mem with
    | some (.ibox _ l) => loadI ti off l
    | some (.box _ cs) => load1 ti (cs[off]?)
    | _ => none
  | .one (.el h sz q f) => match look h S.mem with
    | some (.row r) => loadR ti sz q f r
    | some (.ro r) => loadR ti sz q f r
    | some (.ibox _ l) => match ti with
      | some ⟨.int, _, _⟩ => some ⟨q * sz + f < l.length, .one (.i (l.getD (q * sz + f) 0)), []⟩
      | _ => none
    | _ => none
  | .one (.oe h q) => loadO ti h q (compOf (look h S.mem))
  | .one (.ie h p sz q f) => loadN ti p sz q f (compOf (look h S.mem))
  | _ => none
def storeI (t h off : Nat) (l : List Int) : A0 → Option Eff
  | .i n => bif Nat.blt off l.length then some ⟨True, .one .bot, [(h, some (.ibox t (l.set off n)))]⟩ else none
  | .s m => bif Nat.ble (off + m.length) l.length then some ⟨True, .one .bot, [(h, some (.ibox t (setAt l off m)))]⟩ else none
  | _ => none
def storeB (t h off : Nat) (l : List A0) (a : A0) : Option Eff :=
  bif Nat.blt off l.length then (match a with
    | .i n => some ⟨True, .one .bot, [(h, some (.box t (l.set off (.i n))))]⟩
    | .b n => some ⟨True, .one .bot, [(h, some (.box t (l.set off (.b n))))]⟩
    | .tt => some ⟨True, .one .bot, [(h, some (.box t (l.set off .tt)))]⟩
    | .ff => some ⟨True, .one .bot, [(h, some (.box t (l.set off .ff)))]⟩
    | .nil => some ⟨True, .one .bot, [(h, some (.box t (l.set off .nil)))]⟩
    | _ => none) else none
def storeR (h sz q f : Nat) : RC → A0 → Option Eff
  | .ints e l, .i n => bif sz == 1 && f == 0 then some ⟨q < l.length, .one .bot, [(h, some (.row (.ints e (l.set q n))))]⟩ else none
  | .bools e l, .b x => bif sz == 1 && f == 0 then some ⟨q < l.length, .one .bot, [(h, some (.row (.bools e (l.set q x))))]⟩ else none
  | .bools e l, .tt => bif sz == 1 && f == 0 then some ⟨q < l.length, .one .bot, [(h, some (.row (.bools e (l.set q true))))]⟩ else none
  | .bools e l, .ff => bif sz == 1 && f == 0 then some ⟨q < l.length, .one .bot, [(h, some (.row (.bools e (l.set q false))))]⟩ else none
  | .recs e k l, .i n => bif sz == k && Nat.blt f k then some ⟨q < l.length, .one .bot, [(h, some (.row (.recs e k (l.set q ((l.getD q (List.replicate k 0)).set f n)))))]⟩ else none
  | .recs e k l, .s m => bif sz == k && (f == 0 && m.length == k) then some ⟨q < l.length, .one .bot, [(h, some (.row (.recs e k (l.set q m))))]⟩ else none
  | _, _ => none
def szOk (ti : Option TI) (a : A0) : Bool :=
  match ti with
  | some ti => match a with
    | .s m => ti.sz == m.length
    | _ => ti.sz == 1
  | none => false
/-- a cell of a row within a row of rows -/
def storeN (S : St) (h p sz q f : Nat) (n : Int) : Option Eff :=
  match look h S.mem with
  | some (.row (.rows e g ll)) => bif sz == 1 && f == 0 then some ⟨p < ll.length ∧ q < (ll.getD p []).length, .one .bot, [(h, some (.row (.rows e g (ll.set p ((ll.getD p []).set q n)))))]⟩ else none
  | _ => none
/-- a row becomes one of a row of rows, which gets a new handle: the old one leads to it -/
def nxtH (h : Nat) : Nat := h + 40000
def storeRow (S : St) (h q h2 : Nat) : Option Eff :=
  match look h S.mem, look h2 S.mem with
  | some (.row (.rows e f ll)), some (.row (.ints f' l)) => bif f == f' && (!(h == h2) && !(nxtH h == h2)) then some ⟨q < ll.length, .one .bot, [(h2, none), (h, some (.to (nxtH h))), (nxtH h, some (.row (.rows e f (ll.set q l))))]⟩ else none
  | _, _ => none
def storeTo (S : St) (x : AV) (a : A0) : Option Eff :=
  match x with
  | .one (.oe h q) => match a with
    | .row h2 => storeRow S h q h2
    | _ => none
  | .one (.ref h off) => match look h S.mem with
    | some (.ibox t l) => storeI t h off l a
    | some (.box t l) => storeB t h off l a
    | _ => none
  | .one (.el h sz q f) => match look h S.mem with
    | some (.row r) => storeR h sz q f r a
    | some (.ibox t l) => match a with
      | .i n => some ⟨q * sz + f < l.length, .one .bot, [(h, some (.ibox t (l.set (q * sz + f) n)))]⟩
      | _ => none
    | _ => none
  | .one (.ie h p sz q f) => match a with
    | .i n => storeN S h p sz q f n
    | _ => none
  | _ => none
def effStore (ti : Option TI) (S : St) (x y : AV) : Option Eff :=
  match y with
  | .one a => bif szOk ti a then storeTo S x a else none
  | _ => none
def buildOf (fs : List (Nat × Nat)) : List (Nat × AV) → List Int → Option (List Int)
  | [], cs => some cs
  | (i, .one (.i x)) :: r, cs => match fs[i]? with
    | some p => bif p.2 == 1 && Nat.blt p.1 cs.length then buildOf fs r (cs.set p.1 x) else none
    | none => none
  | (i, .one (.s x)) :: r, cs => match fs[i]? with
    | some p => bif p.2 == x.length && Nat.ble (p.1 + x.length) cs.length then buildOf fs r (setAt cs p.1 x) else none
    | none => none
  | _, _ => none
def effBuild (ti : Option TI) (ps : List (Nat × AV)) : Option Eff :=
  match ti with
  | some ⟨.struct fs, n, _⟩ => match buildOf fs ps (List.replicate n 0) with
    | some cs => val1 (.one (.s cs))
    | none => none
  | some ⟨.array n _, _, _⟩ => match buildOf ((List.range n).map fun j => (j, 1)) ps (List.replicate n 0) with
    | some cs => val1 (.one (.s cs))
    | none => none
  | _ => none
def buildTwo (S : St) (ps : List (Nat × AV)) : Option Eff :=
  match ps with
  | [(0, .one (.row h1)), (1, .one (.co h2))] => match look h1 S.mem, look h2 S.mem with
    | some (.row (.recs _ _ _)), some (.row (.mp _ _)) => val1 (.one (.ag h1 h2))
    | _, _ => none
  | _ => none
def effBuild2 (S : St) (ti : Option TI) (ps : List (Nat × AV)) : Option Eff :=
  match ti with
  | some ⟨.two _ _, _, _⟩ => buildTwo S ps
  | ti => effBuild ti ps

/-! #### arithmetic -/
def binInt (op : BinOp) (a b : Int) : Option Eff :=
  match op with
  | .add => val1 (.one (.i (wrap64 (a + b))))
  | .sub => val1 (.one (.i (wrap64 (a - b))))
  | .mul => val1 (.one (.i (wrap64 (a * b))))
  | .quo => some ⟨b ≠ 0, .one (.i (wrap64 (a.tdiv b))), []⟩
  | .rem => some ⟨b ≠ 0, .one (.i (a.tmod b)), []⟩
  | .eql => val1 (.one (.b (a == b)))
  | .neq => val1 (.one (.b (a != b)))
  | .lss => val1 (.one (.b (decide (a < b))))
  | .leq => val1 (.one (.b (decide (a ≤ b))))
  | .gtr => val1 (.one (.b (decide (a > b))))
  | .geq => val1 (.one (.b (decide (a ≥ b))))
  | _ => none
def eqI : List Int → List Int → Bool
  | [], _ => true
  | a :: l, m => bif a == m.headD 0 then eqI l m.tail else false
/-- a struct of n fields of one cell each -/
def flatB (n : Nat) (fs : List (Nat × Nat)) : Bool := fs.length == n && fs == (List.range n).map fun j => (j, 1)
def boolOf : A0 → Option Bool
  | .b x => some x
  | .tt => some true
  | .ff => some false
  | _ => none
def binBool (op : BinOp) (a b : A0) : Option Eff :=
  match boolOf a, boolOf b with
  | some a, some b => match op with
    | .eql => val1 (.one (.b (a == b)))
    | .neq => val1 (.one (.b (a != b)))
    | _ => none
  | _, _ => none
def effBin (ti : Option TI) (op : BinOp) (x y : AV) : Option Eff :=
  match x, y with
  | .one (.i a), .one (.i b) => binInt op a b
  | .one (.s a), .one (.s b) => match ti with
    | some ⟨.struct fs, n, _⟩ => bif a.length == n && (b.length == n && flatB n fs) then (match op with
      | .eql => val1 (.one (.b (eqI a b)))
      | .neq => val1 (.one (.b (!eqI a b)))
      | _ => none) else none
    | _ => none
  | .one a, .one b => match ti with
    | some ⟨.bool, _, _⟩ => binBool op a b
    | _ => none
  | _, _ => none
def effUn (op : UnOp) (x : AV) : Option Eff :=
  match op, x with
  | .neg, .one (.i a) => val1 (.one (.i (wrap64 (0 - a))))
  | .not, .one (.b a) => val1 (.one (.b (!a)))
  | .not, .one .tt => val1 (.one .ff)
  | .not, .one .ff => val1 (.one .tt)
  | _, _ => none
def effPick (c x y : AV) : Option Eff :=
  match c with
  | .one .tt => val1 x
  | .one .ff => val1 y
  | _ => none
def effExtract (t : AV) (i : Nat) : Option Eff :=
  match t with
  | .tup l => match l[i]? with
    | some a => val1 (.one a)
    | none => none
  | _ => none

/-! #### slices -/
def ivs : List AV → Option (List Int)
  | [] => some []
  | .one (.i x) :: l => (ivs l).map (x :: ·)
  | _ => none
def svs (k : Nat) : List AV → Option (List (List Int))
  | [] => some []
  | .one (.s x) :: l => bif x.length == k then (svs k l).map (x :: ·) else none
  | _ => none
def rowOf (e : Nat) (ei : Option TI) (vs : List AV) : Option RC :=
  match ei with
  | some ⟨.int, _, _⟩ => (ivs vs).map (.ints e)
  | some ⟨.struct _, k, _⟩ => bif Nat.blt 0 k then (svs k vs).map (.recs e k) else none
  | some ⟨.bool, _, _⟩ => match vs with
    | [] => some (.bools e [])
    | _ => none
  | _ => none
/-- the parts, in order, all of them -/
def allParts (n : Nat) : List (Nat × AV) → Nat → Option (List AV)
  | [], i => bif i == n then some [] else none
  | p :: r, i => bif p.1 == i then (allParts n r (i + 1)).map (p.2 :: ·) else none
def effBuildSlice (tab : Tab) (t : Nat) (d : Option Nat) (n : Nat) (ps : List (Nat × AV)) : Option Eff :=
  match d, look t tab with
  | some d, some ⟨.slice e, _, _⟩ => match allParts n ps 0 with
    | some vs => match rowOf e (look e tab) vs with
      | some r => bif Nat.ble n 1000 && Nat.ble r.sz 1000 then some ⟨True, .one (.row d), [(d, some (.row r))]⟩ else none
      | none => none
    | none => none
  | _, _ => none
/-- a row of one row, or of none -/
def buildRows (S : St) (d e f n : Nat) (ps : List (Nat × AV)) : Option Eff :=
  match ps with
  | [] => bif n == 0 then some ⟨True, .one (.co d), [(d, some (.row (.rows e f [])))]⟩ else none
  | [(0, .one (.row h))] => match look h S.mem with
    | some (.row (.ints f' l)) => bif n == 1 && (f == f' && !(d == h)) then some ⟨True, .one (.co d), [(h, none), (d, some (.row (.rows e f [l])))]⟩ else none
    | _ => none
  | _ => none
def effBuildSl (tab : Tab) (t : Nat) (S : St) (d : Option Nat) (n : Nat) (ps : List (Nat × AV)) : Option Eff :=
  match look t tab with
  | some ⟨.slice e, _, _⟩ => match look e tab with
    | some ⟨.slice f, _, _⟩ => match d with
      | some d => buildRows S d e f n ps
      | none => none
    | _ => effBuildSlice tab t d n ps
  | _ => none
def zeroRow (e : Nat) (ei : Option TI) (n : Nat) : Option RC :=
  match ei with
  | some ⟨.int, _, _⟩ => some (.ints e (List.replicate n 0))
  | some ⟨.bool, _, _⟩ => some (.bools e (List.replicate n false))
  | some ⟨.struct _, k, _⟩ => bif Nat.blt 0 k then some (.recs e k (List.replicate n (List.replicate k 0))) else none
  | _ => none
def effMakeSlice (tab : Tab) (t : Nat) (d : Option Nat) (x y : AV) : Option Eff :=
  match d, look t tab with
  | some d, some ⟨.slice e, _, _⟩ => match x, y with
    | .one (.i n), .one (.i m) => match zeroRow e (look e tab) n.toNat with
      | some r => some ⟨n = m ∧ 0 ≤ n ∧ n ≤ 1000000000, .one (.row d), [(d, some (.row r))]⟩
      | none => none
    | _, _ => none
  | _, _ => none
/-- a row of rows, all of them empty -/
def makeRows (d : Option Nat) (e f : Nat) (x y : AV) : Option Eff :=
  match d, x, y with
  | some d, .one (.i n), .one (.i m) => some ⟨n = m ∧ 0 ≤ n ∧ n ≤ 1000000000, .one (.co d), [(d, some (.row (.rows e f (List.replicate n.toNat []))))]⟩
  | _, _, _ => none
def effMakeSl (tab : Tab) (t : Nat) (d : Option Nat) (x y : AV) : Option Eff :=
  match look t tab with
  | some ⟨.slice e, _, _⟩ => match look e tab with
    | some ⟨.slice f, _, _⟩ => makeRows d e f x y
    | _ => effMakeSlice tab t d x y
  | _ => none
def elemSz (tab : Tab) (t : Nat) : Option Nat :=
  match look t tab with
  | some ⟨.slice e, _, _⟩ => (look e tab).map (·.sz)
  | _ => none
def idxA (m sz : Nat) (S : St) (x : AV) (n : Int) : Option Eff :=
  match x with
  | .one (.ref h off) => match look h S.mem with
    | some (.ibox _ _) => bif Nat.blt 1 m then some ⟨0 ≤ n ∧ n < m, .one (.el h sz n.toNat off), []⟩ else none
    | _ => none
  | _ => none
def idxS (sz : Nat) (S : St) (x : AV) (n : Int) : Option Eff :=
  match x with
  | .one (.row h) => match entryRow (look h S.mem) with
    | some r => bif sz == r.sz then some ⟨0 ≤ n ∧ n < r.len, .one (.el h sz n.toNat 0), []⟩ else none
    | none => none
  | .one (.sub h sz' l r) => match entryRow (look h S.mem) with
    | some rc => bif sz == rc.sz && sz' == sz then some ⟨0 ≤ n ∧ l + n < r ∧ r ≤ rc.len, .one (.el h sz (l + n.toNat) 0), []⟩ else none
    | none => none
  | .one (.ci h p) => match innerOf (compOf (look h S.mem)) p with
    | some r => bif sz == r.sz then some ⟨innerPre (compOf (look h S.mem)) p ∧ 0 ≤ n ∧ n < r.len, .one (.ie h p sz n.toNat 0), []⟩ else none
    | none => none
  | .one (.co h) => match compOf (look h S.mem) with
    | some (.rows _ _ ll) => bif sz == 1 then some ⟨0 ≤ n ∧ n < ll.length, .one (.oe h n.toNat), []⟩ else none
    | _ => none
  | _ => none
def effIndex (tab : Tab) (S : St) (t : Nat) (x i : AV) : Option Eff :=
  match i with
  | .one (.i n) => match look t tab with
    | some ⟨.slice e, _, _⟩ => match look e tab with
      | some ei => idxS ei.sz S x n
      | none => none
    | some ⟨.array m e, _, _⟩ => match look e tab with
      | some ei => idxA m ei.sz S x n
      | none => none
    | _ => none
  | _ => none
def lenOf (S : St) (x : AV) : Option Eff :=
  match x with
  | .one (.row h) => match entryRow (look h S.mem) with
    | some r => val1 (.one (.i r.len))
    | none => none
  | .one (.sub h _ l r) => match entryRow (look h S.mem) with
    | some _ => some ⟨l ≤ r, .one (.i ((r - l : Nat) : Int)), []⟩
    | none => none
  | .one (.ci h p) => match innerOf (compOf (look h S.mem)) p with
    | some r => some ⟨innerPre (compOf (look h S.mem)) p, .one (.i r.len), []⟩
    | none => none
  | .one (.co h) => match compOf (look h S.mem) with
    | some (.rows _ _ ll) => val1 (.one (.i ll.length))
    | _ => none
  | .one .nil => val1 (.one (.i 0))
  | .one (.hd h n) => match entryRow (look h S.mem) with
    | some _ => val1 (.one (.i n))
    | none => none
  | _ => none
/-- what a slice value reads as -/
def readOf (S : St) : AV → Option RC
  | .one (.cut h e n) => match look h S.mem with
    | some (.ibox _ l) => bif l.length == n && Nat.ble n 1000 then some (.ints e l) else none
    | _ => none
  | .one (.row h) => entryRow (look h S.mem)
  | .one (.sub h sz l r) => match entryRow (look h S.mem) with
    | some rc => bif sz == rc.sz then some (rc.slice l r) else none
    | none => none
  | _ => none
/-- a cut lies within its row -/
def subPre (S : St) : AV → Prop
  | .one (.sub h _ l r) => match entryRow (look h S.mem) with
    | some rc => l ≤ r ∧ r ≤ rc.len
    | none => False
  | .one (.ci h p) => innerPre (compOf (look h S.mem)) p
  | _ => True
def maxRow : Nat := 100000000000
def plainTI (ti : TI) : Bool :=
  match ti.k with
  | .slice _ => false
  | .mapT _ _ => false
  | .two _ _ => false
  | _ => true
/-- a row is appended to while a part of it is read: both get a new handle, and the part's old one leads there -/
def appView (S : St) (d e sz h : Nat) (x : AV) (r' : RC) : Option Eff :=
  match look h S.mem, r' with
  | some (.row (.vwp e0 k R B)), .recs _ k' m => bif e0 == e && (k == sz && (k' == k && !(x.hs.contains h || (d == h || x.hs.contains d)))) then some ⟨R.length + m.length ≤ maxRow ∧ subPre S x, .one (.ci d 1), [(h, some (.t1 d)), (d, some (.row (.vwp e0 k (R ++ m) B)))]⟩ else none
  | _, _ => none
def appTo (S : St) (d : Nat) (e : Nat) (sz : Nat) (s x : AV) (r' : RC) : Option Eff :=
  match s with
  | .one (.row h) => match look h S.mem with
    | some (.row r) => match r.app r' with
      | some r'' => bif x.hs.contains h || (d == h || x.hs.contains d) then none else bif r.elem == e && r.sz == sz then some ⟨r''.len ≤ maxRow ∧ subPre S x, .one (.row d), [(h, none), (d, some (.row r''))]⟩ else none
      | none => none
    | _ => none
  | .one .nil => bif r'.elem == e && !x.hs.contains d then some ⟨r'.len ≤ maxRow ∧ subPre S x, .one (.row d), [(d, some (.row r'))]⟩ else none
  | .one (.ci h 1) => appView S d e sz h x r'
  | _ => none
/-- rows of rows put behind each other: both are consumed -/
def appRows (S : St) (d : Nat) (e : Nat) (s x : AV) : Option Eff :=
  match s, x with
  | .one (.co h), .one (.co h2) => match look h S.mem, look h2 S.mem with
    | some (.row (.rows e1 f1 l1)), some (.row (.rows e2 f2 l2)) => bif d == h || (d == h2 || h == h2) then none else bif e1 == e && (e2 == e && f1 == f2) then some ⟨(l1 ++ l2).length ≤ maxRow, .one (.co d), [(h, none), (h2, none), (d, some (.row (.rows e f1 (l1 ++ l2))))]⟩ else none
    | _, _ => none
  | _, _ => none
def effApp2 (tab : Tab) (t : Nat) (S : St) (d : Option Nat) (s x : AV) : Option Eff :=
  match d with
  | some d => match look t tab with
    | some ⟨.slice e, _, _⟩ => match look e tab with
      | some ⟨.slice _, _, _⟩ => appRows S d e s x
      | _ => none
    | _ => none
  | none => none
def effAppend (tab : Tab) (t : Nat) (S : St) (d : Option Nat) (s x : AV) : Option Eff :=
  match d with
  | some d => match readOf S x with
    | some r' => match look t tab with
      | some ⟨.slice e, _, _⟩ => match look e tab with
        | some ei => bif ei.sz == r'.sz && (plainTI ei && Nat.blt 0 ei.sz) then appTo S d e ei.sz s x r' else none
        | none => none
      | _ => none
    | none => effApp2 tab t S (some d) s x
  | none => none
def slcOf (S : St) (sz : Nat) (x : AV) (lo hi : Option AV) : Option Eff :=
  match x with
  | .one (.row h) => match entryRow (look h S.mem) with
    | some r => bif sz == r.sz then (match lo, hi with
      | none, none => some ⟨True, .one (.sub h sz 0 r.len), []⟩
      | some (.one (.i a)), none => some ⟨0 ≤ a ∧ a ≤ r.len, .one (.sub h sz a.toNat r.len), []⟩
      | none, some (.one (.i b)) => some ⟨0 ≤ b ∧ b ≤ r.len, .one (.sub h sz 0 b.toNat), []⟩
      | some (.one (.i a)), some (.one (.i b)) => some ⟨0 ≤ a ∧ a ≤ b ∧ b ≤ r.len, .one (.sub h sz a.toNat b.toNat), []⟩
      | _, _ => none) else none
    | none => none
  | _ => none
/-- an array variable as a slice -/
def cutSlc (S : St) (m e : Nat) (x : AV) (lo hi : Option AV) : Option Eff :=
  match x, lo, hi with
  | .one (.ref h 0), none, none => match look h S.mem with
    | some (.ibox _ l) => bif l.length == m then val1 (.one (.cut h e m)) else none
    | _ => none
  | _, _, _ => none
def arrElem (tab : Tab) (t : Nat) : Option (Nat × Nat) :=
  match look t tab with
  | some ⟨.array m e, _, _⟩ => some (m, e)
  | _ => none
/-- the whole of a row, and no room behind it -/
def hdSlc (S : St) (sz : Nat) (x : AV) (lo hi : Option AV) (m : AV) : Option Eff :=
  match x, lo, hi, m with
  | .one (.row h), none, some (.one (.i a)), .one (.i b) => match entryRow (look h S.mem) with
    | some r => bif sz == r.sz then some ⟨a = r.len ∧ b = r.len, .one (.hd h r.len), []⟩ else none
    | none => none
  | _, _, _, _ => none
def effSlice (tab : Tab) (t : Nat) (S : St) (x : AV) (lo hi mx : Option AV) : Option Eff :=
  match mx with
  | none => match elemSz tab t with
    | some sz => slcOf S sz x lo hi
    | none => match arrElem tab t with
      | some p => cutSlc S p.1 p.2 x lo hi
      | none => none
  | some m => match elemSz tab t with
    | some sz => hdSlc S sz x lo hi m
    | none => none

/-- one part of a row over another part of it -/
def effCopy (S : St) (z : Option Nat) (x y : AV) : Option Eff :=
  match x, y with
  | .one (.sub h sz l1 r1), .one (.sub h2 sz2 l2 r2) => match look h S.mem with
    | some (.row (.recs e k R)) => bif h == h2 && (sz == k && (sz2 == k && z == some k)) then some ⟨(l1 ≤ r1 ∧ r1 ≤ R.length) ∧ l2 ≤ r2 ∧ r2 ≤ R.length, .one (.i ((min (r2 - l2) (r1 - l1) : Nat) : Int)), [(h, some (.row (.recs e k (R.take l1 ++ ((R.drop l2).take (min (r2 - l2) (r1 - l1)) ++ R.drop (l1 + min (r2 - l2) (r1 - l1)))))))]⟩ else none
    | _ => none
  | _, _ => none

/-! #### calls -/
/-- what a contract says of a call: its premise, its result ('rw': a new row), and of arguments that are handed over by position what they hold behind it ('none': consumed) -/
structure CEff where
  pre : Prop
  res : AV
  outs : List (Nat × Option RC)
abbrev Spec := Nat → List A0 → Option CEff
def argOf (S : St) : AV → A0
  | .one (.row h) => match entryRow (look h S.mem) with
    | some r => .rw r
    | none => .bot
  | .one (.sub h sz l r) => match readOf S (.one (.sub h sz l r)) with
    | some rc => .rw rc
    | none => .bot
  | .one (.co h) => match compOf (look h S.mem) with
    | some r => .rw r
    | none => .bot
  | .one (.ci h p) => match innerOf (compOf (look h S.mem)) p with
    | some r => .rw r
    | none => .bot
  | .one .tt => .b true
  | .one .ff => .b false
  | .one a => a
  | .tup _ => .bot
/-- a result's rows get handles: the slot's own number, and further ones behind it -/
def resA (d : Nat) : A0 → A0 × Wr
  | .rw r => (bif r.flat then .row d else .co d, [(d, some (.row r))])
  | a => (a, [])
def resL (d : Nat) : Nat → List A0 → List A0 × Wr
  | _, [] => ([], [])
  | j, a :: l => ((resA (d + 1000 * j) a).1 :: (resL d (j + 1) l).1, (resA (d + 1000 * j) a).2 ++ (resL d (j + 1) l).2)
def resV (d : Nat) : AV → AV × Wr
  | .one a => (.one (resA d a).1, (resA d a).2)
  | .tup l => (.tup (resL d 0 l).1, (resL d 0 l).2)
/-- the handles of arguments that are handed over -/
def outWr (S : St) (args : List AV) : List (Nat × Option RC) → Option Wr
  | [] => some []
  | p :: l => match args[p.1]? with
    | some (.one (.row h)) => match look h S.mem with
      | some (.row r) => bif r.flat then (outWr S args l).map ((h, p.2.map .row) :: ·) else none
      | _ => none
    | some (.one (.co h)) => match look h S.mem with
      | some (.row r) => bif r.flat then none else (outWr S args l).map ((h, p.2.map .row) :: ·)
      | _ => none
    | _ => none
def nodupB : List Nat → Bool
  | [] => true
  | x :: l => !l.contains x && nodupB l
/-- the arguments that are not handed over name none of the handles -/
def restOk (hs : List Nat) (outs : List (Nat × Option RC)) : Nat → List AV → Bool
  | _, [] => true
  | j, x :: l => (outs.any (fun p => p.1 == j) || disj x.hs hs) && restOk hs outs (j + 1) l
def argsPre (S : St) : List AV → Prop
  | [] => True
  | x :: l => subPre S x ∧ argsPre S l
def argOk : A0 → Bool
  | .bot => false
  | .ref _ _ => false
  | .el _ _ _ _ => false
  | .row _ => false
  | .sub _ _ _ _ => false
  | .cut _ _ _ => false
  | .hd _ _ => false
  | .co _ => false
  | .ci _ _ => false
  | .oe _ _ => false
  | .ie _ _ _ _ _ => false
  | .ag _ _ => false
  | .un => false
  | _ => true
def callWr (S : St) (args : List AV) (d : Nat) (ce : CEff) : Option Eff :=
  match ce.outs with
  | [] => bif disj (wrHs (resV d ce.res).2) (args.flatMap AV.hs) then some ⟨ce.pre ∧ argsPre S args, (resV d ce.res).1, (resV d ce.res).2⟩ else none
  | outs => match outWr S args outs with
    | some wr => bif disj (wrHs (resV d ce.res).2) (args.flatMap AV.hs) && (nodupB (wrHs wr) && restOk (wrHs wr) outs 0 args) then some ⟨ce.pre ∧ argsPre S args, (resV d ce.res).1, wr ++ (resV d ce.res).2⟩ else none
    | none => none
/-- a row within a row of rows, handed over as the first argument; the others are plain, so is the result -/
def plainA : A0 → Bool
  | .i _ => true
  | .b _ => true
  | _ => false
def callIn (S : St) (h p : Nat) (args : List AV) (ce : CEff) : Option Eff :=
  match ce.outs, ce.res, look h S.mem with
  | [(0, some (.ints f' l'))], .one a, some (.row (.rows e f ll)) => bif plainA a && (f == f' && (args.map (argOf S)).all plainA) then some ⟨ce.pre ∧ p < ll.length, .one a, [(h, some (.row (.rows e f (ll.set p l'))))]⟩ else none
  | _, _, _ => none
def outsEmpty : List (Nat × Option RC) → Bool
  | [] => true
  | _ => false
def callGo (S : St) (args : List AV) (d : Nat) (ce : CEff) : Option Eff :=
  match args with
  | .one (.ci h p) :: rest => bif outsEmpty ce.outs then callWr S args d ce else callIn S h p rest ce
  | _ => callWr S args d ce
def effCall (spec : Spec) (S : St) (d : Option Nat) (f : Nat) (args : List AV) : Option Eff :=
  match d with
  | some d => bif (args.map (argOf S)).all argOk then (match spec f (args.map (argOf S)) with
    | some ce => callGo S args d ce
    | none => none) else none
  | none => none
def effMax (x y : AV) : Option Eff :=
  match x, y with
  | .one (.i a), .one (.i b) => val1 (.one (.i (max a b)))
  | _, _ => none

def effMin (x y : AV) : Option Eff :=
  match x, y with
  | .one (.i a), .one (.i b) => val1 (.one (.i (min a b)))
  | _, _ => none

/-- an element of an array that is no variable -/
def effIndexV (tab : Tab) (t : Nat) (x i : AV) : Option Eff :=
  match look t tab with
  | some ⟨.array m e, _, _⟩ => match look e tab with
    | some ⟨.int, _, _⟩ => match x, i with
      | .one (.s l), .one (.i n) => bif l.length == m then some ⟨0 ≤ n ∧ n < m, .one (.i (l.getD n.toNat 0)), []⟩ else none
      | _, _ => none
    | _ => none
  | _ => none

/-! #### maps -/
def getL {α : Type} (z : α) (k : List Int) : List (List Int × α) → α
  | [] => z
  | p :: l => bif p.1 == k then p.2 else getL z k l
def hasL {α : Type} (k : List Int) : List (List Int × α) → Bool
  | [] => false
  | p :: l => bif p.1 == k then true else hasL k l
def putL {α : Type} (k : List Int) (v : α) : List (List Int × α) → List (List Int × α)
  | [] => [(k, v)]
  | p :: l => bif p.1 == k then (k, v) :: l else p :: putL k v l
def MC.get (k : List Int) : MC → A0
  | .ints l => .i (getL 0 k l)
  | .bools l => .b (getL false k l)
def MC.has (k : List Int) : MC → Bool
  | .ints l => hasL k l
  | .bools l => hasL k l
def MC.put (k : List Int) : MC → A0 → Option MC
  | .ints l, .i v => some (.ints (putL k v l))
  | .bools l, .b v => some (.bools (putL k v l))
  | .bools l, .tt => some (.bools (putL k true l))
  | .bools l, .ff => some (.bools (putL k false l))
  | _, _ => none
/-- the kind of a map's values -/
def mcTI (ti : Option TI) : MC → Bool
  | .ints _ => match ti with
    | some ⟨.int, _, _⟩ => true
    | _ => false
  | .bools _ => match ti with
    | some ⟨.bool, _, _⟩ => true
    | _ => false
def keyTI (ti : Option TI) (n : Nat) : Bool :=
  match ti with
  | some ⟨.struct fs, m, _⟩ => m == n && flatB n fs
  | _ => false
def emptyMC (ti : Option TI) : Option MC :=
  match ti with
  | some ⟨.int, _, _⟩ => some (.ints [])
  | some ⟨.bool, _, _⟩ => some (.bools [])
  | _ => none
def effMakeMap (tab : Tab) (t : Nat) (d : Option Nat) : Option Eff :=
  match d, look t tab with
  | some d, some ⟨.mapT k e, _, _⟩ => match look k tab with
    | some ⟨.struct _, n, _⟩ => match emptyMC (look e tab) with
      | some m => some ⟨True, .one (.co d), [(d, some (.row (.mp n m)))]⟩
      | none => none
    | _ => none
  | _, _ => none
def mapIn : AV → Option RC → Option (Nat × MC)
  | .one (.co _), some (.mp n m) => some (n, m)
  | .one (.ci _ 1), some (.grp _ _ _ n m) => some (n, m)
  | _, _ => none
def hOf1 : AV → Nat
  | .one (.co h) => h
  | .one (.ci h _) => h
  | _ => 0
def lookV (k : List Int) (m : MC) (ok : Bool) : AV := bif ok then .tup [m.get k, .b (m.has k)] else .one (m.get k)
def effLookup (tab : Tab) (t : Nat) (S : St) (x i : AV) (ok : Bool) : Option Eff :=
  match mapIn x (compOf (look (hOf1 x) S.mem)), i with
  | some (n, m), .one (.s k) => match look t tab with
    | some ⟨.mapT kt et, _, _⟩ => bif k.length == n && (keyTI (look kt tab) n && mcTI (look et tab) m) then val1 (lookV k m ok) else none
    | _ => none
  | _, _ => none
def mapBack (e : Option Entry) (m : MC) : Option Entry :=
  match e with
  | some (.row (.mp n _)) => some (.row (.mp n m))
  | some (.row (.grp e k fs n _)) => some (.row (.grp e k fs n m))
  | _ => none
def effUpdate (tab : Tab) (t : Nat) (S : St) (x i v : AV) : Option Eff :=
  match mapIn x (compOf (look (hOf1 x) S.mem)), i, v with
  | some (n, m), .one (.s k), .one a => match look t tab with
    | some ⟨.mapT kt et, _, _⟩ => bif k.length == n && (keyTI (look kt tab) n && mcTI (look et tab) m) then (match m.put k a with
      | some m' => match mapBack (look (hOf1 x) S.mem) m' with
        | some e => some ⟨True, .one .bot, [(hOf1 x, some e)]⟩
        | none => none
      | none => none) else none
    | _ => none
  | _, _, _ => none
def effNil (S : St) (x : AV) : Option Eff :=
  match x with
  | .one (.co h) => match compOf (look h S.mem) with
    | some (.grp _ _ _ _ _) => val1 (.one (.co h))
    | _ => none
  | _ => none

def eff (tab : Tab) (spec : Spec) (d : Option Nat) (op : Op) (S : St) : Option Eff :=
  match op with
  | .move x => val1 (S.eval x)
  | .assign x => val1 (S.eval x)
  | .box t x => effBox2 S t d (S.eval x)
  | .nilCheck x => effNil S (S.eval x)
  | .makeMap t none => effMakeMap tab t d
  | .lookup t x i ok => effLookup tab t S (S.eval x) (S.eval i) ok
  | .mapUpdate t m i v => effUpdate tab t S (S.eval m) (S.eval i) (S.eval v)
  | .insert t m i v => effUpdate tab t S (S.eval m) (S.eval i) (S.eval v)
  | .alloc t => effAlloc t d (look t tab)
  | .fieldAddr t x f => effField (look t tab) S (S.eval x) f
  | .load t x => effLoad (look t tab) S (S.eval x)
  | .store t x y => effStore (look t tab) S (S.eval x) (S.eval y)
  | .build t ps => effBuild2 S (look t tab) (ps.toList.map fun p => (p.1, S.eval p.2))
  | .buildSlice t n ps => effBuildSl tab t S d n (ps.toList.map fun p => (p.1, S.eval p.2))
  | .makeSlice t x y => effMakeSl tab t d (S.eval x) (S.eval y)
  | .binOp op t x y _ => effBin (look t tab) op (S.eval x) (S.eval y)
  | .unOp op _ x => effUn op (S.eval x)
  | .pick c x y => effPick (S.eval c) (S.eval x) (S.eval y)
  | .extract t i => effExtract (S.eval t) i
  | .indexAddr t x i => effIndex tab S t (S.eval x) (S.eval i)
  | .slice t x lo hi mx => effSlice tab t S (S.eval x) (lo.map S.eval) (hi.map S.eval) (mx.map S.eval)
  | .index t x i => effIndexV tab t (S.eval x) (S.eval i)
  | .call ⟨.value x, args, _⟩ => match S.eval x with
    | .one (.fn f) => effCall spec S d f (args.toList.map S.eval)
    | _ => none
  | .call ⟨.builtin .len, args, ts⟩ => match args.toList, ts.toList with
    | [x], [t] => bif (elemSz tab t).isSome then lenOf S (S.eval x) else none
    | _, _ => none
  | .call ⟨.builtin .append, args, ts⟩ => match args.toList, ts.toList with
    | [s, x], [t, t'] => bif t == t' then effAppend tab t S d (S.eval s) (S.eval x) else none
    | _, _ => none
  | .call ⟨.builtin .copy, args, ts⟩ => match args.toList, ts.toList with
    | [x, y], [t, _] => effCopy S (elemSz tab t) (S.eval x) (S.eval y)
    | _, _ => none
  | .call ⟨.builtin .max, args, _⟩ => match args.toList with
    | [x, y] => effMax (S.eval x) (S.eval y)
    | _ => none
  | .call ⟨.builtin .min, args, _⟩ => match args.toList with
    | [x, y] => effMin (S.eval x) (S.eval y)
    | _ => none
  | _ => none

/-- the handles whose entries an operation looks at -/
def rdOf (S : St) : Op → List Nat
  | .load _ x => (S.eval x).hs
  | .fieldAddr _ x _ => (S.eval x).hs
  | .store _ x y => (S.eval x).hs ++ (S.eval y).hs
  | .box _ x => (S.eval x).hs
  | .build _ ps => ps.toList.flatMap fun p => (S.eval p.2).hs
  | .buildSlice _ _ ps => ps.toList.flatMap fun p => (S.eval p.2).hs
  | .nilCheck x => (S.eval x).hs
  | .lookup _ x _ _ => (S.eval x).hs
  | .mapUpdate _ x _ _ => (S.eval x).hs
  | .insert _ x _ _ => (S.eval x).hs
  | .indexAddr _ x _ => (S.eval x).hs
  | .slice _ x _ _ _ => (S.eval x).hs
  | .call c => c.args.toList.flatMap fun x => (S.eval x).hs
  | _ => []

/-- all handles that a state names -/
def allHs (S : St) : List Nat := S.mem.map (·.1) ++ (S.fr.flatMap (fun p => p.2.hs) ++ S.mem.flatMap (fun p => p.2.hs))

/-! ### a row of which a part is read while it is appended to: made at a loop, undone behind it -/
def A0.vwT (h d : Nat) : A0 → A0
  | .row x => bif x == h then .ci d 1 else .row x
  | a => bif a.hs.contains h then .bot else a
def AV.vwT (h d : Nat) : AV → AV
  | .one a => .one (a.vwT h d)
  | .tup l => .tup (l.map (A0.vwT h d))
def viewV : AV → Option (Nat × Nat × Nat × Nat)
  | .one (.sub h sz l r) => some (h, sz, l, r)
  | .one (.hd h n) => some (h, 0, 0, n)
  | _ => none
def viewTo (S : St) (s d h l r : Nat) : Option Entry → St
  | some (.row (.recs e k R)) => ⟨(s, .one (.ci d 0)) :: (rem s S.fr).map fun p => (p.1, p.2.vwT h d), (d, .row (.vwp e k R ((R.take r).drop l))) :: rem h S.mem⟩
  | _ => S
def viewS (S : St) (p : Nat × Nat) : St :=
  match viewV (S.eval (.tmp p.1)) with
  | some q => viewTo S p.1 p.2 q.1 q.2.2.1 q.2.2.2 (look q.1 S.mem)
  | none => S
def noneNames (h : Nat) : List (Nat × Entry) → Bool
  | [] => true
  | p :: l => !p.2.hs.contains h && noneNames h l
def viewEn (pins : List Nat) (S : St) (d : Nat) (q : Nat × Nat × Nat × Nat) : Option Entry → Prop
  | some (.row (.recs _ k R)) => (q.2.2.1 ≤ q.2.2.2 ∧ q.2.2.2 ≤ R.length) ∧ ((q.2.2.1 == 0 || q.2.1 == k) && (!(pins ++ allHs S).contains d && noneNames q.1 S.mem)) = true
  | _ => False
def viewOk (pins : List Nat) (S : St) (p : Nat × Nat) : Prop :=
  match viewV (S.eval (.tmp p.1)) with
  | some q => viewEn pins S p.2 q (look q.1 S.mem)
  | none => False
def viewsS (S : St) : Option (Nat × Nat) → St
  | none => S
  | some p => viewS S p
def viewsOk (pins : List Nat) (S : St) : Option (Nat × Nat) → Prop
  | none => True
  | some p => viewOk pins S p
def RC.vwO : RC → Option RC
  | .vwp e k R _ => some (.recs e k R)
  | .ints _ _ => none
  | .recs _ _ _ => none
  | .bools _ _ => none
  | .mp _ _ => none
  | .grp _ _ _ _ _ => none
  | .rows _ _ _ => none
def Entry.vwO : Entry → Option RC
  | .row r => r.vwO
  | .ro _ => none
  | .ibox _ _ => none
  | .box _ _ => none
  | .to _ => none
  | .t1 _ => none
def vwAt : List (Nat × Entry) → Option Nat
  | [] => none
  | p :: l => match p.2.vwO with
    | some _ => some p.1
    | none => vwAt l
def A0.dr (h : Nat) : A0 → A0
  | .ci x 1 => bif x == h then .row h else .ci x 1
  | a => bif a.hs.contains h then .bot else a
def AV.dr (h : Nat) : AV → AV
  | .one a => .one (a.dr h)
  | .tup l => .tup (l.map (A0.dr h))
def dropAt (pins : List Nat) (S : St) (h : Nat) : Option RC → St
  | some r => bif pins.contains h || !noneNames h S.mem then S else ⟨S.fr.map fun p => (p.1, p.2.dr h), (h, .row r) :: rem h S.mem⟩
  | none => S
def St.drop (pins : List Nat) (S : St) : St :=
  match vwAt S.mem with
  | some h => dropAt pins S h ((look h S.mem).bind Entry.vwO)
  | none => S

/-! ### The machine -/
structure FP where
  R : List Nat
  W : List Nat
  O : List Nat
inductive Item where
  | code (c : Code)
  | ops (all rest : List Oper)
  | dops (all rest : List Oper) (acc : List FP) (hs : List Nat)
  | blk (id : Nat)
  | back (J : St → Prop)

def slotOf (ops : List Oper) (j : Nat) : Option Nat := (ops[j]?).bind (·.dst)
def outHs (e : Eff) : List Nat := wrHs e.wr ++ (e.val.hs ++ e.wr.flatMap fun p => (p.2.map Entry.hs).getD [])
def newHs (R W : List Nat) : List Nat := W.filter fun h => !R.contains h

def waitsB (y : Oper) (i : Nat) : Bool := y.after.any fun e => Region.binds .any e && e.on == i
/-- one operation against a later one -/
def pairOk (ops : Array Oper) (i : Nat) (x : Oper) (fx : FP) (j : Nat) (y : Oper) (fy : FP) : Bool :=
  (waitsB y i || ((x.apart ops y && (disj fx.W fy.R && (disj fx.W fy.W && disj fy.W fx.R))) || waitsF ops 6 y i)) &&
  ((disj (newHs fy.R fy.W) fx.O || waitsF ops 4 x j) && (disj (newHs fx.R fx.W) fy.O || waitsF ops 4 y i))
def rowOk (ops : Array Oper) (i : Nat) (x : Oper) (fx : FP) : Nat → List Oper → List FP → Bool
  | j, y :: ys, fy :: fs => pairOk ops i x fx j y fy && rowOk ops i x fx (j + 1) ys fs
  | _, [], [] => true
  | _, _, _ => false
def pairsOk (ops : Array Oper) (hs : List Nat) : Nat → List Oper → List FP → Bool
  | i, x :: xs, fx :: fs => (x.after.all (fun d => !Region.binds .any d || Nat.blt d.on i)) && (disj (newHs fx.R fx.W) hs && (rowOk ops i x fx (i + 1) xs fs && pairsOk ops hs (i + 1) xs fs))
  | _, [], [] => true
  | _, _, _ => false
def regOk (ops : List Oper) (fps : List FP) (hs : List Nat) : Bool := pairsOk ops.toArray hs 0 ops fps

inductive Out where
  | go (p : Prop) (k : List Item) (S : St)
  | two (b : Bool) (k1 : List Item) (S1 : St) (k2 : List Item) (S2 : St)
  | fin (S : St)
  | lp (c : Code) (k : List Item) (S : St)
  | back (J : St → Prop) (S : St)
  | stuck

/-- the stack with the region one operation further: 'd' tells whether the region draws -/
inductive Reg where
  | s
  | d (acc : List FP) (hs : List Nat)
def Reg.item (all rest : List Oper) : Reg → Item
  | .s => .ops all rest
  | .d acc hs => .dops all rest acc hs
def Reg.next (S : St) (op : Op) (e : Eff) : Reg → Reg
  | .s => .s
  | .d acc hs => .d (acc ++ [⟨rdOf S op, wrHs e.wr, outHs e⟩]) hs
def Reg.skip : Reg → Reg
  | .s => .s
  | .d acc hs => .d (acc ++ [⟨[], [], []⟩]) hs

variable (pins : List Nat)
def okNew (S : St) (op : Op) (e : Eff) : Bool :=
  match e.wr with
  | [] => true
  | _ => disj (newHs (rdOf S op) (wrHs e.wr)) (pins ++ allHs S)
def stepE (all r : List Oper) (k : List Item) (g : Reg) (o : Oper) (S : St) : Option Eff → Out
  | some e => bif okNew pins S o.op e then .go e.pre ((g.next S o.op e).item all r :: k) (S.after o.dst e) else .stuck
  | none => .stuck
def stepPick (all : List Oper) (o : Oper) (r : List Oper) (k : List Item) (g : Reg) (S : St) (e : Option Eff) : Op → Out
  | .pick (.tmp s) _ _ => match look s S.fr with
    | some (.one (.b b)) => .two b (g.item all (o :: r) :: k) (S.put (some s) (.one .tt)) (g.item all (o :: r) :: k) (S.put (some s) (.one .ff))
    | _ => stepE pins all r k g o S e
  | _ => stepE pins all r k g o S e
def stepG (all : List Oper) (o : Oper) (r : List Oper) (k : List Item) (g : Reg) (S : St) (e : Option Eff) (want : Bool) (s : Nat) : Option AV → Out
  | some (.one .tt) => bif want then stepPick pins all o r k g S e o.op else .go True (g.skip.item all r :: k) (S.put o.dst (.one .un))
  | some (.one .ff) => bif want then .go True (g.skip.item all r :: k) (S.put o.dst (.one .un)) else stepPick pins all o r k g S e o.op
  | some (.one (.b b)) => .two b (g.item all (o :: r) :: k) (S.put (some s) (.one .tt)) (g.item all (o :: r) :: k) (S.put (some s) (.one .ff))
  | some (.one .un) => .go True (g.skip.item all r :: k) (S.put o.dst (.one .un))
  | _ => .stuck
def stepO (all : List Oper) (o : Oper) (r : List Oper) (k : List Item) (g : Reg) (S : St) (e : Option Eff) : Out :=
  match o.guard with
  | none => stepPick pins all o r k g S e o.op
  | some gd => match slotOf all gd.1 with
    | none => .stuck
    | some s => stepG pins all o r k g S e gd.2 s (look s S.fr)
def stepC (x y : Code) (k : List Item) (S : St) : AV → Out
  | .one .tt => .go True (.code x :: k) S
  | .one .ff => .go True (.code y :: k) S
  | .one (.b b) => .two b (.code x :: k) S (.code y :: k) S
  | _ => .stuck
def step (tab : Tab) (spec : Spec) : List Item → St → Out
  | [], S => .fin S
  | .back J :: _, S => .back J S
  | .blk _ :: k, S => .go True k S
  | .ops _ [] :: k, S => .go True k S.res
  | .ops all (o :: r) :: k, S => stepO pins all o r k .s S (eff tab spec o.dst o.op S)
  | .dops all [] acc hs :: k, S => .go (regOk all acc hs = true) k S.res
  | .dops all (o :: r) acc hs :: k, S => stepO pins all o r k (.d acc hs) S (eff tab spec o.dst o.op S)
  | .code .skip :: k, S => .go True k S
  | .code (.region _ ops false) :: k, S => .go True (.ops ops.toList ops.toList :: k) S
  | .code (.region _ ops true) :: k, S => .go True (.dops ops.toList ops.toList [] (pins ++ allHs S) :: k) S
  | .code (.seq a b) :: k, S => .go True (.code a :: .code b :: k) S
  | .code (.cond c x y) :: k, S => stepC x y k S (S.eval c)
  | .code (.block id b) :: k, S => .go True (.code b :: .blk id :: k) S
  | .code .ret :: _, S => .fin S
  | .code (.exit id) :: .blk id' :: k, S => bif id == id' then .go True k S else .go True (.code (.exit id) :: k) S
  | .code (.exit id) :: _ :: k, S => .go True (.code (.exit id) :: k) S
  | .code c :: k, S => .lp c k S
def out (f : List Item → St → Prop) (fin : St → Prop) (lp : Code → List Item → St → Prop) : Out → Prop
  | .go p k S => p ∧ f k S
  | .two b k1 S1 k2 S2 => bif b then f k1 S1 else f k2 S2
  | .fin S => fin S
  | .lp c k S => lp c k S
  | .back J S => J S
  | .stuck => False
def vc (tab : Tab) (spec : Spec) (fin : St → Prop) (lp : Code → List Item → St → Prop) : Nat → List Item → St → Prop
  | 0, _, _ => False
  | n + 1, k, S => out (vc tab spec fin lp n) fin lp (step pins tab spec k S)

end Go.Proofs.Ytclpoenfcpefmaa

/-
Contracts, and that a call of a function with a contract takes a met state to the next. Conditions: none; this text proves nothing of the program. A call of a function with a contract takes a met state to the next. Conditions: none; this text proves nothing of the program. Each effect of the abstract machine is sound: maps, and handles of several values. Conditions: none; this text proves nothing of the program. Each effect of the abstract machine is sound: maps made, rows gathered under one handle, a row within a row of rows handed to a function. Conditions: none; this text proves nothing of the program. Each effect of the abstract machine is sound: a struct of a number and a slice in a box, a box of a slice, a function value with such a box. Conditions: none; this text proves nothing of the program. Each effect of the abstract machine is sound: a cursor over bytes, its fields and its methods; small unsigned integers. Conditions: none; this text proves nothing of the program. Each effect of the abstract machine is sound: a slice made of zeroes; then all operations under one theorem. Conditions: none; this text proves nothing of the program.
-/
import Derived.Test.YtacomnelongbjabGadd
import Derived.MapKept
import Derived.Laws.CopyRow
namespace Go.Proofs.Ytacomnelongbjab
open Go Go.RowKit

/-- the parts of a result -/
def comps : AV → List A0
  | .one a => [a]
  | .tup l => l
def noρ : Nat → Value := fun _ => undef
/-- blocks of arguments that are handed over -/
def OutBlk (outs : List (Nat × Option RC)) (vals : List Value) (k : Nat) : Prop := ∃ p ∈ outs, ∃ v, vals[p.1]? = some v ∧ Blk v k

def ArgRel (w : World) (X : Nat → Prop) (own : Bool) (a : A0) (v : Value) : Prop :=
  match a with
  | .rw r => if own then OwnsRow w (fun k => k < w.heap.size) r v else ReadsRow w (fun k => k < w.heap.size ∧ ¬ X k) r v
  | .byt l => CodeAt w (fun k => k < w.heap.size ∧ ¬ X k) l v
  | a => argOk a = true ∧ v = a.conc noρ
structure ArgsOk (w : World) (outs : List (Nat × Option RC)) (args : List A0) (vals : List Value) : Prop where
  len : vals.length = args.length
  rel : ∀ (j : Nat) (a : A0), args[j]? = some a → ∃ v, vals[j]? = some v ∧ ArgRel w (OutBlk outs vals) (outs.any fun p => p.1 == j) a v
  sep : ∀ p ∈ outs, ∀ q ∈ outs, p.1 ≠ q.1 → ∀ u v k, vals[p.1]? = some u → vals[q.1]? = some v → Blk u k → ¬ Blk v k
  isRow : ∀ p ∈ outs, ∃ r, args[p.1]? = some (.rw r)

def NewBlk (w : World) (X : Nat → Prop) (k : Nat) : Prop := w.heap.size ≤ k ∨ X k
def ResRel (w' : World) (own : Nat → Prop) (a : A0) (v : Value) : Prop :=
  match a with
  | .rw r => OwnsRow w' own r v
  | .byt _ => False
  | a => argOk a = true ∧ v = a.conc noρ
structure RetOk (w w' : World) (vals : List Value) (ce : CEff) (v : Value) : Prop where
  chg : Chg w w' (OutBlk ce.outs vals)
  res : ∃ us : List Value, (match ce.res with | .one _ => ∃ u, us = [u] ∧ v = hdV u | .tup _ => v = .tuple (us.map hdV).toArray) ∧ us.length = (comps ce.res).length ∧
    (∀ (j : Nat) (a : A0), (comps ce.res)[j]? = some a → ∃ u, us[j]? = some u ∧ ResRel w' (NewBlk w (OutBlk ce.outs vals)) a u) ∧
    (∀ (i j : Nat) (r s : RC) (u v : Value), i ≠ j → (comps ce.res)[i]? = some (.rw r) → (comps ce.res)[j]? = some (.rw s) → us[i]? = some u → us[j]? = some v → ∀ k, Blk u k → ¬ Blk v k) ∧
    (∀ (j : Nat) (r : RC) (u : Value), (comps ce.res)[j]? = some (.rw r) → us[j]? = some u → ∀ p ∈ ce.outs, ∀ s, p.2 = some s → ∀ v, vals[p.1]? = some v → ∀ k, Blk v k → ¬ Blk u k)
  outs : ∀ p ∈ ce.outs, ∀ r, p.2 = some r → ∃ u, vals[p.1]? = some u ∧ OwnsRow w' (NewBlk w (OutBlk ce.outs vals)) r u

/-- A cursor's method: the cursor is the first argument, and behind the call it stands at another place. -/
def FnCu (P : Program) (f : Nat) (l : List Int) (at_ sd : Int) (rest : List A0) (ce : CEff) (a' s' : Int) : Prop :=
  ce.pre → ∀ (w : World) (g : Nat) (C : Value) (vals : List Value), CurAt w g C at_ sd → CodeAt w (fun k => k < w.heap.size ∧ k ≠ g) l C → vals.length = rest.length →
    (∀ (j : Nat) (a : A0), rest[j]? = some a → ∃ v, vals[j]? = some v ∧ hdV v = v ∧ ArgRel w (fun k => k = g) false a v) →
    Calls P f (.pointer (some ⟨g, 0, none⟩) :: vals).toArray w fun e w' => ∃ v, e = .returned v ∧ Chg w w' (fun k => k = g) ∧ CurAt w' g C a' s' ∧ ce.res.rel noρ v
def FnCuOk (P : Program) (f : Nat) (args : List A0) (ce : CEff) : Prop :=
  ∀ l at_ sd rest a' s', args = .cur l at_ sd :: rest → ce.outs = [(0, some (.ints 0 [a', s']))] → plainV ce.res = true → FnCu P f l at_ sd rest ce a' s'
/-- THE CONTRACT: whatever values come in that read as these arguments, the call returns what reads as this result; memory that was there is as it was, but for what was handed over. -/
def FnOk0 (P : Program) (f : Nat) (args : List A0) (ce : CEff) : Prop :=
  ce.pre → ∀ (w : World) (vals : List Value), ArgsOk w ce.outs args vals → Calls P f (vals.map hdV).toArray w fun e w' => ∃ v, e = .returned v ∧ RetOk w w' vals ce v
structure FnOk (P : Program) (f : Nat) (args : List A0) (ce : CEff) : Prop where
  go : FnOk0 P f args ce
  cu : FnCuOk P f args ce
def noCur : List A0 → Bool
  | .cur _ _ _ :: _ => false
  | _ => true
theorem FnOk.of0 {P : Program} {f : Nat} {args : List A0} {ce : CEff} (h : FnOk0 P f args ce) (hn : noCur args = true) : FnOk P f args ce :=
  ⟨h, fun l at_ sd rest a' s' he => by rw [he] at hn; cases hn⟩
def SpecOk (P : Program) (spec : Spec) : Prop := ∀ f args ce, spec f args = some ce → FnOk P f args ce ∧ ∃ fn, P.funcs[f]? = some fn ∧ fn.body.isSome = true ∧ (fn.name == "runtime.NumGoroutine") = false

theorem OwnsRow.mono {w : World} {p q : Nat → Prop} {r : RC} {v : Value} (h : OwnsRow w p r v) (hpq : ∀ k, k < w.heap.size → p k → q k) : OwnsRow w q r v := by
  cases hf : r.flat with
  | true => exact (OwnsRow.flat hf).2 (((OwnsRow.flat hf).1 h).mono fun k h1 _ h2 => hpq k h1 h2)
  | false => exact (OwnsRow.comp hf).2 (((OwnsRow.comp hf).1 h).mono fun k h1 _ h2 => hpq k h1 h2)
theorem OwnsRow.monoB {w : World} {p q : Nat → Prop} {r : RC} {v : Value} (h : OwnsRow w p r v) (hpq : ∀ k, Blk v k → k < w.heap.size → p k → q k) : OwnsRow w q r v := by
  cases hf : r.flat with
  | true =>
    have h' := (OwnsRow.flat hf).1 h
    exact (OwnsRow.flat hf).2 (h'.mono fun k h1 hb h2 => hpq k (h'.thin.2 hb) h1 h2)
  | false => exact (OwnsRow.comp hf).2 (((OwnsRow.comp hf).1 h).mono fun k h1 hb h2 => hpq k hb h1 h2)
/-- What owns a row reads it. -/
theorem OwnsRow.reads {w : World} {p q : Nat → Prop} {r : RC} {v : Value} (h : OwnsRow w p r v) (hpq : ∀ k, Blk v k → q k) : ReadsRow w q r v := by
  cases hf : r.flat with
  | true =>
    have h' := (OwnsRow.flat hf).1 h
    exact (ReadsRow.flat hf).2 (h'.reads fun k hk => hpq k (h'.thin.2 hk))
  | false => exact (ReadsRow.comp hf).2 (((OwnsRow.comp hf).1 h).mono fun k _ hb _ => hpq k hb)
theorem blk_seg {V : Value} {p k : Nat} (h : blkOf (seg V (p + 1)) = some k) : Blk V k := by
  cases V with
  | tuple vs =>
    have h1 : blkOf (vs.getD (p + 1) undef) = some k := h
    rw [Array.getD_eq_getD_getElem?] at h1
    cases hv : vs[p + 1]? with
    | none => rw [hv] at h1; simp [undef, blkOf] at h1
    | some v =>
      rw [hv] at h1
      exact ⟨p + 1, v, by simpa using hv, h1⟩
  | _ => simp [seg, undef, blkOf] at h

theorem conc_noρ {a : A0} (h : argOk a = true) (ρ : Nat → Value) : a.conc ρ = a.conc noρ := by cases a <;> first | rfl | cases h

theorem resL_fst (d : Nat) : ∀ (l : List A0) (j i : Nat), (resL d j l).1[i]? = (l[i]?).map fun a => (resA (d + 1000 * (j + i)) a).1
  | [], j, i => by simp [resL]
  | a :: l, j, i => by
    cases i with
    | zero => simp [resL]
    | succ i =>
      simp only [resL, List.getElem?_cons_succ]
      rw [resL_fst d l (j + 1) i]
      congr 1
      funext a
      rw [show j + 1 + i = j + (i + 1) by omega]
theorem resA_wr (d : Nat) (a : A0) (x : Nat) (oe : Option Entry) : (x, oe) ∈ (resA d a).2 ↔ ∃ r, a = .rw r ∧ x = d ∧ oe = some (.row r) := by
  cases a <;> simp [resA]
theorem resL_wr (d : Nat) (x : Nat) (oe : Option Entry) : ∀ (l : List A0) (j : Nat), (x, oe) ∈ (resL d j l).2 ↔ ∃ i r, l[i]? = some (.rw r) ∧ x = d + 1000 * (j + i) ∧ oe = some (.row r)
  | [], j => by simp [resL]
  | a :: l, j => by
    simp only [resL, List.mem_append, resA_wr, resL_wr d x oe l (j + 1)]
    constructor
    · rintro (⟨r, rfl, hx, ho⟩ | ⟨i, r, h1, h2, h3⟩)
      · exact ⟨0, r, rfl, by simpa using hx, ho⟩
      · exact ⟨i + 1, r, by simpa using h1, by omega, h3⟩
    · rintro ⟨i, r, h1, h2, h3⟩
      cases i with
      | zero => left; simp at h1; exact ⟨r, h1, by simpa using h2, h3⟩
      | succ i => right; exact ⟨i, r, by simpa using h1, by omega, h3⟩
theorem resV_wr (d : Nat) (v : AV) (x : Nat) (oe : Option Entry) : (x, oe) ∈ (resV d v).2 ↔ ∃ i r, (comps v)[i]? = some (.rw r) ∧ x = d + 1000 * i ∧ oe = some (.row r) := by
  cases v with
  | one a =>
    simp only [resV, resA_wr, comps]
    constructor
    · rintro ⟨r, rfl, hx, ho⟩; exact ⟨0, r, rfl, by simpa using hx, ho⟩
    · rintro ⟨i, r, h1, h2, h3⟩
      cases i with
      | zero => simp at h1; exact ⟨r, h1, by simpa using h2, h3⟩
      | succ i => simp at h1
  | tup l => simp only [resV, comps]; rw [resL_wr]; simp
theorem look_some_mem {h : Nat} {oe : Option Entry} {wr : Wr} (hl : look h wr = some oe) : (h, oe) ∈ wr := look_mem hl
theorem mem_wrHs {x : Nat} {wr : Wr} : x ∈ wrHs wr ↔ ∃ oe, (x, oe) ∈ wr := by simp [wrHs]

/-- what a slot holds of a row's handle -/
def hA0 (r : RC) (h : Nat) : A0 := bif r.flat then .row h else .co h
theorem hA0_hs (r : RC) (h : Nat) : (hA0 r h).hs = [h] := by unfold hA0; cases r.flat <;> rfl
theorem outWr_spec {S : St} {args : List AV} : ∀ {outs : List (Nat × Option RC)} {wr : Wr}, outWr S args outs = some wr →
    (∀ p ∈ outs, ∃ h r, args[p.1]? = some (.one (hA0 r h)) ∧ look h S.mem = some (.row r) ∧ (h, p.2.map .row) ∈ wr) ∧ (∀ x oe, (x, oe) ∈ wr → ∃ p ∈ outs, ∃ r, args[p.1]? = some (.one (hA0 r x)) ∧ oe = p.2.map .row ∧ look x S.mem = some (.row r))
  | [], wr, h => by
    simp only [outWr, Option.some.injEq] at h; subst h
    exact ⟨by simp, by simp⟩
  | p :: l, wr, h => by
    have go : ∀ (hh : Nat) (r : RC), args[p.1]? = some (.one (hA0 r hh)) → look hh S.mem = some (.row r) → (outWr S args l).map ((hh, p.2.map .row) :: ·) = some wr →
        (∀ p_1 ∈ p :: l, ∃ h r, args[p_1.1]? = some (.one (hA0 r h)) ∧ look h S.mem = some (.row r) ∧ (h, p_1.2.map .row) ∈ wr) ∧ (∀ x oe, (x, oe) ∈ wr → ∃ p_1 ∈ p :: l, ∃ r, args[p_1.1]? = some (.one (hA0 r x)) ∧ oe = p_1.2.map .row ∧ look x S.mem = some (.row r)) := by
      intro hh r ha hr h
      simp only [Option.map_eq_some_iff] at h
      obtain ⟨wr', hw, rfl⟩ := h
      obtain ⟨h1, h2⟩ := outWr_spec hw
      constructor
      · intro q hq
        simp only [List.mem_cons] at hq
        rcases hq with rfl | hq
        · exact ⟨hh, r, ha, hr, by simp⟩
        · obtain ⟨h', r', a1, a2, a3⟩ := h1 q hq
          exact ⟨h', r', a1, a2, by simp [a3]⟩
      · intro x oe hx
        simp only [List.mem_cons, Prod.mk.injEq] at hx
        rcases hx with ⟨rfl, rfl⟩ | hx
        · exact ⟨p, by simp, r, ha, rfl, hr⟩
        · obtain ⟨q, b1, r', b2, b3, b4⟩ := h2 x oe hx
          exact ⟨q, by simp [b1], r', b2, b3, b4⟩
    unfold outWr at h
    split at h
    · rename_i hh ha
      split at h
      case h_2 => cases h
      rename_i r hr
      cases hf : r.flat with
      | false => rw [hf] at h; cases h
      | true =>
        rw [hf] at h
        exact go hh r (by rw [ha]; simp [hA0, hf]) hr h
    · rename_i hh ha
      split at h
      case h_2 => cases h
      rename_i r hr
      cases hf : r.flat with
      | true => rw [hf] at h; cases h
      | false =>
        rw [hf] at h
        exact go hh r (by rw [ha]; simp [hA0, hf]) hr h
    · cases h
theorem nodupB_look {wr : Wr} (h : nodupB (wrHs wr) = true) : ∀ x oe oe', (x, oe) ∈ wr → (x, oe') ∈ wr → oe = oe' := by
  induction wr with
  | nil => intro x oe oe' h1; cases h1
  | cons p l ih =>
    intro x oe oe' h1 h2
    simp only [wrHs, List.map_cons, nodupB, Bool.and_eq_true, Bool.not_eq_true', List.contains_eq_mem, decide_eq_false_iff_not] at h
    simp only [List.mem_cons] at h1 h2
    rcases h1 with h1 | h1 <;> rcases h2 with h2 | h2
    · rw [← h1] at h2; cases h2; rfl
    · exact absurd (by rw [← h1]; exact List.mem_map.2 ⟨_, h2, rfl⟩) h.1
    · exact absurd (by rw [← h2]; exact List.mem_map.2 ⟨_, h1, rfl⟩) h.1
    · exact ih h.2 x oe oe' h1 h2
theorem restOk_at {hs : List Nat} {outs : List (Nat × Option RC)} : ∀ {args : List AV} {j0 : Nat}, restOk hs outs j0 args = true → ∀ (i : Nat) (x : AV), args[i]? = some x → (outs.any fun p => p.1 == j0 + i) = true ∨ ∀ h ∈ x.hs, h ∉ hs
  | [], _, _, i, x, h => by simp at h
  | y :: l, j0, h, i, x, hx => by
    simp only [restOk, Bool.and_eq_true, Bool.or_eq_true] at h
    cases i with
    | zero =>
      simp only [List.getElem?_cons_zero, Option.some.injEq] at hx; subst hx
      exact h.1.imp (fun h => by simpa using h) (fun h => disj_spec h)
    | succ i =>
      have := restOk_at h.2 i x (by simpa using hx)
      rw [show j0 + (i + 1) = j0 + 1 + i by omega]
      exact this
theorem argsPre_at {S : St} : ∀ {args : List AV}, argsPre S args → ∀ x ∈ args, subPre S x
  | [], _, x, hx => by cases hx
  | y :: l, h, x, hx => by
    simp only [List.mem_cons] at hx
    rcases hx with rfl | hx
    · exact h.1
    · exact argsPre_at h.2 x hx

section
variable {c : Ctx} {ops : Array Oper} {o : Oper} {S : St}

theorem wp_enter {P : Program} {a : Act} {w : World} {f : Nat} {args : Array Value} {K : Act → World → Prop} {Q : Exit → Act → World → Prop} (h : (execOp a.eval o).run P w = .ok (.enter f args) w)
    (hk : Calls P f args w fun e w' => ∃ v, e = .returned v ∧ K (a.put o.dst v) w') : o.wp P a w K Q := by
  unfold Oper.wp; rw [h]
  exact hk.mono fun e w' ⟨v, he, h⟩ => by subst he; exact h

theorem good_call_of {R : List Nat} {val : AV} {wr : Wr} (hN : ∀ d, o.dst = some d → d < c.N) (hw : Wanted c ops o S)
    (h : ∀ (S' : SS) (ρ : Nat → Value) (a : Act) (w : World), Agree ops o R (den S) S' → (∀ x ∈ wrHs wr, x ∉ R → S'.Fresh c x) → SatR c S' ρ a.tmps w → (∀ d, o.dst = some d → d < a.tmps.size) →
      ∃ f args, (execOp a.eval o).run c.P w = .ok (.enter f args) w ∧ Calls c.P f args w fun e w' => ∃ v, e = .returned v ∧ ∃ ρ', SatR c (S'.apply o.dst val wr) ρ' (a.put o.dst v).tmps w') :
    Good c ops o (den S) R val wr := by
  intro S' hag hfr a w hsat K Q hK
  unfold opAt
  rw [if_pos (hw S' a w hag.nil hsat)]
  obtain ⟨hdef, hsz, ρ, hs⟩ := hsat
  obtain ⟨f, args, hr, hc⟩ := h S' ρ a w hag hfr hs (fun d hd => by rw [hsz]; exact hN d hd)
  refine wp_enter hr (hc.mono fun e w' ⟨v, he, ρ', hs'⟩ => ⟨v, he, hK _ _ ⟨(put_defs a o.dst v).trans hdef, (put_size a o.dst v).trans hsz, ρ', hs'⟩⟩)

def noFat : AV → Prop
  | .one (.co _) => False
  | .one (.cl _ _ _) => False
  | _ => True
/-- how an argument reads that is no plain value -/
inductive ArgKind (S : St) : AV → RC → Prop where
  | flat {x r} : r.flat = true → readOf S x = some r → ArgKind S x r
  | inner {h p r} : innerOf (compOf (look h S.mem)) p = some r → ArgKind S (.one (.ci h p)) r
  | comp {h r} : compOf (look h S.mem) = some r → ArgKind S (.one (.co h)) r
  | clo {f h h2 t e l} : look h S.mem = some (.box t [.row h2]) → entryRow (look h2 S.mem) = some (.ints e l) → ArgKind S (.one (.cl f h h2)) (.clo f e l)
theorem argCl_spec {f h2 : Nat} {b : Option Entry} {r : Option RC} (h : argOk (argCl f h2 b r) = true) : ∃ t e l, b = some (.box t [.row h2]) ∧ r = some (.ints e l) ∧ argCl f h2 b r = .rw (.clo f e l) := by
  unfold argCl at h ⊢
  split at h
  · rename_i t x e l
    cases hx : x == h2 with
    | false => rw [hx] at h; simp [argOk] at h
    | true =>
      have : x = h2 := by simpa using hx
      subst this
      exact ⟨t, e, l, rfl, rfl, by simp⟩
  · simp [argOk] at h
theorem compOf_comp {e : Option Entry} {r : RC} (h : compOf e = some r) : r.flat = false := by
  unfold compOf at h
  split at h
  · rename_i r'
    cases hf : r'.flat with
    | true => rw [hf] at h; cases h
    | false => rw [hf] at h; simp only [cond_false, Option.some.injEq] at h; rw [← h]; exact hf
  · rename_i r'
    cases hf : r'.flat with
    | true => rw [hf] at h; cases h
    | false => rw [hf] at h; simp only [cond_false, Option.some.injEq] at h; rw [← h]; exact hf
  · cases h
theorem argCo_ne {e : Option Entry} (h : ∀ l, e ≠ some (.st l)) : argCo e = match compOf e with
    | some r => .rw r
    | none => .bot := by
  unfold argCo
  split
  · rename_i l; exact absurd rfl (h l)
  · rfl
theorem argOf_rel {ρ : Nat → Value} {x : AV} {v : Value} (hok : argOk (argOf S x) = true) (hv : x.rel ρ v) :
    (∃ r, argOf S x = .rw r ∧ ArgKind S x r) ∨ ((∀ r, argOf S x ≠ .rw r) ∧ v = (argOf S x).conc noρ ∧ (noFat x ∧ ∀ l, argOf S x ≠ .byt l) ∧ hdV v = v) ∨ ∃ h l, x = .one (.co h) ∧ look h S.mem = some (.st l) ∧ argOf S x = .byt l := by
  cases x with
  | tup l => simp [argOf, argOk] at hok
  | one a0 =>
    cases a0 with
    | row h =>
      left
      simp only [argOf] at hok ⊢
      cases he : entryRow (look h S.mem) with
      | none => rw [he] at hok; simp [argOk] at hok
      | some r => exact ⟨r, rfl, .flat (entryRow_flat he) (by simp [readOf, he])⟩
    | sub h sz l r =>
      left
      simp only [argOf] at hok ⊢
      cases he : readOf S (.one (.sub h sz l r)) with
      | none => rw [he] at hok; simp [argOk] at hok
      | some rc => exact ⟨rc, rfl, .flat (readOf_flat he) he⟩
    | co h =>
      simp only [argOf] at hok ⊢
      by_cases hst : ∃ l, look h S.mem = some (.st l)
      · obtain ⟨l, hl⟩ := hst
        exact .inr (.inr ⟨h, l, rfl, hl, by rw [hl]; rfl⟩)
      · left
        rw [argCo_ne fun l e => hst ⟨l, e⟩] at hok ⊢
        cases he : compOf (look h S.mem) with
        | none => rw [he] at hok; simp [argOk] at hok
        | some r => exact ⟨r, rfl, .comp he⟩
    | ci h p =>
      left
      simp only [argOf] at hok ⊢
      cases he : innerOf (compOf (look h S.mem)) p with
      | none => rw [he] at hok; simp [argOk] at hok
      | some r => exact ⟨r, rfl, .inner he⟩
    | cl f h h2 =>
      left
      simp only [argOf] at hok ⊢
      obtain ⟨t, e, l, h1, h3, h4⟩ := argCl_spec hok
      exact ⟨_, h4, .clo h1 h3⟩
    | tt => right; left; exact ⟨fun r h => by simp [argOf] at h, hv, ⟨trivial, fun l h => by simp [argOf] at h⟩, by rw [show v = _ from hv]; rfl⟩
    | ff => right; left; exact ⟨fun r h => by simp [argOf] at h, hv, ⟨trivial, fun l h => by simp [argOf] at h⟩, by rw [show v = _ from hv]; rfl⟩
    | i n => right; left; exact ⟨fun r h => by simp [argOf] at h, hv, ⟨trivial, fun l h => by simp [argOf] at h⟩, by rw [show v = _ from hv]; rfl⟩
    | b n => right; left; exact ⟨fun r h => by simp [argOf] at h, hv, ⟨trivial, fun l h => by simp [argOf] at h⟩, by rw [show v = _ from hv]; rfl⟩
    | s n => right; left; exact ⟨fun r h => by simp [argOf] at h, hv, ⟨trivial, fun l h => by simp [argOf] at h⟩, by rw [show v = _ from hv]; rfl⟩
    | fn n => right; left; exact ⟨fun r h => by simp [argOf] at h, hv, ⟨trivial, fun l h => by simp [argOf] at h⟩, by rw [show v = _ from hv]; rfl⟩
    | nil => right; left; exact ⟨fun r h => by simp [argOf] at h, hv, ⟨trivial, fun l h => by simp [argOf] at h⟩, by rw [show v = _ from hv]; rfl⟩
    | rw r => exact absurd hv (fun h => h)
    | cur l a s => exact absurd hv (fun h => h)
    | byt l => exact absurd hv (fun h => h)
    | cz h => simp [argOf, argOk] at hok
    | cs h => simp [argOf, argOk] at hok
    | ce h q => simp [argOf, argOk] at hok
    | u k n => simp [argOf, argOk] at hok
    | bot => simp [argOf, argOk] at hok
    | un => simp [argOf, argOk] at hok
    | ref h o => simp [argOf, argOk] at hok
    | el h a b c => simp [argOf, argOk] at hok
    | cut h a b => simp [argOf, argOk] at hok
    | hd h a => simp [argOf, argOk] at hok
    | oe h a => simp [argOf, argOk] at hok
    | ie h a b c d => simp [argOf, argOk] at hok
    | ag h a => simp [argOf, argOk] at hok
end
end Go.Proofs.Ytacomnelongbjab
namespace Go.Proofs.Ytacomnelongbjab
open Go Go.RowKit

theorem resL_length (d : Nat) : ∀ (l : List A0) (j : Nat), (resL d j l).1.length = l.length
  | [], _ => rfl
  | a :: l, j => by simp [resL, resL_length d l (j + 1)]

/-- the handle of an argument -/
def hOf (args : List AV) (j : Nat) : Nat :=
  match args[j]? with
  | some (.one (.row h)) => h
  | some (.one (.co h)) => h
  | _ => 0
theorem hOf_hA0 {args : List AV} {j h : Nat} {r : RC} (ha : args[j]? = some (.one (hA0 r h))) : hOf args j = h := by
  unfold hA0 at ha
  cases hf : r.flat with
  | true => rw [hf] at ha; simp only [cond_true] at ha; simp only [hOf, ha]
  | false => rw [hf] at ha; simp only [cond_false] at ha; simp only [hOf, ha]
theorem outWr_hs {S : St} {args : List AV} : ∀ {outs : List (Nat × Option RC)} {wr : Wr}, outWr S args outs = some wr → wrHs wr = outs.map fun p => hOf args p.1
  | [], wr, h => by simp only [outWr, Option.some.injEq] at h; subst h; rfl
  | p :: l, wr, h => by
    have go : ∀ (hh : Nat), hOf args p.1 = hh → (outWr S args l).map ((hh, p.2.map .row) :: ·) = some wr → wrHs wr = (p :: l).map fun p => hOf args p.1 := by
      intro hh ha h
      simp only [Option.map_eq_some_iff] at h
      obtain ⟨wr', hw, rfl⟩ := h
      have ih := outWr_hs hw
      simp only [wrHs, List.map_cons] at ih ⊢
      rw [ih, ha]
    unfold outWr at h
    split at h
    · rename_i hh ha
      split at h
      case h_2 => cases h
      rename_i r hr
      cases hf : r.flat with
      | false => rw [hf] at h; cases h
      | true => rw [hf] at h; exact go hh (by simp only [hOf, ha]) h
    · rename_i hh ha
      split at h
      case h_2 => cases h
      rename_i r hr
      cases hf : r.flat with
      | true => rw [hf] at h; cases h
      | false => rw [hf] at h; exact go hh (by simp only [hOf, ha]) h
    · cases h
theorem nodupB_map {α : Type} {g : α → Nat} : ∀ {l : List α}, nodupB (l.map g) = true → ∀ p ∈ l, ∀ q ∈ l, p ≠ q → g p ≠ g q
  | [], _, p, hp, _, _, _ => by cases hp
  | x :: l, h, p, hp, q, hq, hne => by
    simp only [List.map_cons, nodupB, Bool.and_eq_true, Bool.not_eq_true', List.contains_eq_mem, decide_eq_false_iff_not] at h
    simp only [List.mem_cons] at hp hq
    rcases hp with rfl | hp <;> rcases hq with rfl | hq
    · exact absurd rfl hne
    · exact fun e => h.1 (by rw [e]; exact List.mem_map.2 ⟨q, hq, rfl⟩)
    · exact fun e => h.1 (by rw [← e]; exact List.mem_map.2 ⟨p, hp, rfl⟩)
    · exact nodupB_map h.2 p hp q hq hne

/-- where the elements of a row lie -/
theorem row_blk {c : Ctx} {S' : SS} {ρ : Nat → Value} {tmps : Array Value} {w : World} (hs : SatR c S' ρ tmps w) {h : Nat} {r : RC} {en : Entry} (hm : S'.mem h = some en) (hr : entryRow (some en) = some r) {ad : Addr} {n cap : Nat} (hv : ρ h = .slice (some ad) n cap) (hn : 0 < n) :
    ad.block < w.heap.size ∧ ((c.own ad.block ∧ en.isOwn = true) ∨ ¬ c.own ad.block) := by
  have hh := hs.mem h _ hm
  cases en with
  | ibox t l => cases hr
  | to d => cases hr
  | t1 d => cases hr
  | st l => cases hr
  | cu l a s => cases hr
  | box t l => cases hr
  | ro r' =>
    obtain ⟨_, A, n', cap', h1, h2, _, _, h5⟩ := (ReadsRow.flat (by cases hf : r'.flat with
      | true => rfl
      | false => simp [entryRow, hf] at hr)).1 hh
    rw [hv] at h1
    simp only [Value.slice.injEq] at h1
    obtain ⟨rfl, rfl, rfl⟩ := h1
    obtain ⟨a', h6, h7, _⟩ := h5 hn
    simp only [Option.some.injEq] at h6; subst h6
    refine ⟨Nat.lt_of_lt_of_le h7.1 hs.frame.size, .inr fun ho => ?_⟩
    rcases ho with ho | ho
    · omega
    · exact h7.2 ho
  | row r' =>
    have h1 := OwnsRow.blk hh (k := ad.block) (by rw [hv]; rfl)
    exact ⟨h1.2, .inl ⟨h1.1, rfl⟩⟩

/-- what stands for an argument in a contract: all values of its handle -/
def fatV (ρ : Nat → Value) : AV → Value → Value
  | .one (.co h), _ => ρ h
  | .one (.cl _ h h2), v => .tuple #[v, ρ h, ρ h2]
  | _, v => v
theorem conc_thin {a : A0} (h : argOk a = true) (hn : ∀ r, a ≠ .rw r) : hdV (a.conc noρ) = a.conc noρ := by
  cases a <;> first | rfl | (simp [argOk] at h) | exact absurd rfl (hn _)
theorem flat_thin {w : World} {p : Nat → Prop} {r : RC} {v : Value} (h : FlatRow w p r v) : hdV v = v := by
  obtain ⟨_, A, n, cap, hv, _⟩ := h.at
  rw [hv]; rfl

section
variable {c : Ctx} {ops : Array Oper} {o : Oper} {S : St} {R : List Nat}
theorem fat_head {S' : SS} {ρ : Nat → Value} {a : Act} {w : World} {x : AV} {v : Value} (hag : Agree ops o R (den S) S') (hs : SatR c S' ρ a.tmps w) (hR : ∀ h ∈ x.hs, h ∈ R) (hok : argOk (argOf S x) = true) (hp : subPre S x) (hv : x.rel ρ v) : hdV (fatV ρ x v) = v := by
  rcases argOf_rel hok hv with ⟨r, hra0, hk⟩ | ⟨_, _, hne, ht⟩ | ⟨h, l, hxe, _, _⟩
  · cases hk with
    | flat hf hr =>
      obtain ⟨_, A, n, cap, hvv, _⟩ := read_at hag hs hR hr hp hv
      have : fatV ρ x v = v := by
        cases x with
        | tup l => rfl
        | one a0 => cases a0 <;> first | rfl | (simp [readOf] at hr)
      rw [this, hvv]; rfl
    | inner hi =>
      rename_i h p
      have hp' : innerPre (compOf (look h S.mem)) p := hp
      cases hcr : compOf (look h S.mem) with
      | none => rw [hcr] at hi; simp [innerOf] at hi
      | some cr =>
        rw [hcr] at hi hp'
        obtain ⟨in_, hc⟩ := comp_of hag hs (hR h (by simp [AV.hs, A0.hs])) hcr
        have h1 := (inner_at hc hi hp').thin
        have h2 : v = seg (ρ h) (p + 1) := hv
        show hdV v = v
        rw [h2]; exact h1
    | comp hc =>
      have h2 : v = hdV (ρ _) := hv
      rw [h2]; rfl
    | clo h1 h2 => rfl
  · have : fatV ρ x v = v := by
      cases x with
      | tup l => rfl
      | one a0 => cases a0 <;> first | rfl | exact hne.1.elim
    rw [this]; exact ht
  · subst hxe
    have h2 : v = hdV (ρ h) := hv
    rw [h2]; rfl
end

theorem good_callA {c : Ctx} {ops : Array Oper} {o : Oper} {S : St} {spec : Spec} (hspec : SpecOk c.P spec) {f : Nat} {args : Array Operand} {ts : Array Nat} {e : Eff} (hN : ∀ d, o.dst = some d → d < c.N) (hw : Wanted c ops o S) {fx : Operand} (hop : o.op = .call ⟨.value fx, args, ts⟩) (hfx : S.eval fx = .one (.fn f))
    (he : effCall spec S o.dst f (args.toList.map S.eval) = some e) (hp : e.pre)
    (hnin : ¬ ∃ h p rest, args.toList.map S.eval = .one (.ci h p) :: rest ∧ ∃ ce, spec f ((args.toList.map S.eval).map (argOf S)) = some ce ∧ outsEmpty ce.outs = false) : Good c ops o (den S) ((args.toList.map S.eval).flatMap AV.hs) e.val.norm (normWr e.wr) := by
  unfold effCall at he
  split at he
  case h_2 => cases he
  rename_i d hd
  cases hall : ((args.toList.map S.eval).map (argOf S)).all argOk with
  | false => rw [hall] at he; cases he
  | true =>
  rw [hall] at he
  simp only [cond_true] at he
  split at he
  case h_2 => cases he
  rename_i ce hce
  obtain ⟨hfn, fn, hfs, hbody, hname⟩ := hspec f _ ce hce
  have he : callWr S (args.toList.map S.eval) d ce = some e := by
    unfold callGo at he
    split at he
    · rename_i h p rest heq
      cases hoe : outsEmpty ce.outs with
      | true => rw [hoe] at he; exact he
      | false => exact absurd ⟨h, p, rest, heq, ce, hce, hoe⟩ hnin
    · exact he
  -- what 'callWr' has looked at
  have hcw : ∃ wr, outWr S (args.toList.map S.eval) ce.outs = some wr ∧ e = ⟨ce.pre ∧ argsPre S (args.toList.map S.eval), (resV d ce.res).1, wr ++ (resV d ce.res).2⟩ ∧ disj (wrHs (resV d ce.res).2) ((args.toList.map S.eval).flatMap AV.hs) = true ∧ nodupB (wrHs wr) = true ∧ restOk (wrHs wr) ce.outs 0 (args.toList.map S.eval) = true := by
    unfold callWr at he
    split at he
    · rename_i hnil
      cases hb : disj (wrHs (resV d ce.res).2) ((args.toList.map S.eval).flatMap AV.hs) with
      | false => rw [hb] at he; cases he
      | true =>
        rw [hb] at he
        simp only [cond_true, Option.some.injEq] at he
        refine ⟨[], by rw [hnil]; rfl, by rw [← he]; rfl, rfl, rfl, ?_⟩
        have : ∀ (l : List AV) (j : Nat), restOk [] ce.outs j l = true := by
          intro l
          induction l with
          | nil => intro j; rfl
          | cons x l ih => intro j; simp [restOk, ih, disj]
        exact this _ _
    · split at he
      case h_2 => cases he
      rename_i wr hwr
      cases hb : (disj (wrHs (resV d ce.res).2) ((args.toList.map S.eval).flatMap AV.hs) && (nodupB (wrHs wr) && restOk (wrHs wr) ce.outs 0 (args.toList.map S.eval))) with
      | false => rw [hb] at he; cases he
      | true =>
        rw [hb] at he
        simp only [cond_true, Option.some.injEq] at he
        simp only [Bool.and_eq_true] at hb
        exact ⟨wr, hwr, he.symm, hb.1, hb.2.1, hb.2.2⟩
  obtain ⟨wr, hwr, hee, hdisj, hnd, hrest⟩ := hcw
  subst hee
  obtain ⟨hpre, hap⟩ : ce.pre ∧ argsPre S (args.toList.map S.eval) := hp
  obtain ⟨hout1, hout2⟩ := outWr_spec hwr
  have hdj := disj_spec hdisj
  -- the values that are handed over
  have hlookwr : ∀ x oe, look x (wr ++ (resV d ce.res).2) = some oe → (x, oe) ∈ wr ∨ (x, oe) ∈ (resV d ce.res).2 := fun x oe h => by
    have := look_some_mem h
    simpa using this
  have outHsR : ∀ x, x ∈ wrHs wr → x ∈ (args.toList.map S.eval).flatMap AV.hs := by
    intro x hx
    obtain ⟨oe, hxo⟩ := mem_wrHs.1 hx
    obtain ⟨p, _, r, ha, _⟩ := hout2 x oe hxo
    exact List.mem_flatMap.2 ⟨_, List.mem_of_getElem? ha, by simp [AV.hs, hA0_hs]⟩
  refine good_call_of hN hw fun S' ρ a w hag hfr hs hdl => ?_
  have hin : ∀ z ∈ args.toList, z ∈ o.op.operands.toList := fun z hz => by simp [hop, Op.operands, Call.operands]; right; simpa using hz
  have hVs : ∃ Vs, Vs = args.toList.map fun z => fatV ρ (S.eval z) (a.eval z) := ⟨_, rfl⟩
  obtain ⟨Vs, hVs⟩ := hVs
  have hrel : ∀ (j : Nat) (x : AV), (args.toList.map S.eval)[j]? = some x → ∃ v, Vs[j]? = some (fatV ρ x v) ∧ x.rel ρ v := by
    intro j x hx
    simp only [List.getElem?_map, Option.map_eq_some_iff] at hx
    obtain ⟨z, hz, rfl⟩ := hx
    exact ⟨a.eval z, by rw [hVs]; simp [hz], eval_rel hag hs (hin z (List.mem_of_getElem? hz))⟩
  have hheads : Vs.map hdV = args.toList.map a.eval := by
    rw [hVs, List.map_map]
    refine List.map_congr_left fun z hz => ?_
    have hmem : S.eval z ∈ args.toList.map S.eval := List.mem_map.2 ⟨z, hz, rfl⟩
    exact fat_head hag hs (fun h hh => List.mem_flatMap.2 ⟨_, hmem, hh⟩) (List.all_eq_true.1 hall _ (List.mem_map.2 ⟨_, hmem, rfl⟩)) (argsPre_at hap _ hmem) (eval_rel hag hs (hin z hz))
  -- a handed-over argument's value owns its row
  have houtv : ∀ p ∈ ce.outs, ∃ h r, (args.toList.map S.eval)[p.1]? = some (.one (hA0 r h)) ∧ S'.mem h = some (.row r) ∧ look h S.mem = some (.row r) ∧ Vs[p.1]? = some (ρ h) ∧ (h, p.2.map .row) ∈ wr := by
    intro p hp
    obtain ⟨h, r, h1, h2, h3⟩ := hout1 p hp
    have hm := mem_at hag (h := h) (List.mem_flatMap.2 ⟨_, List.mem_of_getElem? h1, by simp [AV.hs, hA0_hs]⟩) h2
    obtain ⟨v, hv, hr⟩ := hrel p.1 _ h1
    refine ⟨h, r, h1, hm, h2, ?_, h3⟩
    rw [hv]
    unfold hA0 at hr ⊢
    cases hf : r.flat with
    | true => rw [hf] at hr; exact congrArg some (show v = ρ h from hr)
    | false => rfl
  have hX : ∀ k, OutBlk ce.outs Vs k → ∃ p ∈ ce.outs, ∃ h r, S'.mem h = some (.row r) ∧ Blk (ρ h) k ∧ (h, p.2.map .row) ∈ wr := by
    rintro k ⟨p, hp, v, hv, hk⟩
    obtain ⟨h, r, _, h2, _, h4, h5⟩ := houtv p hp
    rw [h4] at hv; cases hv
    exact ⟨p, hp, h, r, h2, hk, h5⟩
  have hown : ∀ k, OutBlk ce.outs Vs k → c.own k := by
    intro k hk
    obtain ⟨p, _, h, r, h2, h3, _⟩ := hX k hk
    exact (holds_own (hs.mem h _ h2) rfl k h3).1
  -- an entry that is not handed over lies elsewhere
  have hoth : ∀ y en, S'.mem y = some en → en.isOwn = true → y ∉ wrHs wr → ∀ k, Blk (ρ y) k → ¬ OutBlk ce.outs Vs k := by
    intro y en hy ho hnot k hk hX'
    obtain ⟨p, _, h, r, h2, h3, h4⟩ := hX k hX'
    have hne : y ≠ h := fun e => hnot (by rw [e]; exact mem_wrHs.2 ⟨_, h4⟩)
    exact hs.sep y h en _ hy h2 ho rfl hne k hk h3
  have hargs : ArgsOk w ce.outs ((args.toList.map S.eval).map (argOf S)) Vs := by
    refine ⟨by rw [hVs]; simp, fun j b hb => ?_, fun p hp q hq hne u v k hu hv hk => ?_, fun p hp => ?_⟩
    · simp only [List.getElem?_map, Option.map_eq_some_iff] at hb
      obtain ⟨x, ⟨z, hz, rfl⟩, rfl⟩ := hb
      have hx : (args.toList.map S.eval)[j]? = some (S.eval z) := by simp [hz]
      obtain ⟨v, hv, hr⟩ := hrel j _ hx
      refine ⟨_, hv, ?_⟩
      have hok : argOk (argOf S (S.eval z)) = true := List.all_eq_true.1 hall _ (List.mem_map.2 ⟨_, List.mem_of_getElem? hx, rfl⟩)
      have hsp := argsPre_at hap _ (List.mem_of_getElem? hx)
      have hRz : ∀ h ∈ (S.eval z).hs, h ∈ (args.toList.map S.eval).flatMap AV.hs := fun h hh => List.mem_flatMap.2 ⟨_, List.mem_of_getElem? hx, hh⟩
      -- blocks that are not handed over
      have keyB : ∀ h en, h ∈ (S.eval z).hs → (∀ h ∈ (S.eval z).hs, h ∉ wrHs wr) → look h S.mem = some en → en.norm = en → ∀ k, Blk (ρ h) k → ((en.isOwn = true) ∨ (k < w.heap.size ∧ ¬ c.own k)) → k < w.heap.size ∧ ¬ OutBlk ce.outs Vs k := by
        intro h en hh hrs hl hnm k hk hc
        have hm := mem_at hag (hRz h hh) hl
        rw [hnm] at hm
        rcases hc with ho | ⟨h1, h2⟩
        · exact ⟨hs.blk_lt hm ho hk, hoth h en hm ho (hrs h hh) k hk⟩
        · exact ⟨h1, fun hX' => h2 (hown _ hX')⟩
      -- a handle of several values
      have compB : ∀ h r, h ∈ (S.eval z).hs → (∀ h ∈ (S.eval z).hs, h ∉ wrHs wr) → compOf (look h S.mem) = some r → CompRow w (fun k => k < w.heap.size ∧ ¬ OutBlk ce.outs Vs k) r (ρ h) := by
        intro h r hh hrs hcr
        obtain ⟨en, e1, e2, e3⟩ := compOf_look hcr
        have hm := mem_at hag (hRz h hh) e1
        rw [e3] at hm
        have hhold := hs.mem h _ hm
        cases en with
        | ibox t l => cases e2
        | to d => cases e2
        | t1 d => cases e2
        | st l => cases e2
        | cu l a s => cases e2
        | box t l => cases e2
        | row r' =>
          cases hf : r'.flat with
          | true => simp [compOf, hf] at e2
          | false =>
            simp only [compOf, hf, cond_false, Option.some.injEq] at e2; subst e2
            exact ((OwnsRow.comp hf).1 hhold).mono fun k _ hb _ => keyB h _ hh hrs e1 e3 k hb (.inl rfl)
        | ro r' =>
          cases hf : r'.flat with
          | true => simp [compOf, hf] at e2
          | false =>
            simp only [compOf, hf, cond_false, Option.some.injEq] at e2; subst e2
            refine ((ReadsRow.comp hf).1 hhold).mono fun k hlt hb hq => keyB h _ hh hrs e1 e3 k hb (.inr ⟨hlt, fun ho => ?_⟩)
            rcases ho with ho | ho
            · have := hq.1; omega
            · exact hq.2 ho
      rcases argOf_rel hok hr with ⟨r, hra, hk⟩ | ⟨hnr, hvv, hnc, _⟩ | ⟨h, l, hxe, hst, hra⟩
      · rw [hra]
        show if _ then _ else _
        cases hany : (ce.outs.any fun p => p.1 == j) with
        | true =>
          rw [if_pos rfl]
          obtain ⟨p, hp, hpj⟩ := List.any_eq_true.1 hany
          have hpj' : p.1 = j := by simpa using hpj
          obtain ⟨h, r0, h1, h2, h3, h4, _⟩ := houtv p hp
          rw [hpj'] at h4
          rw [hv] at h4
          simp only [Option.some.injEq] at h4
          rw [h4]
          rw [hpj', hx] at h1
          simp only [Option.some.injEq] at h1
          have hrr : r0 = r := by
            rw [h1] at hra
            unfold hA0 at hra
            cases hf : r0.flat with
            | true => rw [hf] at hra; simp [argOf, h3, entryRow, hf] at hra; exact hra
            | false => rw [hf] at hra; simp [argOf, argCo, h3, compOf, hf] at hra; exact hra
          subst hrr
          have hh : OwnsRow w c.own r0 (ρ h) := hs.mem h _ h2
          exact hh.mono fun k hk _ => hk
        | false =>
          rw [if_neg (by simp)]
          have hrs : ∀ h ∈ (S.eval z).hs, h ∉ wrHs wr := by
            rcases restOk_at hrest j _ hx with h | h
            · rw [Nat.zero_add] at h; rw [hany] at h; cases h
            · exact h
          generalize hxe : S.eval z = xe at *
          cases hk with
          | comp hcr =>
            rename_i h
            exact (ReadsRow.comp (compOf_comp hcr)).2 (compB h r (by simp [AV.hs, A0.hs]) hrs hcr)
          | inner hir =>
            rename_i h p
            have hp' : innerPre (compOf (look h S.mem)) p := hsp
            cases hcr : compOf (look h S.mem) with
            | none => rw [hcr] at hir; simp [innerOf] at hir
            | some cr =>
              rw [hcr] at hir hp'
              have hcomp := compB h cr (by simp [AV.hs, A0.hs]) hrs hcr
              have hfr := inner_at hcomp hir hp'
              have hvv : v = seg (ρ h) (p + 1) := hr
              have hff : r.flat = true := RC.wf_flat hfr.1
              refine (ReadsRow.flat hff).2 ?_
              show FlatReads w _ r v
              rw [hvv]
              exact hfr
          | clo hb hrw =>
            rename_i f h h2 t e l
            have hmb := mem_at hag (hRz h (by simp [AV.hs, A0.hs])) hb
            obtain ⟨g, arr, q1, q2, q3, q4, q5⟩ := hs.mem h _ hmb
            obtain ⟨v0, q6, q7⟩ := q5 0 (.row h2) rfl
            have q7' : v0 = ρ h2 := q7
            have harr : arr = #[ρ h2] := by
              have hs1 : arr.size = 1 := q4
              obtain ⟨x, hx1⟩ := Array.size_eq_one_iff.1 hs1
              rw [hx1] at q6
              simp at q6
              rw [hx1, q6, q7']
            rw [harr] at q3
            have hg := keyB h _ (by simp [AV.hs, A0.hs]) hrs hb rfl g (by rw [q1]; rfl) (.inl rfl)
            have hl0 : 0 < l.length := by simpa [subPre, hrw] using hsp
            obtain ⟨en, hen, hen2⟩ := entryRow_look hrw
            have hm2 := mem_at hag (hRz h2 (by simp [AV.hs, A0.hs])) hen
            rw [en_norm hen2] at hm2
            obtain ⟨hwf, A, n, cap, f1, f2, f3, f4, f5⟩ := row_at hs hm2 hen2
            have hvv : v = .func (.func f) #[] #[ρ h] := hr
            have hn0 : 0 < n := by rw [f2]; exact hl0
            refine (ReadsRow.comp rfl).2 ⟨g, ρ h2, t, by show Value.tuple #[v, ρ h, ρ h2] = _; rw [hvv, q1], hg, q3, ⟨hwf, A, n, cap, f1, f2, f3, f4, fun _ => ?_⟩, hl0⟩
            obtain ⟨ad, hA, hcell⟩ := f5 hn0
            refine ⟨ad, hA, ?_, hcell⟩
            obtain ⟨b1, b2⟩ := row_blk hs hm2 hen2 (by rw [f1, hA]) hn0
            refine ⟨b1, ?_⟩
            rcases b2 with ⟨_, b3⟩ | b3
            · exact hoth h2 en hm2 b3 (hrs h2 (by simp [AV.hs, A0.hs])) _ (by rw [f1, hA]; rfl)
            · exact fun hX' => b3 (hown _ hX')
          | flat hff hrr =>
          have hfe : fatV ρ xe v = v := by
            cases xe with
            | tup l => rfl
            | one a0 => cases a0 <;> first | rfl | (simp [readOf] at hrr)
          rw [hfe]
          refine (ReadsRow.flat hff).2 ?_
          have hrd := read_at hag hs hRz hrr hsp hr
          obtain ⟨hwf, A, n, cap, e1, e2, e3, e4, e5, e6⟩ := hrd
          refine ⟨hwf, A, n, cap, e1, e2, e3, e4, fun h0 => ?_⟩
          cases A with
          | none => exact absurd (e5 rfl) (by omega)
          | some ad =>
            refine ⟨ad, rfl, ?_, e6 ad rfl⟩
            -- the handle behind it, and its block
            have key : ∀ h en rc ad' n' cap', h ∈ xe.hs → look h S.mem = some en → entryRow (some en) = some rc → ρ h = .slice (some ad') n' cap' → 0 < n' → ad'.block = ad.block → ad.block < w.heap.size ∧ ¬ OutBlk ce.outs Vs ad.block := by
              intro h en rc ad' n' cap' hh hl hen hv' hn' hab
              have hm := mem_at hag (hRz h hh) hl
              rw [en_norm hen] at hm
              obtain ⟨b1, b2⟩ := row_blk hs hm hen hv' hn'
              rw [hab] at b1 b2
              refine ⟨b1, ?_⟩
              rcases b2 with ⟨_, b3⟩ | b3
              · exact hoth h en hm b3 (hrs h hh) _ (by rw [hv', ← hab]; rfl)
              · exact fun hX' => b3 (hown _ hX')
            cases xe with
            | tup l => simp [readOf] at hrr
            | one a0 =>
              cases a0 with
              | row h =>
                obtain ⟨en, hen, hen2⟩ := entryRow_look hrr
                have hvv : v = ρ h := hr
                exact key h en r ad n cap (by simp [AV.hs, A0.hs]) hen hen2 (by rw [← hvv]; exact e1) h0 rfl
              | sub h sz l k =>
                simp only [readOf] at hrr
                cases hrc : entryRow (look h S.mem) with
                | none => rw [hrc] at hrr; cases hrr
                | some rc =>
                  obtain ⟨en, hen, hen2⟩ := entryRow_look hrc
                  have hm := mem_at hag (hRz h (by simp [AV.hs, A0.hs])) hen
                  rw [en_norm hen2] at hm
                  obtain ⟨_, A', n', cap', f1, f2, f3, f4, f5⟩ := row_at hs hm hen2
                  have hvv : v = subOf (ρ h) sz l k := hr
                  rw [f1] at hvv
                  have hsub : v = .slice (if cap' = l then A' else A'.map (·.add (l * sz))) (k - l) (cap' - l) := hvv
                  rw [e1] at hsub
                  simp only [Value.slice.injEq] at hsub
                  obtain ⟨g1, g2, g3⟩ := hsub
                  have hp' : l ≤ k ∧ k ≤ rc.len := by simpa [subPre, hrc] using hsp
                  obtain ⟨ad', hA', _⟩ := f5 (by omega)
                  rw [hA', if_neg (by omega)] at g1
                  simp only [Option.map_some, Option.some.injEq] at g1
                  exact key h en rc ad' n' cap' (by simp [AV.hs, A0.hs]) hen hen2 (by rw [f1, hA']) (by omega) (by rw [g1]; unfold Addr.add; split <;> rfl)
              | cut h e n => simp [argOf, argOk] at hok
              | _ => simp [readOf] at hrr
      · unfold ArgRel
        have hfe : fatV ρ (S.eval z) v = v := by
          cases hxe : S.eval z with
          | tup l => rfl
          | one a0 => cases a0 <;> first | rfl | (rw [hxe] at hnc; exact hnc.1.elim)
        rw [hfe]
        split
        · rename_i r hr'; exact absurd hr' (hnr r)
        · rename_i l hl; rw [hl] at hvv hok; exact absurd hl (hnc.2 l)
        · exact ⟨hok, hvv⟩
      · rw [hra, hxe]
        have hm := mem_at hag (h := h) (hRz h (by rw [hxe]; simp [AV.hs, A0.hs])) hst
        have hc : CodeAt c.w0 (fun k => k < c.w0.heap.size ∧ ¬ c.X k) l (ρ h) := hs.mem h _ hm
        show CodeAt w (fun k => k < w.heap.size ∧ ¬ OutBlk ce.outs Vs k) l (ρ h)
        exact hc.now hs.frame fun k hk ho => ⟨hk, fun hX' => ho (hown _ hX')⟩
    · obtain ⟨h, r, h1, h2, _, h4, _⟩ := houtv p hp
      obtain ⟨h', r', h1', h2', _, h4', _⟩ := houtv q hq
      rw [h4] at hu; cases hu
      rw [h4'] at hv; cases hv
      have hpq : p ≠ q := fun e => hne (by rw [e])
      rw [outWr_hs hwr] at hnd
      have := nodupB_map hnd p hp q hq hpq
      have hh : hOf (args.toList.map S.eval) p.1 = h := hOf_hA0 h1
      have hh' : hOf (args.toList.map S.eval) q.1 = h' := hOf_hA0 h1'
      rw [hh, hh'] at this
      exact hs.sep h h' _ _ h2 h2' rfl rfl this k hk
    · obtain ⟨h, r, h1, _, h3, _⟩ := houtv p hp
      refine ⟨r, ?_⟩
      rw [List.getElem?_map, h1]
      unfold hA0
      cases hf : r.flat with
      | true => simp [argOf, h3, entryRow, hf]
      | false => simp [argOf, argCo, h3, compOf, hf]
  have hrun : (execOp a.eval o).run c.P w = .ok (.enter f (args.toList.map a.eval).toArray) w := by
    have hb : fn.body ≠ none := fun e => by rw [e] at hbody; cases hbody
    have hn : fn.name ≠ "runtime.NumGoroutine" := fun e => by rw [e] at hname; simp at hname
    have hfe : (S.eval fx).rel ρ (a.eval fx) := eval_rel hag hs (by simp [hop, Op.operands, Call.operands])
    rw [hfx] at hfe
    have hev : a.eval fx = .func (.func f) #[] #[] := hfe
    simp [execOp, hop, resolve, hev, Deferred.ofValue, invoke, callFunc, hfs, hn, hb]
    rw [← Array.toList_map]
  rw [← hheads] at hrun
  refine ⟨f, _, hrun, (hfn.go hpre w _ hargs).mono fun e' w' ⟨v, hev, hret⟩ => ⟨v, hev, ?_⟩⟩
  obtain ⟨us, hus1, hus2, hus3, hus4, hus5⟩ := hret.res
  -- the handles of the result's rows
  have hresb : ∀ x oe, (x, oe) ∈ (resV d ce.res).2 → ∃ i r u, (comps ce.res)[i]? = some (.rw r) ∧ x = d + 1000 * i ∧ oe = some (.row r) ∧ us[i]? = some u ∧ OwnsRow w' (NewBlk w (OutBlk ce.outs Vs)) r u := by
    intro x oe hx
    obtain ⟨i, r, h1, h2, h3⟩ := (resV_wr d ce.res x oe).1 hx
    obtain ⟨u, hu, hr⟩ := hus3 i _ h1
    exact ⟨i, r, u, h1, h2, h3, hu, hr⟩
  refine ⟨fun x => if x ∈ wrHs (resV d ce.res).2 then us.getD ((x - d) / 1000) undef else ρ x, ?_⟩
  have hρres : ∀ i r u, (comps ce.res)[i]? = some (.rw r) → us[i]? = some u → (if d + 1000 * i ∈ wrHs (resV d ce.res).2 then us.getD ((d + 1000 * i - d) / 1000) undef else ρ (d + 1000 * i)) = u := by
    intro i r u h1 h2
    rw [if_pos (mem_wrHs.2 ⟨_, (resV_wr d ce.res _ _).2 ⟨i, r, h1, rfl, rfl⟩⟩)]
    have : (d + 1000 * i - d) / 1000 = i := by omega
    rw [this]
    simp [List.getD, h2]
  have hnewOwn : ∀ k, NewBlk w (OutBlk ce.outs Vs) k → c.own k := by
    rintro k (h | h)
    · exact .inl (Nat.le_trans hs.frame.size h)
    · exact hown k h
  have hwrn : wrHs (normWr (wr ++ (resV d ce.res).2)) = wrHs wr ++ wrHs (resV d ce.res).2 := by rw [wrHs_normWr]; simp [wrHs]
  have hlk : ∀ x e0, look x (normWr (wr ++ (resV d ce.res).2)) = some (some e0) → ∃ e1, e0 = e1.norm ∧ ((x, some e1) ∈ wr ∨ (x, some e1) ∈ (resV d ce.res).2) := by
    intro x e0 h
    rw [look_normWr, Option.map_eq_some_iff] at h
    obtain ⟨oe, h1, h2⟩ := h
    cases oe with
    | none => cases h2
    | some e1 =>
      simp only [Option.map_some, Option.some.injEq] at h2
      exact ⟨e1, h2.symm, hlookwr x _ h1⟩
  -- what is new: a row, its value, its block
  have hnewrow : ∀ x e0, look x (normWr (wr ++ (resV d ce.res).2)) = some (some e0) → ∃ r, e0 = .row r ∧ OwnsRow w' (NewBlk w (OutBlk ce.outs Vs)) r (if x ∈ wrHs (resV d ce.res).2 then us.getD ((x - d) / 1000) undef else ρ x) ∧
      ((∃ p ∈ ce.outs, p.2 = some r ∧ x ∉ wrHs (resV d ce.res).2 ∧ S'.mem x ≠ none ∧ Vs[p.1]? = some (ρ x) ∧ (∃ r0, (args.toList.map S.eval)[p.1]? = some (.one (hA0 r0 x)))) ∨ ∃ i u, (comps ce.res)[i]? = some (.rw r) ∧ x = d + 1000 * i ∧ us[i]? = some u ∧ (if x ∈ wrHs (resV d ce.res).2 then us.getD ((x - d) / 1000) undef else ρ x) = u) := by
    intro x e0 h
    obtain ⟨e1, rfl, h1 | h1⟩ := hlk x e0 h
    · obtain ⟨p, hp, r9, ha, hoe, _⟩ := hout2 x _ h1
      cases hp2 : p.2 with
      | none => rw [hp2] at hoe; cases hoe
      | some r =>
        rw [hp2] at hoe
        simp only [Option.map_some, Option.some.injEq] at hoe
        subst hoe
        obtain ⟨u, hu, how⟩ := hret.outs p hp r hp2
        obtain ⟨h', r', b1, b2, _, b4, _⟩ := houtv p hp
        have b1' : x = h' := (hOf_hA0 ha).symm.trans (hOf_hA0 b1)
        subst b1'
        rw [b4] at hu; cases hu
        have hnot : x ∉ wrHs (resV d ce.res).2 := fun hx => hdj x hx (outHsR x (mem_wrHs.2 ⟨_, h1⟩))
        refine ⟨r, rfl, by rw [if_neg hnot]; exact how, .inl ⟨p, hp, hp2, hnot, by rw [b2]; simp, b4, r9, ha⟩⟩
    · obtain ⟨i, r, u, g1, g2, g3, g4, g5⟩ := hresb x _ h1
      cases g3
      subst g2
      have := hρres i r u g1 g4
      exact ⟨r, rfl, by rw [this]; exact g5, .inr ⟨i, u, g1, rfl, g4, this⟩⟩
  rw [hd]
  refine hs.step (D := OutBlk ce.outs Vs) (fun y hy => by cases hy; exact hdl d hd) hret.chg hown (fun x hne => ?_) (fun x hx => ?_) (fun y en hy ho hnot k hk => ?_) (fun x e0 hx => ?_) (fun x e0 hx _ k hk => ⟨fun y en hy ho hnot hk2 => ?_, fun y en hy ho hne hk2 => ?_⟩) ?_
  · by_cases hx : x ∈ wrHs (resV d ce.res).2
    · exact hfr x (by rw [hwrn]; exact List.mem_append_right _ hx) (hdj x hx)
    · simp only [hx, if_false, ne_eq, not_true_eq_false] at hne
  · rw [hwrn, List.mem_append, not_or] at hx
    simp only [hx.2, if_false]
  · rw [hwrn, List.mem_append, not_or] at hnot
    exact hoth y en hy ho hnot.1 k hk
  · obtain ⟨r, rfl, how, _⟩ := hnewrow x e0 hx
    exact how.mono fun k _ hk => hnewOwn k hk
  · obtain ⟨r, rfl, how, _⟩ := hnewrow x e0 hx
    rw [hwrn, List.mem_append, not_or] at hnot
    rcases (how.blk hk).1 with h | h
    · have := hs.blk_lt hy ho hk2; omega
    · exact hoth y en hy ho hnot.1 k hk2 h
  · obtain ⟨r, rfl, how, h1⟩ := hnewrow x e0 hx
    obtain ⟨r', rfl, how', h2⟩ := hnewrow y en hy
    rcases h1 with ⟨p, hp, hp2, hnx, hmx, hvx, hax⟩ | ⟨i, u, g1, g2, g3, g4⟩
    · rcases h2 with ⟨q, hq, hq2, hny, hmy, hvy, hay⟩ | ⟨i', u', g1', g2', g3', g4'⟩
      · -- two handed-over rows
        rw [if_neg hnx] at hk
        rw [if_neg hny] at hk2
        have hpq : p.1 ≠ q.1 := by
          intro e
          obtain ⟨r1, hax⟩ := hax
          obtain ⟨r2, hay⟩ := hay
          exact hne ((hOf_hA0 hay).symm.trans ((congrArg _ e.symm).trans (hOf_hA0 hax)))
        exact hargs.sep p hp q hq hpq _ _ k hvx hvy hk hk2
      · rw [if_neg hnx] at hk
        rw [g4'] at hk2
        exact hus5 i' r' u' g1' g3' p hp r hp2 _ hvx k hk hk2
    · rcases h2 with ⟨q, hq, hq2, hny, hmy, hvy, hay⟩ | ⟨i', u', g1', g2', g3', g4'⟩
      · rw [g4] at hk
        rw [if_neg hny] at hk2
        exact hus5 i r u g1 g3 q hq r' hq2 _ hvy k hk2 hk
      · rw [g4] at hk
        rw [g4'] at hk2
        have hii : i ≠ i' := by intro e; subst e; exact hne (g2'.trans g2.symm)
        exact hus4 i i' r r' u u' hii g1 g1' g3 g3' k hk hk2
  · -- the result's value
    have hcomp : ∀ (i : Nat) (a0 : A0), (comps ce.res)[i]? = some a0 → ∃ u, us[i]? = some u ∧ ((resA (d + 1000 * i) a0).1).norm.rel (fun x => if x ∈ wrHs (resV d ce.res).2 then us.getD ((x - d) / 1000) undef else ρ x) (hdV u) := by
      intro i a0 ha
      obtain ⟨u, hu, hr⟩ := hus3 i a0 ha
      refine ⟨u, hu, ?_⟩
      cases a0 with
      | rw r =>
        have hru := hρres i r u ha hu
        cases hf : r.flat with
        | true =>
          simp only [resA, hf, cond_true]
          have h1 : FlatRow _ _ r u := (OwnsRow.flat hf).1 hr
          show hdV u = _
          rw [flat_thin h1]
          exact hru.symm
        | false =>
          simp only [resA, hf, cond_false]
          show hdV u = hdV _
          exact congrArg hdV hru.symm
      | byt l => exact hr.elim
      | _ => first
        | (have h1 : argOk _ = true := hr.1
           simp only [argOk, Bool.false_eq_true] at h1
           done)
        | (refine (A0.rel_norm _ _ _).2 ?_
           have h2 := hr.2
           rw [h2]
           rfl)
    cases hres : ce.res with
    | one a0 =>
      rw [hres] at hus1 hcomp
      simp only at hus1
      obtain ⟨u0, rfl, rfl⟩ := hus1
      obtain ⟨u, hu, hr⟩ := hcomp 0 a0 rfl
      simp only [List.getElem?_cons_zero, Option.some.injEq] at hu
      subst hu
      exact hr
    | tup l =>
      rw [hres] at hus1 hcomp hus2
      simp only at hus1
      refine ⟨us.map hdV, hus1, ?_, fun i b hb => ?_⟩
      · simp only [comps] at hus2
        simp only [List.length_map, resL_length, hus2]
      · simp only [List.getElem?_map, Option.map_eq_some_iff, resL_fst] at hb
        obtain ⟨b', ⟨a0, ha0, rfl⟩, rfl⟩ := hb
        rw [Nat.zero_add]
        obtain ⟨u, hu, hr⟩ := hcomp i a0 ha0
        exact ⟨hdV u, by simp [hu], hr⟩
end Go.Proofs.Ytacomnelongbjab
namespace Go.Proofs.Ytacomnelongbjab
open Go Go.RowKit

section
variable {c : Ctx} {ops : Array Oper} {o : Oper} {S : St} {R : List Nat}

/-! #### keys -/
theorem int_fields {P : Program} {F : List Field} {fs : List (Nat × Nat)} {n : Nat} (hfs : fieldsB P F fs = true) (hfl : flatB n fs = true) : F.length = n ∧ ∀ (j : Nat) (f : Field), F[j]? = some f → f.offset = j ∧ f.name ≠ "_" ∧ P.underlying f.type = some (.int .i64) := by
  unfold flatB at hfl
  simp only [Bool.and_eq_true, beq_iff_eq] at hfl
  obtain ⟨h1, h2⟩ := hfl
  obtain ⟨hl, hat⟩ := fieldsB_at hfs
  refine ⟨by omega, fun j f hj => ?_⟩
  have hjl : j < n := by have := (List.getElem?_eq_some_iff.1 hj).1; omega
  have hfj : fs[j]? = some (j, 1) := by rw [h2]; simp [hjl]
  obtain ⟨f', fi, g1, g2, _, _, _, g3⟩ := hat j (j, 1) hfj
  rw [hj] at g1
  cases g1
  exact ⟨g2, (g3 rfl).2, (g3 rfl).1⟩

theorem run_checkKey_int {P : Program} {w : World} {em : Bool} {d t : Nat} {v : Int} (hu : P.underlying t = some (.int .i64)) : (Instr.checkKey em (d + 1) t (vI v)).run P w = .ok () w := by
  unfold Instr.checkKey
  simp only [Sem.run_bind, run_underlying hu, Result.andThen_ok]
  rfl
theorem run_checkKey_struct {P : Program} {w : World} {em : Bool} {t : Nat} {F : Array Field} {l : List Int} (hu : P.underlying t = some (.struct F)) (hl : F.toList.length = l.length) (hF : ∀ (j : Nat) (f : Field), F.toList[j]? = some f → f.offset = j ∧ f.name ≠ "_" ∧ P.underlying f.type = some (.int .i64)) :
    (Instr.checkKey em 10000 t (.agg (l.map vI).toArray)).run P w = .ok () w := by
  unfold Instr.checkKey
  simp only [Sem.run_bind, run_underlying hu, Result.andThen_ok]
  rw [← Array.forIn_toList]
  have go : ∀ (G : List Field), (∀ f ∈ G, ∃ j : Nat, j < l.length ∧ f.offset = j ∧ f.name ≠ "_" ∧ P.underlying f.type = some (.int .i64)) →
      (forIn G PUnit.unit fun f _ => (do
        if f.name ≠ "_" then do
            let v ← part f.type (l.map vI).toArray f.offset
            Instr.checkKey em 9999 f.type v
            pure (ForInStep.yield PUnit.unit)
          else pure (ForInStep.yield PUnit.unit) : Sem (ForInStep PUnit))).run P w = .ok PUnit.unit w := by
    intro G
    induction G with
    | nil => intro _; rfl
    | cons f G ih =>
      intro h
      obtain ⟨j, hj, h1, h2, h3⟩ := h f (by simp)
      have hp : (part f.type (l.map vI).toArray f.offset).run P w = .ok (vI l[j]) w := by
        simp [part, run_isAgg_int h3, h1, hj]
      rw [List.forIn_cons]
      simp only [h2, ne_eq, not_false_eq_true, if_true, Sem.run_bind, hp, Result.andThen_ok, run_checkKey_int (P := P) (w := w) (em := em) (d := 9998) (v := l[j]) h3, Sem.run_pure]
      exact ih fun g hg => h g (by simp [hg])
  exact (congrArg (fun r => Result.andThen r _) (go F.toList fun f hf => by
    obtain ⟨j, hj⟩ := List.getElem?_of_mem hf
    have hlt := (List.getElem?_eq_some_iff.1 hj).1
    exact ⟨j, by omega, hF j f hj⟩)).trans rfl

theorem eqI_beq : ∀ (a b : List Int), a.length = b.length → eqI a b = (a == b)
  | [], [], _ => rfl
  | [], _ :: _, h => by simp at h
  | _ :: _, [], h => by simp at h
  | x :: a, y :: b, h => by
    have ih := eqI_beq a b (by simpa using h)
    simp only [eqI, List.headD_cons, List.tail_cons, ih]
    by_cases hxy : x = y
    · subst hxy; simp
    · have : (x == y) = false := by simpa using hxy
      rw [this]
      simp [hxy]
/-- two keys compared -/
theorem run_equal_key {P : Program} {w : World} {t : Nat} {fs : List (Nat × Nat)} {n sz by_ : Nat} (hti : tiB P t ⟨.struct fs, sz, by_⟩ = true) (hfl : flatB n fs = true) {xs ys : List Int} (hx : xs.length = n) (hy : ys.length = n) :
    (Op.equal t (.agg (xs.map vI).toArray) (.agg (ys.map vI).toArray)).run P w = .ok (xs == ys) w := by
  obtain ⟨F, i, hu, hi, his, _, hz, hfs, hst, hgt⟩ := tiB_struct hti
  obtain ⟨hFl, _⟩ := fieldsB_at hfs
  have hfl0 := hfl
  unfold flatB at hfl
  simp only [Bool.and_eq_true, beq_iff_eq] at hfl
  obtain ⟨hfl1, hfl2⟩ := hfl
  have hflat : ∀ (j : Nat) (p : Nat × Nat), fs[j]? = some p → p = (0 + j, 1) := by
    intro j p hj
    rw [hfl2] at hj
    simp only [List.getElem?_map, Option.map_eq_some_iff] at hj
    obtain ⟨k, hk, rfl⟩ := hj
    have := (List.getElem?_eq_some_iff.1 hk).2
    simp at this
    simp [this]
  have hF' : P.fieldsOf t = F := by simp [Program.fieldsOf, hu]
  have h1 : (Op.equalIn 10000 t (.agg (xs.map vI).toArray) (.agg (ys.map vI).toArray)).run P w = .ok (eqI xs ys) w := by
    rw [run_equalIn_struct w 9999 t _ _ (by rw [hu, hF']) hst, hF']
    have := eqI_run (P := P) (w := w) (d := 9998) F.toList fs 0 xs ys hfs hflat (by rw [hFl, hfl1]; omega) (by omega)
    simpa using this
  rw [← eqI_beq xs ys (by omega)]
  exact h1

section
variable {P : Program} {w : World} {t n sz by_ : Nat} {fs : List (Nat × Nat)} {α : Type} {conv : α → Value}
def keyV (k : List Int) : Value := .agg (k.map vI).toArray
def encL (conv : α → Value) (kvs : List (List Int × α)) : List (Value × Value) := kvs.map fun p => (keyV p.1, conv p.2)
/-- what is found among a map's entries -/
theorem run_find (hti : tiB P t ⟨.struct fs, sz, by_⟩ = true) (hfl : flatB n fs = true) {k : List Int} (hk : k.length = n) (z : α) : ∀ (kvs : List (List Int × α)) (es : List MapEntry) (i : Nat), es.map (fun e => (e.key, e.val)) = encL conv kvs → (∀ p ∈ kvs, p.1.length = n) →
    (hasL k kvs = false ∧ (Instr.findAsking t (keyV k) es i).run P w = .ok none w ∧ getL z k kvs = z ∧ ∀ v, putL k v kvs = kvs ++ [(k, v)]) ∨
    (hasL k kvs = true ∧ ∃ j e, es[j]? = some e ∧ e.key = keyV k ∧ (Instr.findAsking t (keyV k) es i).run P w = .ok (some (i + j, e.val)) w ∧ e.val = conv (getL z k kvs) ∧ ∀ v, putL k v kvs = kvs.set j (k, v))
  | [], [], i, _, _ => .inl ⟨rfl, rfl, rfl, fun _ => rfl⟩
  | [], _ :: _, i, h, _ => by simp [encL] at h
  | _ :: _, [], i, h, _ => by simp [encL] at h
  | p :: kvs, e :: es, i, h, hn => by
    simp only [encL, List.map_cons, List.cons.injEq, Prod.mk.injEq] at h
    obtain ⟨⟨h1, h2⟩, h3⟩ := h
    have hpl := hn p (by simp)
    have heq := run_equal_key (w := w) hti hfl hk hpl
    have ih := run_find hti hfl hk z kvs es (i + 1) h3 fun q hq => hn q (by simp [hq])
    by_cases hkp : k = p.1
    · right
      have hb : (p.1 == k) = true := by simp [hkp]
      refine ⟨by simp [hasL, hb], 0, e, rfl, by rw [h1, hkp], ?_, by simp [getL, hb, h2], fun v => by simp [putL, hb]⟩
      have hb' : (k == p.1) = true := by simp [hkp]
      rw [hb'] at heq
      have heq' : (Op.equal t (keyV k) e.key).run P w = .ok true w := by rw [h1]; exact heq
      simp [Instr.findAsking, heq']
    · have hb : (p.1 == k) = false := by simpa using fun e => hkp e.symm
      have hb' : (k == p.1) = false := by simpa using hkp
      rw [hb'] at heq
      have heq' : (Op.equal t (keyV k) e.key).run P w = .ok false w := by rw [h1]; exact heq
      have hstep : (Instr.findAsking t (keyV k) (e :: es) i).run P w = (Instr.findAsking t (keyV k) es (i + 1)).run P w := by
        simp [Instr.findAsking, heq']
      rcases ih with ⟨g1, g2, g3, g4⟩ | ⟨g1, j, e', g2, g3, g4, g5, g6⟩
      · left
        refine ⟨by simp [hasL, hb, g1], by rw [hstep, g2], by simp [getL, hb, g3], fun v => by simp [putL, hb, g4]⟩
      · right
        refine ⟨by simp [hasL, hb, g1], j + 1, e', by simpa using g2, g3, ?_, by simp [getL, hb, g5], fun v => by simp [putL, hb, g6]⟩
        rw [hstep, g4, show i + 1 + j = i + (j + 1) by omega]
theorem run_findKey_eq {F : Array Field} (hu : P.underlying t = some (.struct F)) (k : Value) (es : List MapEntry) : (Instr.findKey t k es).run P w = (Instr.findAsking t k es 0).run P w := by
  cases es with
  | nil => simp [Instr.findKey, run_underlying hu, Instr.findNow, Instr.findAsking]
  | cons e es => simp [Instr.findKey, run_underlying hu, Instr.findNow, Instr.sameNow]
theorem sameBits_key {d : Nat} : ∀ (l : List Int), (Instr.sameBits (d + 2) (keyV l) (keyV l)) = true := by
  intro l
  unfold keyV Instr.sameBits
  simp only [beq_self_eq_true, Bool.true_and, List.all_eq_true]
  intro p hp
  obtain ⟨j, hj⟩ := List.getElem?_of_mem hp
  rw [List.getElem?_zip_eq_some] at hj
  obtain ⟨h1, h2⟩ := hj
  rw [h1] at h2
  simp only [Option.some.injEq] at h2
  obtain ⟨x, hx⟩ : ∃ x, p.1 = vI x := by
    simp only [List.getElem?_map, Option.map_eq_some_iff] at h1
    obtain ⟨x, _, hx⟩ := h1
    exact ⟨x, hx.symm⟩
  have : p = (vI x, vI x) := by cases p; simp_all
  rw [this]
  simp [Instr.sameBits]
theorem run_stays {k : List Int} : (Instr.keyThatStays (keyV k) (keyV k)).run P w = .ok (keyV k) w := by
  unfold Instr.keyThatStays
  rw [sameBits_key (d := 9998)]
  rfl
theorem run_lookup_map {mt kt et b clock : Nat} {es : Array MapEntry} {kvs : List (List Int × α)} {z : α} {ok : Bool} {k : List Int} (ht : P.underlying mt = some (.map kt et)) (hti : tiB P kt ⟨.struct fs, sz, by_⟩ = true) (hfl : flatB n fs = true)
    (hz : (zeroValue et).run P w = .ok (conv z) w) (hb : w.heap[b]? = some (.map es clock)) (hes : es.toList.map (fun e => (e.key, e.val)) = encL conv kvs) (hn : ∀ p ∈ kvs, p.1.length = n) (hk : k.length = n) :
    (Instr.lookup mt (.map (some b)) (keyV k) ok).run P w = .ok (if ok then .tuple #[conv (getL z k kvs), .bool (hasL k kvs)] else conv (getL z k kvs)) w := by
  obtain ⟨F, _, hu, _, _, _, _, hfs, _⟩ := tiB_struct hti
  obtain ⟨hFn, hF⟩ := int_fields hfs hfl
  have hck : ∀ em, (Instr.checkKey em 10000 kt (keyV k)).run P w = .ok () w := fun em => run_checkKey_struct hu (by omega) hF
  rcases run_find (w := w) (conv := conv) hti hfl hk z kvs es.toList 0 hes hn with ⟨g1, g2, g3, _⟩ | ⟨g1, j, e, g2, g3, g4, g5, _⟩
  · simp [Instr.lookup, run_underlying ht, MapKept.run_getObj_map hb, hck, run_findKey_eq hu, g2, hz, g1, g3]
  · simp [Instr.lookup, run_underlying ht, MapKept.run_getObj_map hb, hck, run_findKey_eq hu, g4, g1, g5]
def setObjW (w : World) (b : Nat) (o : Obj) : World := { w with heap := w.heap.setIfInBounds b o }
theorem setObjW_same {b : Nat} {o o' : Obj} (h : w.heap[b]? = some o) : (setObjW w b o').heap[b]? = some o' := by
  have := (Array.getElem?_eq_some_iff.1 h).1
  simp [setObjW, this]
theorem Chg.setObj (w : World) (b : Nat) (o : Obj) : Chg w (setObjW w b o) (fun k => k = b) := ⟨rfl, rfl, rfl, by simp [setObjW], fun k _ hd => by
  have : b ≠ k := fun e => hd e.symm
  simp [setObjW, Array.getElem?_setIfInBounds_ne this]⟩
theorem run_update_map {mt kt et b clock : Nat} {es : Array MapEntry} {kvs : List (List Int × α)} {k : List Int} {v : α} (z : α) (ht : P.underlying mt = some (.map kt et)) (hti : tiB P kt ⟨.struct fs, sz, by_⟩ = true) (hfl : flatB n fs = true)
    (hb : w.heap[b]? = some (.map es clock)) (hes : es.toList.map (fun e => (e.key, e.val)) = encL conv kvs) (hn : ∀ p ∈ kvs, p.1.length = n) (hk : k.length = n) :
    ∃ es' clock', (Instr.mapUpdate mt (.map (some b)) (keyV k) (conv v)).run P w = .ok () (setObjW w b (.map es' clock')) ∧ es'.toList.map (fun e => (e.key, e.val)) = encL conv (putL k v kvs) := by
  obtain ⟨F, _, hu, _, _, _, _, hfs, _⟩ := tiB_struct hti
  obtain ⟨hFn, hF⟩ := int_fields hfs hfl
  have hck : ∀ em, (Instr.checkKey em 10000 kt (keyV k)).run P w = .ok () w := fun em => run_checkKey_struct hu (by omega) hF
  rcases run_find (w := w) (conv := conv) hti hfl hk z kvs es.toList 0 hes hn with ⟨g1, g2, g3, g6⟩ | ⟨g1, j, e, g2, g3, g4, g5, g6⟩
  · refine ⟨es.push ⟨keyV k, conv v, clock⟩, clock + 1, ?_, ?_⟩
    · simp [Instr.mapUpdate, run_underlying ht, MapKept.run_getObj_map hb, hck, run_findKey_eq hu, g2, MapKept.run_setObj_map _ hb, setObjW]
    · rw [g6, Array.toList_push, List.map_append, hes]
      simp [encL]
  · have hst := run_stays (P := P) (w := w) (k := k)
    have hj : es[j]? = some e := by simpa using g2
    have hlt : j < es.size := (Array.getElem?_eq_some_iff.1 hj).1
    refine ⟨es.modify j fun x => { x with key := keyV k, val := conv v }, clock, ?_, ?_⟩
    · simp [Instr.mapUpdate, run_underlying ht, MapKept.run_getObj_map hb, hck, run_findKey_eq hu, g4, hj, g3, hst, MapKept.run_setObj_map _ hb, setObjW]
    · rw [g6]
      apply List.ext_getElem?
      intro i
      have h0 : (es.toList.map fun e => (e.key, e.val))[i]? = (encL conv kvs)[i]? := by rw [hes]
      simp only [List.getElem?_map, encL, Array.getElem?_toList] at h0 ⊢
      by_cases hij : j = i
      · subst hij
        have hkl : j < kvs.length := by
          have := congrArg List.length hes
          simp [encL] at this
          omega
        rw [List.getElem?_set_self hkl]
        simp [Array.getElem?_modify, hj]
      · rw [List.getElem?_set_ne hij, ← h0]
        simp [Array.getElem?_modify, hij]
end

/-! #### the operations -/
/-- a map, wherever it lies -/
theorem map_at {w : World} {in_ : Nat → Prop} {x : AV} {cr : RC} {V : Value} {n : Nat} {m : MC} (hm : mapIn x (some cr) = some (n, m)) (hc : CompRow w in_ cr V) : ∃ b es clock, in_ b ∧ Blk V b ∧ w.heap[b]? = some (.map es clock) ∧ MapIs n es m ∧
    (∀ ρ v, ρ (hOf1 x) = V → x.rel ρ v → v = .map (some b)) := by
  unfold mapIn at hm
  split at hm
  · rename_i h n' m' heq
    simp only [Option.some.injEq, Prod.mk.injEq] at heq hm
    subst heq
    obtain ⟨rfl, rfl⟩ := hm
    obtain ⟨b, es, clock, rfl, h1, h2, h3⟩ := hc
    refine ⟨b, es, clock, h1, rfl, h2, h3, fun ρ v hv hr => ?_⟩
    have h4 : v = hdV (ρ h) := hr
    have h5 : ρ h = .map (some b) := hv
    rw [h4, h5]; rfl
  · rename_i h e k fs n' m' heq
    simp only [Option.some.injEq, Prod.mk.injEq] at heq hm
    subst heq
    obtain ⟨rfl, rfl⟩ := hm
    obtain ⟨g, A, b, es, clock, t, rfl, h1, h2, h3, h4, h5, h6⟩ := hc
    refine ⟨b, es, clock, h4, ⟨2, _, rfl, rfl⟩, h5, h6, fun ρ v hv hr => ?_⟩
    have h7 : v = seg (ρ h) 2 := hr
    have h8 : ρ h = _ := hv
    rw [h7, h8]; rfl
  · cases hm
theorem mapIn_hs {x : AV} {r : Option RC} {p : Nat × MC} (h : mapIn x r = some p) : hOf1 x ∈ x.hs := by
  unfold mapIn at h
  split at h
  · simp [hOf1, AV.hs, A0.hs]
  · simp [hOf1, AV.hs, A0.hs]
  · cases h
theorem mapIn_ci {x : AV} {e k n : Nat} {fs : List (List Int)} {m : MC} {p : Nat × MC} (h : mapIn x (some (.grp e k fs n m)) = some p) : ∃ h, x = .one (.ci h 1) := by
  cases x with
  | tup l => simp [mapIn] at h
  | one a0 =>
    cases a0 with
    | ci h' q =>
      match q, h with
      | 0, h => simp [mapIn] at h
      | 1, h => exact ⟨h', rfl⟩
      | q + 2, h => simp [mapIn] at h
    | _ => simp [mapIn] at h

theorem keyTI_spec {tab : Tab} {kt n : Nat} (h : keyTI (look kt tab) n = true) : ∃ fs by_, look kt tab = some ⟨.struct fs, n, by_⟩ ∧ flatB n fs = true := by
  unfold keyTI at h
  split at h
  · rename_i fs m by_ hl
    simp only [Bool.and_eq_true, beq_iff_eq] at h
    obtain ⟨rfl, h2⟩ := h
    exact ⟨fs, by_, hl, h2⟩
  · cases h

theorem good_lookup {tab : Tab} (hT : TabOk c.P tab) {t : Nat} {x y : Operand} {ok : Bool} {e : Eff} (hN : ∀ d, o.dst = some d → d < c.N) (hw : Wanted c ops o S) (hop : o.op = .lookup t x y ok)
    (he : effLookup tab t S (S.eval x) (S.eval y) ok = some e) (hR : ∀ h ∈ (S.eval x).hs, h ∈ R) : Good c ops o (den S) R e.val.norm (normWr e.wr) := by
  unfold effLookup at he
  split at he
  case h_2 => cases he
  rename_i n m k hm hy
  split at he
  case h_2 => cases he
  rename_i kt et sz by_ hti
  cases hb : (k.length == n && (keyTI (look kt tab) n && mcTI (look et tab) m)) with
  | false => rw [hb] at he; cases he
  | true =>
  rw [hb] at he
  simp only [cond_true, val1, Option.some.injEq] at he; subst he
  simp only [Bool.and_eq_true, beq_iff_eq] at hb
  obtain ⟨hk, hkt, het⟩ := hb
  obtain ⟨fs, by2, hlk, hfl⟩ := keyTI_spec hkt
  have ht := tiB_map (hT _ _ hti)
  cases hcr : compOf (look (hOf1 (S.eval x)) S.mem) with
  | none => rw [hcr] at hm; unfold mapIn at hm; split at hm <;> simp_all
  | some cr =>
  rw [hcr] at hm
  refine good_of hN hw fun S' ρ a w hag _ hs hd => ?_
  obtain ⟨in_, hc⟩ := comp_of hag hs (hR _ (mapIn_hs hm)) hcr
  obtain ⟨b, es, clock, _, _, hbk, ⟨hes, hkeys⟩, hval⟩ := map_at hm hc
  have hxv := hval ρ _ rfl (eval_rel hag hs (x := x) (by simp [hop, Op.operands]))
  have hyv : a.eval y = keyV k := by
    have := eval_rel hag hs (x := y) (by simp [hop, Op.operands])
    rw [hy] at this
    exact rel_s this
  have fin : ∀ {α : Type} (conv : α → Value) (z : α) (kvs : List (List Int × α)), (zeroValue et).run c.P w = .ok (conv z) w → es.toList.map (fun e => (e.key, e.val)) = encL conv kvs → (∀ p ∈ kvs, p.1.length = n) →
      (A0.rel ρ (m.get k) (conv (getL z k kvs))) → m.has k = hasL k kvs → ∃ v w' ρ', ((execOp a.eval o).run c.P w = .ok (.value v) w' ∨ ((execOp a.eval o).run c.P w = .ok .skip w' ∧ v = undef)) ∧ SatR c (S'.apply o.dst (lookV k m ok).norm (normWr [])) ρ' (a.put o.dst v).tmps w' := by
    intro α conv z kvs hz h1 h2 h3 h4
    have hrun := run_lookup_map (P := c.P) (w := w) (conv := conv) (ok := ok) ht (hT _ _ hlk) hfl hz hbk h1 h2 hk
    refine ⟨_, w, ρ, .inl (by simp only [execOp, hop, hxv, hyv]; rw [Sem.run_bind, hrun]; rfl), hs.val hd ((AV.rel_norm ρ _ _).2 ?_)⟩
    cases ok with
    | false => exact h3
    | true =>
      refine ⟨[conv (getL z k kvs), .bool (hasL k kvs)], rfl, rfl, fun j a0 hj => ?_⟩
      match j, hj with
      | 0, hj => simp at hj; subst hj; exact ⟨_, rfl, h3⟩
      | 1, hj => simp at hj; subst hj; exact ⟨_, rfl, by rw [h4]; rfl⟩
      | j + 2, hj => simp at hj
  cases m with
  | ints l =>
    unfold mcTI at het
    simp only at het
    split at het
    case h_2 => cases het
    rename_i hle
    obtain ⟨_, _, i, hi, _, _, hz⟩ := tiB_int (hT _ _ hle)
    exact fin vI 0 l (run_zero hi hz) hes (fun p hp => hkeys _ (List.mem_map.2 ⟨p, hp, rfl⟩)) rfl rfl
  | bools l =>
    unfold mcTI at het
    simp only at het
    split at het
    case h_2 => cases het
    rename_i hle
    obtain ⟨_, _, i, hi, _, _, hz⟩ := tiB_bool (hT _ _ hle)
    exact fin Value.bool false l (run_zero hi hz) hes (fun p hp => hkeys _ (List.mem_map.2 ⟨p, hp, rfl⟩)) rfl rfl

theorem good_nil {x : Operand} {e : Eff} (hN : ∀ d, o.dst = some d → d < c.N) (hw : Wanted c ops o S) (hop : o.op = .nilCheck x) (he : effNil S (S.eval x) = some e) (hR : ∀ h ∈ (S.eval x).hs, h ∈ R) : Good c ops o (den S) R e.val.norm (normWr e.wr) := by
  unfold effNil at he
  split at he
  case h_2 => cases he
  rename_i h hx
  split at he
  case h_2 => cases he
  rename_i _ _ _ _ _ hcr
  simp only [val1, Option.some.injEq] at he; subst he
  refine good_of hN hw fun S' ρ a w hag _ hs hd => ?_
  obtain ⟨in_, g, A, b, es, clock, t', hv, _, hg, _⟩ := comp_of hag hs (hR h (by rw [hx]; simp [AV.hs, A0.hs])) hcr
  have h1 := eval_rel hag hs (x := x) (by simp [hop, Op.operands])
  rw [hx] at h1
  have h2 : a.eval x = hdV (ρ h) := h1
  have h3 : a.eval x = .pointer (some ⟨g, 0, none⟩) := by rw [h2, hv]; rfl
  exact ⟨a.eval x, w, ρ, .inl (by simp [execOp, hop, h3]), hs.val hd h2⟩

theorem putL_keys {α : Type} (k : List Int) (v : α) (n : Nat) (hk : k.length = n) : ∀ l : List (List Int × α), (∀ p ∈ l, p.1.length = n) → ∀ p ∈ putL k v l, p.1.length = n
  | [], _, p, hp => by simp [putL] at hp; subst hp; exact hk
  | q :: l, h, p, hp => by
    unfold putL at hp
    cases hb : (q.1 == k) with
    | true =>
      rw [hb] at hp
      simp only [cond_true, List.mem_cons] at hp
      rcases hp with rfl | hp
      · exact hk
      · exact h p (by simp [hp])
    | false =>
      rw [hb] at hp
      simp only [cond_false, List.mem_cons] at hp
      rcases hp with rfl | hp
      · exact h _ (by simp)
      · exact putL_keys k v n hk l (fun q hq => h q (by simp [hq])) p hp
theorem good_update {tab : Tab} (hT : TabOk c.P tab) {t : Nat} {x y z : Operand} {e : Eff} (hN : ∀ d, o.dst = some d → d < c.N) (hw : Wanted c ops o S) (hop : o.op = .mapUpdate t x y z ∨ o.op = .insert t x y z)
    (he : effUpdate tab t S (S.eval x) (S.eval y) (S.eval z) = some e) (hR : ∀ h ∈ (S.eval x).hs, h ∈ R) : Good c ops o (den S) R e.val.norm (normWr e.wr) := by
  unfold effUpdate at he
  split at he
  case h_2 => cases he
  rename_i n m k a0 hm hy hz
  split at he
  case h_2 => cases he
  rename_i kt et sz by_ hti
  cases hb : (k.length == n && (keyTI (look kt tab) n && mcTI (look et tab) m)) with
  | false => rw [hb] at he; cases he
  | true =>
  rw [hb] at he
  simp only [cond_true] at he
  split at he
  case h_2 => cases he
  rename_i m' hput
  split at he
  case h_2 => cases he
  rename_i en' hback
  simp only [Option.some.injEq] at he; subst he
  simp only [Bool.and_eq_true, beq_iff_eq] at hb
  obtain ⟨hk, hkt, het⟩ := hb
  obtain ⟨fs, by2, hlk, hfl⟩ := keyTI_spec hkt
  have ht := tiB_map (hT _ _ hti)
  generalize hH : hOf1 (S.eval x) = H at *
  cases hcr : compOf (look H S.mem) with
  | none => rw [hcr] at hm; unfold mapIn at hm; split at hm <;> simp_all
  | some cr =>
  rw [hcr] at hm
  have hHR : H ∈ R := hR H (by rw [← hH]; exact mapIn_hs hm)
  refine good_of hN hw fun S' ρ a w hag _ hs hd => ?_
  have hyv : a.eval y = keyV k := by
    have := eval_rel hag hs (x := y) (by rcases hop with hop | hop <;> simp [hop, Op.operands])
    rw [hy] at this
    exact rel_s this
  have hzr : a0.rel ρ (a.eval z) := by
    have := eval_rel hag hs (x := z) (by rcases hop with hop | hop <;> simp [hop, Op.operands])
    rw [hz] at this
    exact this
  -- the entry is one's own
  obtain ⟨r0, hl0, hr0, hen'⟩ : ∃ r0, look H S.mem = some (.row r0) ∧ compOf (some (.row r0)) = some cr ∧ (mapBack (some (.row r0)) m' = some en') := by
    unfold mapBack at hback
    split at hback
    · rename_i n' m0 hl
      rw [hl] at hcr
      exact ⟨_, hl, hcr, by rw [← hback]; rfl⟩
    · rename_i hl
      rw [hl] at hcr
      exact ⟨_, hl, hcr, by rw [← hback]; rfl⟩
    · cases hback
  have hfl0 : r0.flat = false := by
    cases hf : r0.flat with
    | false => rfl
    | true => simp [compOf, hf] at hr0
  have hrc : r0 = cr := by simpa [compOf, hfl0] using hr0
  subst hrc
  have hmem : S'.mem H = some (.row r0) := mem_at hag hHR hl0
  have hown : CompRow w c.own r0 (ρ H) := (OwnsRow.comp hfl0).1 (hs.mem H _ hmem)
  obtain ⟨b, es, clock, hin, hblk, hbk, ⟨hes, hkeys⟩, hval⟩ := map_at hm hown
  have hxv := hval ρ (a.eval x) (by rw [hH]) (eval_rel hag hs (x := x) (by rcases hop with hop | hop <;> simp [hop, Op.operands]))
  have fin : ∀ {α : Type} (conv : α → Value) (z0 v0 : α) (kvs : List (List Int × α)), a.eval z = conv v0 → es.toList.map (fun e => (e.key, e.val)) = encL conv kvs → (∀ p ∈ kvs, p.1.length = n) → m'.cells = encL conv (putL k v0 kvs) → m'.keys = (putL k v0 kvs).map (·.1) →
      ∃ v w' ρ', ((execOp a.eval o).run c.P w = .ok (.value v) w' ∨ ((execOp a.eval o).run c.P w = .ok .skip w' ∧ v = undef)) ∧ SatR c (S'.apply o.dst (AV.norm (.one .bot)) (normWr [(H, some en')])) ρ' (a.put o.dst v).tmps w' := by
    intro α conv z0 v0 kvs hzv h1 h2 h3 h3k
    obtain ⟨es', clock', hrun, h4⟩ := run_update_map (P := c.P) (w := w) (conv := conv) (v := v0) z0 ht (hT _ _ hlk) hfl hbk h1 h2 hk
    have hmi : MapIs n es' m' := ⟨by rw [h3]; exact h4, fun q hq => by
      rw [h3k] at hq
      obtain ⟨p, hp, rfl⟩ := List.mem_map.1 hq
      exact putL_keys k v0 n hk kvs h2 p hp⟩
    have hnew : (setObjW w b (.map es' clock')).heap[b]? = some (.map es' clock') := setObjW_same hbk
    have hoth : ∀ k, k ≠ b → (setObjW w b (.map es' clock')).heap[k]? = w.heap[k]? := fun k hk => by
      have : b ≠ k := fun e => hk e.symm
      simp [setObjW, Array.getElem?_setIfInBounds_ne this]
    refine ⟨undef, setObjW w b (.map es' clock'), ρ, .inr ⟨by rcases hop with hop | hop <;> (simp only [execOp, hop, hxv, hyv, hzv]; rw [Sem.run_bind, hrun]; rfl), rfl⟩, ?_⟩
    have hholds : en'.norm.holds c (setObjW w b (.map es' clock')) ρ H ∧ en'.norm.isOwn = true := by
      unfold mapBack at hen'
      split at hen'
      · rename_i n' m0 heq
        simp only [Option.some.injEq, Entry.row.injEq] at heq hen'; subst heq; subst hen'
        refine ⟨(OwnsRow.comp rfl).2 ?_, rfl⟩
        obtain ⟨b', es0, cl0, hv, hin', hb', _⟩ := hown
        have hbb : b' = b := by
          rw [hv] at hblk
          simpa [Blk, blkOf] using hblk
        have hnn : n' = n := by
          unfold mapIn at hm
          split at hm <;> simp_all
        subst hbb; subst hnn
        exact ⟨b', es', clock', hv, hin', hnew, hmi⟩
      · rename_i e0 k0 fs0 n' m0 heq
        simp only [Option.some.injEq, Entry.row.injEq] at heq hen'; subst heq; subst hen'
        refine ⟨(OwnsRow.comp rfl).2 ?_, rfl⟩
        obtain ⟨g, A, b', es0, cl0, t0, hv, hg1, hg2, hg3, hin', hb', _⟩ := hown
        have hbb : b' = b := by
          have h8 := hval (fun _ => ρ H) (.map (some b')) rfl (by
            obtain ⟨h9, hx9⟩ := mapIn_ci hm
            rw [hx9]
            show _ = seg (ρ H) 2
            rw [hv]; rfl)
          simpa using h8
        have hnn : n' = n := by
          unfold mapIn at hm
          split at hm <;> simp_all
        subst hbb; subst hnn
        have hgb : g ≠ b' := by intro e; subst e; rw [hg2] at hb'; cases hb'
        refine ⟨g, A, b', es', clock', t0, hv, hg1, (hoth g hgb).trans hg2, hg3.chg fun q hq => hoth q fun e => ?_, hin', hnew, hmi⟩
        subst e
        rcases hg3.2.1.2 with ⟨hA, _⟩ | ⟨g', cap, cur, hA, _, hh, _⟩
        · rw [hA] at hq; simp [blkOf] at hq
        · rw [hA] at hq; simp [blkOf] at hq; subst hq; rw [hh] at hb'; cases hb'
      · cases hen'
    refine hs.step (D := fun k => k = b) hd (Chg.setObj w b _) (fun k hk => by subst hk; exact hin) (fun x hne => absurd rfl hne) (fun x hx => rfl) (fun y e'' hy ho' hnot k hk hkg => ?_) (fun y e'' hy => ?_) (fun y e'' hy ho' k hk => ⟨fun y2 e3 hy2 ho3 hnot => ?_, fun y2 e3 hy2 ho3 hne => ?_⟩) (by simp [AV.norm, A0.norm, AV.rel, A0.rel])
    · subst hkg
      have hne : y ≠ H := by simpa [wrHs, normWr] using hnot
      exact hs.sep y H e'' _ hy hmem ho' rfl hne _ hk hblk
    · by_cases hyd : H = y
      · subst hyd
        simp [normWr, look] at hy
        subst hy
        exact hholds.1
      · have : (H == y) = false := by simpa using hyd
        simp [normWr, look, this] at hy
    · by_cases hyd : H = y
      · subst hyd
        have hne : y2 ≠ H := by simpa [wrHs, normWr] using hnot
        intro hk'
        exact hs.sep y2 H e3 _ hy2 hmem ho3 rfl hne k hk' hk
      · have : (H == y) = false := by simpa using hyd
        simp [normWr, look, this] at hy
    · by_cases hyd : H = y
      · subst hyd
        have : (H == y2) = false := by simpa using fun e => hne e.symm
        simp [normWr, look, this] at hy2
      · have : (H == y) = false := by simpa using hyd
        simp [normWr, look, this] at hy
  cases m with
  | ints l =>
    cases a0 with
    | i v0 =>
      simp only [MC.put, Option.some.injEq] at hput; subst hput
      exact fin vI 0 v0 l hzr hes (fun p hp => hkeys _ (List.mem_map.2 ⟨p, hp, rfl⟩)) rfl rfl
    | _ => simp [MC.put] at hput
  | bools l =>
    cases a0 with
    | b v0 =>
      simp only [MC.put, Option.some.injEq] at hput; subst hput
      exact fin Value.bool false v0 l hzr hes (fun p hp => hkeys _ (List.mem_map.2 ⟨p, hp, rfl⟩)) rfl rfl
    | tt =>
      simp only [MC.put, Option.some.injEq] at hput; subst hput
      exact fin Value.bool false true l hzr hes (fun p hp => hkeys _ (List.mem_map.2 ⟨p, hp, rfl⟩)) rfl rfl
    | ff =>
      simp only [MC.put, Option.some.injEq] at hput; subst hput
      exact fin Value.bool false false l hzr hes (fun p hp => hkeys _ (List.mem_map.2 ⟨p, hp, rfl⟩)) rfl rfl
    | _ => simp [MC.put] at hput
end
end Go.Proofs.Ytacomnelongbjab
namespace Go.Proofs.Ytacomnelongbjab
open Go Go.RowKit

section
variable {c : Ctx} {ops : Array Oper} {o : Oper} {S : St} {R : List Nat}

theorem look_gather {cons : List Nat} {d y : Nat} {e e' : Entry} (h : look y (cons.map (fun x => (x, (none : Option Entry))) ++ [(d, some e)]) = some (some e')) : y = d ∧ e' = e := by
  induction cons with
  | nil =>
    simp only [List.map_nil, List.nil_append, look_one] at h
    by_cases hd : d = y
    · simp only [hd, if_true, Option.some.injEq] at h; exact ⟨hd.symm, h.symm⟩
    · simp [hd] at h
  | cons x l ih =>
    simp only [List.map_cons, List.cons_append, look] at h
    by_cases hx : x = y
    · simp [hx] at h
    · have : (x == y) = false := by simpa using hx
      rw [this] at h
      exact ih h
/-- Handles are gathered under a new one; a block may be new. -/
theorem SatR.gather {S : SS} {ρ : Nat → Value} {w w' : World} {a : Act} {d : Nat} {e : Entry} {cons : List Nat} {v u : Value} {val : AV} (h : SatR c S ρ a.tmps w) (hd : d < a.tmps.size) (hf : S.Fresh c d) (ch : Chg w w' (fun _ => False)) (hds : ∀ x ∈ cons, x ≠ d)
    (hcons : ∀ x ∈ cons, ∃ e, S.mem x = some e ∧ e.isOwn = true) (hb : ∀ k, Blk u k → w.heap.size ≤ k ∨ ∃ x ∈ cons, Blk (ρ x) k) (he : e.holds c w' (upd ρ d u) d) (hv : val.rel (upd ρ d u) v) :
    SatR c (S.apply (some d) val (cons.map (fun x => (x, none)) ++ [(d, some e)])) (upd ρ d u) (a.put (some d) v).tmps w' := by
  have hwr : ∀ x, x ∈ wrHs (cons.map (fun x => (x, (none : Option Entry))) ++ [(d, some e)]) ↔ x ∈ cons ∨ x = d := by
    intro x; simp [wrHs]
  refine h.step (fun x hx => by cases hx; exact hd) ch (fun _ hk => hk.elim) (fun x hne => ?_) (fun x hx => ?_) (fun _ _ _ _ _ _ _ hk => hk) (fun x e' hx => ?_) (fun x e' hx ho k hk => ⟨fun y e'' hy ho' hnot hk' => ?_, fun y e'' hy ho' hne => ?_⟩) hv
  · by_cases hx : x = d
    · subst hx; exact hf
    · exact absurd (upd_ne hx) hne
  · exact upd_ne fun e => hx ((hwr x).2 (.inr e))
  · obtain ⟨rfl, rfl⟩ := look_gather hx
    exact he
  · obtain ⟨rfl, rfl⟩ := look_gather hx
    rw [upd_same] at hk
    rcases hb k hk with h1 | ⟨z, hz, h1⟩
    · have := h.blk_lt hy ho' hk'; omega
    · obtain ⟨ez, hz1, hz2⟩ := hcons z hz
      have hyz : y ≠ z := fun e => hnot ((hwr y).2 (.inl (by rw [e]; exact hz)))
      exact h.sep y z e'' ez hy hz1 ho' hz2 hyz k hk' h1
  · obtain ⟨q1, _⟩ := look_gather hx
    obtain ⟨q2, _⟩ := look_gather hy
    exact absurd (q2.trans q1.symm) hne

theorem good_makeMap {tab : Tab} {t : Nat} {e : Eff} (hN : ∀ d, o.dst = some d → d < c.N) (hw : Wanted c ops o S) (hop : o.op = .makeMap t none) (he : effMakeMap tab t o.dst = some e) (hR : ∀ d, o.dst = some d → d ∉ R) : Good c ops o (den S) R e.val.norm (normWr e.wr) := by
  unfold effMakeMap at he
  split at he
  case h_2 => cases he
  rename_i d k et _ _ hd hti
  split at he
  case h_2 => cases he
  split at he
  case h_2 => cases he
  rename_i n _ _ m hm
  simp only [Option.some.injEq] at he; subst he
  refine good_of hN hw fun S' ρ a w hag hfr hs hdl => ?_
  have hrun : (execOp a.eval o).run c.P w = .ok (.value (.map (some w.heap.size))) (w.alloc (.map #[] 0)) := by
    simp [execOp, hop, Instr.makeMap]
  refine ⟨_, _, upd ρ d (.map (some w.heap.size)), .inl hrun, ?_⟩
  rw [hd]
  refine SatR.gather (cons := []) hs (hdl d hd) (hfr d (by simp [wrHs, normWr]) (hR d hd)) (Chg.alloc w _) (by simp) (by simp) (fun k hk => .inl ?_) ?_ ?_
  · have : some w.heap.size = some k := hk
    simp at this; omega
  · show OwnsRow _ _ _ (upd ρ d _ d)
    rw [upd_same]
    refine (OwnsRow.comp rfl).2 ⟨w.heap.size, #[], 0, rfl, .inl hs.frame.size, heap_alloc_new w _, ?_, ?_⟩
    · unfold emptyMC at hm
      split at hm <;> simp at hm <;> subst hm <;> rfl
    · unfold emptyMC at hm
      split at hm <;> simp at hm <;> subst hm <;> simp [MC.keys]
  · show _ = hdV (upd ρ d _ d)
    rw [upd_same]; rfl

/-- what a row's handle and a map's stand for -/
theorem row_map {S' : SS} {ρ : Nat → Value} {a : Act} {w : World} (hag : Agree ops o R (den S) S') (hs : SatR c S' ρ a.tmps w) {h1 h2 e k n : Nat} {fs : List (List Int)} {m : MC} (hm1 : look h1 S.mem = some (.row (.recs e k fs))) (hm2 : look h2 S.mem = some (.row (.mp n m))) (hR1 : h1 ∈ R) (hR2 : h2 ∈ R) :
    FlatRow w c.own (.recs e k fs) (ρ h1) ∧ CompRow w c.own (.mp n m) (ρ h2) ∧ S'.mem h1 = some (.row (.recs e k fs)) ∧ S'.mem h2 = some (.row (.mp n m)) := by
  have m1 := mem_at hag hR1 hm1
  have m2 := mem_at hag hR2 hm2
  exact ⟨(OwnsRow.flat rfl).1 (hs.mem h1 _ m1), (OwnsRow.comp rfl).1 (hs.mem h2 _ m2), m1, m2⟩

theorem good_buildTwo {tab : Tab} (hT : TabOk c.P tab) {t : Nat} {ps : Array (Nat × Operand)} {e : Eff} {ft gt sz by_ : Nat} (hN : ∀ d, o.dst = some d → d < c.N) (hw : Wanted c ops o S) (hop : o.op = .build t ps) (hti : look t tab = some ⟨.two ft gt, sz, by_⟩)
    (he : buildTwo S (ps.toList.map fun p => (p.1, S.eval p.2)) = some e) (hR : ∀ p ∈ ps.toList, ∀ h ∈ (S.eval p.2).hs, h ∈ R) : Good c ops o (den S) R e.val.norm (normWr e.wr) := by
  unfold buildTwo at he
  split at he
  case h_2 => cases he
  rename_i h1 h2 hps
  split at he
  case h_2 => cases he
  rename_i e0 k0 fs0 n0 m0 hm1 hm2
  simp only [val1, Option.some.injEq] at he; subst he
  obtain ⟨x, y, hpl, hx, hy⟩ : ∃ x y, ps.toList = [(0, x), (1, y)] ∧ S.eval x = .one (.row h1) ∧ S.eval y = .one (.co h2) := by
    match hl : ps.toList, hps with
    | [p, q], hps =>
      simp only [List.map_cons, List.map_nil, List.cons.injEq, Prod.mk.injEq, and_true] at hps
      obtain ⟨⟨a1, a2⟩, a3, a4⟩ := hps
      exact ⟨p.2, q.2, by rw [← a1, ← a3], a2, a4⟩
    | [], hps => simp at hps
    | [_], hps => simp at hps
    | _ :: _ :: _ :: _, hps => simp at hps
  have hpa : ps = #[(0, x), (1, y)] := by apply Array.ext'; simpa using hpl
  subst hpa
  obtain ⟨F, i, cs, hu, hi, his, hz, hzs, hF⟩ := tiB_two (hT _ _ hti)
  obtain ⟨fa, fb, hFF, o1, o2, t1, t2, ⟨i1, hi1, hs1⟩, ⟨i2, hi2, hs2⟩⟩ := twoB_spec hF
  have hFa : F = #[fa, fb] := by apply Array.ext'; simpa using hFF
  refine good_of hN hw fun S' ρ a w hag _ hs hd => ?_
  obtain ⟨f1, f2, _, _⟩ := row_map hag hs hm1 hm2 (hR (0, x) (by simp) h1 (by rw [hx]; simp [AV.hs, A0.hs])) (hR (1, y) (by simp) h2 (by rw [hy]; simp [AV.hs, A0.hs]))
  obtain ⟨_, A, n, cap, hA, _⟩ := f1.at
  obtain ⟨b, es, clock, hv2, _⟩ := f2
  have hxv : a.eval x = .slice A n cap := by
    have := eval_rel hag hs (x := x) (by simp [hop, Op.operands])
    rw [hx] at this
    exact Eq.trans (show a.eval x = ρ h1 from this) hA
  have hyv : a.eval y = .map (some b) := by
    have := eval_rel hag hs (x := y) (by simp [hop, Op.operands])
    rw [hy] at this
    have h3 : a.eval y = hdV (ρ h2) := this
    rw [h3, hv2]; rfl
  obtain ⟨z0, z1, hcs⟩ : ∃ z0 z1, cs = #[z0, z1] := by
    match hl : cs.toList with
    | [z0, z1] => exact ⟨z0, z1, by apply Array.ext'; simpa using hl⟩
    | [] => have := congrArg List.length hl; simp [hzs] at this
    | [_] => have := congrArg List.length hl; simp [hzs] at this
    | _ :: _ :: _ :: _ => have := congrArg List.length hl; simp [hzs] at this
  refine ⟨.agg #[a.eval x, a.eval y], w, ρ, .inl ?_, hs.val hd ?_⟩
  · subst hcs
    rw [hxv, hyv]
    have hmap : (F.mapM fun f => do pure (f.offset, ← sizeOf f.type) : Sem (Array (Nat × Nat))).run c.P w = .ok #[(0, 1), (1, 1)] w := by
      rw [hFa, Array.mapM_eq_mapM_toList]
      simp [List.mapM_cons, o1, o2, t1, t2, run_size hi1, run_size hi2, hs1, hs2]
    simp only [execOp, hop, Instr.build, Sem.run_bind, run_zero hi hz, Result.andThen_ok, run_underlying hu, hmap]
    simp [Instr.fill, Value.cells, hxv, hyv]
  · show _ = Value.agg #[ρ h1, hdV (ρ h2)]
    rw [hxv, hyv, hA, hv2]; rfl

theorem good_boxPair {t d h1 h2 : Nat} {x : Operand} {e : Eff} (hN : ∀ d, o.dst = some d → d < c.N) (hw : Wanted c ops o S) (hop : o.op = .box t x) (hd : o.dst = some d) (hx : S.eval x = .one (.ag h1 h2)) (he : boxPair S d h1 h2 = some e) (hR : ∀ h ∈ (S.eval x).hs, h ∈ R) (hRe : R = (S.eval x).hs) : Good c ops o (den S) R e.val.norm (normWr e.wr) := by
  unfold boxPair at he
  split at he
  case h_2 => cases he
  rename_i e0 k0 fs0 hm1
  split at he
  case h_2 => cases he
  rename_i n0 m0 hm2
  cases hb : (d == h1 || (d == h2 || h1 == h2)) with
  | true => rw [hb] at he; cases he
  | false =>
  rw [hb] at he
  simp only [cond_false, Option.some.injEq] at he; subst he
  simp only [Bool.or_eq_false_iff, beq_eq_false_iff_ne, ne_eq] at hb
  obtain ⟨b1, b2, b3⟩ := hb
  refine good_of hN hw fun S' ρ a w hag hfr hs hdl => ?_
  obtain ⟨f1, f2, m1, m2⟩ := row_map hag hs hm1 hm2 (hR h1 (by rw [hx]; simp [AV.hs, A0.hs])) (hR h2 (by rw [hx]; simp [AV.hs, A0.hs]))
  obtain ⟨_, A, n, cap, hA, _⟩ := f1.at
  obtain ⟨b, es, clock, hv2, hin, hbk, hmi⟩ := f2
  have hxv : a.eval x = .agg #[ρ h1, .map (some b)] := by
    have := eval_rel hag hs (x := x) (by simp [hop, Op.operands])
    rw [hx] at this
    have h3 : a.eval x = .agg #[ρ h1, hdV (ρ h2)] := this
    rw [h3, hv2]; rfl
  have hfd : S'.Fresh c d := hfr d (by simp [wrHs, normWr]) (by rw [hRe, hx]; simp [AV.hs, A0.hs]; exact ⟨b1, b2⟩)
  have ch := Chg.alloc w (.cells #[ρ h1, .map (some b)] t)
  refine ⟨.pointer (some ⟨w.heap.size, 0, none⟩), w.alloc (.cells #[ρ h1, .map (some b)] t), upd ρ d (.tuple #[.pointer (some ⟨w.heap.size, 0, none⟩), ρ h1, .map (some b)]), .inl (by simp [execOp, hop, hxv, run_box, Value.cells]), ?_⟩
  rw [hd]
  refine SatR.gather (cons := [h1, h2]) hs (hdl d hd) hfd ch (by intro y hy; simp at hy; rcases hy with rfl | rfl <;> first | exact (fun e => b1 e.symm) | exact (fun e => b2 e.symm)) (by intro y hy; simp at hy; rcases hy with rfl | rfl <;> first | exact ⟨_, m1, rfl⟩ | exact ⟨_, m2, rfl⟩) (fun k hk => ?_) ?_ ?_
  · obtain ⟨j, v, hv, hb⟩ := hk
    match j, hv with
    | 0, hv => simp at hv; subst hv; simp [blkOf] at hb; exact .inl (by omega)
    | 1, hv => simp at hv; subst hv; exact .inr ⟨h1, by simp, f1.thin.2 hb⟩
    | 2, hv => simp at hv; subst hv; exact .inr ⟨h2, by simp, by rw [hv2]; exact hb⟩
    | j + 3, hv => simp at hv
  · show OwnsRow _ _ _ (upd ρ d _ d)
    rw [upd_same]
    refine (OwnsRow.comp rfl).2 ⟨w.heap.size, ρ h1, b, es, clock, t, rfl, .inl hs.frame.size, heap_alloc_new w _, f1.chg fun k hk => ch.block k (f1.blk hk).2 (fun h => h), hin, (ch.block b (heap_lt hbk) fun h => h).trans hbk, hmi⟩
  · show _ = hdV (upd ρ d _ d)
    rw [upd_same]; rfl

theorem range0 : Array.range 0 = #[] := by apply Array.ext'; simp
theorem range1 : Array.range 1 = #[0] := by apply Array.ext'; simp [List.range_succ]
theorem good_buildRows {tab : Tab} (hT : TabOk c.P tab) {t el f n d : Nat} {ps : Array (Nat × Operand)} {e : Eff} {sz by_ sz2 by2 : Nat} (hN : ∀ d, o.dst = some d → d < c.N) (hw : Wanted c ops o S) (hop : o.op = .buildSlice t n ps) (hd : o.dst = some d) (hti : look t tab = some ⟨.slice el, sz, by_⟩) (hle : look el tab = some ⟨.slice f, sz2, by2⟩)
    (he : buildRows S d el f n (ps.toList.map fun p => (p.1, S.eval p.2)) = some e) (hR : R = ps.toList.flatMap fun p => (S.eval p.2).hs) : Good c ops o (den S) R e.val.norm (normWr e.wr) := by
  have hu := tiB_slice (hT _ _ hti)
  obtain ⟨i, _, hi, his, _, _, hz, _⟩ := tiB_slice2 (hT _ _ hle)
  unfold buildRows at he
  split at he
  · rename_i hps
    cases hb : n == 0 with
    | false => rw [hb] at he; cases he
    | true =>
    rw [hb] at he
    simp only [cond_true, Option.some.injEq] at he; subst he
    have hn : n = 0 := by simpa using hb
    subst hn
    have hpl : ps = #[] := by
      apply Array.ext'
      simpa using hps
    subst hpl
    refine good_of hN hw fun S' ρ a w hag hfr hs hdl => ?_
    have hfd : S'.Fresh c d := hfr d (by simp [wrHs, normWr]) (by rw [hR]; simp)
    have ch := Chg.alloc w (.cells #[] el)
    have hrun : (execOp a.eval o).run c.P w = .ok (.value (.slice (some ⟨w.heap.size, 0, none⟩) 0 0)) (w.alloc (.cells #[] el)) := by
      simp [execOp, hop, Instr.buildSlice, run_underlying hu, run_size hi, Instr.fill, newRow, range0]
    refine ⟨_, _, upd ρ d (.tuple (.slice (some ⟨w.heap.size, 0, none⟩) 0 0 :: []).toArray), .inl hrun, ?_⟩
    rw [hd]
    refine SatR.gather (cons := []) hs (hdl d hd) hfd ch (by simp) (by simp) (fun k hk => ?_) ?_ ?_
    · obtain ⟨j, v, hv, hb⟩ := Blk.tuple.1 hk
      cases j with
      | zero => simp at hv; subst hv; simp [blkOf] at hb; exact .inl (by omega)
      | succ j => simp at hv
    · show OwnsRow _ _ _ (upd ρ d _ d)
      rw [upd_same]
      refine (OwnsRow.comp rfl).2 ⟨_, [], rfl, rfl, ⟨rfl, .inr ⟨w.heap.size, 0, #[], rfl, Nat.zero_le _, heap_alloc_new w _, Nat.le_refl _, Nat.zero_le _, rfl, rfl⟩⟩, fun k hk => ?_, by simp, by simp, by simp⟩
      simp [blkOf] at hk; subst hk; exact .inl hs.frame.size
    · show _ = hdV (upd ρ d _ d)
      rw [upd_same]; rfl
  · rename_i h hps
    split at he
    case h_2 => cases he
    rename_i f' l hm
    cases hb : (n == 1 && (f == f' && !(d == h))) with
    | false => rw [hb] at he; cases he
    | true =>
    rw [hb] at he
    simp only [cond_true, Option.some.injEq] at he; subst he
    simp only [Bool.and_eq_true, beq_iff_eq, Bool.not_eq_true', beq_eq_false_iff_ne, ne_eq] at hb
    obtain ⟨rfl, rfl, hdh⟩ := hb
    obtain ⟨x, hpl, hx⟩ : ∃ x, ps.toList = [(0, x)] ∧ S.eval x = .one (.row h) := by
      match hl : ps.toList, hps with
      | [p], hps =>
        simp only [List.map_cons, List.map_nil, List.cons.injEq, Prod.mk.injEq, and_true] at hps
        obtain ⟨a1, a2⟩ := hps
        exact ⟨p.2, by rw [← a1], a2⟩
      | [], hps => simp at hps
      | _ :: _ :: _, hps => simp at hps
    have hpa : ps = #[(0, x)] := by apply Array.ext'; simpa using hpl
    subst hpa
    have hRR : R = [h] := by rw [hR]; simp [hx, AV.hs, A0.hs]
    refine good_of hN hw fun S' ρ a w hag hfr hs hdl => ?_
    have m1 : S'.mem h = some (.row (.ints f l)) := mem_at hag (by rw [hRR]; simp) hm
    have f1 : FlatRow w c.own (.ints f l) (ρ h) := (OwnsRow.flat rfl).1 (hs.mem h _ m1)
    obtain ⟨_, A, k, cap, hA, _⟩ := f1.at
    have hxv : a.eval x = ρ h := by
      have := eval_rel hag hs (x := x) (by simp [hop, Op.operands])
      rw [hx] at this
      exact this
    have hfd : S'.Fresh c d := hfr d (by simp [wrHs, normWr]) (by rw [hRR]; simpa using hdh)
    have ch := Chg.alloc w (.cells #[ρ h] el)
    have hrun : (execOp a.eval o).run c.P w = .ok (.value (.slice (some ⟨w.heap.size, 0, none⟩) 1 1)) (w.alloc (.cells #[ρ h] el)) := by
      simp [execOp, hop, Instr.buildSlice, run_underlying hu, run_size hi, his, run_zero hi hz, Instr.fill, newRow, hxv, hA, Value.cells, range1]
    refine ⟨_, _, upd ρ d (.tuple (.slice (some ⟨w.heap.size, 0, none⟩) 1 1 :: [ρ h]).toArray), .inl hrun, ?_⟩
    rw [hd]
    refine SatR.gather (cons := [h]) hs (hdl d hd) hfd ch (by intro y hy; simp at hy; subst hy; exact fun e => hdh e.symm) (by intro y hy; simp at hy; subst hy; exact ⟨_, m1, rfl⟩) (fun k hk => ?_) ?_ ?_
    · obtain ⟨j, v, hv, hb⟩ := Blk.tuple.1 hk
      match j, hv with
      | 0, hv => simp at hv; subst hv; simp [blkOf] at hb; exact .inl (by omega)
      | 1, hv => simp at hv; subst hv; exact .inr ⟨h, by simp, f1.thin.2 hb⟩
      | j + 2, hv => simp at hv
    · show OwnsRow _ _ _ (upd ρ d _ d)
      rw [upd_same]
      refine (OwnsRow.comp rfl).2 ⟨_, [ρ h], rfl, rfl, ⟨rfl, .inr ⟨w.heap.size, 1, #[ρ h], rfl, Nat.zero_le _, heap_alloc_new w _, Nat.le_refl _, by unfold maxLen; omega, rfl, rfl⟩⟩, fun k hk => ?_, fun j l' hj => ?_, fun i j I J hij hI hJ => ?_, fun j I hI k hk hk2 => ?_⟩
      · simp [blkOf] at hk; subst hk; exact .inl hs.frame.size
      · match j, hj with
        | 0, hj => simp at hj; subst hj; exact ⟨ρ h, rfl, f1.chg fun k hk => ch.block k (f1.blk hk).2 (fun h => h)⟩
        | j + 1, hj => simp at hj
      · match i, j, hI, hJ with
        | 0, 0, _, _ => exact absurd rfl hij
        | 0, j + 1, _, hJ => simp at hJ
        | i + 1, _, hI, _ => simp at hI
      · match j, hI with
        | 0, hI =>
          simp at hI; subst hI
          simp [blkOf] at hk2
          have := (f1.blk hk).2
          omega
        | j + 1, hI => simp at hI
    · show _ = hdV (upd ρ d _ d)
      rw [upd_same]; rfl
  · cases he
/-- A row within a handle of several values is handed to a function and comes back with other elements. -/
theorem good_callPart {spec : Spec} (hspec : SpecOk c.P spec) {f : Nat} {args : Array Operand} {ts : Array Nat} (hN : ∀ d, o.dst = some d → d < c.N) (hw : Wanted c ops o S) {fx : Operand} (hop : o.op = .call ⟨.value fx, args, ts⟩) (hfx : S.eval fx = .one (.fn f))
    {h p : Nat} {rest : List AV} (hargs0 : args.toList.map S.eval = .one (.ci h p) :: rest) {ce : CEff} (hce : spec f ((args.toList.map S.eval).map (argOf S)) = some ce)
    {f0 : Nat} {l' L : List Int} {a0 : A0} {cr cr' : RC} (houts : ce.outs = [(0, some (.ints f0 l'))]) (hres : ce.res = .one a0) (hm : look h S.mem = some (.row cr)) (hcf : cr.flat = false) (hcf' : cr'.flat = false) (hin0 : innerOf (some cr) p = some (.ints f0 L)) (hpa : plainA a0 = true) (hpl : (rest.map (argOf S)).all plainA = true) (hpre : ce.pre)
    (hpart : ∀ (w : World) (V : Value), CompRow w c.own cr V → ∃ I, seg V (p + 1) = I ∧ (∀ k, blkOf I = some k → Blk V k) ∧ FlatRow w c.own (.ints f0 L) I ∧ ∀ w', (∀ k, k < w.heap.size → blkOf I ≠ some k → w'.heap[k]? = w.heap[k]?) → FlatRow w' c.own (.ints f0 l') I → CompRow w' c.own cr' V) :
    Good c ops o (den S) ((args.toList.map S.eval).flatMap AV.hs) (AV.one a0).norm (normWr [(h, some (.row cr'))]) := by
  obtain ⟨hfn, fn, hfs, hbody, hname⟩ := hspec f _ ce hce
  have hR : h ∈ (args.toList.map S.eval).flatMap AV.hs := by rw [hargs0]; simp [AV.hs, A0.hs]
  refine good_call_of hN hw fun S' ρ a w hag hfr hs hdl => ?_
  have hin : ∀ z ∈ args.toList, z ∈ o.op.operands.toList := fun z hz => by simp [hop, Op.operands, Call.operands]; right; simpa using hz
  have m1 : S'.mem h = some (.row cr) := mem_at hag hR hm
  obtain ⟨I, hseg, hIb, hf, hback⟩ := hpart w (ρ h) ((OwnsRow.comp hcf).1 (hs.mem h _ m1))
  obtain ⟨z0, zs, hzs, hz0, hzr⟩ : ∃ z0 zs, args.toList = z0 :: zs ∧ S.eval z0 = .one (.ci h p) ∧ zs.map S.eval = rest := by
    cases hl : args.toList with
    | nil => rw [hl] at hargs0; simp at hargs0
    | cons z0 zs =>
      rw [hl] at hargs0
      simp only [List.map_cons, List.cons.injEq] at hargs0
      exact ⟨z0, zs, rfl, hargs0.1, hargs0.2⟩
  have hIv : a.eval z0 = I := by
    have := eval_rel hag hs (hin z0 (by rw [hzs]; simp))
    rw [hz0] at this
    have h2 : a.eval z0 = seg (ρ h) (p + 1) := this
    rw [h2, hseg]
  -- the other arguments are plain
  have hplain : ∀ z ∈ zs, plainA (argOf S (S.eval z)) = true ∧ a.eval z = (argOf S (S.eval z)).conc noρ ∧ hdV (a.eval z) = a.eval z := by
    intro z hz
    have h1 : plainA (argOf S (S.eval z)) = true := by
      refine List.all_eq_true.1 hpl _ ?_
      rw [← hzr, List.map_map]
      exact List.mem_map.2 ⟨z, hz, rfl⟩
    have hok : argOk (argOf S (S.eval z)) = true := by
      unfold plainA at h1
      split at h1 <;> first | (rename_i heq; rw [heq]; rfl) | cases h1
    refine ⟨h1, ?_⟩
    rcases argOf_rel hok (eval_rel hag hs (hin z (by rw [hzs]; simp [hz]))) with ⟨r, hra, _⟩ | ⟨_, h3, _, h4⟩ | ⟨_, _, _, _, hra⟩
    · rw [hra] at h1; simp [plainA] at h1
    · exact ⟨h3, h4⟩
    · rw [hra] at h1; simp [plainA] at h1
  have hbI : Blk I = fun k => blkOf I = some k := by
    funext k
    exact propext hf.thin
  have hob : ∀ k, OutBlk ce.outs (args.toList.map a.eval) k ↔ blkOf I = some k := by
    intro k
    rw [houts]
    constructor
    · rintro ⟨q, hq, v, hv', hk⟩
      simp at hq; subst hq
      rw [hzs] at hv'
      simp at hv'; subst hv'
      rw [hIv, hbI] at hk
      exact hk
    · intro hk
      exact ⟨(0, some (.ints f0 l')), by simp, I, by rw [hzs]; simp [hIv], by rw [hbI]; exact hk⟩
  have hown : ∀ k, OutBlk ce.outs (args.toList.map a.eval) k → c.own k := fun k hk => hf.2.2 k ((hob k).1 hk)
  have hargs : ArgsOk w ce.outs ((args.toList.map S.eval).map (argOf S)) (args.toList.map a.eval) := by
    refine ⟨by simp, fun j b hb => ?_, fun q hq q' hq' hne => ?_, fun q hq => ?_⟩
    · cases j with
      | zero =>
        rw [hzs] at hb ⊢
        simp only [List.map_cons, List.getElem?_cons_zero, Option.some.injEq] at hb ⊢
        subst hb
        refine ⟨_, rfl, ?_⟩
        rw [hz0, houts, hIv]
        simp only [argOf, compOf, hm, hcf, cond_false, hin0]
        unfold ArgRel
        simp only
        rw [if_pos (by simp)]
        exact (OwnsRow.flat rfl).2 (hf.mono fun k hk _ _ => hk)
      | succ j =>
        rw [hzs] at hb ⊢
        simp only [List.map_cons, List.getElem?_cons_succ] at hb ⊢
        simp only [List.getElem?_map, Option.map_eq_some_iff] at hb
        obtain ⟨x, ⟨z, hz, rfl⟩, rfl⟩ := hb
        obtain ⟨h1, h2, _⟩ := hplain z (List.mem_of_getElem? hz)
        refine ⟨a.eval z, by simp [hz], ?_⟩
        rw [h2]
        unfold plainA at h1
        unfold ArgRel
        split
        · rename_i r hr'; rw [hr'] at h1; simp at h1
        · rename_i l hr'; rw [hr'] at h1; simp at h1
        · refine ⟨?_, rfl⟩
          split at h1 <;> first | (rename_i heq; rw [heq]; rfl) | cases h1
    · rw [houts] at hq hq'
      simp at hq hq'
      subst hq; subst hq'
      exact absurd rfl hne
    · rw [houts] at hq
      simp at hq
      subst hq
      refine ⟨.ints f0 L, ?_⟩
      rw [hargs0]
      simp [argOf, compOf, hm, hcf, hin0]
  have hheads : (args.toList.map a.eval).map hdV = args.toList.map a.eval := by
    rw [hzs]
    simp only [List.map_cons, List.map_map, List.cons.injEq]
    refine ⟨by rw [hIv]; exact flat_thin hf, List.map_congr_left fun z hz => (hplain z hz).2.2⟩
  have hrun : (execOp a.eval o).run c.P w = .ok (.enter f (args.toList.map a.eval).toArray) w := by
    have hb : fn.body ≠ none := fun e => by rw [e] at hbody; cases hbody
    have hn : fn.name ≠ "runtime.NumGoroutine" := fun e => by rw [e] at hname; simp at hname
    have hfe : (S.eval fx).rel ρ (a.eval fx) := eval_rel hag hs (by simp [hop, Op.operands, Call.operands])
    rw [hfx] at hfe
    have hev : a.eval fx = .func (.func f) #[] #[] := hfe
    simp [execOp, hop, resolve, hev, Deferred.ofValue, invoke, callFunc, hfs, hn, hb]
    rw [← Array.toList_map]
  rw [← hheads] at hrun
  refine ⟨f, _, hrun, (hfn.go hpre w _ hargs).mono fun e' w' ⟨v, hev, hret⟩ => ⟨v, hev, ρ, ?_⟩⟩
  obtain ⟨us, hus1, hus2, hus3, _⟩ := hret.res
  obtain ⟨u0, hu0, hown0⟩ := hret.outs (0, some (.ints f0 l')) (by rw [houts]; simp) _ rfl
  have hu0' : u0 = I := by
    rw [hzs] at hu0
    simp at hu0
    rw [← hu0, hIv]
  subst hu0'
  have hnewI : FlatRow w' c.own (.ints f0 l') u0 := by
    refine ((OwnsRow.flat rfl).1 hown0).mono fun k _ _ hk => ?_
    rcases hk with hk | hk
    · exact .inl (Nat.le_trans hs.frame.size hk)
    · exact hown k hk
  have hnew : CompRow w' c.own cr' (ρ h) := hback w' (fun k hk hne => hret.chg.block k hk fun hX => hne ((hob k).1 hX)) hnewI
  refine hs.step (D := OutBlk ce.outs (args.toList.map a.eval)) hdl hret.chg hown (fun x hne => absurd rfl hne) (fun x hx => rfl) (fun y en hy ho hnot k hk hX => ?_) (fun y e1 hy => ?_) (fun y e1 hy ho k hk => ⟨fun y2 e2 hy2 ho2 hnot hk2 => ?_, fun y2 e2 hy2 ho2 hne => ?_⟩) ?_
  · have hne : y ≠ h := by simpa [wrHs, normWr] using hnot
    exact hs.sep y h en _ hy m1 ho rfl hne k hk (hIb k ((hob k).1 hX))
  · by_cases hyd : h = y
    · subst hyd
      simp [normWr, look] at hy
      subst hy
      exact (OwnsRow.comp hcf').2 hnew
    · have : (h == y) = false := by simpa using hyd
      simp [normWr, look, this] at hy
  · by_cases hyd : h = y
    · subst hyd
      have hne : y2 ≠ h := by simpa [wrHs, normWr] using hnot
      exact hs.sep y2 h e2 _ hy2 m1 ho2 rfl hne k hk2 hk
    · have : (h == y) = false := by simpa using hyd
      simp [normWr, look, this] at hy
  · by_cases hyd : h = y
    · subst hyd
      have : (h == y2) = false := by simpa using fun e => hne e.symm
      simp [normWr, look, this] at hy2
    · have : (h == y) = false := by simpa using hyd
      simp [normWr, look, this] at hy
  · rw [hres] at hus1 hus2 hus3
    simp only at hus1
    obtain ⟨u, rfl, rfl⟩ := hus1
    obtain ⟨u', hu', hru⟩ := hus3 0 a0 rfl
    simp only [List.getElem?_cons_zero, Option.some.injEq] at hu'
    subst hu'
    show (AV.one a0).norm.rel ρ (hdV u)
    refine (AV.rel_norm ρ _ _).2 ?_
    unfold plainA at hpa
    split at hpa
    · rw [hru.2]; rfl
    · rw [hru.2]; rfl
    · cases hpa
/-- A row within a row of rows, or within a struct. -/
theorem good_callIn {spec : Spec} (hspec : SpecOk c.P spec) {f : Nat} {args : Array Operand} {ts : Array Nat} {e : Eff} (hN : ∀ d, o.dst = some d → d < c.N) (hw : Wanted c ops o S) {fx : Operand} (hop : o.op = .call ⟨.value fx, args, ts⟩) (hfx : S.eval fx = .one (.fn f))
    {h p : Nat} {rest : List AV} (hargs0 : args.toList.map S.eval = .one (.ci h p) :: rest) {ce : CEff} (hce : spec f ((args.toList.map S.eval).map (argOf S)) = some ce) (he : callIn S h p rest ce = some e) (hp : e.pre) (_ : ((args.toList.map S.eval).map (argOf S)).all argOk = true) :
    Good c ops o (den S) ((args.toList.map S.eval).flatMap AV.hs) e.val.norm (normWr e.wr) := by
  unfold callIn at he
  split at he
  · rename_i f' l' a0 e0 f0 ll houts hres hm
    cases hb : (plainA a0 && (f0 == f' && (rest.map (argOf S)).all plainA)) with
    | false => rw [hb] at he; cases he
    | true =>
    rw [hb] at he
    simp only [cond_true, Option.some.injEq] at he; subst he
    simp only [Bool.and_eq_true, beq_iff_eq] at hb
    obtain ⟨hpa, rfl, hpl⟩ := hb
    obtain ⟨hpre, hpl2⟩ : ce.pre ∧ p < ll.length := hp
    refine good_callPart hspec hN hw hop hfx hargs0 hce houts hres hm rfl rfl rfl hpa hpl hpre fun w V hc => ?_
    obtain ⟨O, Is, rfl, hr⟩ := hc
    obtain ⟨I, hI, hf⟩ := hr.inner p (ll.getD p []) (by simp [hpl2])
    refine ⟨I, ?_, fun k hk => Blk.of_tuple (j := p + 1) (by simpa using hI) hk, hf, fun w' hk hl => ⟨O, Is, rfl, hr.set hI hk hl⟩⟩
    have hlt := (List.getElem?_eq_some_iff.1 hI).1
    have heq := (List.getElem?_eq_some_iff.1 hI).2
    simp [seg, hlt, heq]
  · rename_i f' l' a0 f0 n ll houts hres hm
    cases hb : ((plainA a0 && p == 0) && (f0 == f' && (rest.map (argOf S)).all plainA)) with
    | false => rw [hb] at he; cases he
    | true =>
    rw [hb] at he
    simp only [cond_true, Option.some.injEq] at he; subst he
    simp only [Bool.and_eq_true, beq_iff_eq] at hb
    obtain ⟨⟨hpa, rfl⟩, rfl, hpl⟩ := hb
    refine good_callPart hspec hN hw hop hfx hargs0 hce houts hres hm rfl rfl rfl hpa hpl hp fun w V hc => ?_
    obtain ⟨A, rfl, hr⟩ := hc
    exact ⟨A, rfl, fun k hk => ⟨1, A, rfl, hk⟩, hr, fun w' _ hl => ⟨A, rfl, hl⟩⟩
  · cases he

/-- ALL CALLS. -/
theorem good_call {spec : Spec} (hspec : SpecOk c.P spec) {f : Nat} {args : Array Operand} {ts : Array Nat} {e : Eff} (hN : ∀ d, o.dst = some d → d < c.N) (hw : Wanted c ops o S) {fx : Operand} (hop : o.op = .call ⟨.value fx, args, ts⟩) (hfx : S.eval fx = .one (.fn f))
    (he : effCall spec S o.dst f (args.toList.map S.eval) = some e) (hp : e.pre) : Good c ops o (den S) ((args.toList.map S.eval).flatMap AV.hs) e.val.norm (normWr e.wr) := by
  by_cases hnin : ∃ h p rest, args.toList.map S.eval = .one (.ci h p) :: rest ∧ ∃ ce, spec f ((args.toList.map S.eval).map (argOf S)) = some ce ∧ outsEmpty ce.outs = false
  · obtain ⟨h, p, rest, h1, ce, h2, h3⟩ := hnin
    unfold effCall at he
    split at he
    case h_2 => cases he
    cases hall : ((args.toList.map S.eval).map (argOf S)).all argOk with
    | false => rw [hall] at he; cases he
    | true =>
    rw [hall] at he
    simp only [cond_true, h2] at he
    have he' : callIn S h p rest ce = some e := by
      rw [h1] at he
      simp only [callGo, h3, cond_false] at he
      exact he
    exact good_callIn hspec hN hw hop hfx h1 h2 he' hp hall
  · exact good_callA hspec hN hw hop hfx he hp hnin
end
end Go.Proofs.Ytacomnelongbjab
namespace Go.Proofs.Ytacomnelongbjab
open Go Go.RowKit

section
variable {c : Ctx} {ops : Array Oper} {o : Oper} {S : St} {R : List Nat}

theorem word_at {S' : SS} {ρ : Nat → Value} {a : Act} {w : World} {h e : Nat} {n : Int} {l : List Int} (hag : Agree ops o R (den S) S') (hs : SatR c S' ρ a.tmps w) (hh : h ∈ R) (hr : compOf (look h S.mem) = some (.wd e n l)) : ∃ A in_, ρ h = .tuple #[.agg #[vI n, A], A] ∧ FlatRow w in_ (.ints e l) A := by
  obtain ⟨in_, A, hv, hA⟩ := comp_of hag hs hh hr
  exact ⟨A, in_, hv, hA⟩
theorem flat_slice {w : World} {in_ : Nat → Prop} {r : RC} {V : Value} (h : FlatRow w in_ r V) : V.cells = #[V] ∧ V.oneCell' = true ∧ hdV V = V := by
  obtain ⟨_, A, n, cap, hA, _⟩ := h.at
  subst hA
  exact ⟨rfl, rfl, rfl⟩
theorem look_two {d d2 y : Nat} {e1 e2 e : Entry} (h : look y [(d, some e1), (d2, some e2)] = some (some e)) : (y = d ∧ e = e1) ∨ (y = d2 ∧ e = e2) := by
  simp only [look] at h
  by_cases h1 : d = y
  · simp only [h1, beq_self_eq_true, cond_true, Option.some.injEq] at h
    exact .inl ⟨h1.symm, h.symm⟩
  · have h1' : (d == y) = false := by simpa using h1
    rw [h1'] at h
    simp only [cond_false] at h
    by_cases h2 : d2 = y
    · simp only [h2, beq_self_eq_true, cond_true, Option.some.injEq] at h
      exact .inr ⟨h2.symm, h.symm⟩
    · have h2' : (d2 == y) = false := by simpa using h2
      rw [h2'] at h
      cases h

theorem good_boxWord {t h : Nat} {x : Operand} {e : Eff} (hN : ∀ d, o.dst = some d → d < c.N) (hw : Wanted c ops o S) (hop : o.op = .box t x) (hx : S.eval x = .one (.co h)) (he : boxWord S t o.dst h = some e) (hR : R = [h]) : Good c ops o (den S) R e.val.norm (normWr e.wr) := by
  unfold boxWord at he
  split at he
  case h_2 => cases he
  rename_i d e0 n l hd hcr
  cases hb : d == h with
  | true => rw [hb] at he; cases he
  | false =>
  rw [hb] at he
  simp only [cond_false, Option.some.injEq] at he; subst he
  have hdh : d ≠ h := by simpa using hb
  refine good_of hN hw fun S' ρ a w hag hfr hs hdl => ?_
  obtain ⟨A, in_, hv, hA⟩ := word_at hag hs (by rw [hR]; simp) hcr
  have hxv : a.eval x = .agg #[vI n, A] := by
    have := eval_rel hag hs (x := x) (by simp [hop, Op.operands])
    rw [hx] at this
    have h1 : a.eval x = hdV (ρ h) := this
    rw [h1, hv]; rfl
  have hrun : (execOp a.eval o).run c.P w = .ok (.value (.pointer (some ⟨w.heap.size, 0, none⟩))) (w.alloc (.cells #[vI n, A] t)) := by
    simp [execOp, hop, run_box, hxv, Value.cells]
  refine ⟨_, _, upd ρ d (.pointer (some ⟨w.heap.size, 0, none⟩)), .inl hrun, ?_⟩
  rw [hd]
  refine hs.alloc (hdl d hd) (hfr d (by simp [wrHs, normWr]) (by rw [hR]; simpa using hdh)) (fun k hk => by simpa [Blk, blkOf] using hk.symm) ?_ (ref_rel ρ d _)
  refine ⟨w.heap.size, #[vI n, A], upd_same _ _ _, .inl hs.frame.size, heap_alloc_new w _, rfl, fun j b hb => ?_⟩
  match j, hb with
  | 0, hb => simp [A0.norm] at hb; subst hb; exact ⟨_, rfl, rfl⟩
  | 1, hb =>
    simp [A0.norm] at hb; subst hb
    refine ⟨A, rfl, ?_⟩
    show A = seg (upd ρ d _ h) 1
    rw [upd_ne (fun e => hdh e.symm), hv]; rfl
  | j + 2, hb => simp at hb

theorem good_boxRow {t h : Nat} {x : Operand} {e : Eff} (hN : ∀ d, o.dst = some d → d < c.N) (hw : Wanted c ops o S) (hop : o.op = .box t x) (hx : S.eval x = .one (.row h)) (he : boxRow S t o.dst h = some e) (hR : R = [h]) : Good c ops o (den S) R e.val.norm (normWr e.wr) := by
  unfold boxRow at he
  split at he
  case h_2 => cases he
  rename_i d e0 l hd hcr
  cases hb : d == h with
  | true => rw [hb] at he; cases he
  | false =>
  rw [hb] at he
  simp only [cond_false, Option.some.injEq] at he; subst he
  have hdh : d ≠ h := by simpa using hb
  refine good_of hN hw fun S' ρ a w hag hfr hs hdl => ?_
  obtain ⟨en, hen, hen2⟩ := entryRow_look hcr
  have hm := mem_at hag (h := h) (by rw [hR]; simp) hen
  rw [en_norm hen2] at hm
  obtain ⟨_, A, m, cap, hA, _⟩ := row_at hs hm hen2
  have hxv : a.eval x = ρ h := by
    have := eval_rel hag hs (x := x) (by simp [hop, Op.operands])
    rw [hx] at this
    exact this
  have hrun : (execOp a.eval o).run c.P w = .ok (.value (.pointer (some ⟨w.heap.size, 0, none⟩))) (w.alloc (.cells #[ρ h] t)) := by
    simp [execOp, hop, run_box, hxv, hA, Value.cells]
  refine ⟨_, _, upd ρ d (.pointer (some ⟨w.heap.size, 0, none⟩)), .inl hrun, ?_⟩
  rw [hd]
  refine hs.alloc (hdl d hd) (hfr d (by simp [wrHs, normWr]) (by rw [hR]; simpa using hdh)) (fun k hk => by simpa [Blk, blkOf] using hk.symm) ?_ (ref_rel ρ d _)
  refine ⟨w.heap.size, #[ρ h], upd_same _ _ _, .inl hs.frame.size, heap_alloc_new w _, rfl, fun j b hb => ?_⟩
  match j, hb with
  | 0, hb =>
    simp [A0.norm] at hb; subst hb
    refine ⟨ρ h, rfl, ?_⟩
    show ρ h = upd ρ d _ h
    rw [upd_ne (fun e => hdh e.symm)]
  | j + 1, hb => simp at hb

/-- an empty word lies in no block -/
theorem no_blk {n : Int} {k : Nat} : ¬ Blk (.tuple #[.agg #[vI n, .slice none 0 0], .slice none 0 0]) k := by
  rintro ⟨j, v, hv, hb⟩
  match j, hv with
  | 0, hv => simp at hv; subst hv; simp [blkOf] at hb
  | 1, hv => simp at hv; subst hv; simp [blkOf] at hb
  | j + 2, hv => simp at hv
theorem nil_word (w : World) (in_ : Nat → Prop) (e : Nat) (n : Int) : OwnsRow w in_ (.wd e n []) (.tuple #[.agg #[vI n, .slice none 0 0], .slice none 0 0]) :=
  (OwnsRow.comp rfl).2 ⟨_, rfl, trivial, World.ownsRow_nil w 0 _ _, fun k hk => by simp [blkOf] at hk⟩

theorem good_allocWord {tab : Tab} (hT : TabOk c.P tab) {t e0 sz by_ : Nat} {e : Eff} (hN : ∀ d, o.dst = some d → d < c.N) (hw : Wanted c ops o S) (hop : o.op = .alloc t) (hti : look t tab = some ⟨.word e0, sz, by_⟩) (he : allocWord e0 t o.dst = some e) (hR : R = []) : Good c ops o (den S) R e.val.norm (normWr e.wr) := by
  unfold allocWord at he
  split at he
  case h_2 => cases he
  rename_i d hd
  simp only [Option.some.injEq] at he; subst he
  have hDh : nxtH d ≠ d := nxtH_ne d
  generalize nxtH d = D at *
  obtain ⟨F, i, hu, hi, his, hz, _⟩ := tiB_word (hT _ _ hti)
  refine good_of hN hw fun S' ρ a w hag hfr hs hdl => ?_
  have hrun : (execOp a.eval o).run c.P w = .ok (.value (.pointer (some ⟨w.heap.size, 0, none⟩))) (w.alloc (.cells #[vI 0, .slice none 0 0] t)) := by
    simp [execOp, hop, run_alloc hi hz, Value.cells]
  have hfd : S'.Fresh c d := hfr d (by simp [wrHs, normWr]) (by rw [hR]; simp)
  have hfD : S'.Fresh c D := hfr D (by simp [wrHs, normWr]) (by rw [hR]; simp)
  have hup : ∀ z, z ≠ d → z ≠ D → upd (upd ρ d (.pointer (some ⟨w.heap.size, 0, none⟩))) D (.tuple #[.agg #[vI 0, .slice none 0 0], .slice none 0 0]) z = ρ z := fun z h1 h2 => by rw [upd_ne h2, upd_ne h1]
  have hupd : upd (upd ρ d (.pointer (some ⟨w.heap.size, 0, none⟩))) D (.tuple #[.agg #[vI 0, .slice none 0 0], .slice none 0 0]) d = .pointer (some ⟨w.heap.size, 0, none⟩) := by rw [upd_ne (fun e => hDh e.symm), upd_same]
  have hupD : upd (upd ρ d (.pointer (some ⟨w.heap.size, 0, none⟩))) D (.tuple #[.agg #[vI 0, .slice none 0 0], .slice none 0 0]) D = .tuple #[.agg #[vI 0, .slice none 0 0], .slice none 0 0] := upd_same _ _ _
  have hlk : ∀ {y e'}, look y (normWr [(d, some (.box t [.i 0, .ci D 0])), (D, some (.row (.wd e0 0 [])))]) = some (some e') → (y = d ∧ e' = .box t [.i 0, .ci D 0]) ∨ (y = D ∧ e' = .row (.wd e0 0 [])) := fun h => look_two h
  refine ⟨_, _, upd (upd ρ d (.pointer (some ⟨w.heap.size, 0, none⟩))) D (.tuple #[.agg #[vI 0, .slice none 0 0], .slice none 0 0]), .inl hrun, ?_⟩
  rw [hd]
  refine hs.step (fun x hx => by cases hx; exact hdl d hd) (Chg.alloc w _) (fun _ hk => hk.elim) (fun x hne => ?_) (fun x hx => ?_) (fun _ _ _ _ _ _ _ hk => hk) (fun x e' hx => ?_) (fun x e' hx ho k hk => ⟨fun y e'' hy ho' hnot hk' => ?_, fun y e'' hy ho' hne hk' => ?_⟩) ?_
  · by_cases h1 : x = d
    · subst h1; exact hfd
    · by_cases h2 : x = D
      · subst h2; exact hfD
      · exact absurd (hup x h1 h2) hne
  · refine hup x (fun e => hx (by subst e; simp [wrHs, normWr])) (fun e => hx (by subst e; simp [wrHs, normWr]))
  · rcases hlk hx with ⟨rfl, rfl⟩ | ⟨rfl, rfl⟩
    · refine ⟨w.heap.size, #[vI 0, .slice none 0 0], hupd, .inl hs.frame.size, heap_alloc_new w _, rfl, fun j b hb => ?_⟩
      match j, hb with
      | 0, hb => simp at hb; subst hb; exact ⟨_, rfl, rfl⟩
      | 1, hb =>
        simp at hb; subst hb
        refine ⟨.slice none 0 0, rfl, ?_⟩
        show _ = seg (upd _ D _ D) 1
        rw [upd_same]; rfl
      | j + 2, hb => simp at hb
    · show OwnsRow _ _ _ (upd _ x _ x)
      rw [upd_same]; exact nil_word _ _ _ _
  · rcases hlk hx with ⟨rfl, rfl⟩ | ⟨rfl, rfl⟩
    · rw [hupd] at hk
      have h1 : w.heap.size = k := by simpa [Blk, blkOf] using hk
      have := hs.blk_lt hy ho' hk'
      omega
    · rw [hupD] at hk; exact no_blk hk
  · rcases hlk hx with ⟨rfl, rfl⟩ | ⟨rfl, rfl⟩
    · rcases hlk hy with ⟨rfl, rfl⟩ | ⟨rfl, rfl⟩
      · exact hne rfl
      · rw [hupD] at hk'; exact no_blk hk'
    · rw [hupD] at hk; exact no_blk hk
  · show _ = addTo (upd _ D _ d) 0
    rw [hupd]; rfl

theorem good_buildWord {tab : Tab} (hT : TabOk c.P tab) {t e0 sz by_ : Nat} {ps : Array (Nat × Operand)} {e : Eff} (hN : ∀ d, o.dst = some d → d < c.N) (hw : Wanted c ops o S) (hop : o.op = .build t ps) (hti : look t tab = some ⟨.word e0, sz, by_⟩) (he : buildWord e0 o.dst (ps.toList.map fun p => (p.1, S.eval p.2)) = some e) (hR : ∀ d, o.dst = some d → d ∉ R) : Good c ops o (den S) R e.val.norm (normWr e.wr) := by
  obtain ⟨F, i, hu, hi, his, hz, hF⟩ := tiB_word (hT _ _ hti)
  obtain ⟨fa, fb, hFF, o1, o2, t1, t2, ⟨i1, hi1, hs1⟩, ⟨i2, hi2, hs2⟩⟩ := wordB_spec hF
  have hFa : F = #[fa, fb] := by apply Array.ext'; simpa using hFF
  have hmap : ∀ w, (F.mapM fun f => do pure (f.offset, ← sizeOf f.type) : Sem (Array (Nat × Nat))).run c.P w = .ok #[(0, 1), (1, 1)] w := by
    intro w
    rw [hFa, Array.mapM_eq_mapM_toList]
    simp [List.mapM_cons, o1, o2, run_size hi1, run_size hi2, hs1, hs2]
  have go : ∀ (d : Nat) (n : Int), o.dst = some d → (∀ (S' : SS) (ρ : Nat → Value) (a : Act) (w : World), Agree ops o R (den S) S' → SatR c S' ρ a.tmps w → (execOp a.eval o).run c.P w = .ok (.value (.agg #[vI n, .slice none 0 0])) w) →
      Good c ops o (den S) R (AV.one (.co d)) (normWr [(d, some (.row (.wd e0 n [])))]) := by
    intro d n hd hrun
    refine good_of hN hw fun S' ρ a w hag hfr hs hdl => ?_
    refine ⟨_, w, upd ρ d (.tuple #[.agg #[vI n, .slice none 0 0], .slice none 0 0]), .inl (hrun S' ρ a w hag hs), ?_⟩
    rw [hd]
    refine SatR.gather (cons := []) hs (hdl d hd) (hfr d (by simp [wrHs, normWr]) (hR d hd)) (Chg.refl w _) (by simp) (by simp) (fun k hk => (no_blk hk).elim) ?_ ?_
    · show OwnsRow _ _ _ (upd ρ d _ d)
      rw [upd_same]; exact nil_word _ _ _ _
    · show _ = hdV (upd ρ d _ d)
      rw [upd_same]; rfl
  unfold buildWord at he
  split at he
  · rename_i d hd hps
    simp only [Option.some.injEq] at he; subst he
    have hpa : ps = #[] := by
      apply Array.ext'
      cases hl : ps.toList with
      | nil => rfl
      | cons p l => rw [hl] at hps; simp at hps
    subst hpa
    refine go d 0 hd fun S' ρ a w hag hs => ?_
    simp only [execOp, hop, Instr.build, Sem.run_bind, run_zero hi hz, Result.andThen_ok, run_underlying hu, hmap]
    simp [Instr.fill, Value.cells]
  · rename_i d n hd hps
    simp only [Option.some.injEq] at he; subst he
    obtain ⟨x, hpl, hx⟩ : ∃ x, ps.toList = [(0, x)] ∧ S.eval x = .one (.i n) := by
      match hl : ps.toList, hps with
      | [p], hps =>
        simp only [List.map_cons, List.map_nil, List.cons.injEq, Prod.mk.injEq, and_true] at hps
        exact ⟨p.2, by rw [← hps.1], hps.2⟩
      | [], hps => simp at hps
      | _ :: _ :: _, hps => simp at hps
    have hpa : ps = #[(0, x)] := by apply Array.ext'; simpa using hpl
    subst hpa
    refine go d n hd fun S' ρ a w hag hs => ?_
    have hxv : a.eval x = vI n := by
      have := eval_rel hag hs (x := x) (by simp [hop, Op.operands])
      rw [hx] at this
      exact this
    simp only [execOp, hop, Instr.build, Sem.run_bind, run_zero hi hz, Result.andThen_ok, run_underlying hu, hmap]
    simp [Instr.fill, Value.cells, hxv]
  · cases he

theorem good_fieldWord {tab : Tab} (hT : TabOk c.P tab) {t f e0 sz by_ : Nat} {x : Operand} {e : Eff} (hN : ∀ d, o.dst = some d → d < c.N) (hw : Wanted c ops o S) (hop : o.op = .fieldAddr t x f) (hti : look t tab = some ⟨.word e0, sz, by_⟩) (he : fieldWord S (S.eval x) f = some e) (hR : ∀ h ∈ (S.eval x).hs, h ∈ R) : Good c ops o (den S) R e.val.norm (normWr e.wr) := by
  obtain ⟨F, i, hu, hi, his, hz, hF⟩ := tiB_word (hT _ _ hti)
  obtain ⟨fa, fb, hFF, o1, o2, t1, t2, ⟨i1, hi1, hs1⟩, ⟨i2, hi2, hs2⟩⟩ := wordB_spec hF
  have hFa : F = #[fa, fb] := by apply Array.ext'; simpa using hFF
  unfold fieldWord at he
  split at he
  case h_2 => cases he
  rename_i h hx
  split at he
  case h_2 => cases he
  rename_i t' cs hm
  cases hb : Nat.blt f 2 with
  | false => rw [hb] at he; cases he
  | true =>
  rw [hb] at he
  simp only [cond_true, val1, Option.some.injEq] at he; subst he
  have hf2 : f < 2 := by simpa [Nat.blt_eq] using hb
  refine good_of hN hw fun S' ρ a w hag _ hs hd => ?_
  obtain ⟨g, _, h1, _⟩ := box_at hs (mem_at hag (hR h (by rw [hx]; simp [AV.hs, A0.hs])) hm)
  have hev : a.eval x = .pointer (some ⟨g, 0, none⟩) := by
    have := eval_rel hag hs (x := x) (by simp [hop, Op.operands])
    rw [hx] at this
    have h2 : a.eval x = addTo (ρ h) 0 := this
    rw [h2, h1]; rfl
  have run : (execOp a.eval o).run c.P w = .ok (.value (.pointer (some ⟨g, f, none⟩))) w := by
    rcases (by omega : f = 0 ∨ f = 1) with rfl | rfl
    · have := run_fieldAt (P := c.P) (w := w) (a := ⟨g, 0, none⟩) (f := 0) (fd := fa) hu (by rw [hFa]; rfl) hi1 (by omega)
      simp [execOp, hop, hev, this, o1, add0]
    · have := run_fieldAt (P := c.P) (w := w) (a := ⟨g, 0, none⟩) (f := 1) (fd := fb) hu (by rw [hFa]; rfl) hi2 (by omega)
      simp [execOp, hop, hev, this, o2, add0]
  refine ⟨_, w, ρ, .inl run, hs.val hd ?_⟩
  show _ = addTo (ρ h) f
  rw [h1]
  exact (addTo_ptr g f).symm

theorem good_loadWord {tab : Tab} (hT : TabOk c.P tab) {t e0 sz by_ : Nat} {x : Operand} {e : Eff} (hN : ∀ d, o.dst = some d → d < c.N) (hw : Wanted c ops o S) (hop : o.op = .load t x) (hti : look t tab = some ⟨.word e0, sz, by_⟩) (he : loadWord S (S.eval x) = some e) (hR : R = (S.eval x).hs ++ inHs S (S.eval x)) : Good c ops o (den S) R e.val.norm (normWr e.wr) := by
  obtain ⟨F, i, hu, hi, his, hz, hF⟩ := tiB_word (hT _ _ hti)
  unfold loadWord at he
  split at he
  case h_2 => cases he
  rename_i h hx
  split at he
  case h_2 => cases he
  rename_i t' n h2 hm
  unfold loadWd at he
  split at he
  case h_2 => cases he
  rename_i e9 m l hcr
  cases hb : n == m with
  | false => rw [hb] at he; cases he
  | true =>
  rw [hb] at he
  simp only [cond_true, val1, Option.some.injEq] at he; subst he
  have hnm : n = m := by simpa using hb
  subst hnm
  refine good_load_of hN hw hop fun S' ρ a w hag hs => ?_
  obtain ⟨g, arr, h1, h3, h4, h5⟩ := box_at hs (mem_at hag (h := h) (by rw [hR, hx]; simp [AV.hs, A0.hs]) hm)
  obtain ⟨A, in_, hv, hA⟩ := word_at hag hs (h := h2) (by rw [hR, hx]; simp [inHs, hm, AV.hs, A0.hs]) hcr
  have hev : a.eval x = .pointer (some ⟨g, 0, none⟩) := by
    have := eval_rel hag hs (x := x) (by simp [hop, Op.operands])
    rw [hx] at this
    have h6 : a.eval x = addTo (ρ h) 0 := this
    rw [h6, h1]; rfl
  obtain ⟨v0, q1, q2⟩ := h5 0 (.i n) rfl
  obtain ⟨v1, q3, q4⟩ := h5 1 (.ci h2 0) rfl
  have q2' : v0 = vI n := q2
  have q4' : v1 = A := by
    have h7 : v1 = seg (ρ h2) 1 := q4
    rw [h7, hv]; rfl
  refine ⟨.agg #[vI n, A], ?_, ?_⟩
  · rw [hev]
    refine run_loadAt_agg (run_isAgg_struct hu) (cs := [vI n, A]) hi (by rw [his]; rfl) fun j v hj => ?_
    rw [add0, cell_of_row w g j arr t' (0, 0) h3]
    match j, hj with
    | 0, hj => simp at hj; subst hj; rw [q1, q2']
    | 1, hj => simp at hj; subst hj; rw [q3, q4']
    | j + 2, hj => simp at hj
  · show _ = hdV (ρ h2)
    rw [hv]; rfl

theorem good_loadSl {tab : Tab} (hT : TabOk c.P tab) {t e0 sz by_ : Nat} {x : Operand} {e : Eff} (hN : ∀ d, o.dst = some d → d < c.N) (hw : Wanted c ops o S) (hop : o.op = .load t x) (hti : look t tab = some ⟨.slice e0, sz, by_⟩) (he : loadSl (look t tab) S (S.eval x) = some e) (hp : e.pre) (hR : ∀ h ∈ (S.eval x).hs, h ∈ R) : Good c ops o (den S) R e.val.norm (normWr e.wr) := by
  have hu := tiB_slice (hT _ _ hti)
  unfold loadSl at he
  split at he
  · rename_i h off hx
    split at he
    case h_2 => cases he
    rename_i t' cs hm
    split at he
    case h_2 => cases he
    rename_i a0 ha0
    simp only [val1, Option.some.injEq] at he; subst he
    refine good_load_of hN hw hop fun S' ρ a w hag hs => ?_
    obtain ⟨g, arr, h1, h2, h3, h4⟩ := box_at (t := t') (cs := cs.map A0.norm) hs (mem_at hag (hR h (by rw [hx]; simp [AV.hs, A0.hs])) hm)
    have h5 := eval_rel hag hs (x := x) (by simp [hop, Op.operands])
    rw [hx] at h5
    have h6 : a.eval x = addTo (ρ h) off := h5
    obtain ⟨v, hv, hr⟩ := h4 off a0.norm (by simp [ha0])
    refine ⟨v, ?_, (A0.rel_norm ρ a0 v).1 hr⟩
    rw [h6, h1, addTo_ptr]
    refine run_loadAt_slice hu ?_
    rw [cell_of_row w g off arr t' (0, 0) h2]; exact hv
  · rename_i h hx
    split at he
    case h_2 => cases he
    rename_i e9 l hcr
    simp only [val1, Option.some.injEq] at he; subst he
    refine good_load_of hN hw hop fun S' ρ a w hag hs => ?_
    obtain ⟨in_, g, A, t', hv, _, hg, _⟩ := comp_of hag hs (hR h (by rw [hx]; simp [AV.hs, A0.hs])) hcr
    have h5 := eval_rel hag hs (x := x) (by simp [hop, Op.operands])
    rw [hx] at h5
    have h6 : a.eval x = hdV (ρ h) := h5
    refine ⟨A, ?_, ?_⟩
    · rw [h6, hv]
      show (Instr.loadAt t (.pointer (some ⟨g, 0, none⟩))).run c.P w = _
      refine run_loadAt_slice hu ?_
      rw [cell_of_row w g 0 _ t' (0, 0) hg]; rfl
    · show A = seg (ρ h) 1
      rw [hv]; rfl
  · exact good_load hT hN hw hop he hp hR

theorem good_storeWord {tab : Tab} (hT : TabOk c.P tab) {t e0 sz by_ : Nat} {x y : Operand} {e : Eff} (hN : ∀ d, o.dst = some d → d < c.N) (hw : Wanted c ops o S) (hop : o.op = .store t x y) (hti : look t tab = some ⟨.word e0, sz, by_⟩) (he : storeWord S (S.eval x) (S.eval y) = some e) (hR : R = (S.eval x).hs ++ (S.eval y).hs) : Good c ops o (den S) R e.val.norm (normWr e.wr) := by
  obtain ⟨F, i, hu, hi, his, hz, hF⟩ := tiB_word (hT _ _ hti)
  unfold storeWord at he
  split at he
  case h_2 => cases he
  rename_i h h2 hx hy
  unfold storeWd at he
  split at he
  case h_2 => cases he
  rename_i t' b0 b1 e9 n l hm hcr
  simp only [Option.some.injEq] at he; subst he
  have hh : h ∈ R := by rw [hR, hx]; simp [AV.hs, A0.hs]
  refine good_store_of hN hw hop hm hh rfl fun S' ρ a w hag hs => ?_
  obtain ⟨A, in_, hv, hA⟩ := word_at hag hs (h := h2) (by rw [hR, hy]; simp [AV.hs, A0.hs]) hcr
  obtain ⟨g, arr, h1, hown, h3, h4, _⟩ := hs.mem h _ (mem_at hag hh hm)
  have h4' : arr.size = 2 := h4
  have hyv : a.eval y = .agg #[vI n, A] := by
    have := eval_rel hag hs (x := y) (by simp [hop, Op.operands])
    rw [hy] at this
    have h6 : a.eval y = hdV (ρ h2) := this
    rw [h6, hv]; rfl
  have hev : a.eval x = .pointer (some ⟨g, 0, none⟩) := by
    have := eval_rel hag hs (x := x) (by simp [hop, Op.operands])
    rw [hx] at this
    have h6 : a.eval x = addTo (ρ h) 0 := this
    rw [h6, h1]; rfl
  have hst := run_storeAt (P := c.P) (t := t) (g := g) (o := 0) (el := t') (cur := arr) (v := .agg #[vI n, A]) hi (by rw [his]; rfl) h3 (by simp [Value.cells, h4']) (by
    intro u hu
    simp [Value.cells] at hu
    rcases hu with rfl | rfl
    · rfl
    · exact (flat_slice hA).2.1)
  refine ⟨g, _, by rw [h1]; rfl, by rw [hev, hyv]; exact hst, g, _, h1, hown, setRow_heap w g _ _ t' _ h3, ?_, fun j b hb => ?_⟩
  · simp [Value.cells, h4']
  · have hdr : arr.toList.drop 2 = [] := List.drop_of_length_le (by simp [h4'])
    match j, hb with
    | 0, hb => simp [A0.norm] at hb; subst hb; exact ⟨vI n, by simp [Value.cells], rfl⟩
    | 1, hb =>
      simp [A0.norm] at hb; subst hb
      refine ⟨A, by simp [Value.cells], ?_⟩
      show A = seg (ρ h2) 1
      rw [hv]; rfl
    | j + 2, hb => simp at hb

theorem good_storeCi {tab : Tab} (hT : TabOk c.P tab) {t e0 sz by_ h off h2 : Nat} {x y : Operand} {e : Eff} (hN : ∀ d, o.dst = some d → d < c.N) (hw : Wanted c ops o S) (hop : o.op = .store t x y) (hti : look t tab = some ⟨.slice e0, sz, by_⟩) (hx : S.eval x = .one (.ref h off)) (hy : S.eval y = .one (.ci h2 0)) (he : storeCi h off h2 (look h S.mem) (compOf (look h2 S.mem)) = some e) (hR : R = (S.eval x).hs ++ (S.eval y).hs) : Good c ops o (den S) R e.val.norm (normWr e.wr) := by
  obtain ⟨i, hu, hi, his, _⟩ := tiB_slice2 (hT _ _ hti)
  unfold storeCi at he
  split at he
  case h_2 => cases he
  rename_i t' l e9 n l0 hm hcr
  cases hb : Nat.blt off l.length with
  | false => rw [hb] at he; cases he
  | true =>
  rw [hb] at he
  simp only [cond_true, Option.some.injEq] at he; subst he
  have hlt : off < l.length := by simpa using hb
  have hh : h ∈ R := by rw [hR, hx]; simp [AV.hs, A0.hs]
  refine good_store_of hN hw hop hm hh rfl fun S' ρ a w hag hs => ?_
  obtain ⟨A, in_, hv, hA⟩ := word_at hag hs (h := h2) (by rw [hR, hy]; simp [AV.hs, A0.hs]) hcr
  obtain ⟨hcl0, hone0, _⟩ := flat_slice hA
  have hyv : a.eval y = A := by
    have := eval_rel hag hs (x := y) (by simp [hop, Op.operands])
    rw [hy] at this
    have h6 : a.eval y = seg (ρ h2) 1 := this
    rw [h6, hv]; rfl
  have hxa : a.eval x = addTo (ρ h) off := by
    have := eval_rel hag hs (x := x) (by simp [hop, Op.operands])
    rw [hx] at this
    exact this
  have hcl : (a.eval y).cells = #[a.eval y] := by rw [hyv]; exact hcl0
  have hone : (a.eval y).oneCell' = true := by rw [hyv]; exact hone0
  have hrel : (A0.ci h2 0).rel ρ (a.eval y) := by
    show a.eval y = seg (ρ h2) 1
    rw [hyv, hv]; rfl
  obtain ⟨g, arr, h1, hown, h3, h4, h5⟩ := hs.mem h _ (mem_at hag hh hm)
  simp only [List.length_map] at h4
  have hst := run_storeAt (P := c.P) (t := t) (g := g) (o := off) (el := t') (cur := arr) (v := a.eval y) hi (by rw [hcl, his]; rfl) h3 (by rw [hcl, h4]; exact hlt) (by rw [hcl]; simpa using hone)
  refine ⟨g, _, by rw [h1]; rfl, by rw [hxa, h1, addTo_ptr]; exact hst, g, _, h1, hown, setRow_heap w g _ _ t' _ h3, ?_, ?_⟩
  · simp [hcl, h4]; omega
  · intro j b hb'
    simp only [List.getElem?_map, Option.map_eq_some_iff] at hb'
    obtain ⟨b', hb', rfl⟩ := hb'
    have hjl : j < l.length := by have := (List.getElem?_eq_some_iff.1 hb').1; simpa using this
    rw [hcl]
    by_cases hj : off = j
    · subst hj
      rw [List.getElem?_set_self hlt] at hb'
      simp only [Option.some.injEq] at hb'; subst hb'
      refine ⟨a.eval y, ?_, (A0.rel_norm ρ _ _).2 hrel⟩
      have : off ≤ arr.size := by omega
      simp [this]
    · rw [List.getElem?_set_ne hj] at hb'
      obtain ⟨v, hv, hr⟩ := h5 j b'.norm (by simp [hb'])
      refine ⟨v, ?_, hr⟩
      have hja : j < arr.size := by omega
      have hv' : arr[j]? = some v := hv
      have hval : arr.toList[j]? = some v := by simpa using hv'
      by_cases hlt2 : j < off
      · rw [show (#[a.eval y] : Array Value).toList = [a.eval y] from rfl]
        simp only [List.getElem?_toArray]
        rw [List.append_assoc, List.getElem?_append_left (by simp; omega)]
        rw [List.getElem?_take_of_lt hlt2]
        exact hval
      · rw [show (#[a.eval y] : Array Value).toList = [a.eval y] from rfl]
        simp only [List.getElem?_toArray]
        rw [List.getElem?_append_right (by simp; omega)]
        simp only [List.length_append, List.length_take, Array.length_toList, List.length_cons, List.length_nil, List.getElem?_drop]
        rw [show off + (#[a.eval y] : Array Value).size + (j - (min off arr.size + (0 + 1))) = j by simp; omega]
        exact hval

theorem good_appWd {tab : Tab} (hT : TabOk c.P tab) {args : Array Operand} {ts : Array Nat} {t h : Nat} {s x : Operand} {e : Eff} (hN : ∀ d, o.dst = some d → d < c.N) (hw : Wanted c ops o S) (hop : o.op = .call ⟨.builtin .append, args, ts⟩) (ha : args.toList = [s, x]) (hts : ts.toList = [t, t])
    (hse : S.eval s = .one (.ci h 0)) (he : appWord tab t S o.dst h (S.eval x) = some e) (hp : e.pre) : Good c ops o (den S) ((S.eval s).hs ++ (S.eval x).hs) e.val.norm (normWr e.wr) := by
  have haa : args = #[s, x] := by apply Array.ext'; simpa using ha
  have htt : ts = #[t, t] := by apply Array.ext'; simpa using hts
  subst haa; subst htt
  have hsin : s ∈ o.op.operands.toList := by simp [hop, Op.operands, Call.operands]
  have hxin : x ∈ o.op.operands.toList := by simp [hop, Op.operands, Call.operands]
  unfold appWord at he
  split at he
  case h_2 => cases he
  rename_i d r' el _ _ hd hr' hti
  split at he
  case h_2 => cases he
  rename_i sz by_ hle
  have hu := tiB_slice (hT _ _ hti)
  have hTe := hT _ _ hle
  obtain ⟨_, hsz1, i, hi, his, hib, hz⟩ := tiB_int hTe
  obtain ⟨_, _, _, _, _, _, hb1000⟩ := tiB_info hTe
  have hib2 : i.bytes ≤ 1000 := by rw [hib]; exact hb1000
  subst hsz1
  unfold appWd at he
  split at he
  case h_2 => cases he
  rename_i e0 g0 l e9 m hm
  generalize signOf h g0 S.mem = G at *
  cases hc1 : (e0 == el && (1 == 1 && !((S.eval x).hs.contains h || (d == h || (S.eval x).hs.contains d)))) with
  | false => rw [hc1] at he; cases he
  | true =>
  rw [hc1] at he
  simp only [cond_true, Option.some.injEq] at he; subst he
  simp only [Bool.and_eq_true, beq_iff_eq, Bool.not_eq_true', Bool.or_eq_false_iff, beq_eq_false_iff_ne, ne_eq, List.contains_eq_mem, decide_eq_false_iff_not] at hc1
  obtain ⟨rfl, _, hc1, hdh, hc2⟩ := hc1
  obtain ⟨hp1, hp2⟩ : l.length + m.length ≤ maxRow ∧ subPre S (S.eval x) := hp
  refine good_of hN hw fun S' ρ a w hag hfr hs hdl => ?_
  have hm1 := mem_at hag (h := h) (by simp [hse, AV.hs, A0.hs]) hm
  obtain ⟨V, hv, hV⟩ : CompRow w c.own (.wd e0 g0 l) (ρ h) := (OwnsRow.comp rfl).1 (hs.mem h _ hm1)
  have hsv : a.eval s = V := by
    have := eval_rel hag hs hsin
    rw [hse] at this
    have h1 : a.eval s = seg (ρ h) 1 := this
    rw [h1, hv]; rfl
  obtain ⟨hwf', A, mm, cap, hxv, hml, _, _, hn0, hnews⟩ := read_at hag hs (fun h hh => List.mem_append_right _ hh) hr' hp2 (eval_rel hag hs hxin)
  have hml' : mm = m.length := hml
  have hVo : w.ownsRow 0 e0 i.size V l.length (RC.ints e0 l).cells := by rw [his]; exact hV.2.1
  have hnl : (RC.ints e9 m).cells.length = mm * i.size := by rw [RC.cells_length hwf', hml, his]; rfl
  obtain ⟨v', w', hrun, how, hgr, hbk⟩ := run_app (P := c.P) (ty := o.type) hu hi hz (by rw [his]; rfl) (by omega) hib2 (n := l.length) (xs := (RC.ints e0 l).cells) (v := V) (A := A) (m := mm) (cc := cap) hVo hnl hn0 hnews RC.one (by omega)
  have hob : V.ownBlock = blkOf V := ownBlock_blk hVo
  have hob' : v'.ownBlock = blkOf v' := ownBlock_blk how
  have hch := Chg.grown hgr
  have happ : (RC.ints e0 (l ++ m)).cells = (RC.ints e0 l).cells ++ (RC.ints e9 m).cells := by simp [RC.cells]
  have hV' : FlatRow w' c.own (.ints e0 (l ++ m)) v' := by
    refine ⟨trivial, ?_, fun q hq => ?_⟩
    · rw [← happ, hml', his] at how
      simpa [RC.len, RC.elem, RC.sz] using how
    · rw [← hob'] at hq
      rcases hbk with h1 | h1
      · rw [h1, hob] at hq; exact hV.2.2 q hq
      · rw [h1] at hq; simp at hq; subst hq; exact .inl hs.frame.size
  have hdR : d ∉ (S.eval s).hs ++ (S.eval x).hs := by
    rw [hse]
    simp only [AV.hs, A0.hs, List.mem_append, List.mem_singleton, not_or]
    exact ⟨hdh, hc2⟩
  have hfd : S'.Fresh c d := hfr d (by simp [wrHs, normWr]) hdR
  have hup : ∀ z, z ≠ d → upd ρ d (.tuple #[.agg #[vI G, v'], v']) z = ρ z := fun z hz => upd_ne hz
  have hwr : wrHs (normWr [(h, none), (d, some (Entry.row (.wd e0 G (l ++ m))))]) = [h, d] := rfl
  have hlook : ∀ y e', look y (normWr [(h, none), (d, some (Entry.row (.wd e0 G (l ++ m))))]) = some (some e') → y = d ∧ e' = .row (.wd e0 G (l ++ m)) := fun y e' hy => look_gather (cons := [h]) hy
  have hoth : ∀ y e', S'.mem y = some e' → e'.isOwn = true → y ∉ wrHs (normWr [(h, none), (d, some (Entry.row (.wd e0 G (l ++ m))))]) → ∀ k, Blk (ρ y) k → some k ≠ V.ownBlock := by
    intro y e' hy ho' hnot k hk hke
    rw [hwr] at hnot
    simp at hnot
    exact hs.sep y h e' _ hy hm1 ho' rfl hnot.1 k hk (by rw [hv]; exact ⟨1, _, rfl, by rw [← hob]; exact hke.symm⟩)
  refine ⟨v', w', upd ρ d (.tuple #[.agg #[vI G, v'], v']), .inl ?_, ?_⟩
  · simp only [execOp, hop, resolve, Sem.run_bind, Sem.run_pure, Result.andThen_ok, invoke, builtin, List.map_toArray, List.map_cons, List.map_nil, hsv, hxv, hrun]
  · rw [hd]
    refine hs.step (D := fun k => some k = V.ownBlock) (fun y hy => by cases hy; exact hdl d hd) hch (fun q hq => hV.2.2 q (by rw [← hob]; exact hq.symm)) (fun y hne => ?_) (fun y hy => hup y (by rw [hwr] at hy; simp at hy; exact hy.2)) hoth (fun y e' hy => ?_) (fun y e' hy ho' q hq => ⟨fun y2 e3 hy2 ho2 hnot hq2 => ?_, fun y2 e3 hy2 ho2 hne => ?_⟩) ?_
    · by_cases hyd : y = d
      · subst hyd; exact hfd
      · exact absurd (hup y hyd) hne
    · obtain ⟨rfl, rfl⟩ := hlook y e' hy
      show OwnsRow w' c.own _ (upd ρ y _ y)
      rw [upd_same]
      exact (OwnsRow.comp rfl).2 ⟨v', rfl, hV'⟩
    · obtain ⟨rfl, rfl⟩ := hlook y e' hy
      rw [upd_same] at hq
      obtain ⟨j, J, hJ, hbJ⟩ := hq
      match j, hJ with
      | 0, hJ => simp at hJ; subst hJ; simp [blkOf] at hbJ
      | 1, hJ =>
        simp at hJ; subst hJ
        rw [← hob'] at hbJ
        rcases hbk with h1 | h1
        · exact hoth y2 e3 hy2 ho2 hnot q hq2 (by rw [← h1]; exact hbJ.symm)
        · rw [h1] at hbJ
          have := hs.blk_lt hy2 ho2 hq2
          simp at hbJ; omega
      | j + 2, hJ => simp at hJ
    · obtain ⟨h1, _⟩ := hlook y e' hy
      obtain ⟨h2, _⟩ := hlook y2 e3 hy2
      exact absurd (h2.trans h1.symm) hne
    · show _ = seg (upd ρ d _ d) 1
      rw [upd_same]; rfl

theorem good_clo {fn : Fn} {first captured : Array Operand} {e : Eff} (hN : ∀ d, o.dst = some d → d < c.N) (hw : Wanted c ops o S) (hop : o.op = .makeFunc fn first captured) (he : effClo S fn (first.toList.map S.eval) (captured.toList.map S.eval) = some e) (hR : R = captured.toList.flatMap fun x => (S.eval x).hs) : Good c ops o (den S) R e.val.norm (normWr e.wr) := by
  unfold effClo at he
  split at he
  case h_2 => cases he
  rename_i f h hf hcap
  split at he
  case h_2 => cases he
  rename_i t h2 hm
  simp only [val1, Option.some.injEq] at he; subst he
  have hfa : first = #[] := by
    apply Array.ext'
    cases hl : first.toList with
    | nil => rfl
    | cons p l => rw [hl] at hf; simp at hf
  obtain ⟨x, hcl, hx⟩ : ∃ x, captured.toList = [x] ∧ S.eval x = .one (.ref h 0) := by
    match hl : captured.toList, hcap with
    | [p], hps => exact ⟨p, rfl, by simpa using hps⟩
    | [], hps => simp at hps
    | _ :: _ :: _, hps => simp at hps
  have hca : captured = #[x] := by apply Array.ext'; simpa using hcl
  subst hfa; subst hca
  refine good_of hN hw fun S' ρ a w hag _ hs hd => ?_
  obtain ⟨g, _, h1, _⟩ := box_at hs (mem_at hag (h := h) (by rw [hR]; simp [hx, AV.hs, A0.hs]) hm)
  have hev : a.eval x = ρ h := by
    have := eval_rel hag hs (x := x) (by simp [hop, Op.operands])
    rw [hx] at this
    have h2 : a.eval x = addTo (ρ h) 0 := this
    rw [h2, h1]; rfl
  refine ⟨.func (.func f) #[] #[ρ h], w, ρ, .inl ?_, hs.val hd rfl⟩
  simp [execOp, hop, Instr.makeFunc, hev]

theorem good_callClo {spec : Spec} (hspec : SpecOk c.P spec) {h : Nat} {args : Array Operand} {ts : Array Nat} {e : Eff} (hN : ∀ d, o.dst = some d → d < c.N) (hw : Wanted c ops o S) {fx : Operand} (hop : o.op = .call ⟨.value fx, args, ts⟩) (hfx : S.eval fx = .one (.co h))
    (he : callClo spec S o.dst h (args.toList.map S.eval) = some e) (hp : e.pre) (hR : h ∈ R) : Good c ops o (den S) R e.val.norm (normWr e.wr) := by
  unfold callClo at he
  split at he
  case h_2 => cases he
  rename_i f e0 l hcr
  cases hall : ((args.toList.map S.eval).map (argOf S)).all plainS with
  | false => rw [hall] at he; cases he
  | true =>
  rw [hall] at he
  simp only [cond_true] at he
  unfold cloGo at he
  split at he
  case h_2 => cases he
  rename_i d ce hd hce
  split at he
  case h_2 => cases he
  rename_i a0 houts hres
  cases hpa : plainA a0 with
  | false => rw [hpa] at he; cases he
  | true =>
  rw [hpa] at he
  simp only [cond_true, Option.some.injEq] at he; subst he
  have hpre : ce.pre := hp
  obtain ⟨hfn, fn, hfs, hbody, hname⟩ := hspec f _ ce hce
  refine good_call_of hN hw fun S' ρ a w hag hfr hs hdl => ?_
  have hin : ∀ z ∈ args.toList, z ∈ o.op.operands.toList := fun z hz => by simp [hop, Op.operands, Call.operands]; right; simpa using hz
  obtain ⟨en, q1, q2, q3⟩ := compOf_look hcr
  have hm := mem_at hag hR q1
  rw [q3] at hm
  -- the box lies where nothing is handed over
  have hbox : ∃ g A, ρ h = .tuple #[.func (.func f) #[] #[.pointer (some ⟨g, 0, none⟩)], .pointer (some ⟨g, 0, none⟩), A] ∧ CompRow w (fun k => k < w.heap.size ∧ ¬ False) (.bx e0 l) (.tuple #[.pointer (some ⟨g, 0, none⟩), A]) := by
    have hc0 : ∃ p, CompRow w p (.clo f e0 l) (ρ h) := by
      obtain ⟨p, h1, _⟩ := comp_at hs hm q2
      exact ⟨p, h1⟩
    obtain ⟨p, hc⟩ := hc0
    have hc' := hc.mono (q := fun k => k < w.heap.size ∧ ¬ False) fun k hk _ _ => ⟨hk, fun h => h⟩
    obtain ⟨g, A, t, hv, r1, r2, r3, r4⟩ := hc'
    exact ⟨g, A, hv, g, A, t, rfl, r1, r2, r3, r4⟩
  obtain ⟨g, A, hv, hbx⟩ := hbox
  have hplain : ∀ z ∈ args.toList, plainS (argOf S (S.eval z)) = true ∧ a.eval z = (argOf S (S.eval z)).conc noρ ∧ hdV (a.eval z) = a.eval z := by
    intro z hz
    have h1 : plainS (argOf S (S.eval z)) = true := List.all_eq_true.1 hall _ (List.mem_map.2 ⟨_, List.mem_map.2 ⟨z, hz, rfl⟩, rfl⟩)
    have hok : argOk (argOf S (S.eval z)) = true := by
      unfold plainS at h1
      split at h1 <;> first | (rename_i heq; rw [heq]; rfl) | cases h1
    refine ⟨h1, ?_⟩
    rcases argOf_rel hok (eval_rel hag hs (hin z hz)) with ⟨r, hra, _⟩ | ⟨_, h3, _, h4⟩ | ⟨_, _, _, _, hra⟩
    · rw [hra] at h1; simp [plainS] at h1
    · exact ⟨h3, h4⟩
    · rw [hra] at h1; simp [plainS] at h1
  have hOB : ∀ vals, OutBlk ce.outs vals = fun _ => False := by
    intro vals
    funext k
    rw [houts]
    exact eq_false fun ⟨q, hq, _⟩ => by cases hq
  have hargs : ArgsOk w ce.outs ((args.toList.map S.eval).map (argOf S) ++ [.rw (.bx e0 l)]) (args.toList.map a.eval ++ [.tuple #[.pointer (some ⟨g, 0, none⟩), A]]) := by
    refine ⟨by simp, fun j b hb => ?_, fun q hq => ?_, fun q hq => ?_⟩
    · rw [hOB, houts]
      by_cases hj : j < args.toList.length
      · rw [List.getElem?_append_left (by simpa using hj)] at hb
        simp only [List.getElem?_map, Option.map_eq_some_iff] at hb
        obtain ⟨x, ⟨z, hz, rfl⟩, rfl⟩ := hb
        obtain ⟨h1, h2, _⟩ := hplain z (List.mem_of_getElem? hz)
        refine ⟨a.eval z, by rw [List.getElem?_append_left (by simpa using hj)]; simp [hz], ?_⟩
        rw [h2]
        unfold plainS at h1
        unfold ArgRel
        split
        · rename_i r hr'; rw [hr'] at h1; simp at h1
        · rename_i l hr'; rw [hr'] at h1; simp at h1
        · refine ⟨?_, rfl⟩
          split at h1 <;> first | (rename_i heq; rw [heq]; rfl) | cases h1
      · rw [List.getElem?_append_right (by simpa using hj)] at hb
        have hj0 : j - ((args.toList.map S.eval).map (argOf S)).length = 0 := by
          have := (List.getElem?_eq_some_iff.1 hb).1
          simpa using this
        rw [hj0] at hb
        simp only [List.getElem?_cons_zero, Option.some.injEq] at hb; subst hb
        refine ⟨.tuple #[.pointer (some ⟨g, 0, none⟩), A], ?_, ?_⟩
        · rw [List.getElem?_append_right (by simpa using hj)]
          have hj1 : j - (args.toList.map a.eval).length = 0 := by simpa using hj0
          rw [hj1]; rfl
        · unfold ArgRel
          simp only
          rw [if_neg (by simp)]
          exact (ReadsRow.comp rfl).2 hbx
    · rw [houts] at hq; cases hq
    · rw [houts] at hq; cases hq
  have hheads : (args.toList.map a.eval ++ [Value.tuple #[.pointer (some ⟨g, 0, none⟩), A]]).map hdV = args.toList.map a.eval ++ [Value.pointer (some ⟨g, 0, none⟩)] := by
    have h1 : List.map (hdV ∘ a.eval) args.toList = List.map a.eval args.toList := List.map_congr_left fun z hz => (hplain z hz).2.2
    rw [List.map_append, List.map_map, h1]; rfl
  have hrun : (execOp a.eval o).run c.P w = .ok (.enter f (args.toList.map a.eval ++ [Value.pointer (some ⟨g, 0, none⟩)]).toArray) w := by
    have hb : fn.body ≠ none := fun e => by rw [e] at hbody; cases hbody
    have hn : fn.name ≠ "runtime.NumGoroutine" := fun e => by rw [e] at hname; simp at hname
    have hfe : (S.eval fx).rel ρ (a.eval fx) := eval_rel hag hs (by simp [hop, Op.operands, Call.operands])
    rw [hfx] at hfe
    have hev : a.eval fx = .func (.func f) #[] #[.pointer (some ⟨g, 0, none⟩)] := by
      have h1 : a.eval fx = hdV (ρ h) := hfe
      rw [h1, hv]; rfl
    simp [execOp, hop, resolve, hev, Deferred.ofValue, invoke, callFunc, hfs, hn, hb]
    try (apply Array.ext'; simp)
  rw [← hheads] at hrun
  refine ⟨f, _, hrun, (hfn.go hpre w _ hargs).mono fun e' w' ⟨v, hev, hret⟩ => ⟨v, hev, ρ, ?_⟩⟩
  obtain ⟨us, hus1, hus2, hus3, _⟩ := hret.res
  have hchg := hret.chg
  rw [hOB] at hchg
  refine hs.step (D := fun _ => False) hdl hchg (fun _ hk => hk.elim) (fun x hne => absurd rfl hne) (fun x hx => rfl) (fun _ _ _ _ _ _ _ hk => hk) (fun y e1 hy => by simp [normWr, look] at hy) (fun y e1 hy => by simp [normWr, look] at hy) ?_
  rw [hres] at hus1 hus2 hus3
  simp only at hus1
  obtain ⟨u, rfl, rfl⟩ := hus1
  obtain ⟨u', hu', hru⟩ := hus3 0 a0 rfl
  simp only [List.getElem?_cons_zero, Option.some.injEq] at hu'
  subst hu'
  show (AV.one a0).norm.rel ρ (hdV u)
  refine (AV.rel_norm ρ _ _).2 ?_
  unfold plainA at hpa
  split at hpa
  · rw [hru.2]; rfl
  · rw [hru.2]; rfl
  · cases hpa
end
end Go.Proofs.Ytacomnelongbjab
namespace Go.Proofs.Ytacomnelongbjab
open Go Go.RowKit

section
variable {c : Ctx} {ops : Array Oper} {o : Oper} {S : St} {R : List Nat}

theorem cu_at {S' : SS} {ρ : Nat → Value} {a : Act} {w : World} {h : Nat} {l : List Int} {at_ sd : Int} (hag : Agree ops o R (den S) S') (hs : SatR c S' ρ a.tmps w) (hh : h ∈ R) (hl : look h S.mem = some (.cu l at_ sd)) :
    S'.mem h = some (.cu l at_ sd) ∧ ∃ g C, ρ h = .tuple #[.pointer (some ⟨g, 0, none⟩), .agg #[C]] ∧ c.own g ∧ CurAt w g C at_ sd ∧ CodeAt c.w0 (fun k => k < c.w0.heap.size ∧ ¬ c.X k) l C := by
  have hm := mem_at hag hh hl
  exact ⟨hm, hs.mem h _ hm⟩
theorem st_at {S' : SS} {ρ : Nat → Value} {a : Act} {w : World} {h : Nat} {l : List Int} (hag : Agree ops o R (den S) S') (hs : SatR c S' ρ a.tmps w) (hh : h ∈ R) (hl : look h S.mem = some (.st l)) :
    CodeAt c.w0 (fun k => k < c.w0.heap.size ∧ ¬ c.X k) l (ρ h) := hs.mem h _ (mem_at hag hh hl)
theorem co_val {S' : SS} {ρ : Nat → Value} {a : Act} {w : World} {x : Operand} {h : Nat} (hag : Agree ops o R (den S) S') (hs : SatR c S' ρ a.tmps w) (hx : S.eval x = .one (.co h)) (hin : x ∈ o.op.operands.toList) : a.eval x = hdV (ρ h) := by
  have := eval_rel hag hs hin
  rw [hx] at this
  exact this

theorem good_nil2 {x : Operand} {e : Eff} (hN : ∀ d, o.dst = some d → d < c.N) (hw : Wanted c ops o S) (hop : o.op = .nilCheck x) (he : effNil2 S (S.eval x) = some e) (hR : ∀ h ∈ (S.eval x).hs, h ∈ R) : Good c ops o (den S) R e.val.norm (normWr e.wr) := by
  unfold effNil2 at he
  split at he
  · rename_i h hx
    split at he
    · rename_i l a0 s0 hl
      simp only [val1, Option.some.injEq] at he; subst he
      refine good_of hN hw fun S' ρ a w hag _ hs hd => ?_
      obtain ⟨_, g, C, hv, _⟩ := cu_at hag hs (hR h (by rw [hx]; simp [AV.hs, A0.hs])) hl
      have h2 := co_val hag hs hx (by simp [hop, Op.operands])
      have h3 : a.eval x = .pointer (some ⟨g, 0, none⟩) := by rw [h2, hv]; rfl
      exact ⟨a.eval x, w, ρ, .inl (by simp [execOp, hop, h3]), hs.val hd h2⟩
    · rw [← hx] at he
      exact good_nil hN hw hop he hR
  · exact good_nil hN hw hop he hR

theorem good_fieldCur {tab : Tab} (hT : TabOk c.P tab) {t f sz by_ : Nat} {x : Operand} {e : Eff} (hN : ∀ d, o.dst = some d → d < c.N) (hw : Wanted c ops o S) (hop : o.op = .fieldAddr t x f) (hti : look t tab = some ⟨.cur, sz, by_⟩) (he : fieldCur S (S.eval x) f = some e) (hR : ∀ h ∈ (S.eval x).hs, h ∈ R) : Good c ops o (den S) R e.val.norm (normWr e.wr) := by
  obtain ⟨F, i, hu, hi, his, hz, hF⟩ := tiB_cur (hT _ _ hti)
  obtain ⟨fa, fb, fc, hFF, ⟨o1, o2, o3⟩, ⟨i1, hi1, hs1⟩, ⟨i2, hi2, hs2⟩, ⟨i3, hi3, hs3⟩⟩ := curB_spec hF
  have hFa : F = #[fa, fb, fc] := by apply Array.ext'; simpa using hFF
  unfold fieldCur at he
  split at he
  case h_2 => cases he
  rename_i h hx
  split at he
  case h_2 => cases he
  rename_i l a0 s0 hl
  cases hb : Nat.blt f 3 with
  | false => rw [hb] at he; cases he
  | true =>
  rw [hb] at he
  simp only [cond_true, val1, Option.some.injEq] at he; subst he
  have hf2 : f < 3 := by simpa [Nat.blt_eq] using hb
  refine good_of hN hw fun S' ρ a w hag _ hs hd => ?_
  obtain ⟨_, g, C, hv, _⟩ := cu_at hag hs (hR h (by rw [hx]; simp [AV.hs, A0.hs])) hl
  have hev : a.eval x = .pointer (some ⟨g, 0, none⟩) := by rw [co_val hag hs hx (by simp [hop, Op.operands]), hv]; rfl
  have run : (execOp a.eval o).run c.P w = .ok (.value (.pointer (some ⟨g, f, none⟩))) w := by
    rcases (by omega : f = 0 ∨ f = 1 ∨ f = 2) with rfl | rfl | rfl
    · have := run_fieldAt (P := c.P) (w := w) (a := ⟨g, 0, none⟩) (f := 0) (fd := fa) hu (by rw [hFa]; rfl) hi1 (by omega)
      simp [execOp, hop, hev, this, o1, add0]
    · have := run_fieldAt (P := c.P) (w := w) (a := ⟨g, 0, none⟩) (f := 1) (fd := fb) hu (by rw [hFa]; rfl) hi2 (by omega)
      simp [execOp, hop, hev, this, o2, add0]
    · have := run_fieldAt (P := c.P) (w := w) (a := ⟨g, 0, none⟩) (f := 2) (fd := fc) hu (by rw [hFa]; rfl) hi3 (by omega)
      simp [execOp, hop, hev, this, o3, add0]
  refine ⟨_, w, ρ, .inl run, hs.val hd ?_⟩
  show _ = addTo (seg (ρ h) 0) f
  rw [hv]
  exact (addTo_ptr g f).symm

theorem run_loadAt_uk {P : Program} {w : World} {t : TypeId} {k : IntKind} {a : Addr} {v : Value} (ht : P.underlying t = some (.int k)) (h : w.cell? a = some v) : (Instr.loadAt t (.pointer (some a))).run P w = .ok v w := by
  simp [Instr.loadAt, Instr.sureAddr, loadVar, run_isAgg_int ht, h]
theorem good_load3 {tab : Tab} (hT : TabOk c.P tab) {t : Nat} {x : Operand} {e : Eff} (hN : ∀ d, o.dst = some d → d < c.N) (hw : Wanted c ops o S) (hop : o.op = .load t x) (he : effLoad3 (look t tab) S (S.eval x) = some e) (hp : e.pre) (hR : ∀ h ∈ (S.eval x).hs, h ∈ R)
    (old : effLoad2 (look t tab) S (S.eval x) = some e → Good c ops o (den S) R e.val.norm (normWr e.wr)) : Good c ops o (den S) R e.val.norm (normWr e.wr) := by
  unfold effLoad3 at he
  split at he
  · rename_i h q hx
    unfold loadOe at he
    split at he
    · rename_i l a0 s0 hl
      have at_ : ∀ (S' : SS) (ρ : Nat → Value) (a : Act) (w : World), Agree ops o R (den S) S' → SatR c S' ρ a.tmps w → ∃ g C, a.eval x = .pointer (some ⟨g, q, none⟩) ∧ ρ h = .tuple #[.pointer (some ⟨g, 0, none⟩), .agg #[C]] ∧ (∀ v, (#[C, vI a0, .int .u64 s0] : Array Value)[q]? = some v → w.cell? ⟨g, q, none⟩ = some v) := by
        intro S' ρ a w hag hs
        obtain ⟨_, g, C, hv, _, ⟨t', hg⟩, _⟩ := cu_at hag hs (hR h (by rw [hx]; simp [AV.hs, A0.hs])) hl
        have h5 := eval_rel hag hs (x := x) (by simp [hop, Op.operands])
        rw [hx] at h5
        have h6 : a.eval x = addTo (seg (ρ h) 0) q := h5
        refine ⟨g, C, ?_, hv, fun v hq => ?_⟩
        · rw [h6, hv]; exact addTo_ptr g q
        · rw [cell_of_row w g q _ t' (0, 0) hg]; exact hq
      unfold loadCu at he
      split at he
      · rename_i hti
        simp only [val1, Option.some.injEq] at he; subst he
        have hu := tiB_slice (hT _ _ hti)
        refine good_load_of hN hw hop fun S' ρ a w hag hs => ?_
        obtain ⟨g, C, hev, hv, hc⟩ := at_ S' ρ a w hag hs
        refine ⟨C, by rw [hev]; exact run_loadAt_slice hu (hc C rfl), ?_⟩
        show C = codeOf (ρ h)
        rw [hv]; rfl
      · rename_i hti
        simp only [val1, Option.some.injEq] at he; subst he
        obtain ⟨hu, _⟩ := tiB_int (hT _ _ hti)
        refine good_load_of hN hw hop fun S' ρ a w hag hs => ?_
        obtain ⟨g, C, hev, hv, hc⟩ := at_ S' ρ a w hag hs
        exact ⟨vI a0, by rw [hev]; exact run_loadAt_int hu (hc _ rfl), rfl⟩
      · rename_i hti
        simp only [val1, Option.some.injEq] at he; subst he
        obtain ⟨hu, _⟩ := tiB_uk (hT _ _ hti)
        refine good_load_of hN hw hop fun S' ρ a w hag hs => ?_
        obtain ⟨g, C, hev, hv, hc⟩ := at_ S' ρ a w hag hs
        exact ⟨.int .u64 s0, by rw [hev]; exact run_loadAt_uk hu (hc _ rfl), rfl⟩
      · cases he
    · rw [← hx] at he
      exact old he
  · rename_i h q hx
    unfold loadCe at he
    split at he
    case h_2 => cases he
    rename_i l a0 s0 hl
    split at he
    case h_2 => cases he
    rename_i hti
    simp only [Option.some.injEq] at he; subst he
    have hq : q < l.length := hp
    obtain ⟨hu, _⟩ := tiB_uk (hT _ _ hti)
    refine good_load_of hN hw hop fun S' ρ a w hag hs => ?_
    obtain ⟨_, g, C, hv, _, _, hcode⟩ := cu_at hag hs (hR h (by rw [hx]; simp [AV.hs, A0.hs])) hl
    obtain ⟨_, A, n, cap, hC, hn, _, _, hr⟩ := hcode.now hs.frame (q := fun _ => True) fun _ _ _ => trivial
    obtain ⟨ad, hA, _, hcell⟩ := hr (by omega)
    have h5 := eval_rel hag hs (x := x) (by simp [hop, Op.operands])
    rw [hx] at h5
    have h6 : a.eval x = addTo (codeOf (ρ h)) q := h5
    have h7 : a.eval x = .pointer (some (ad.add q)) := by
      rw [h6, hv]
      show addTo C q = _
      rw [hC, hA]; rfl
    refine ⟨.int .u8 (l.getD q 0), ?_, rfl⟩
    rw [h7]
    exact run_loadAt_uk hu (hcell q _ (by simp [hq]))
  · exact old he

theorem good_store3 {tab : Tab} (hT : TabOk c.P tab) {t : Nat} {x y : Operand} {e : Eff} (hN : ∀ d, o.dst = some d → d < c.N) (hw : Wanted c ops o S) (hop : o.op = .store t x y) (he : effStore3 (look t tab) S (S.eval x) (S.eval y) = some e) (hR : ∀ h ∈ (S.eval x).hs, h ∈ R)
    (old : effStore2 (look t tab) S (S.eval x) (S.eval y) = some e → Good c ops o (den S) R e.val.norm (normWr e.wr)) : Good c ops o (den S) R e.val.norm (normWr e.wr) := by
  unfold effStore3 at he
  split at he
  · rename_i h q hx
    unfold storeOe at he
    split at he
    · rename_i l a0 s0 hl
      have hh : h ∈ R := hR h (by rw [hx]; simp [AV.hs, A0.hs])
      have go : ∀ (a1 s1 : Int) (u : Value) (k : IntKind), c.P.underlying t = some (.int k) → (∃ i, c.P.info? t = some i ∧ i.size = 1) → u.cells = #[u] → u.oneCell' = true → (∀ C : Value, q < 3 ∧ ((#[C, vI a0, .int .u64 s0] : Array Value).toList.take q ++ [u] ++ (#[C, vI a0, .int .u64 s0] : Array Value).toList.drop (q + 1)).toArray = #[C, vI a1, .int .u64 s1]) →
          (∀ (S' : SS) (ρ : Nat → Value) (a : Act) (w : World), Agree ops o R (den S) S' → SatR c S' ρ a.tmps w → a.eval y = u) → Good c ops o (den S) R (AV.norm (.one .bot)) (normWr [(h, some (.cu l a1 s1))]) := by
        intro a1 s1 u k hu ⟨i, hi, his⟩ hcl hone hcs hy
        refine good_store_of hN hw hop hl hh rfl fun S' ρ a w hag hs => ?_
        obtain ⟨_, g, C, hv, hown, ⟨t', hg⟩, hcode⟩ := cu_at hag hs hh hl
        obtain ⟨hq3, hcs'⟩ := hcs C
        have h5 := eval_rel hag hs (x := x) (by simp [hop, Op.operands])
        rw [hx] at h5
        have h6 : a.eval x = addTo (seg (ρ h) 0) q := h5
        have hev : a.eval x = .pointer (some ⟨g, q, none⟩) := by rw [h6, hv]; exact addTo_ptr g q
        have hst := run_storeAt (P := c.P) (t := t) (g := g) (o := q) (el := t') (cur := #[C, vI a0, .int .u64 s0]) (v := u) hi (by rw [hcl, his]; rfl) hg (by rw [hcl]; simp; omega) (by rw [hcl]; simpa using hone)
        have e1 : u.cells.toList = [u] := by rw [hcl]
        have e2 : u.cells.size = 1 := by rw [hcl]; rfl
        rw [e1, e2, hcs'] at hst
        refine ⟨g, _, by rw [hv]; exact ⟨0, _, rfl, rfl⟩, by rw [hev, hy S' ρ a w hag hs]; exact hst, g, C, hv, hown, ⟨t', setRow_heap w g _ _ t' _ hg⟩, hcode⟩
      have hyv : ∀ (S' : SS) (ρ : Nat → Value) (a : Act) (w : World), Agree ops o R (den S) S' → SatR c S' ρ a.tmps w → (S.eval y).rel ρ (a.eval y) := fun S' ρ a w hag hs => eval_rel hag hs (by simp [hop, Op.operands])
      unfold storeCu at he
      split at he
      · rename_i n hti hy
        simp only [Option.some.injEq] at he; subst he
        obtain ⟨hu, _, i, hi, his, _⟩ := tiB_int (hT _ _ hti)
        exact go n s0 (vI n) .i64 hu ⟨i, hi, his⟩ rfl rfl (fun C => ⟨by omega, rfl⟩) fun S' ρ a w hag hs => by
          have := hyv S' ρ a w hag hs
          rw [hy] at this
          exact this
      · rename_i m hti hy
        simp only [Option.some.injEq] at he; subst he
        obtain ⟨hu, _, i, hi, his⟩ := tiB_uk (hT _ _ hti)
        exact go a0 m (.int .u64 m) .u64 hu ⟨i, hi, his⟩ rfl rfl (fun C => ⟨by omega, rfl⟩) fun S' ρ a w hag hs => by
          have := hyv S' ρ a w hag hs
          rw [hy] at this
          exact this
      · cases he
    · rw [← hx] at he
      exact old he
  · exact old he

theorem good_len2 {tab : Tab} (hT : TabOk c.P tab) {args : Array Operand} {ts : Array Nat} {t : Nat} {x : Operand} {e : Eff} (hN : ∀ d, o.dst = some d → d < c.N) (hw : Wanted c ops o S) (hop : o.op = .call ⟨.builtin .len, args, ts⟩) (ha : args.toList = [x]) (hts : ts.toList = [t])
    (ht : (elemSz tab t).isSome = true) (he : lenOf2 S (S.eval x) = some e) (hp : e.pre) (hR : ∀ h ∈ (S.eval x).hs, h ∈ R) : Good c ops o (den S) R e.val.norm (normWr e.wr) := by
  unfold lenOf2 at he
  have old : lenOf S (S.eval x) = some e → Good c ops o (den S) R e.val.norm (normWr e.wr) := fun he => good_len hT hN hw hop ha hts ht he hp hR
  have haa : args = #[x] := by apply Array.ext'; simpa using ha
  have htt : ts = #[t] := by apply Array.ext'; simpa using hts
  subst haa; subst htt
  obtain ⟨sz, hsz⟩ := Option.isSome_iff_exists.1 ht
  obtain ⟨el, i, hu, _, _⟩ := elemSz_slice hT hsz
  have hxin : x ∈ o.op.operands.toList := by simp [hop, Op.operands, Call.operands]
  have run : ∀ (a : Act) w A (n cap : Nat), a.eval x = .slice A n cap → (execOp a.eval o).run c.P w = .ok (.value (vI n)) w := by
    intro a w A n cap hx
    simp [execOp, hop, resolve, invoke, builtin, hx, run_len _ hu]
  split at he
  · rename_i h hx
    split at he
    case h_2 => cases he
    rename_i l a0 s0 hl
    simp only [val1, Option.some.injEq] at he; subst he
    refine good_of hN hw fun S' ρ a w hag _ hs hd => ?_
    obtain ⟨_, g, C, hv, _, _, _, A, n, cap, hC, hn, _⟩ := cu_at hag hs (hR h (by rw [hx]; simp [AV.hs, A0.hs])) hl
    have hxr := eval_rel hag hs hxin
    rw [hx] at hxr
    have hxv : a.eval x = .slice A n cap := by
      have h1 : a.eval x = codeOf (ρ h) := hxr
      rw [h1, hv]; exact hC
    exact ⟨_, w, ρ, .inl (run a w A n cap hxv), hs.val hd (by rw [hn]; rfl)⟩
  · rename_i h hx
    split at he
    · rename_i l hl
      simp only [val1, Option.some.injEq] at he; subst he
      refine good_of hN hw fun S' ρ a w hag _ hs hd => ?_
      obtain ⟨_, A, n, cap, hC, hn, _⟩ := st_at hag hs (hR h (by rw [hx]; simp [AV.hs, A0.hs])) hl
      have hxv : a.eval x = .slice A n cap := by rw [co_val hag hs hx hxin, hC]; rfl
      exact ⟨_, w, ρ, .inl (run a w A n cap hxv), hs.val hd (by rw [hn]; rfl)⟩
    · rw [← hx] at he; exact old he
  · exact old he

theorem good_index2 {tab : Tab} (hT : TabOk c.P tab) {t : Nat} {x y : Operand} {e : Eff} (hN : ∀ d, o.dst = some d → d < c.N) (hw : Wanted c ops o S) (hop : o.op = .indexAddr t x y)
    (he : effIndex2 tab S t (S.eval x) (S.eval y) = some e) (hp : e.pre) (hR : ∀ h ∈ (S.eval x).hs, h ∈ R) : Good c ops o (den S) R e.val.norm (normWr e.wr) := by
  have hxin : x ∈ o.op.operands.toList := by simp [hop, Op.operands]
  have hyin : y ∈ o.op.operands.toList := by simp [hop, Op.operands]
  unfold effIndex2 at he
  split at he
  · rename_i h hx
    unfold idxCur at he
    split at he
    case h_2 => cases he
    rename_i n el _ _ hy hti
    unfold idxCs at he
    split at he
    case h_2 => cases he
    rename_i l a0 s0 hl
    split at he
    case h_2 => cases he
    rename_i hle
    simp only [Option.some.injEq] at he; subst he
    obtain ⟨hp0, hp1⟩ : 0 ≤ n ∧ n < l.length := hp
    have hu := tiB_slice (hT _ _ hti)
    obtain ⟨_, _, i, hi, his⟩ := tiB_uk (hT _ _ hle)
    refine good_of hN hw fun S' ρ a w hag _ hs hd => ?_
    obtain ⟨_, g, C, hv, _, _, hcode⟩ := cu_at hag hs (hR h (by rw [hx]; simp [AV.hs, A0.hs])) hl
    obtain ⟨_, A, m, cap, hC, hn, _, _, hr⟩ := hcode
    obtain ⟨ad, hA, _⟩ := hr (by omega)
    have hyv : a.eval y = vI n := by
      have := eval_rel hag hs hyin
      rw [hy] at this
      exact rel_i this
    have hxv : a.eval x = .slice (some ad) m cap := by
      have hxr := eval_rel hag hs hxin
      rw [hx] at hxr
      have h1 : a.eval x = codeOf (ρ h) := hxr
      rw [h1, hv]
      show C = _
      rw [hC, hA]
    refine ⟨_, w, ρ, .inl (by simp only [execOp, hop, hxv, hyv]; rw [Sem.run_bind, run_indexAt_slc hu hi hp0 (by omega)]; rfl), hs.val hd ?_⟩
    show _ = addTo (codeOf (ρ h)) n.toNat
    rw [hv]
    show _ = addTo C n.toNat
    rw [hC, hA, addTo_slice, his, Nat.mul_one]
  · exact good_index hT hN hw hop he hp hR

theorem good_conv {tab : Tab} (hT : TabOk c.P tab) {src dst : Nat} {x : Operand} {e : Eff} (hN : ∀ d, o.dst = some d → d < c.N) (hw : Wanted c ops o S) (hop : o.op = .convert src dst x) (he : effConv (look src tab) (look dst tab) (S.eval x) = some e) : Good c ops o (den S) R e.val.norm (normWr e.wr) := by
  unfold effConv at he
  split at he
  · rename_i ti k n hs0 hti hx
    simp only [val1, Option.some.injEq] at he; subst he
    obtain ⟨i0, d0, _, hd0, _⟩ := tiB_info (hT _ _ hs0)
    obtain ⟨hu, _⟩ := tiB_int (hT _ _ hti)
    refine good_val hN hw fun ρ a w hxx => ?_
    have h1 := hxx x (by simp [hop, Op.operands])
    rw [hx] at h1
    have h2 : a.eval x = .int k n := h1
    exact ⟨vI (wrap64 n), by simp [execOp, hop, convert, run_underlying hd0, run_underlying hu, h2, Conv.intToInt, wrap64_eq], rfl⟩
  · rename_i ti0 k sz0 by0 n hs0 hti hx
    simp only [val1, Option.some.injEq] at he; subst he
    obtain ⟨i0, d0, _, hd0, _⟩ := tiB_info (hT _ _ hs0)
    obtain ⟨hu, _⟩ := tiB_uk (hT _ _ hti)
    refine good_val hN hw fun ρ a w hxx => ?_
    have h1 := hxx x (by simp [hop, Op.operands])
    rw [hx] at h1
    have h2 : a.eval x = vI n := h1
    exact ⟨.int k (k.wrap n), by simp [execOp, hop, convert, run_underlying hd0, run_underlying hu, h2, Conv.intToInt], rfl⟩
  · cases he

theorem binU_run {P : Program} {op : BinOp} {k : IntKind} {a b : Int} {e : Eff} (t : Nat) (x y : Operand) (he : binU op k a b = some e) (hp : e.pre) (w : World) :
    ∃ v, (do eqGuard op t x y (.int k a) (.int k b); binOp op t (.int k a) (.int k b) : Sem Value).run P w = .ok v w ∧ (∀ ρ, e.val.rel ρ v) ∧ e.wr = [] := by
  unfold binU at he
  split at he <;> simp only [val1, Option.some.injEq, reduceCtorEq] at he <;> subst he
  · exact ⟨.int k (k.wrap (a + b)), by simp [eqGuard, binOp, Op.intArith], fun _ => rfl, rfl⟩
  · exact ⟨.int k (k.wrap (a * b)), by simp [eqGuard, binOp, Op.intArith], fun _ => rfl, rfl⟩
  · exact ⟨.int k (k.wrap ((BitVec.ofInt k.bits a &&& BitVec.ofInt k.bits b).toNat : Nat)), by simp [eqGuard, binOp, Op.intBits], fun _ => rfl, rfl⟩
  · have hp' : 0 ≤ b := hp
    have hn : ¬ b < 0 := by omega
    exact ⟨.int k (a.fdiv (2 ^ (min b.toNat k.bits))), by simp [eqGuard, binOp, Op.shift, hn], fun _ => rfl, rfl⟩
theorem good_bin2 {tab : Tab} (hT : TabOk c.P tab) {x y : Operand} {op : BinOp} {t t' : Nat} {e : Eff} (hN : ∀ d, o.dst = some d → d < c.N) (hw : Wanted c ops o S) (hop : o.op = .binOp op t x y t') (he : effBin2 (look t tab) op (S.eval x) (S.eval y) = some e) (hp : e.pre) : Good c ops o (den S) R e.val.norm (normWr e.wr) := by
  unfold effBin2 at he
  split at he
  · rename_i k a0 k' b0 hx hy
    cases hb : k == k' with
    | false => rw [hb] at he; cases he
    | true =>
    rw [hb] at he
    simp only [cond_true] at he
    have hkk : k = k' := by simpa using hb
    subst hkk
    obtain ⟨_, _, _, hwr⟩ := binU_run (P := c.P) t x y he hp default
    rw [hwr]
    refine good_val hN hw fun ρ a' w hxx => ?_
    have h1 := hxx x (by simp [hop, Op.operands])
    have h2 := hxx y (by simp [hop, Op.operands])
    rw [hx] at h1; rw [hy] at h2
    obtain ⟨v, hr, hv, _⟩ := binU_run (P := c.P) t x y he hp w
    refine ⟨v, ?_, hv ρ⟩
    have h1' : a'.eval x = .int k a0 := h1
    have h2' : a'.eval y = .int k b0 := h2
    simp only [execOp, hop, h1', h2']
    have : ((do eqGuard op t x y (.int k a0) (.int k b0); binOp op t (.int k a0) (.int k b0) : Sem Value) >>= fun v => pure (Next.value v)).run c.P w = .ok (.value v) w := by
      rw [Sem.run_bind, hr]; simp
    exact this
  · exact good_bins hT hN hw hop he hp

theorem good_buildCur {tab : Tab} (hT : TabOk c.P tab) {t sz by_ : Nat} {ps : Array (Nat × Operand)} {e : Eff} (hN : ∀ d, o.dst = some d → d < c.N) (hw : Wanted c ops o S) (hop : o.op = .build t ps) (hti : look t tab = some ⟨.cur, sz, by_⟩) (he : buildCur S (ps.toList.map fun p => (p.1, S.eval p.2)) = some e) (hR : ∀ p ∈ ps.toList, ∀ h ∈ (S.eval p.2).hs, h ∈ R) : Good c ops o (den S) R e.val.norm (normWr e.wr) := by
  obtain ⟨F, i, hu, hi, his, hz, hF⟩ := tiB_cur (hT _ _ hti)
  obtain ⟨fa, fb, fc, hFF, ⟨o1, o2, o3⟩, ⟨i1, hi1, hs1⟩, ⟨i2, hi2, hs2⟩, ⟨i3, hi3, hs3⟩⟩ := curB_spec hF
  have hFa : F = #[fa, fb, fc] := by apply Array.ext'; simpa using hFF
  unfold buildCur at he
  split at he
  case h_2 => cases he
  rename_i h hps
  split at he
  case h_2 => cases he
  rename_i l hl
  simp only [val1, Option.some.injEq] at he; subst he
  obtain ⟨x, hpl, hx⟩ : ∃ x, ps.toList = [(0, x)] ∧ S.eval x = .one (.co h) := by
    match hl : ps.toList, hps with
    | [p], hps =>
      simp only [List.map_cons, List.map_nil, List.cons.injEq, Prod.mk.injEq, and_true] at hps
      exact ⟨p.2, by rw [← hps.1], hps.2⟩
    | [], hps => simp at hps
    | _ :: _ :: _, hps => simp at hps
  have hpa : ps = #[(0, x)] := by apply Array.ext'; simpa using hpl
  subst hpa
  refine good_of hN hw fun S' ρ a w hag _ hs hd => ?_
  have hcode := st_at hag hs (hR (0, x) (by simp) h (by rw [hx]; simp [AV.hs, A0.hs])) hl
  have hxv : a.eval x = ρ h := by rw [co_val hag hs hx (by simp [hop, Op.operands])]; exact hcode.thin
  obtain ⟨_, A, n, cap, hC, _⟩ := hcode
  refine ⟨.agg #[ρ h, vI 0, .int .u64 0], w, ρ, .inl ?_, hs.val hd rfl⟩
  have hmap : (F.mapM fun f => do pure (f.offset, ← sizeOf f.type) : Sem (Array (Nat × Nat))).run c.P w = .ok #[(0, 1), (1, 1), (2, 1)] w := by
    rw [hFa, Array.mapM_eq_mapM_toList]
    simp [List.mapM_cons, o1, o2, o3, run_size hi1, run_size hi2, run_size hi3, hs1, hs2, hs3]
  simp only [execOp, hop, Instr.build, Sem.run_bind, run_zero hi hz, Result.andThen_ok, run_underlying hu, hmap]
  rw [hC] at hxv
  simp [Instr.fill, Value.cells, hxv, hC]

theorem good_boxCur {t h : Nat} {x : Operand} {e : Eff} (hN : ∀ d, o.dst = some d → d < c.N) (hw : Wanted c ops o S) (hop : o.op = .box t x) (hx : S.eval x = .one (.cz h)) (he : boxCur o.dst h (look h S.mem) = some e) (hR : R = [h]) : Good c ops o (den S) R e.val.norm (normWr e.wr) := by
  unfold boxCur at he
  split at he
  case h_2 => cases he
  rename_i d l hd hl
  cases hb : d == h with
  | true => rw [hb] at he; cases he
  | false =>
  rw [hb] at he
  simp only [cond_false, Option.some.injEq] at he; subst he
  have hdh : d ≠ h := by simpa using hb
  refine good_of hN hw fun S' ρ a w hag hfr hs hdl => ?_
  have hcode := st_at hag hs (h := h) (by rw [hR]; simp) hl
  have hxv : a.eval x = .agg #[ρ h, vI 0, .int .u64 0] := by
    have := eval_rel hag hs (x := x) (by simp [hop, Op.operands])
    rw [hx] at this
    exact this
  have hrun : (execOp a.eval o).run c.P w = .ok (.value (.pointer (some ⟨w.heap.size, 0, none⟩))) (w.alloc (.cells #[ρ h, vI 0, .int .u64 0] t)) := by
    simp [execOp, hop, run_box, hxv, Value.cells]
  refine ⟨_, _, upd ρ d (.tuple #[.pointer (some ⟨w.heap.size, 0, none⟩), .agg #[ρ h]]), .inl hrun, ?_⟩
  rw [hd]
  refine SatR.gather (cons := []) hs (hdl d hd) (hfr d (by simp [wrHs, normWr]) (by rw [hR]; simpa using hdh)) (Chg.alloc w _) (by simp) (by simp) (fun k hk => .inl ?_) ?_ ?_
  · obtain ⟨j, v, hj, hbk⟩ := hk
    match j, hj with
    | 0, hj => simp at hj; subst hj; simp [blkOf] at hbk; omega
    | 1, hj => simp at hj; subst hj; simp [blkOf] at hbk
    | j + 2, hj => simp at hj
  · exact ⟨w.heap.size, ρ h, upd_same _ _ _, .inl hs.frame.size, ⟨t, heap_alloc_new w _⟩, hcode⟩
  · show _ = hdV (upd ρ d _ d)
    rw [upd_same]; rfl

theorem plainS_rel {a : A0} (h : plainS a = true) (ρ ρ' : Nat → Value) (v : Value) : a.rel ρ v → a.norm.rel ρ' v := by
  intro hr
  unfold plainS at h
  split at h <;> first | exact hr | cases h
theorem plainV_rel {a : AV} (h : plainV a = true) (ρ ρ' : Nat → Value) (v : Value) (hr : a.rel ρ v) : a.norm.rel ρ' v := by
  cases a with
  | one a => exact plainS_rel h ρ ρ' v hr
  | tup l =>
    obtain ⟨vs, hv, hl, hj⟩ := hr
    refine ⟨vs, hv, by simpa using hl, fun j a ha => ?_⟩
    simp only [List.getElem?_map, Option.map_eq_some_iff] at ha
    obtain ⟨a', ha', rfl⟩ := ha
    obtain ⟨u, hu, hr⟩ := hj j a' ha'
    exact ⟨u, hu, plainS_rel (List.all_eq_true.1 h _ (List.mem_of_getElem? ha')) ρ ρ' u hr⟩

theorem good_callCu {spec : Spec} (hspec : SpecOk c.P spec) {f h : Nat} {args : Array Operand} {ts : Array Nat} {e : Eff} {l : List Int} {a0 s0 : Int} {rest : List AV} (hN : ∀ d, o.dst = some d → d < c.N) (hw : Wanted c ops o S) {fx : Operand} (hop : o.op = .call ⟨.value fx, args, ts⟩) (hfx : S.eval fx = .one (.fn f))
    (hargs0 : args.toList.map S.eval = .one (.co h) :: rest) (hl : look h S.mem = some (.cu l a0 s0)) (he : callCu spec S o.dst f h l a0 s0 rest = some e) (hp : e.pre) : Good c ops o (den S) ((args.toList.map S.eval).flatMap AV.hs) e.val.norm (normWr e.wr) := by
  unfold callCu at he
  cases hall0 : (rest.all cuX && (rest.map (argOf S)).all cuArg) with
  | false => rw [hall0] at he; cases he
  | true =>
  rw [hall0] at he
  simp only [cond_true] at he
  rw [Bool.and_eq_true] at hall0
  obtain ⟨hcx, hall⟩ := hall0
  unfold cuGo at he
  split at he
  case h_2 => cases he
  rename_i d ce hd hce
  split at he
  case h_2 => cases he
  rename_i a1 s1 houts
  cases hpv : plainV ce.res with
  | false => rw [hpv] at he; cases he
  | true =>
  rw [hpv] at he
  simp only [cond_true, Option.some.injEq] at he; subst he
  obtain ⟨hpre, hap⟩ : ce.pre ∧ argsPre S rest := hp
  obtain ⟨hfn, fn, hfs, hbody, hname⟩ := hspec f _ ce hce
  have hcu := hfn.cu l a0 s0 _ a1 s1 rfl houts hpv hpre
  refine good_call_of hN hw fun S' ρ a w hag hfr hs hdl => ?_
  have hin : ∀ z ∈ args.toList, z ∈ o.op.operands.toList := fun z hz => by simp [hop, Op.operands, Call.operands]; right; simpa using hz
  obtain ⟨z0, zs, hzs, hz0, hzr⟩ : ∃ z0 zs, args.toList = z0 :: zs ∧ S.eval z0 = .one (.co h) ∧ zs.map S.eval = rest := by
    cases hl : args.toList with
    | nil => rw [hl] at hargs0; simp at hargs0
    | cons z0 zs =>
      rw [hl] at hargs0
      simp only [List.map_cons, List.cons.injEq] at hargs0
      exact ⟨z0, zs, rfl, hargs0.1, hargs0.2⟩
  have hRh : h ∈ (args.toList.map S.eval).flatMap AV.hs := by rw [hargs0]; simp [AV.hs, A0.hs]
  obtain ⟨hm, g, C, hv, hown, hcat, hcode⟩ := cu_at hag hs hRh hl
  have hgl : g < w.heap.size := by obtain ⟨t, hg⟩ := hcat; exact heap_lt hg
  have hz0v : a.eval z0 = .pointer (some ⟨g, 0, none⟩) := by rw [co_val hag hs hz0 (hin z0 (by rw [hzs]; simp)), hv]; rfl
  have hcodew : CodeAt w (fun k => k < w.heap.size ∧ k ≠ g) l C := hcode.now hs.frame fun k hk ho => ⟨hk, fun e => ho (by rw [e]; exact hown)⟩
  -- the other arguments
  have hrest : ∀ (j : Nat) (b : A0), (rest.map (argOf S))[j]? = some b → ∃ v, (zs.map a.eval)[j]? = some v ∧ hdV v = v ∧ ArgRel w (fun k => k = g) false b v := by
    intro j b hb
    simp only [List.getElem?_map, Option.map_eq_some_iff] at hb
    obtain ⟨x, hxj, rfl⟩ := hb
    rw [← hzr] at hxj
    simp only [List.getElem?_map, Option.map_eq_some_iff] at hxj
    obtain ⟨z, hz, rfl⟩ := hxj
    have hzmem : z ∈ args.toList := by rw [hzs]; exact List.mem_cons_of_mem _ (List.mem_of_getElem? hz)
    have hrmem : S.eval z ∈ rest := by rw [← hzr]; exact List.mem_map.2 ⟨z, List.mem_of_getElem? hz, rfl⟩
    have hcu1 : cuArg (argOf S (S.eval z)) = true := List.all_eq_true.1 hall _ (List.mem_map.2 ⟨_, hrmem, rfl⟩)
    have hok : argOk (argOf S (S.eval z)) = true := by
      unfold cuArg at hcu1
      split at hcu1 <;> first | (rename_i heq; rw [heq]; rfl) | cases hcu1
    refine ⟨a.eval z, by simp [hz], ?_⟩
    have hsp := argsPre_at hap _ hrmem
    have hRz : ∀ x ∈ (S.eval z).hs, x ∈ (args.toList.map S.eval).flatMap AV.hs := fun x hx => List.mem_flatMap.2 ⟨_, List.mem_map.2 ⟨z, hzmem, rfl⟩, hx⟩
    have hr := eval_rel hag hs (hin z hzmem)
    generalize S.eval z = xe at *
    rcases argOf_rel hok hr with ⟨r, hra, hk⟩ | ⟨hnr, hvv, hnf, hth⟩ | ⟨_, _, _, _, hra⟩
    · rw [hra] at hcu1 ⊢
      have hff : r.flat = true := hcu1
      cases hk with
      | comp hc => exact absurd (compOf_comp hc) (by rw [hff]; simp)
      | clo _ _ => simp [RC.flat] at hff
      | inner hir =>
        have := List.all_eq_true.1 hcx _ hrmem
        simp [cuX] at this
      | flat hf2 hrr =>
        have hrd := read_at hag hs hRz hrr hsp hr
        obtain ⟨hwf, A, n, cap, e1, e2, e3, e4, e5, e6⟩ := hrd
        refine ⟨by rw [e1]; rfl, ?_⟩
        unfold ArgRel
        simp only
        rw [if_neg (by simp)]
        refine (ReadsRow.flat hff).2 ⟨hwf, A, n, cap, e1, e2, e3, e4, fun h0 => ?_⟩
        cases A with
        | none => exact absurd (e5 rfl) (by omega)
        | some ad =>
          refine ⟨ad, rfl, ?_, e6 ad rfl⟩
          have hcx1 := List.all_eq_true.1 hcx _ hrmem
          cases xe with
          | tup l => simp [readOf] at hrr
          | one a0 =>
            cases a0 with
            | row h' =>
              obtain ⟨en, hen, hen2⟩ := entryRow_look hrr
              have hm2 := mem_at hag (hRz h' (by simp [AV.hs, A0.hs])) hen
              rw [en_norm hen2] at hm2
              have hvv : a.eval z = ρ h' := hr
              have hρ : ρ h' = .slice (some ad) n cap := by rw [← hvv]; exact e1
              obtain ⟨b1, b2⟩ := row_blk hs hm2 hen2 hρ h0
              refine ⟨b1, fun he => ?_⟩
              rcases b2 with ⟨_, b3⟩ | b3
              · have hne : h' ≠ h := by
                  intro e
                  subst e
                  rw [hl] at hen
                  cases hen
                  simp [entryRow] at hen2
                exact hs.sep h' h _ _ hm2 hm b3 rfl hne ad.block (by rw [hρ]; rfl) (by rw [hv, he]; exact ⟨0, _, rfl, rfl⟩)
              · exact b3 (by rw [he]; exact hown)
            | sub h' sz l k => simp [cuX] at hcx1
            | cut h' e n => simp [argOf, argOk] at hok
            | _ => simp [readOf] at hrr
    · refine ⟨hth, ?_⟩
      unfold ArgRel
      split
      · rename_i r hr'; exact absurd hr' (hnr r)
      · rename_i l' hl'; exact absurd hl' (hnf.2 l')
      · exact ⟨hok, hvv⟩
    · rw [hra] at hcu1; simp [cuArg] at hcu1
  have hrun : (execOp a.eval o).run c.P w = .ok (.enter f (args.toList.map a.eval).toArray) w := by
    have hb : fn.body ≠ none := fun e => by rw [e] at hbody; cases hbody
    have hn : fn.name ≠ "runtime.NumGoroutine" := fun e => by rw [e] at hname; simp at hname
    have hfe : (S.eval fx).rel ρ (a.eval fx) := eval_rel hag hs (by simp [hop, Op.operands, Call.operands])
    rw [hfx] at hfe
    have hev : a.eval fx = .func (.func f) #[] #[] := hfe
    simp [execOp, hop, resolve, hev, Deferred.ofValue, invoke, callFunc, hfs, hn, hb]
    rw [← Array.toList_map]
  have hvals : args.toList.map a.eval = .pointer (some ⟨g, 0, none⟩) :: zs.map a.eval := by rw [hzs, List.map_cons, hz0v]
  rw [hvals] at hrun
  refine ⟨f, _, hrun, (hcu w g C (zs.map a.eval) hcat hcodew (by rw [← hzr]; simp) hrest).mono fun e' w' ⟨v, hev, hchg, hcat', hres⟩ => ⟨v, hev, ρ, ?_⟩⟩
  refine hs.step (D := fun k => k = g) hdl hchg (fun k hk => by rw [hk]; exact hown) (fun x hne => absurd rfl hne) (fun x hx => rfl) (fun y en hy ho hnot k hk hX => ?_) (fun y e1 hy => ?_) (fun y e1 hy ho k hk => ⟨fun y2 e2 hy2 ho2 hnot hk2 => ?_, fun y2 e2 hy2 ho2 hne => ?_⟩) (plainV_rel hpv noρ ρ v hres)
  · have hne : y ≠ h := by simpa [wrHs, normWr] using hnot
    exact hs.sep y h en _ hy hm ho rfl hne k hk (by rw [hv, hX]; exact ⟨0, _, rfl, rfl⟩)
  · by_cases hyd : h = y
    · subst hyd
      simp [normWr, look, Entry.norm] at hy
      subst hy
      exact ⟨g, C, hv, hown, hcat', hcode⟩
    · have : (h == y) = false := by simpa using hyd
      simp [normWr, look, this] at hy
  · by_cases hyd : h = y
    · subst hyd
      have hne : y2 ≠ h := by simpa [wrHs, normWr] using hnot
      exact hs.sep y2 h e2 _ hy2 hm ho2 rfl hne k hk2 hk
    · have : (h == y) = false := by simpa using hyd
      simp [normWr, look, this] at hy
  · by_cases hyd : h = y
    · subst hyd
      have : (h == y2) = false := by simpa using fun e => hne e.symm
      simp [normWr, look, this] at hy2
    · have : (h == y) = false := by simpa using hyd
      simp [normWr, look, this] at hy
end
end Go.Proofs.Ytacomnelongbjab
namespace Go.Proofs.Ytacomnelongbjab
open Go Go.RowKit

section
variable {c : Ctx} {ops : Array Oper} {o : Oper} {S : St} {R : List Nat}

theorem zeroRow_spec {tab : Tab} (hT : TabOk c.P tab) {e n : Nat} {ei : TI} {r : RC} (hle : look e tab = some ei) (h : zeroRow e (some ei) n = some r) :
    ∃ i z, c.P.info? e = some i ∧ i.zero = some z ∧ i.size = r.sz ∧ i.bytes ≤ 1000 ∧ r.elem = e ∧ r.len = n ∧ r.wf ∧ (madeCells z.cells (n * i.size)).toList = r.cells := by
  have hTe := hT _ _ hle
  obtain ⟨i0, _, hi0, _, _, hb, hb2⟩ := tiB_info hTe
  unfold zeroRow at h
  split at h
  · rename_i hk
    simp only [Option.some.injEq] at hk h
    subst hk; subst h
    obtain ⟨_, rfl, i, hi, his, _, hz⟩ := tiB_int hTe
    have hii := Option.some.inj (hi0.symm.trans hi); rw [hii] at hb
    refine ⟨_, _, hi, hz, his, by rw [hb]; exact hb2, rfl, by simp [RC.len], trivial, ?_⟩
    apply List.ext_getElem?
    intro j
    simp only [madeCells, his, Value.cells, RC.cells, Array.toList_map, Array.toList_range, List.getElem?_map, List.map_replicate, List.getElem?_replicate]
    by_cases hj : j < n
    · simp [hj, Nat.mod_one]
    · simp [hj]
  · rename_i hk
    simp only [Option.some.injEq] at hk h
    subst hk; subst h
    obtain ⟨_, rfl, i, hi, his, _, hz⟩ := tiB_bool hTe
    have hii := Option.some.inj (hi0.symm.trans hi); rw [hii] at hb
    refine ⟨_, _, hi, hz, his, by rw [hb]; exact hb2, rfl, by simp [RC.len], trivial, ?_⟩
    apply List.ext_getElem?
    intro j
    simp only [madeCells, his, Value.cells, RC.cells, Array.toList_map, Array.toList_range, List.getElem?_map, List.map_replicate, List.getElem?_replicate]
    by_cases hj : j < n
    · simp [hj, Nat.mod_one]
    · simp [hj]
  · rename_i fs k _ hk
    simp only [Option.some.injEq] at hk
    subst hk
    cases hb0 : Nat.blt 0 k with
    | false => rw [hb0] at h; cases h
    | true =>
      rw [hb0] at h
      simp only [cond_true, Option.some.injEq] at h
      subst h
      have hk0 : 0 < k := by simpa [Nat.blt_eq] using hb0
      obtain ⟨F, i, _, hi, his, _, hz, _⟩ := tiB_struct hTe
      have hii := Option.some.inj (hi0.symm.trans hi); rw [hii] at hb
      refine ⟨_, _, hi, hz, his, by rw [hb]; exact hb2, rfl, by simp [RC.len], ⟨hk0, fun x hx => by rw [(List.mem_replicate.1 hx).2]; simp⟩, ?_⟩
      have hflat : ∀ m : Nat, (List.replicate m (List.replicate k (0 : Int))).flatMap (fun x => x.map vI) = List.replicate (m * k) (vI 0) := by
        intro m
        induction m with
        | zero => simp
        | succ m ih =>
          rw [List.replicate_succ, List.flatMap_cons, ih, List.map_replicate, List.replicate_append_replicate]
          congr 1
          rw [Nat.succ_mul]; omega
      simp only [RC.cells]
      rw [hflat]
      apply List.ext_getElem?
      intro j
      simp only [madeCells, his, Value.cells, Array.toList_map, Array.toList_range, List.getElem?_map, List.getElem?_replicate]
      by_cases hj : j < n * k
      · have : j % k < k := Nat.mod_lt _ hk0
        simp [hj, this]
      · simp [hj]
  · cases h

theorem good_makeSlice {tab : Tab} (hT : TabOk c.P tab) {t : Nat} {x y : Operand} {e : Eff} (hN : ∀ d, o.dst = some d → d < c.N) (hw : Wanted c ops o S) (hop : o.op = .makeSlice t x y)
    (he : effMakeSlice tab t o.dst (S.eval x) (S.eval y) = some e) (hp : e.pre) (hR : ∀ d, o.dst = some d → d ∉ R) : Good c ops o (den S) R e.val.norm (normWr e.wr) := by
  unfold effMakeSlice at he
  split at he
  case h_2 => cases he
  rename_i d el _ _ hd hti
  split at he
  case h_2 => cases he
  rename_i n m hx hy
  split at he
  case h_2 => cases he
  rename_i r hr
  simp only [Option.some.injEq] at he; subst he
  obtain ⟨h1, h2, h3⟩ : n = m ∧ 0 ≤ n ∧ n ≤ 1000000000 := hp
  subst h1
  have hu := tiB_slice (hT _ _ hti)
  cases hle : look el tab with
  | none => rw [hle] at hr; simp [zeroRow] at hr
  | some ei =>
  rw [hle] at hr
  obtain ⟨i, z, hi, hz, his, hby, hel, hln, hwf, hcells⟩ := zeroRow_spec hT hle hr
  refine good_newrow hN hw hd (hR d hd) fun ρ a w hxx => ?_
  have e1 := hxx x (by simp [hop, Op.operands])
  have e2 := hxx y (by simp [hop, Op.operands])
  rw [hx] at e1; rw [hy] at e2
  have e1' := rel_i e1
  have e2' := rel_i e2
  have hnn : n = ((n.toNat : Nat) : Int) := by omega
  have hmul : (i.bytes : Int) * n ≤ 281474976710656 := by
    have h4 : i.bytes * n.toNat ≤ 1000 * 1000000000 := Nat.mul_le_mul hby (by omega)
    have h5 : ((i.bytes * n.toNat : Nat) : Int) = (i.bytes : Int) * n := by rw [Int.natCast_mul]; rw [← hnn]
    omega
  have hrun := run_make (P := c.P) w t el i z hu hi hz .i64 .i64 n n h2 (Int.le_refl _) hmul (by omega)
  refine ⟨madeCells z.cells (n.toNat * i.size), ?_, hwf, by rw [hln]; unfold maxLen; omega, by rw [size_madeCells, hln, his], by rw [hcells]⟩
  rw [hel, hln]
  simp [execOp, hop, e1', e2', hrun]

theorem good_makeRows {tab : Tab} (hT : TabOk c.P tab) {t el f sz by_ sz2 by2 : Nat} {x y : Operand} {e : Eff} (hN : ∀ d, o.dst = some d → d < c.N) (hw : Wanted c ops o S) (hop : o.op = .makeSlice t x y) (hti : look t tab = some ⟨.slice el, sz, by_⟩) (hle : look el tab = some ⟨.slice f, sz2, by2⟩)
    (he : makeRows o.dst el f (S.eval x) (S.eval y) = some e) (hp : e.pre) (hR : ∀ d, o.dst = some d → d ∉ R) : Good c ops o (den S) R e.val.norm (normWr e.wr) := by
  unfold makeRows at he
  split at he
  case h_2 => cases he
  rename_i d n m hd hx hy
  simp only [Option.some.injEq] at he; subst he
  obtain ⟨h1, h2, h3⟩ : n = m ∧ 0 ≤ n ∧ n ≤ 1000000000 := hp
  subst h1
  have hu := tiB_slice (hT _ _ hti)
  obtain ⟨i, _, hi, his, hby, hby2, hz, _⟩ := tiB_slice2 (hT _ _ hle)
  refine good_of hN hw fun S' ρ a w hag hfr hs hdl => ?_
  have hfd : S'.Fresh c d := hfr d (by simp [wrHs, normWr]) (hR d hd)
  have e1' := rel_i (by have := eval_rel hag hs (x := x) (by simp [hop, Op.operands]); rw [hx] at this; exact this)
  have e2' := rel_i (by have := eval_rel hag hs (x := y) (by simp [hop, Op.operands]); rw [hy] at this; exact this)
  have hmul : (i.bytes : Int) * n ≤ 281474976710656 := by
    have h4 : i.bytes * n.toNat ≤ 1000 * 1000000000 := Nat.mul_le_mul (by omega) (by omega)
    have h5 : ((i.bytes * n.toNat : Nat) : Int) = (i.bytes : Int) * n := by rw [Int.natCast_mul]; rw [show ((n.toNat : Nat) : Int) = n by omega]
    omega
  have hrun := run_make (P := c.P) w t el i (.slice none 0 0) hu hi hz .i64 .i64 n n h2 (Int.le_refl _) hmul (by omega)
  have hcells : (madeCells (Value.slice none 0 0).cells (n.toNat * i.size)).toList = List.replicate n.toNat (.slice none 0 0) := by
    apply List.ext_getElem?
    intro j
    simp only [madeCells, his, Value.cells, Array.toList_map, Array.toList_range, List.getElem?_map, List.getElem?_replicate]
    by_cases hj : j < n.toNat
    · simp [hj, Nat.mod_one]
    · simp [hj]
  have hsize : (madeCells (Value.slice none 0 0).cells (n.toNat * i.size)).size = n.toNat := by
    rw [← Array.length_toList, hcells, List.length_replicate]
  have ch := Chg.alloc w (.cells (madeCells (Value.slice none 0 0).cells (n.toNat * i.size)) el)
  have hnil : ∀ (j : Nat) (v : Value), (List.replicate n.toNat (Value.slice none 0 0))[j]? = some v → v = .slice none 0 0 := by
    intro j v hv
    rw [List.getElem?_replicate] at hv
    split at hv
    · exact (Option.some.inj hv).symm
    · cases hv
  refine ⟨.slice (some ⟨w.heap.size, 0, none⟩) n.toNat n.toNat, w.alloc (.cells (madeCells (Value.slice none 0 0).cells (n.toNat * i.size)) el), upd ρ d (.tuple (.slice (some ⟨w.heap.size, 0, none⟩) n.toNat n.toNat :: List.replicate n.toNat (.slice none 0 0)).toArray), .inl (by simp [execOp, hop, e1', e2', hrun]), ?_⟩
  rw [hd]
  refine SatR.gather (cons := []) hs (hdl d hd) hfd ch (by simp) (by simp) (fun k hk => ?_) ?_ ?_
  · obtain ⟨j, v, hv, hb⟩ := Blk.tuple.1 hk
    cases j with
    | zero => simp at hv; subst hv; simp [blkOf] at hb; exact .inl (by omega)
    | succ j =>
      rw [List.getElem?_cons_succ] at hv
      rw [hnil j v hv] at hb
      simp [blkOf] at hb
  · show OwnsRow _ _ _ (upd ρ d _ d)
    rw [upd_same]
    refine (OwnsRow.comp rfl).2 ⟨_, List.replicate n.toNat (.slice none 0 0), rfl, by simp, ?_, fun k hk => ?_, fun j l hj => ?_, fun i j I J _ hI hJ k hk => ?_, fun j I hI k hk => ?_⟩
    · rw [List.length_replicate]
      exact ⟨by simp, .inr ⟨w.heap.size, n.toNat, _, rfl, Nat.zero_le _, heap_alloc_new w _, Nat.le_refl _, by unfold maxLen; omega, by rw [hsize]; simp, by rw [hcells]; simp⟩⟩
    · simp [blkOf] at hk; subst hk; exact .inl hs.frame.size
    · rw [List.getElem?_replicate] at hj
      split at hj
      · rename_i hlt
        cases hj
        exact ⟨.slice none 0 0, by simp [hlt], trivial, World.ownsRow_nil _ 0 _ _, by simp [blkOf]⟩
      · cases hj
    · rw [hnil i I hI] at hk; simp [blkOf] at hk
    · rw [hnil j I hI] at hk; simp [blkOf] at hk
  · show _ = hdV (upd ρ d _ d)
    rw [upd_same]; rfl
theorem ivs_hs : ∀ {avs : List AV} {l : List Int}, ivs avs = some l → ∀ a ∈ avs, a.hs = []
  | [], _, _, a, ha => by cases ha
  | b :: avs, l, h, a, ha => by
    unfold ivs at h
    split at h
    · rename_i heq; cases heq
    · rename_i x l' heq
      simp only [List.cons.injEq] at heq
      obtain ⟨rfl, rfl⟩ := heq
      simp only [Option.map_eq_some_iff] at h
      obtain ⟨m, hm, rfl⟩ := h
      simp only [List.mem_cons] at ha
      rcases ha with rfl | ha
      · rfl
      · exact ivs_hs hm a ha
    · cases h
theorem svs_hs {k : Nat} : ∀ {avs : List AV} {l : List (List Int)}, svs k avs = some l → ∀ a ∈ avs, a.hs = []
  | [], _, _, a, ha => by cases ha
  | b :: avs, l, h, a, ha => by
    unfold svs at h
    split at h
    · rename_i heq; cases heq
    · rename_i x l' heq
      simp only [List.cons.injEq] at heq
      obtain ⟨rfl, rfl⟩ := heq
      cases hb : x.length == k with
      | false => rw [hb] at h; cases h
      | true =>
      rw [hb] at h
      simp only [cond_true, Option.map_eq_some_iff] at h
      obtain ⟨m, hm, rfl⟩ := h
      simp only [List.mem_cons] at ha
      rcases ha with rfl | ha
      · rfl
      · exact svs_hs hm a ha
    · cases h
theorem buildSlice_hs {tab : Tab} {t n : Nat} {d : Option Nat} {ps : List (Nat × Operand)} {e : Eff} (he : effBuildSlice tab t d n (ps.map fun p => (p.1, S.eval p.2)) = some e) : ∀ p ∈ ps, (S.eval p.2).hs = [] := by
  unfold effBuildSlice at he
  split at he
  case h_2 => cases he
  split at he
  case h_2 => cases he
  rename_i avs hav
  split at he
  case h_2 => cases he
  rename_i r hr
  obtain ⟨hps, _⟩ := allParts_spec _ _ _ hav
  have hall : ∀ a ∈ avs, a.hs = [] := by
    unfold rowOf at hr
    split at hr
    · simp only [Option.map_eq_some_iff] at hr
      obtain ⟨l, hl, _⟩ := hr
      exact ivs_hs hl
    · rename_i k _ _
      cases hb : Nat.blt 0 k with
      | false => rw [hb] at hr; cases hr
      | true =>
        rw [hb] at hr
        simp only [cond_true, Option.map_eq_some_iff] at hr
        obtain ⟨l, hl, _⟩ := hr
        exact svs_hs hl
    · split at hr
      · intro a ha; cases ha
      · cases hr
    · cases hr
  intro p hp
  have hmem : (p.1, S.eval p.2) ∈ (avs.zipIdx 0).map (fun p => (p.2, p.1)) := by
    rw [← hps]
    exact List.mem_map.2 ⟨p, hp, rfl⟩
  obtain ⟨q, hq, heq⟩ := List.mem_map.1 hmem
  have h1 : q.1 = S.eval p.2 := congrArg Prod.snd heq
  rw [← h1]
  refine hall _ ?_
  have := List.mem_zipIdx hq
  obtain ⟨_, _, h2⟩ := this
  rw [h2]
  exact List.getElem_mem _
theorem run_copy_at {P : Program} {w : World} {dT sT ty elem g o dLen dCap : Nat} {a : Addr} {sLen sCap n : Nat} {cur : Array Value} {t : TypeId} {i : TypeInfo} {cs : List Value}
    (hu : P.underlying dT = some (.slice elem)) (hi : P.info? elem = some i) (hg : w.heap[g]? = some (.cells cur t (0, 0))) (hn : n = Nat.min sLen dLen) (hcs : cs.length = n * i.size)
    (hsrc : ∀ j v, cs[j]? = some v → w.cell? (a.add j) = some v) (hfit : o + cs.length ≤ cur.size) (h1 : ∀ v ∈ cs, v.oneCell' = true) :
    (Builtin.copy_ #[dT, sT] ty #[.slice (some ⟨g, o, none⟩) dLen dCap, .slice (some a) sLen sCap]).run P w = .ok (vI n) (w.setRow g (cur.toList.take o ++ cs ++ cur.toList.drop (o + cs.length)).toArray) := by
  have hf := run_firstCells_some (P := P) w i.size n a sLen sCap cs hcs hsrc
  have hst := run_storeCells_at P g o t cs 0 cur w hg (by simpa using hfit) h1
  simp only [Nat.add_zero] at hst
  simp [Builtin.copy_, run_underlying hu, Builtin.lenOf, sizeOf, typeInfo, hi, ← hn, hf, hst, goInt, vI]
theorem run_copy_zero {P : Program} {w : World} {dT sT ty elem : Nat} {A B : Option Addr} {dLen dCap sLen sCap : Nat} {i : TypeInfo}
    (hu : P.underlying dT = some (.slice elem)) (hi : P.info? elem = some i) (hn : Nat.min sLen dLen = 0) :
    (Builtin.copy_ #[dT, sT] ty #[.slice A dLen dCap, .slice B sLen sCap]).run P w = .ok (vI 0) w := by
  cases A <;> cases B <;> simp [Builtin.copy_, run_underlying hu, Builtin.lenOf, Builtin.firstCells, loadCells, loadCellsFrom, sizeOf, typeInfo, hi, hn, storeCells, goInt, vI]
theorem good_copy {tab : Tab} (hT : TabOk c.P tab) {args : Array Operand} {ts : Array Nat} {t t' : Nat} {x y : Operand} {e : Eff} (hN : ∀ d, o.dst = some d → d < c.N) (hw : Wanted c ops o S) (hop : o.op = .call ⟨.builtin .copy, args, ts⟩) (ha : args.toList = [x, y]) (hts : ts.toList = [t, t'])
    (he : effCopy S (elemSz tab t) (S.eval x) (S.eval y) = some e) (hp : e.pre) (hR : ∀ h ∈ (S.eval x).hs, h ∈ R) : Good c ops o (den S) R e.val.norm (normWr e.wr) := by
  have haa : args = #[x, y] := by apply Array.ext'; simpa using ha
  have htt : ts = #[t, t'] := by apply Array.ext'; simpa using hts
  subst haa; subst htt
  unfold effCopy at he
  split at he
  case h_2 => cases he
  rename_i h sz l1 r1 h2 sz2 l2 r2 hx hy
  split at he
  case h_2 => cases he
  rename_i e0 k Q hlk
  cases hb : (h == h2 && (sz == k && (sz2 == k && elemSz tab t == some k))) with
  | false => rw [hb] at he; cases he
  | true =>
  rw [hb] at he
  simp only [cond_true, Option.some.injEq] at he; subst he
  simp only [Bool.and_eq_true, beq_iff_eq] at hb
  obtain ⟨rfl, rfl, rfl, hez⟩ := hb
  obtain ⟨⟨p1, p2⟩, p3, p4⟩ : (l1 ≤ r1 ∧ r1 ≤ Q.length) ∧ l2 ≤ r2 ∧ r2 ≤ Q.length := hp
  obtain ⟨el, i, hu, hi, his⟩ := elemSz_slice hT hez
  refine good_of hN hw fun S' ρ a w hag hfr hs hdl => ?_
  have hm := mem_at hag (h := h) (hR h (by rw [hx]; simp [AV.hs, A0.hs])) hlk
  have hV : FlatRow w c.own (.recs e0 sz2 Q) (ρ h) := (OwnsRow.flat rfl).1 (hs.mem h _ hm)
  have hxv : a.eval x = subOf (ρ h) sz2 l1 r1 := by
    have := eval_rel hag hs (x := x) (by simp [hop, Op.operands, Call.operands])
    rw [hx] at this; exact this
  have hyv : a.eval y = subOf (ρ h) sz2 l2 r2 := by
    have := eval_rel hag hs (x := y) (by simp [hop, Op.operands, Call.operands])
    rw [hy] at this; exact this
  generalize hn : min (r2 - l2) (r1 - l1) = n
  have hlk1 : ∀ y' e', look y' (normWr [(h, some (Entry.row (.recs e0 sz2 (Q.take l1 ++ ((Q.drop l2).take n ++ Q.drop (l1 + n))))))]) = some (some e') → y' = h ∧ e' = .row (.recs e0 sz2 (Q.take l1 ++ ((Q.drop l2).take n ++ Q.drop (l1 + n)))) := by
    intro y' e' hy
    simp only [normWr, List.map_cons, List.map_nil, Option.map_some, look] at hy
    by_cases q1 : h = y'
    · simp only [q1, beq_self_eq_true, cond_true, Option.some.injEq] at hy
      exact ⟨q1.symm, hy.symm⟩
    · have q1' : (h == y') = false := by simpa using q1
      rw [q1'] at hy; cases hy
  by_cases h0 : n = 0
  · have hrun : (Builtin.copy_ #[t, t'] o.type #[a.eval x, a.eval y]).run c.P w = .ok (vI 0) w := by
      have hsub : ∀ l r, ∃ A' n' c', subOf (ρ h) sz2 l r = .slice A' n' c' ∧ n' = r - l := by
        intro l r
        obtain ⟨_, A, n1, cap, hA, _⟩ := hV.at
        rw [hA]
        exact ⟨_, _, _, rfl, rfl⟩
      obtain ⟨A1, n1, c1, e1, m1⟩ := hsub l1 r1
      obtain ⟨A2, n2, c2, e2, m2⟩ := hsub l2 r2
      rw [hxv, hyv, e1, e2]
      exact run_copy_zero hu hi (by rw [m1, m2]; exact hn.trans h0)
    have hsame : Q.take l1 ++ ((Q.drop l2).take n ++ Q.drop (l1 + n)) = Q := by rw [h0]; simp
    refine ⟨vI n, w, ρ, .inl (by simp only [execOp, hop, resolve, Sem.run_bind, Sem.run_pure, Result.andThen_ok, invoke, builtin, List.map_toArray, List.map_cons, List.map_nil, hrun, h0]; rfl), ?_⟩
    refine hs.step hdl (Chg.refl w (fun _ => False)) (fun _ hk => hk.elim) (fun _ hne => absurd rfl hne) (fun _ _ => rfl) (fun _ _ _ _ _ _ _ hk => hk) (fun y' e' hy => ?_) (fun y' e' hy ho' q hq => ⟨fun y2 e2 hy2 ho2 hnot hq2 => ?_, fun y2 e2 hy2 ho2 hne => ?_⟩) rfl
    · obtain ⟨rfl, rfl⟩ := hlk1 y' e' hy
      rw [hsame]
      exact hs.mem y' _ hm
    · obtain ⟨rfl, rfl⟩ := hlk1 y' e' hy
      have hne : y2 ≠ y' := by simpa [wrHs, normWr] using hnot
      exact hs.sep y2 y' _ _ hy2 hm ho2 rfl hne q hq2 hq
    · obtain ⟨q1, _⟩ := hlk1 y' e' hy
      obtain ⟨q2, _⟩ := hlk1 y2 e2 hy2
      exact absurd (q2.trans q1.symm) hne
  · have hXl : ((Q.drop l2).take n).length = n := by rw [List.length_take, List.length_drop]; omega
    have hl1n : l1 + n ≤ Q.length := by omega
    have hl2n : l2 + n ≤ Q.length := by omega
    rcases hV.2.1.2 with ⟨_, hz⟩ | ⟨g, cap, cur, hVv, hbg, hg, hnc, hcm, hcs, htake⟩
    · have : Q.length = 0 := hz
      omega
    have hnc' : Q.length ≤ cap := hnc
    have hsub : ∀ l r, l < r → r ≤ Q.length → subOf (ρ h) sz2 l r = .slice (some ⟨g, l * sz2, none⟩) (r - l) (cap - l) := by
      intro l r q1 q2
      rw [hVv]
      have : cap ≠ l := by omega
      simp [subOf, this, add_lit]
    have hcl : (RC.recs e0 sz2 ((Q.drop l2).take n)).cells.length = n * i.size := by
      have hwf : (RC.recs e0 sz2 ((Q.drop l2).take n)).wf := ⟨hV.1.1, fun y' hy => hV.1.2 y' (List.mem_of_mem_drop (List.mem_of_mem_take hy))⟩
      have h5 := RC.cells_length hwf
      rw [h5, his]
      show ((Q.drop l2).take n).length * sz2 = _
      rw [hXl]
    have hsc : (RC.recs e0 sz2 ((Q.drop l2).take n)).cells = ((RC.recs e0 sz2 Q).cells.take ((l2 + n) * sz2)).drop (l2 * sz2) := by
      have h5 := RC.slice_cells (r := .recs e0 sz2 Q) (l := l2) (k := l2 + n) hV.1
      have h6 : (RC.recs e0 sz2 Q).slice l2 (l2 + n) = .recs e0 sz2 ((Q.drop l2).take n) := by
        simp only [RC.slice, List.drop_take]
        congr 2
        omega
      rw [h6] at h5
      exact h5
    have hsrc : ∀ j v, (RC.recs e0 sz2 ((Q.drop l2).take n)).cells[j]? = some v → w.cell? ((⟨g, l2 * sz2, none⟩ : Addr).add j) = some v := by
      intro j v hj
      rw [hsc, List.getElem?_drop, List.getElem?_take] at hj
      split at hj
      · have h5 := hV.2.1.cells (g := g) (by rw [hVv]; rfl) _ _ hj
        rw [add_lit] at h5 ⊢
        simpa using h5
      · cases hj
    have hN : Q.length * sz2 ≤ cur.size := by rw [show cur.size = cap * sz2 from hcs]; exact Nat.mul_le_mul_right _ hnc'
    have hfit : l1 * sz2 + (RC.recs e0 sz2 ((Q.drop l2).take n)).cells.length ≤ Q.length * sz2 := by
      rw [hcl, his, ← Nat.add_mul]; exact Nat.mul_le_mul_right _ hl1n
    have hrun := run_copy_at (P := c.P) (sT := t') (ty := o.type) (dLen := r1 - l1) (dCap := cap - l1) (sLen := r2 - l2) (sCap := cap - l2) (o := l1 * sz2) hu hi hg hn.symm hcl hsrc (by omega) RC.one
    refine ⟨vI n, _, ρ, .inl (by
      simp only [execOp, hop, resolve, Sem.run_bind, Sem.run_pure, Result.andThen_ok, invoke, builtin, List.map_toArray, List.map_cons, List.map_nil, hxv, hyv, hsub l1 r1 (by omega) p2, hsub l2 r2 (by omega) p4, hrun]; rfl), ?_⟩
    refine hs.write (e := .row (.recs e0 sz2 Q)) hdl hm rfl (hV.thin.2 (by rw [hVv]; rfl)) ?_ rfl
    have hcells : (RC.recs e0 sz2 (Q.take l1 ++ ((Q.drop l2).take n ++ Q.drop (l1 + n)))).cells = (RC.recs e0 sz2 Q).cells.take (l1 * sz2) ++ (RC.recs e0 sz2 ((Q.drop l2).take n)).cells ++ (RC.recs e0 sz2 Q).cells.drop ((l1 + n) * sz2) := by
      simp only [RC.cells]
      rw [flat_take Q hV.1.2 l1, flat_drop Q hV.1.2 (l1 + n), List.flatMap_append, List.flatMap_append, List.append_assoc]
    have hnl : (Q.take l1 ++ ((Q.drop l2).take n ++ Q.drop (l1 + n))).length = Q.length := by
      rw [List.length_append, List.length_append, hXl, List.length_take, List.length_drop]; omega
    have hmem' : ∀ y' ∈ Q.take l1 ++ ((Q.drop l2).take n ++ Q.drop (l1 + n)), y'.length = sz2 := by
      intro y' hy
      rcases List.mem_append.1 hy with hy | hy
      · exact hV.1.2 y' (List.mem_of_mem_take hy)
      · rcases List.mem_append.1 hy with hy | hy
        · exact hV.1.2 y' (List.mem_of_mem_drop (List.mem_of_mem_take hy))
        · exact hV.1.2 y' (List.mem_of_mem_drop hy)
    refine (OwnsRow.flat rfl).2 ⟨⟨hV.1.1, hmem'⟩, ?_, fun q hq => hV.2.2 q hq⟩
    have hwf2 : (RC.recs e0 sz2 (Q.take l1 ++ ((Q.drop l2).take n ++ Q.drop (l1 + n)))).wf := ⟨hV.1.1, hmem'⟩
    refine ⟨RC.cells_length hwf2, .inr ⟨g, cap, _, ?_, hbg, setRow_heap w g cur _ _ _ hg, by rw [show (RC.recs e0 sz2 (Q.take l1 ++ ((Q.drop l2).take n ++ Q.drop (l1 + n)))).len = Q.length from hnl]; exact hnc', hcm, ?_, ?_⟩⟩
    · rw [hVv]
      show Value.slice _ Q.length cap = Value.slice _ _ cap
      rw [show (RC.recs e0 sz2 (Q.take l1 ++ ((Q.drop l2).take n ++ Q.drop (l1 + n)))).len = Q.length from hnl]
    · show (_ : Array Value).size = cap * sz2
      have h7 : cur.size = cap * sz2 := hcs
      simp only [List.size_toArray, List.length_append, List.length_take, List.length_drop, Array.length_toList]
      omega
    · show List.take ((Q.take l1 ++ ((Q.drop l2).take n ++ Q.drop (l1 + n))).length * sz2) _ = _
      rw [hnl, hcells]
      have htk : cur.toList.take (Q.length * sz2) = (RC.recs e0 sz2 Q).cells := htake
      have hll : l1 * sz2 ≤ Q.length * sz2 := Nat.mul_le_mul_right _ (by omega)
      have e1 : (RC.recs e0 sz2 Q).cells.take (l1 * sz2) = cur.toList.take (l1 * sz2) := by
        rw [← htk, List.take_take]; congr 1; omega
      have hm1 : l1 * sz2 + (RC.recs e0 sz2 ((Q.drop l2).take n)).cells.length = (l1 + n) * sz2 := by rw [hcl, his, ← Nat.add_mul]
      have e2 : (RC.recs e0 sz2 Q).cells.drop ((l1 + n) * sz2) = (cur.toList.drop ((l1 + n) * sz2)).take (Q.length * sz2 - (l1 + n) * sz2) := by
        rw [← htk, List.drop_take]
      rw [e1, e2, hm1]
      have hal : (cur.toList.take (l1 * sz2) ++ (RC.recs e0 sz2 ((Q.drop l2).take n)).cells).length = (l1 + n) * sz2 := by
        rw [List.length_append, List.length_take, Array.length_toList, ← hm1]; omega
      show List.take (Q.length * sz2) ((cur.toList.take (l1 * sz2) ++ (RC.recs e0 sz2 ((Q.drop l2).take n)).cells) ++ cur.toList.drop ((l1 + n) * sz2)) = _
      rw [List.take_append, hal, List.take_of_length_le (by rw [hal, ← hm1]; exact hfit)]
/-- ALL OPERATIONS. -/
theorem good_eff {tab : Tab} (hT : TabOk c.P tab) {spec : Spec} (hspec : SpecOk c.P spec) {e : Eff} (hN : ∀ d, o.dst = some d → d < c.N) (hw : Wanted c ops o S)
    (he : eff tab spec o.dst o.op S = some e) (hp : e.pre) : Good c ops o (den S) (rdOf S o.op) e.val.norm (normWr e.wr) := by
  unfold eff at he
  split at he
  · rename_i x hop
    simp only [val1, Option.some.injEq] at he; subst he
    exact good_move hN hw (.inl hop)
  · rename_i x hop
    simp only [val1, Option.some.injEq] at he; subst he
    exact good_move hN hw (.inr hop)
  · rename_i t x hop
    rw [hop]
    unfold effBox4 at he
    split at he
    · rename_i h hx
      exact good_boxCur hN hw hop hx he (by simp [rdOf, hx, AV.hs, A0.hs])
    unfold effBox3 at he
    split at he
    · rename_i h hx
      exact good_boxWord hN hw hop hx he (by simp [rdOf, hx, AV.hs, A0.hs])
    · rename_i h hx
      exact good_boxRow hN hw hop hx he (by simp [rdOf, hx, AV.hs, A0.hs])
    unfold effBox2 at he
    split at he
    · rename_i h1 h2 hx
      split at he
      case h_2 => cases he
      rename_i d hd
      exact good_boxPair hN hw hop hd hx he (fun h hh => hh) rfl
    · refine good_box hN hw hop he fun d hd => ?_
      have : (S.eval x).hs = [] := by
        unfold effBox at he
        split at he <;> first | (rename_i hx; rw [hx]; rfl) | cases he
      simp [rdOf, this]
  · rename_i x hop
    exact good_nil2 hN hw hop he (by rw [hop]; exact fun h hh => hh)
  · rename_i t hop
    rw [hop]
    exact good_makeMap hN hw hop he (by simp [rdOf])
  · rename_i t x y ok hop
    exact good_lookup hT hN hw hop he (by rw [hop]; exact fun h hh => hh)
  · rename_i t x y z hop
    exact good_update hT hN hw (.inl hop) he (by rw [hop]; exact fun h hh => hh)
  · rename_i t x y z hop
    exact good_update hT hN hw (.inr hop) he (by rw [hop]; exact fun h hh => hh)
  · rename_i t hop
    rw [hop]
    unfold effAlloc2 at he
    split at he
    · rename_i hti
      exact good_allocWord hT hN hw hop hti he rfl
    · exact good_alloc hT hN hw hop he (by simp [rdOf])
  · rename_i t x f hop
    unfold effField3 at he
    split at he
    · rename_i hti
      exact good_fieldCur hT hN hw hop hti he (by rw [hop]; exact fun h hh => hh)
    unfold effField2 at he
    split at he
    · rename_i hti
      exact good_fieldWord hT hN hw hop hti he (by rw [hop]; exact fun h hh => hh)
    · exact good_field hT hN hw hop he hp (by rw [hop]; exact fun h hh => hh)
  · rename_i t x hop
    have hRx : ∀ h ∈ (S.eval x).hs, h ∈ rdOf S o.op := by rw [hop]; exact fun h hh => List.mem_append_left _ hh
    refine good_load3 hT hN hw hop he hp hRx fun he => ?_
    unfold effLoad2 at he
    split at he
    · rename_i hti
      exact good_loadWord hT hN hw hop hti he (by rw [hop]; rfl)
    · rename_i hti
      exact good_loadSl hT hN hw hop hti he hp hRx
    · exact good_load hT hN hw hop he hp hRx
  · rename_i t x y hop
    refine good_store3 hT hN hw hop he (by rw [hop]; exact fun h hh => List.mem_append_left _ hh) fun he => ?_
    unfold effStore2 at he
    split at he
    · rename_i hti
      exact good_storeWord hT hN hw hop hti he (by rw [hop]; rfl)
    · rename_i hti
      unfold storeSl at he
      split at he
      · rename_i h off h2 hx hy
        exact good_storeCi hT hN hw hop hti hx hy he (by rw [hop]; rfl)
      · exact good_store hT hN hw hop he hp (by rw [hop]; rfl)
    · exact good_store hT hN hw hop he hp (by rw [hop]; rfl)
  · rename_i t ps hop
    unfold effBuild4 at he
    split at he
    · rename_i hti
      exact good_buildCur hT hN hw hop hti he (by rw [hop]; exact fun p hp h hh => List.mem_flatMap.2 ⟨p, hp, hh⟩)
    unfold effBuild3 at he
    split at he
    · rename_i hti
      refine good_buildWord hT hN hw hop hti he fun d hd => ?_
      unfold buildWord at he
      rw [hop]
      split at he
      · rename_i hps
        have : ps.toList = [] := by
          cases hl : ps.toList with
          | nil => rfl
          | cons p l => rw [hl] at hps; simp at hps
        simp [rdOf, this]
      · rename_i n hdd hps
        match hl : ps.toList, hps with
        | [p], hps =>
          simp only [List.map_cons, List.map_nil, List.cons.injEq, Prod.mk.injEq, and_true] at hps
          simp [rdOf, hl, hps.2, AV.hs, A0.hs]
        | [], hps => simp at hps
        | _ :: _ :: _, hps => simp at hps
      · cases he
    unfold effBuild2 at he
    split at he
    · rename_i hti
      exact good_buildTwo hT hN hw hop hti he (by rw [hop]; exact fun p hp h hh => List.mem_flatMap.2 ⟨p, hp, hh⟩)
    · exact good_build hT hN hw hop he
  · rename_i fn first captured hop
    exact good_clo hN hw hop he (by rw [hop]; rfl)
  · rename_i t n ps hop
    unfold effBuildSl at he
    split at he
    case h_2 => cases he
    rename_i el _ _ hti
    split at he
    · rename_i f _ _ hle
      split at he
      case h_2 => cases he
      rename_i d hd
      exact good_buildRows hT hN hw hop hd hti hle he (by rw [hop]; rfl)
    · rename_i hns
      refine good_buildSlice hT hN hw hop he fun d hd => ?_
      rw [hop]
      simp only [rdOf, List.mem_flatMap, not_exists, not_and]
      intro p hp
      have hav : (S.eval p.2).hs = [] := buildSlice_hs he p hp
      rw [hav]; simp
  · rename_i t x y hop
    rw [hop]
    unfold effMakeSl at he
    split at he
    case h_2 => cases he
    rename_i el _ _ hti
    split at he
    · rename_i f _ _ hle
      exact good_makeRows hT hN hw hop hti hle he hp (by simp [rdOf])
    · exact good_makeSlice hT hN hw hop he hp (by simp [rdOf])
  · rename_i op t x y t' hop
    exact good_bin2 hT hN hw hop he hp
  · rename_i op t x hop
    exact good_un hN hw hop he
  · rename_i src dst x hop
    exact good_conv hT hN hw hop he
  · rename_i cc x y hop
    exact good_pick hN hw hop he
  · rename_i t j hop
    exact good_extract hN hw hop he
  · rename_i t x j hop
    exact good_index2 hT hN hw hop he hp (by rw [hop]; exact fun h hh => hh)
  · rename_i t x lo hi mx hop
    exact good_slice hT hN hw hop he hp (by rw [hop]; exact fun h hh => hh)
  · rename_i t x j hop
    exact good_indexV hT hN hw hop he hp
  · rename_i fx args ts hop
    split at he
    · rename_i f hfx
      rw [hop]
      unfold effCall2 at he
      split at he
      · rename_i h rest hargs0
        unfold callCo at he
        split at he
        · rename_i l a0 s0 hl
          have := good_callCu hspec hN hw hop hfx hargs0 hl he hp
          simpa [rdOf, calleeHs, hfx, AV.hs, A0.hs, List.flatMap_map] using this
        · rw [← hargs0] at he
          have := good_call hspec hN hw hop hfx he hp
          simpa [rdOf, calleeHs, hfx, AV.hs, A0.hs, List.flatMap_map] using this
      have := good_call hspec hN hw hop hfx he hp
      simpa [rdOf, calleeHs, hfx, AV.hs, A0.hs, List.flatMap_map] using this
    · rename_i h hfx
      exact good_callClo hspec hN hw hop hfx he hp (by rw [hop]; simp [rdOf, calleeHs, hfx, AV.hs, A0.hs])
    · cases he
  · rename_i args ts hop
    split at he
    · rename_i x t ha hts
      cases hb : (elemSz tab t).isSome with
      | false => rw [hb] at he; cases he
      | true =>
        rw [hb] at he
        exact good_len2 hT hN hw hop ha hts hb he hp (by rw [hop]; simp [rdOf, ha]; exact fun h hh => .inr hh)
    · cases he
  · rename_i args ts hop
    split at he
    · rename_i s x t t' ha hts
      cases hb : (t == t') with
      | false => rw [hb] at he; cases he
      | true =>
        rw [hb] at he
        have htt : t = t' := by simpa using hb
        subst htt
        rw [hop]
        unfold effAppend2 at he
        split at he
        · rename_i h hse
          have := good_appWd hT hN hw hop ha hts hse he hp
          simpa [rdOf, calleeHs, ha] using this
        · have := good_append hT hN hw hop ha hts he hp
          simpa [rdOf, calleeHs, ha] using this
    · cases he
  · rename_i args ts hop
    split at he
    · rename_i x y t t' ha hts
      rw [hop]
      refine good_copy hT hN hw hop ha hts he hp fun h hh => ?_
      simp [rdOf, ha, hh]
    · cases he
  · rename_i args ts hop
    split at he
    · rename_i x y ha
      exact good_max hN hw hop ha he
    · cases he
  · rename_i args ts hop
    split at he
    · rename_i x y ha
      exact good_min hN hw hop ha he
    · cases he
  · cases he
end
end Go.Proofs.Ytacomnelongbjab

/-
  Contracts, and that a call of a function with a contract takes a met state to the next. Conditions: none; this text proves nothing of the program.
-/
import Derived.Test.YtclpoenfcpefmaaGadd
namespace Go.Proofs.Ytclpoenfcpefmaa
open Go Go.RowKit

/-- the parts of a result -/
def comps : AV → List A0
  | .one a => [a]
  | .tup l => l
def noρ : Nat → Value := fun _ => undef
/-- blocks of arguments that are handed over -/
def OutBlk (outs : List (Nat × Option RC)) (vals : List Value) (k : Nat) : Prop := ∃ p ∈ outs, ∃ v, vals[p.1]? = some v ∧ Blk v k

def ArgRel (w : World) (X : Nat → Prop) (own : Bool) (a : A0) (v : Value) : Prop :=
  match a with
  | .rw r => if own then OwnsRow w (fun k => k < w.heap.size) r v else ReadsRow w (fun k => k < w.heap.size ∧ ¬ X k) r v
  | a => argOk a = true ∧ v = a.conc noρ
structure ArgsOk (w : World) (outs : List (Nat × Option RC)) (args : List A0) (vals : List Value) : Prop where
  len : vals.length = args.length
  rel : ∀ (j : Nat) (a : A0), args[j]? = some a → ∃ v, vals[j]? = some v ∧ ArgRel w (OutBlk outs vals) (outs.any fun p => p.1 == j) a v
  sep : ∀ p ∈ outs, ∀ q ∈ outs, p.1 ≠ q.1 → ∀ u v k, vals[p.1]? = some u → vals[q.1]? = some v → Blk u k → ¬ Blk v k
  isRow : ∀ p ∈ outs, ∃ r, args[p.1]? = some (.rw r)

def NewBlk (w : World) (X : Nat → Prop) (k : Nat) : Prop := w.heap.size ≤ k ∨ X k
def ResRel (w' : World) (own : Nat → Prop) (a : A0) (v : Value) : Prop :=
  match a with
  | .rw r => OwnsRow w' own r v
  | a => argOk a = true ∧ v = a.conc noρ
structure RetOk (w w' : World) (vals : List Value) (ce : CEff) (v : Value) : Prop where
  chg : Chg w w' (OutBlk ce.outs vals)
  res : ∃ us : List Value, (match ce.res with | .one _ => ∃ u, us = [u] ∧ v = hdV u | .tup _ => v = .tuple (us.map hdV).toArray) ∧ us.length = (comps ce.res).length ∧
    (∀ (j : Nat) (a : A0), (comps ce.res)[j]? = some a → ∃ u, us[j]? = some u ∧ ResRel w' (NewBlk w (OutBlk ce.outs vals)) a u) ∧
    (∀ (i j : Nat) (r s : RC) (u v : Value), i ≠ j → (comps ce.res)[i]? = some (.rw r) → (comps ce.res)[j]? = some (.rw s) → us[i]? = some u → us[j]? = some v → ∀ k, Blk u k → ¬ Blk v k) ∧
    (∀ (j : Nat) (r : RC) (u : Value), (comps ce.res)[j]? = some (.rw r) → us[j]? = some u → ∀ p ∈ ce.outs, ∀ s, p.2 = some s → ∀ v, vals[p.1]? = some v → ∀ k, Blk v k → ¬ Blk u k)
  outs : ∀ p ∈ ce.outs, ∀ r, p.2 = some r → ∃ u, vals[p.1]? = some u ∧ OwnsRow w' (NewBlk w (OutBlk ce.outs vals)) r u

/-- THE CONTRACT: whatever values come in that read as these arguments, the call returns what reads as this result; memory that was there is as it was, but for what was handed over. -/
def FnOk (P : Program) (f : Nat) (args : List A0) (ce : CEff) : Prop :=
  ce.pre → ∀ (w : World) (vals : List Value), ArgsOk w ce.outs args vals → Calls P f (vals.map hdV).toArray w fun e w' => ∃ v, e = .returned v ∧ RetOk w w' vals ce v
def SpecOk (P : Program) (spec : Spec) : Prop := ∀ f args ce, spec f args = some ce → FnOk P f args ce ∧ ∃ fn, P.funcs[f]? = some fn ∧ fn.body.isSome = true ∧ (fn.name == "runtime.NumGoroutine") = false

theorem OwnsRow.mono {w : World} {p q : Nat → Prop} {r : RC} {v : Value} (h : OwnsRow w p r v) (hpq : ∀ k, k < w.heap.size → p k → q k) : OwnsRow w q r v := by
  cases hf : r.flat with
  | true => exact (OwnsRow.flat hf).2 (((OwnsRow.flat hf).1 h).mono fun k h1 _ h2 => hpq k h1 h2)
  | false => exact (OwnsRow.comp hf).2 (((OwnsRow.comp hf).1 h).mono fun k h1 _ h2 => hpq k h1 h2)
theorem OwnsRow.monoB {w : World} {p q : Nat → Prop} {r : RC} {v : Value} (h : OwnsRow w p r v) (hpq : ∀ k, Blk v k → k < w.heap.size → p k → q k) : OwnsRow w q r v := by
  cases hf : r.flat with
  | true =>
    have h' := (OwnsRow.flat hf).1 h
    exact (OwnsRow.flat hf).2 (h'.mono fun k h1 hb h2 => hpq k (h'.thin.2 hb) h1 h2)
  | false => exact (OwnsRow.comp hf).2 (((OwnsRow.comp hf).1 h).mono fun k h1 hb h2 => hpq k hb h1 h2)
/-- What owns a row reads it. -/
theorem OwnsRow.reads {w : World} {p q : Nat → Prop} {r : RC} {v : Value} (h : OwnsRow w p r v) (hpq : ∀ k, Blk v k → q k) : ReadsRow w q r v := by
  cases hf : r.flat with
  | true =>
    have h' := (OwnsRow.flat hf).1 h
    exact (ReadsRow.flat hf).2 (h'.reads fun k hk => hpq k (h'.thin.2 hk))
  | false => exact (ReadsRow.comp hf).2 (((OwnsRow.comp hf).1 h).mono fun k _ hb _ => hpq k hb)
theorem blk_seg {V : Value} {p k : Nat} (h : blkOf (seg V (p + 1)) = some k) : Blk V k := by
  cases V with
  | tuple vs =>
    have h1 : blkOf (vs.getD (p + 1) undef) = some k := h
    rw [Array.getD_eq_getD_getElem?] at h1
    cases hv : vs[p + 1]? with
    | none => rw [hv] at h1; simp [undef, blkOf] at h1
    | some v =>
      rw [hv] at h1
      exact ⟨p + 1, v, by simpa using hv, h1⟩
  | _ => simp [seg, undef, blkOf] at h

theorem conc_noρ {a : A0} (h : argOk a = true) (ρ : Nat → Value) : a.conc ρ = a.conc noρ := by cases a <;> first | rfl | cases h

theorem resL_fst (d : Nat) : ∀ (l : List A0) (j i : Nat), (resL d j l).1[i]? = (l[i]?).map fun a => (resA (d + 1000 * (j + i)) a).1
  | [], j, i => by simp [resL]
  | a :: l, j, i => by
    cases i with
    | zero => simp [resL]
    | succ i =>
      simp only [resL, List.getElem?_cons_succ]
      rw [resL_fst d l (j + 1) i]
      congr 1
      funext a
      rw [show j + 1 + i = j + (i + 1) by omega]
theorem resA_wr (d : Nat) (a : A0) (x : Nat) (oe : Option Entry) : (x, oe) ∈ (resA d a).2 ↔ ∃ r, a = .rw r ∧ x = d ∧ oe = some (.row r) := by
  cases a <;> simp [resA]
theorem resL_wr (d : Nat) (x : Nat) (oe : Option Entry) : ∀ (l : List A0) (j : Nat), (x, oe) ∈ (resL d j l).2 ↔ ∃ i r, l[i]? = some (.rw r) ∧ x = d + 1000 * (j + i) ∧ oe = some (.row r)
  | [], j => by simp [resL]
  | a :: l, j => by
    simp only [resL, List.mem_append, resA_wr, resL_wr d x oe l (j + 1)]
    constructor
    · rintro (⟨r, rfl, hx, ho⟩ | ⟨i, r, h1, h2, h3⟩)
      · exact ⟨0, r, rfl, by simpa using hx, ho⟩
      · exact ⟨i + 1, r, by simpa using h1, by omega, h3⟩
    · rintro ⟨i, r, h1, h2, h3⟩
      cases i with
      | zero => left; simp at h1; exact ⟨r, h1, by simpa using h2, h3⟩
      | succ i => right; exact ⟨i, r, by simpa using h1, by omega, h3⟩
theorem resV_wr (d : Nat) (v : AV) (x : Nat) (oe : Option Entry) : (x, oe) ∈ (resV d v).2 ↔ ∃ i r, (comps v)[i]? = some (.rw r) ∧ x = d + 1000 * i ∧ oe = some (.row r) := by
  cases v with
  | one a =>
    simp only [resV, resA_wr, comps]
    constructor
    · rintro ⟨r, rfl, hx, ho⟩; exact ⟨0, r, rfl, by simpa using hx, ho⟩
    · rintro ⟨i, r, h1, h2, h3⟩
      cases i with
      | zero => simp at h1; exact ⟨r, h1, by simpa using h2, h3⟩
      | succ i => simp at h1
  | tup l => simp only [resV, comps]; rw [resL_wr]; simp
theorem look_some_mem {h : Nat} {oe : Option Entry} {wr : Wr} (hl : look h wr = some oe) : (h, oe) ∈ wr := look_mem hl
theorem mem_wrHs {x : Nat} {wr : Wr} : x ∈ wrHs wr ↔ ∃ oe, (x, oe) ∈ wr := by simp [wrHs]

/-- what a slot holds of a row's handle -/
def hA0 (r : RC) (h : Nat) : A0 := bif r.flat then .row h else .co h
theorem hA0_hs (r : RC) (h : Nat) : (hA0 r h).hs = [h] := by unfold hA0; cases r.flat <;> rfl
theorem outWr_spec {S : St} {args : List AV} : ∀ {outs : List (Nat × Option RC)} {wr : Wr}, outWr S args outs = some wr →
    (∀ p ∈ outs, ∃ h r, args[p.1]? = some (.one (hA0 r h)) ∧ look h S.mem = some (.row r) ∧ (h, p.2.map .row) ∈ wr) ∧ (∀ x oe, (x, oe) ∈ wr → ∃ p ∈ outs, ∃ r, args[p.1]? = some (.one (hA0 r x)) ∧ oe = p.2.map .row ∧ look x S.mem = some (.row r))
  | [], wr, h => by
    simp only [outWr, Option.some.injEq] at h; subst h
    exact ⟨by simp, by simp⟩
  | p :: l, wr, h => by
    have go : ∀ (hh : Nat) (r : RC), args[p.1]? = some (.one (hA0 r hh)) → look hh S.mem = some (.row r) → (outWr S args l).map ((hh, p.2.map .row) :: ·) = some wr →
        (∀ p_1 ∈ p :: l, ∃ h r, args[p_1.1]? = some (.one (hA0 r h)) ∧ look h S.mem = some (.row r) ∧ (h, p_1.2.map .row) ∈ wr) ∧ (∀ x oe, (x, oe) ∈ wr → ∃ p_1 ∈ p :: l, ∃ r, args[p_1.1]? = some (.one (hA0 r x)) ∧ oe = p_1.2.map .row ∧ look x S.mem = some (.row r)) := by
      intro hh r ha hr h
      simp only [Option.map_eq_some_iff] at h
      obtain ⟨wr', hw, rfl⟩ := h
      obtain ⟨h1, h2⟩ := outWr_spec hw
      constructor
      · intro q hq
        simp only [List.mem_cons] at hq
        rcases hq with rfl | hq
        · exact ⟨hh, r, ha, hr, by simp⟩
        · obtain ⟨h', r', a1, a2, a3⟩ := h1 q hq
          exact ⟨h', r', a1, a2, by simp [a3]⟩
      · intro x oe hx
        simp only [List.mem_cons, Prod.mk.injEq] at hx
        rcases hx with ⟨rfl, rfl⟩ | hx
        · exact ⟨p, by simp, r, ha, rfl, hr⟩
        · obtain ⟨q, b1, r', b2, b3, b4⟩ := h2 x oe hx
          exact ⟨q, by simp [b1], r', b2, b3, b4⟩
    unfold outWr at h
    split at h
    · rename_i hh ha
      split at h
      case h_2 => cases h
      rename_i r hr
      cases hf : r.flat with
      | false => rw [hf] at h; cases h
      | true =>
        rw [hf] at h
        exact go hh r (by rw [ha]; simp [hA0, hf]) hr h
    · rename_i hh ha
      split at h
      case h_2 => cases h
      rename_i r hr
      cases hf : r.flat with
      | true => rw [hf] at h; cases h
      | false =>
        rw [hf] at h
        exact go hh r (by rw [ha]; simp [hA0, hf]) hr h
    · cases h
theorem nodupB_look {wr : Wr} (h : nodupB (wrHs wr) = true) : ∀ x oe oe', (x, oe) ∈ wr → (x, oe') ∈ wr → oe = oe' := by
  induction wr with
  | nil => intro x oe oe' h1; cases h1
  | cons p l ih =>
    intro x oe oe' h1 h2
    simp only [wrHs, List.map_cons, nodupB, Bool.and_eq_true, Bool.not_eq_true', List.contains_eq_mem, decide_eq_false_iff_not] at h
    simp only [List.mem_cons] at h1 h2
    rcases h1 with h1 | h1 <;> rcases h2 with h2 | h2
    · rw [← h1] at h2; cases h2; rfl
    · exact absurd (by rw [← h1]; exact List.mem_map.2 ⟨_, h2, rfl⟩) h.1
    · exact absurd (by rw [← h2]; exact List.mem_map.2 ⟨_, h1, rfl⟩) h.1
    · exact ih h.2 x oe oe' h1 h2
theorem restOk_at {hs : List Nat} {outs : List (Nat × Option RC)} : ∀ {args : List AV} {j0 : Nat}, restOk hs outs j0 args = true → ∀ (i : Nat) (x : AV), args[i]? = some x → (outs.any fun p => p.1 == j0 + i) = true ∨ ∀ h ∈ x.hs, h ∉ hs
  | [], _, _, i, x, h => by simp at h
  | y :: l, j0, h, i, x, hx => by
    simp only [restOk, Bool.and_eq_true, Bool.or_eq_true] at h
    cases i with
    | zero =>
      simp only [List.getElem?_cons_zero, Option.some.injEq] at hx; subst hx
      exact h.1.imp (fun h => by simpa using h) (fun h => disj_spec h)
    | succ i =>
      have := restOk_at h.2 i x (by simpa using hx)
      rw [show j0 + (i + 1) = j0 + 1 + i by omega]
      exact this
theorem argsPre_at {S : St} : ∀ {args : List AV}, argsPre S args → ∀ x ∈ args, subPre S x
  | [], _, x, hx => by cases hx
  | y :: l, h, x, hx => by
    simp only [List.mem_cons] at hx
    rcases hx with rfl | hx
    · exact h.1
    · exact argsPre_at h.2 x hx

section
variable {c : Ctx} {ops : Array Oper} {o : Oper} {S : St}

theorem wp_enter {P : Program} {a : Act} {w : World} {f : Nat} {args : Array Value} {K : Act → World → Prop} {Q : Exit → Act → World → Prop} (h : (execOp a.eval o).run P w = .ok (.enter f args) w)
    (hk : Calls P f args w fun e w' => ∃ v, e = .returned v ∧ K (a.put o.dst v) w') : o.wp P a w K Q := by
  unfold Oper.wp; rw [h]
  exact hk.mono fun e w' ⟨v, he, h⟩ => by subst he; exact h

theorem good_call_of {R : List Nat} {val : AV} {wr : Wr} (hN : ∀ d, o.dst = some d → d < c.N) (hw : Wanted c ops o S)
    (h : ∀ (S' : SS) (ρ : Nat → Value) (a : Act) (w : World), Agree ops o R (den S) S' → (∀ x ∈ wrHs wr, x ∉ R → S'.Fresh c x) → SatR c S' ρ a.tmps w → (∀ d, o.dst = some d → d < a.tmps.size) →
      ∃ f args, (execOp a.eval o).run c.P w = .ok (.enter f args) w ∧ Calls c.P f args w fun e w' => ∃ v, e = .returned v ∧ ∃ ρ', SatR c (S'.apply o.dst val wr) ρ' (a.put o.dst v).tmps w') :
    Good c ops o (den S) R val wr := by
  intro S' hag hfr a w hsat K Q hK
  unfold opAt
  rw [if_pos (hw S' a w hag.nil hsat)]
  obtain ⟨hdef, hsz, ρ, hs⟩ := hsat
  obtain ⟨f, args, hr, hc⟩ := h S' ρ a w hag hfr hs (fun d hd => by rw [hsz]; exact hN d hd)
  refine wp_enter hr (hc.mono fun e w' ⟨v, he, ρ', hs'⟩ => ⟨v, he, hK _ _ ⟨(put_defs a o.dst v).trans hdef, (put_size a o.dst v).trans hsz, ρ', hs'⟩⟩)

/-- how an argument reads that is no plain value -/
inductive ArgKind (S : St) : AV → RC → Prop where
  | flat {x r} : r.flat = true → readOf S x = some r → ArgKind S x r
  | inner {h p r} : innerOf (compOf (look h S.mem)) p = some r → ArgKind S (.one (.ci h p)) r
  | comp {h r} : compOf (look h S.mem) = some r → ArgKind S (.one (.co h)) r
theorem compOf_comp {e : Option Entry} {r : RC} (h : compOf e = some r) : r.flat = false := by
  unfold compOf at h
  split at h
  · rename_i r'
    cases hf : r'.flat with
    | true => rw [hf] at h; cases h
    | false => rw [hf] at h; simp only [cond_false, Option.some.injEq] at h; rw [← h]; exact hf
  · rename_i r'
    cases hf : r'.flat with
    | true => rw [hf] at h; cases h
    | false => rw [hf] at h; simp only [cond_false, Option.some.injEq] at h; rw [← h]; exact hf
  · cases h
theorem argOf_rel {ρ : Nat → Value} {x : AV} {v : Value} (hok : argOk (argOf S x) = true) (hv : x.rel ρ v) :
    (∃ r, argOf S x = .rw r ∧ ArgKind S x r) ∨ ((∀ r, argOf S x ≠ .rw r) ∧ v = (argOf S x).conc noρ ∧ (∀ h, x ≠ .one (.co h)) ∧ hdV v = v) := by
  cases x with
  | tup l => simp [argOf, argOk] at hok
  | one a0 =>
    cases a0 with
    | row h =>
      left
      simp only [argOf] at hok ⊢
      cases he : entryRow (look h S.mem) with
      | none => rw [he] at hok; simp [argOk] at hok
      | some r => exact ⟨r, rfl, .flat (entryRow_flat he) (by simp [readOf, he])⟩
    | sub h sz l r =>
      left
      simp only [argOf] at hok ⊢
      cases he : readOf S (.one (.sub h sz l r)) with
      | none => rw [he] at hok; simp [argOk] at hok
      | some rc => exact ⟨rc, rfl, .flat (readOf_flat he) he⟩
    | co h =>
      left
      simp only [argOf] at hok ⊢
      cases he : compOf (look h S.mem) with
      | none => rw [he] at hok; simp [argOk] at hok
      | some r => exact ⟨r, rfl, .comp he⟩
    | ci h p =>
      left
      simp only [argOf] at hok ⊢
      cases he : innerOf (compOf (look h S.mem)) p with
      | none => rw [he] at hok; simp [argOk] at hok
      | some r => exact ⟨r, rfl, .inner he⟩
    | tt => right; exact ⟨fun r h => by simp [argOf] at h, hv, fun h e => by simp at e, by rw [show v = _ from hv]; rfl⟩
    | ff => right; exact ⟨fun r h => by simp [argOf] at h, hv, fun h e => by simp at e, by rw [show v = _ from hv]; rfl⟩
    | i n => right; exact ⟨fun r h => by simp [argOf] at h, hv, fun h e => by simp at e, by rw [show v = _ from hv]; rfl⟩
    | b n => right; exact ⟨fun r h => by simp [argOf] at h, hv, fun h e => by simp at e, by rw [show v = _ from hv]; rfl⟩
    | s n => right; exact ⟨fun r h => by simp [argOf] at h, hv, fun h e => by simp at e, by rw [show v = _ from hv]; rfl⟩
    | fn n => right; exact ⟨fun r h => by simp [argOf] at h, hv, fun h e => by simp at e, by rw [show v = _ from hv]; rfl⟩
    | nil => right; exact ⟨fun r h => by simp [argOf] at h, hv, fun h e => by simp at e, by rw [show v = _ from hv]; rfl⟩
    | rw r => exact absurd hv (fun h => h)
    | bot => simp [argOf, argOk] at hok
    | un => simp [argOf, argOk] at hok
    | ref h o => simp [argOf, argOk] at hok
    | el h a b c => simp [argOf, argOk] at hok
    | cut h a b => simp [argOf, argOk] at hok
    | hd h a => simp [argOf, argOk] at hok
    | oe h a => simp [argOf, argOk] at hok
    | ie h a b c d => simp [argOf, argOk] at hok
    | ag h a => simp [argOf, argOk] at hok
end
end Go.Proofs.Ytclpoenfcpefmaa

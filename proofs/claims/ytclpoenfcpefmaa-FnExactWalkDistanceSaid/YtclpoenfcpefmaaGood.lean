/-
  Each effect of the abstract machine is sound: values, boxes, arithmetic. Conditions: none; this text proves nothing of the program.
-/
import Derived.Test.YtclpoenfcpefmaaOps
namespace Go.Proofs.Ytclpoenfcpefmaa
open Go Go.RowKit

section
variable {c : Ctx} {ops : Array Oper} {o : Oper} {S : St} {R : List Nat} {val : AV} {wr : Wr}

def Wanted (c : Ctx) (ops : Array Oper) (o : Oper) (S : St) : Prop := ∀ (S' : SS) (a : Act) (w : World), Agree ops o [] (den S) S' → Sat c S' a w → Region.wanted o (yielded ops a.tmps) = true
theorem Agree.nil {S S' : SS} (h : Agree ops o R S S') : Agree ops o [] S S' := ⟨h.fr, fun _ hx => by cases hx⟩

theorem wp_value {P : Program} {a : Act} {w w' : World} {v : Value} {K : Act → World → Prop} {Q : Exit → Act → World → Prop} (h : (execOp a.eval o).run P w = .ok (.value v) w') (hk : K (a.put o.dst v) w') : o.wp P a w K Q := by
  unfold Oper.wp; rw [h]; exact hk
theorem wp_skipped {P : Program} {a : Act} {w w' : World} {K : Act → World → Prop} {Q : Exit → Act → World → Prop} (h : (execOp a.eval o).run P w = .ok .skip w') (hk : K (a.put o.dst undef) w') : o.wp P a w K Q := by
  unfold Oper.wp; rw [h]; exact hk

theorem good_of (hN : ∀ d, o.dst = some d → d < c.N) (hw : Wanted c ops o S)
    (h : ∀ (S' : SS) (ρ : Nat → Value) (a : Act) (w : World), Agree ops o R (den S) S' → (∀ x ∈ wrHs wr, x ∉ R → S'.Fresh c x) → SatR c S' ρ a.tmps w → (∀ d, o.dst = some d → d < a.tmps.size) →
      ∃ v w' ρ', ((execOp a.eval o).run c.P w = .ok (.value v) w' ∨ ((execOp a.eval o).run c.P w = .ok .skip w' ∧ v = undef)) ∧ SatR c (S'.apply o.dst val wr) ρ' (a.put o.dst v).tmps w') :
    Good c ops o (den S) R val wr := by
  intro S' hag hfr a w hsat K Q hK
  unfold opAt
  rw [if_pos (hw S' a w hag.nil hsat)]
  obtain ⟨hdef, hsz, ρ, hs⟩ := hsat
  obtain ⟨v, w', ρ', hr, hs'⟩ := h S' ρ a w hag hfr hs (fun d hd => by rw [hsz]; exact hN d hd)
  have hk : K (a.put o.dst v) w' := hK _ _ ⟨(put_defs a o.dst v).trans hdef, (put_size a o.dst v).trans hsz, ρ', hs'⟩
  rcases hr with hr | ⟨hr, hv⟩
  · exact wp_value hr hk
  · subst hv; exact wp_skipped hr hk

theorem cst_rel (ρ : Nat → Value) (v : Value) : (cst v).rel ρ v := by
  unfold cst
  split <;> simp [AV.rel, A0.rel, A0.conc]
theorem eval_rel {S' : SS} {ρ : Nat → Value} {a : Act} {w : World} (hag : Agree ops o R (den S) S') (h : SatR c S' ρ a.tmps w) {x : Operand} (hx : x ∈ o.op.operands.toList) : (S.eval x).rel ρ (a.eval x) := by
  cases x with
  | tmp t =>
    have ht : t ∈ o.looksAt ops := by
      unfold Oper.looksAt
      exact List.mem_append_left _ (List.mem_filterMap.2 ⟨.tmp t, hx, rfl⟩)
    have := h.fr t
    rw [hag.fr t ht] at this
    exact (AV.rel_norm ρ _ _).1 this
  | const v => exact cst_rel ρ v
  | global g => simp [St.eval, AV.rel, A0.rel]
  | func f => simp [St.eval, AV.rel, A0.rel, A0.conc, Act.eval]
theorem mem_at {S' : SS} (hag : Agree ops o R (den S) S') {h : Nat} {e : Entry} (hh : h ∈ R) (hl : look h S.mem = some e) : S'.mem h = some e.norm := by
  rw [hag.mem h hh]
  simp [den, hl]

theorem rel_i {ρ : Nat → Value} {n : Int} {v : Value} (h : (AV.one (.i n)).rel ρ v) : v = vI n := h
theorem rel_b {ρ : Nat → Value} {n : Bool} {v : Value} (h : (AV.one (.b n)).rel ρ v) : v = .bool n := h
theorem rel_s {ρ : Nat → Value} {l : List Int} {v : Value} (h : (AV.one (.s l)).rel ρ v) : v = .agg (l.map vI).toArray := h

/-- An operation that only computes a value. -/
theorem good_val (hN : ∀ d, o.dst = some d → d < c.N) (hw : Wanted c ops o S) {a0 : AV}
    (h : ∀ ρ (a : Act) w, (∀ x ∈ o.op.operands.toList, (S.eval x).rel ρ (a.eval x)) → ∃ v, (execOp a.eval o).run c.P w = .ok (.value v) w ∧ a0.rel ρ v) : Good c ops o (den S) R a0.norm [] := by
  refine good_of hN hw fun S' ρ a w hag _ hs hd => ?_
  obtain ⟨v, hr, hv⟩ := h ρ a w (fun x hx => eval_rel hag hs hx)
  exact ⟨v, w, ρ, .inl hr, hs.val hd ((AV.rel_norm ρ _ _).2 hv)⟩

theorem good_move {x : Operand} (hN : ∀ d, o.dst = some d → d < c.N) (hw : Wanted c ops o S) (hop : o.op = .move x ∨ o.op = .assign x) : Good c ops o (den S) R (S.eval x).norm [] := by
  refine good_val hN hw fun ρ a w hx => ⟨a.eval x, ?_, hx x ?_⟩
  · rcases hop with h | h <;> simp [execOp, h]
  · rcases hop with h | h <;> simp [h, Op.operands]

theorem good_pick {cc x y : Operand} {e : Eff} (hN : ∀ d, o.dst = some d → d < c.N) (hw : Wanted c ops o S) (hop : o.op = .pick cc x y) (he : effPick (S.eval cc) (S.eval x) (S.eval y) = some e) : Good c ops o (den S) R e.val.norm (normWr e.wr) := by
  unfold effPick at he
  split at he
  · rename_i hc
    simp only [val1, Option.some.injEq] at he; subst he
    refine good_val hN hw fun ρ a w hx => ⟨a.eval x, ?_, hx x (by simp [hop, Op.operands])⟩
    have h1 := hx cc (by simp [hop, Op.operands])
    rw [hc] at h1
    have h2 : a.eval cc = .bool true := h1
    simp [execOp, hop, h2, asBool]
  · rename_i hc
    simp only [val1, Option.some.injEq] at he; subst he
    refine good_val hN hw fun ρ a w hx => ⟨a.eval y, ?_, hx y (by simp [hop, Op.operands])⟩
    have h1 := hx cc (by simp [hop, Op.operands])
    rw [hc] at h1
    have h2 : a.eval cc = .bool false := h1
    simp [execOp, hop, h2, asBool]
  · cases he

theorem good_extract {x : Operand} {j : Nat} {e : Eff} (hN : ∀ d, o.dst = some d → d < c.N) (hw : Wanted c ops o S) (hop : o.op = .extract x j) (he : effExtract (S.eval x) j = some e) : Good c ops o (den S) R e.val.norm (normWr e.wr) := by
  unfold effExtract at he
  split at he
  · rename_i l hl
    split at he
    · rename_i a0 ha
      simp only [val1, Option.some.injEq] at he; subst he
      refine good_val hN hw fun ρ a w hx => ?_
      have h1 := hx x (by simp [hop, Op.operands])
      rw [hl] at h1
      obtain ⟨vs, hv, _, hj⟩ := h1
      obtain ⟨u, hu, hr⟩ := hj j a0 ha
      exact ⟨u, by simp [execOp, hop, hv, Instr.extract, hu], hr⟩
    · cases he
  · cases he

theorem wrap64_eq (n : Int) : IntKind.i64.wrap n = wrap64 n := by simp [wrap64, IntKind.wrap_i64]

theorem good_un {x : Operand} {op : UnOp} {t : Nat} {e : Eff} (hN : ∀ d, o.dst = some d → d < c.N) (hw : Wanted c ops o S) (hop : o.op = .unOp op t x) (he : effUn op (S.eval x) = some e) : Good c ops o (den S) R e.val.norm (normWr e.wr) := by
  unfold effUn at he
  split at he <;> (try cases he)
  · rename_i n hx
    refine good_val hN hw fun ρ a w hxx => ?_
    have h1 := hxx x (by simp [hop, Op.operands])
    rw [hx] at h1
    exact ⟨vI (wrap64 (0 - n)), by simp [execOp, hop, rel_i h1, Op.unary, Op.intArith, wrap64_eq], rfl⟩
  · rename_i n hx
    refine good_val hN hw fun ρ a w hxx => ?_
    have h1 := hxx x (by simp [hop, Op.operands])
    rw [hx] at h1
    exact ⟨.bool (!n), by simp [execOp, hop, rel_b h1, Op.unary], rfl⟩
  · rename_i hx
    refine good_val hN hw fun ρ a w hxx => ?_
    have h1 := hxx x (by simp [hop, Op.operands])
    rw [hx] at h1
    have h2 : a.eval x = .bool true := h1
    exact ⟨.bool false, by simp [execOp, hop, h2, Op.unary], rfl⟩
  · rename_i hx
    refine good_val hN hw fun ρ a w hxx => ?_
    have h1 := hxx x (by simp [hop, Op.operands])
    rw [hx] at h1
    have h2 : a.eval x = .bool false := h1
    exact ⟨.bool true, by simp [execOp, hop, h2, Op.unary], rfl⟩

theorem binInt_run {P : Program} {op : BinOp} {a b : Int} {e : Eff} (t : Nat) (x y : Operand) (he : binInt op a b = some e) (hp : e.pre) (w : World) :
    ∃ v, (do eqGuard op t x y (vI a) (vI b); binOp op t (vI a) (vI b) : Sem Value).run P w = .ok v w ∧ (∀ ρ, e.val.rel ρ v) ∧ e.wr = [] := by
  unfold binInt at he
  split at he <;> simp only [val1, Option.some.injEq, reduceCtorEq] at he <;> subst he
  · exact ⟨vI (wrap64 (a + b)), by simp [eqGuard_add, binOp_add, Op.intArith, wrap64_eq], fun _ => rfl, rfl⟩
  · exact ⟨vI (wrap64 (a - b)), by simp [eqGuard_sub, binOp_sub, Op.intArith, wrap64_eq], fun _ => rfl, rfl⟩
  · exact ⟨vI (wrap64 (a * b)), by simp [eqGuard_mul, binOp_mul, Op.intArith, wrap64_eq], fun _ => rfl, rfl⟩
  · have hp' : b ≠ 0 := hp
    exact ⟨vI (wrap64 (a.tdiv b)), by simp [eqGuard_quo, binOp_quo, Op.intDiv, wrap64_eq, hp'], fun _ => rfl, rfl⟩
  · have hp' : b ≠ 0 := hp
    exact ⟨vI (a.tmod b), by simp [eqGuard_rem, binOp_rem, Op.intDiv, hp'], fun _ => rfl, rfl⟩
  · exact ⟨.bool (a == b), by simp [eqGuard_at_int, binOp_eql], fun _ => rfl, rfl⟩
  · exact ⟨.bool (a != b), by simp [eqGuard_at_int, binOp_neq], fun _ => rfl, rfl⟩
  · exact ⟨.bool (decide (a < b)), by simp [eqGuard_at_int, binOp_lss], fun _ => rfl, rfl⟩
  · exact ⟨.bool (decide (a ≤ b)), by simp [eqGuard_at_int, binOp_leq], fun _ => rfl, rfl⟩
  · exact ⟨.bool (decide (a > b)), by simp [eqGuard_at_int, binOp_gtr], fun _ => rfl, rfl⟩
  · exact ⟨.bool (decide (a ≥ b)), by simp [eqGuard_at_int, binOp_geq], fun _ => rfl, rfl⟩

theorem good_bin {x y : Operand} {op : BinOp} {t t' : Nat} {e : Eff} {a b : Int} (hN : ∀ d, o.dst = some d → d < c.N) (hw : Wanted c ops o S) (hop : o.op = .binOp op t x y t') (hx : S.eval x = .one (.i a)) (hy : S.eval y = .one (.i b))
    (he : binInt op a b = some e) (hp : e.pre) : Good c ops o (den S) R e.val.norm (normWr e.wr) := by
  obtain ⟨_, _, _, hwr⟩ := binInt_run (P := c.P) t x y he hp default
  rw [hwr]
  refine good_val hN hw fun ρ a' w hxx => ?_
  have h1 := hxx x (by simp [hop, Op.operands])
  have h2 := hxx y (by simp [hop, Op.operands])
  rw [hx] at h1; rw [hy] at h2
  obtain ⟨v, hr, hv, _⟩ := binInt_run (P := c.P) t x y he hp w
  refine ⟨v, ?_, hv ρ⟩
  have h1' := rel_i h1
  have h2' := rel_i h2
  simp only [execOp, hop, h1', h2']
  have : ((do eqGuard op t x y (vI a) (vI b); binOp op t (vI a) (vI b) : Sem Value) >>= fun v => pure (Next.value v)).run c.P w = .ok (.value v) w := by
    rw [Sem.run_bind, hr]; simp
  exact this
end
end Go.Proofs.Ytclpoenfcpefmaa

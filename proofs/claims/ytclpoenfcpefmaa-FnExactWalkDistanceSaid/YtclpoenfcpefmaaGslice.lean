/-
  Each effect of the abstract machine is sound: comparisons of structs, slices made, read, cut and appended to. Conditions: none; this text proves nothing of the program.
-/
import Derived.Test.YtclpoenfcpefmaaGrow
namespace Go.Proofs.Ytclpoenfcpefmaa
open Go Go.RowKit

section
variable {c : Ctx} {ops : Array Oper} {o : Oper} {S : St} {R : List Nat}

/-! #### comparing structs -/
theorem eqI_run {P : Program} {w : World} {d : Nat} : ∀ (F : List Field) (fs : List (Nat × Nat)) (k : Nat) (xs ys : List Int), fieldsB P F fs = true → (∀ (j : Nat) (p : Nat × Nat), fs[j]? = some p → p = (k + j, 1)) → k + F.length = xs.length → ys.length = xs.length →
    (Op.eqFields (d + 1) (xs.map vI).toArray (ys.map vI).toArray F).run P w = .ok (eqI (xs.drop k) (ys.drop k)) w
  | [], fs, k, xs, ys, _, _, hl, hy => by
    have h1 : xs.drop k = [] := List.drop_of_length_le (by simp at hl; omega)
    simp [Op.eqFields, h1, eqI]
  | f :: F, [], k, xs, ys, h, _, _, _ => by simp [fieldsB] at h
  | f :: F, p :: fs, k, xs, ys, h, hp, hl, hy => by
    have hp0 := hp 0 p rfl
    simp only [Nat.add_zero] at hp0
    subst hp0
    have h' := h
    simp only [fieldsB, Bool.and_eq_true, beq_iff_eq, Nat.blt_eq, Bool.or_eq_true, bne_iff_ne] at h'
    obtain ⟨h1, h2, h3, h4, h5⟩ := h'
    rcases h4 with h4 | ⟨h4, h4'⟩
    · exact absurd rfl h4
    have hu := isI64_spec h4
    simp only [List.length_cons] at hl
    have hkx : k < xs.length := by omega
    have hky : k < ys.length := by omega
    have ih := eqI_run (w := w) (d := d) F fs (k + 1) xs ys h5 (fun j q hq => by have := hp (j + 1) q (by simpa using hq); rw [this]; congr 1; omega) (by omega) hy
    have px : (part f.type (xs.map vI).toArray f.offset).run P w = .ok (vI xs[k]) w := by
      simp [part, run_isAgg_int hu, h1, hkx]
    have py : (part f.type (ys.map vI).toArray f.offset).run P w = .ok (vI ys[k]) w := by
      simp [part, run_isAgg_int hu, h1, hky]
    have dx : xs.drop k = xs[k] :: xs.drop (k + 1) := List.drop_eq_getElem_cons hkx
    have dy : ys.drop k = ys[k] :: ys.drop (k + 1) := List.drop_eq_getElem_cons hky
    have hne : f.name ≠ "_" := by simpa using h4'
    simp only [Op.eqFields, hne, ne_eq, not_false_eq_true, if_true, Sem.run_bind, px, py, Result.andThen_ok, run_equalIn_int w d f.type .i64 .i64 _ _ hu]
    rw [dx, dy]
    simp only [eqI, List.headD_cons, List.tail_cons]
    by_cases he : xs[k] = ys[k]
    · simp [he, ih]
    · have he' : (xs[k] == ys[k]) = false := by simpa using he
      simp [he']

theorem run_equalIn_bool {P : Program} {t : Nat} (w : World) (d : Nat) (a b : Bool) (hu : P.underlying t = some .bool) : (Op.equalIn (d + 1) t (.bool a) (.bool b)).run P w = .ok (a == b) w := by
  unfold Op.equalIn
  simp only [Sem.run_bind, run_underlying hu, Result.andThen_ok]
  rfl
theorem good_bins {tab : Tab} (hT : TabOk c.P tab) {x y : Operand} {op : BinOp} {t t' : Nat} {e : Eff} (hN : ∀ d, o.dst = some d → d < c.N) (hw : Wanted c ops o S) (hop : o.op = .binOp op t x y t')
    (he : effBin (look t tab) op (S.eval x) (S.eval y) = some e) (hp : e.pre) : Good c ops o (den S) R e.val.norm (normWr e.wr) := by
  unfold effBin at he
  split at he
  · rename_i a b hx hy
    exact good_bin hN hw hop hx hy he hp
  · rename_i xs ys hx hy
    split at he
    · rename_i fs n _ hti
      cases hc : (xs.length == n && (ys.length == n && flatB n fs)) with
      | false => rw [hc] at he; cases he
      | true =>
        rw [hc] at he
        simp only [cond_true] at he
        simp only [Bool.and_eq_true, beq_iff_eq] at hc
        obtain ⟨hx1, hy1, hfl⟩ := hc
        obtain ⟨F, i, hu, hi, his, _, hz, hfs, hst, hgt⟩ := tiB_struct (hT _ _ hti)
        obtain ⟨hFl, _⟩ := fieldsB_at hfs
        unfold flatB at hfl
        simp only [Bool.and_eq_true, beq_iff_eq] at hfl
        obtain ⟨hfl1, hfl2⟩ := hfl
        have hflat : ∀ (j : Nat) (p : Nat × Nat), fs[j]? = some p → p = (0 + j, 1) := by
          intro j p hj
          rw [hfl2] at hj
          simp only [List.getElem?_map, Option.map_eq_some_iff] at hj
          obtain ⟨k, hk, rfl⟩ := hj
          have := (List.getElem?_eq_some_iff.1 hk).2
          simp at this
          simp [this]
        have hF' : c.P.fieldsOf t = F := by simp [Program.fieldsOf, hu]
        have heq : ∀ w, (Op.equalIn 10000 t (.agg (xs.map vI).toArray) (.agg (ys.map vI).toArray)).run c.P w = .ok (eqI xs ys) w := by
          intro w
          rw [run_equalIn_struct w 9999 t _ _ (by rw [hu, hF']) hst, hF']
          have := eqI_run (P := c.P) (w := w) (d := 9998) F.toList fs 0 xs ys hfs hflat (by rw [hFl, hfl1]; omega) (by omega)
          simpa using this
        have run : ∀ (a : Act) w (b : Bool), (op = .eql ∧ b = eqI xs ys) ∨ (op = .neq ∧ b = !eqI xs ys) → a.eval x = .agg (xs.map vI).toArray → a.eval y = .agg (ys.map vI).toArray → (execOp a.eval o).run c.P w = .ok (.value (.bool b)) w := by
          intro a w b hb hax hay
          rcases hb with ⟨rfl, rfl⟩ | ⟨rfl, rfl⟩
          · simp only [execOp, hop, hax, hay, Sem.run_bind, run_eqGuard_agg w _ t x y _ _ hgt, Result.andThen_ok]
            simp [binOp, Op.equal, Op.maxDepth, heq w]
          · simp only [execOp, hop, hax, hay, Sem.run_bind, run_eqGuard_agg w _ t x y _ _ hgt, Result.andThen_ok]
            simp [binOp, Op.equal, Op.maxDepth, heq w]
        have fin : ∀ b, ((op = .eql ∧ b = eqI xs ys) ∨ (op = .neq ∧ b = !eqI xs ys)) → Good c ops o (den S) R (AV.norm (.one (.b b))) [] := by
          intro b hb
          refine good_val hN hw fun ρ a w hxx => ⟨.bool b, ?_, rfl⟩
          have h1 := hxx x (by simp [hop, Op.operands])
          have h2 := hxx y (by simp [hop, Op.operands])
          rw [hx] at h1; rw [hy] at h2
          exact run a w b hb (rel_s h1) (rel_s h2)
        split at he
        · simp only [val1, Option.some.injEq] at he; subst he
          exact fin _ (.inl ⟨rfl, rfl⟩)
        · simp only [val1, Option.some.injEq] at he; subst he
          exact fin _ (.inr ⟨rfl, rfl⟩)
        · cases he
    · cases he
  · rename_i a b _ _ hx hy
    split at he
    · rename_i hti
      have hu := (tiB_bool (hT _ _ hti)).1
      unfold binBool at he
      split at he
      case h_2 => cases he
      rename_i u v hau hbv
      have hval : ∀ {a0 : A0} {z : Bool} {ρ : Nat → Value} {w : Value}, boolOf a0 = some z → a0.rel ρ w → w = .bool z := by
        intro a0 z ρ w h1 h2
        unfold boolOf at h1
        split at h1 <;> (try cases h1) <;> exact h2
      have fin : ∀ r, ((op = .eql ∧ r = (u == v)) ∨ (op = .neq ∧ r = (u != v))) → Good c ops o (den S) R (AV.norm (.one (.b r))) [] := by
        intro r hr
        refine good_val hN hw fun ρ a' w hxx => ⟨.bool r, ?_, rfl⟩
        have h1 := hxx x (by simp [hop, Op.operands])
        have h2 := hxx y (by simp [hop, Op.operands])
        rw [hx] at h1; rw [hy] at h2
        have h1' := hval hau h1
        have h2' := hval hbv h2
        rcases hr with ⟨rfl, rfl⟩ | ⟨rfl, rfl⟩
        · simp [execOp, hop, h1', h2', eqGuard, binOp, Op.equal, Op.maxDepth, run_equalIn_bool w 9999 u v hu]
        · simp [execOp, hop, h1', h2', eqGuard, binOp, Op.equal, Op.maxDepth, run_equalIn_bool w 9999 u v hu]
          cases u <;> cases v <;> rfl
      split at he
      · simp only [val1, Option.some.injEq] at he; subst he
        exact fin _ (.inl ⟨rfl, rfl⟩)
      · simp only [val1, Option.some.injEq] at he; subst he
        exact fin _ (.inr ⟨rfl, rfl⟩)
      · cases he
    · cases he
  · cases he

theorem good_max {args : Array Operand} {ts : Array Nat} {x y : Operand} {e : Eff} (hN : ∀ d, o.dst = some d → d < c.N) (hw : Wanted c ops o S) (hop : o.op = .call ⟨.builtin .max, args, ts⟩) (ha : args.toList = [x, y])
    (he : effMax (S.eval x) (S.eval y) = some e) : Good c ops o (den S) R e.val.norm (normWr e.wr) := by
  have haa : args = #[x, y] := by apply Array.ext'; simpa using ha
  subst haa
  unfold effMax at he
  split at he
  · rename_i m n hx hy
    simp only [val1, Option.some.injEq] at he; subst he
    refine good_val hN hw fun ρ a w hxx => ⟨vI (max m n), ?_, rfl⟩
    have h1 := hxx x (by simp [hop, Op.operands, Call.operands])
    have h2 := hxx y (by simp [hop, Op.operands, Call.operands])
    rw [hx] at h1; rw [hy] at h2
    have h1' := rel_i h1
    have h2' := rel_i h2
    have hmx : (if n > m then n else m) = max m n := by omega
    simp [execOp, hop, resolve, invoke, builtin, Builtin.max_, Builtin.max2, h1', h2']
    omega
  · cases he
theorem good_min {args : Array Operand} {ts : Array Nat} {x y : Operand} {e : Eff} (hN : ∀ d, o.dst = some d → d < c.N) (hw : Wanted c ops o S) (hop : o.op = .call ⟨.builtin .min, args, ts⟩) (ha : args.toList = [x, y])
    (he : effMin (S.eval x) (S.eval y) = some e) : Good c ops o (den S) R e.val.norm (normWr e.wr) := by
  have haa : args = #[x, y] := by apply Array.ext'; simpa using ha
  subst haa
  unfold effMin at he
  split at he
  · rename_i m n hx hy
    simp only [val1, Option.some.injEq] at he; subst he
    refine good_val hN hw fun ρ a w hxx => ⟨vI (min m n), ?_, rfl⟩
    have h1 := hxx x (by simp [hop, Op.operands, Call.operands])
    have h2 := hxx y (by simp [hop, Op.operands, Call.operands])
    rw [hx] at h1; rw [hy] at h2
    have h1' := rel_i h1
    have h2' := rel_i h2
    have hmx : (if n < m then n else m) = min m n := by omega
    simp [execOp, hop, resolve, invoke, builtin, Builtin.min_, Builtin.min2, h1', h2']
    omega
  · cases he

theorem good_indexV {tab : Tab} (hT : TabOk c.P tab) {t : Nat} {x i : Operand} {e : Eff} (hN : ∀ d, o.dst = some d → d < c.N) (hw : Wanted c ops o S) (hop : o.op = .index t x i)
    (he : effIndexV tab t (S.eval x) (S.eval i) = some e) (hp : e.pre) : Good c ops o (den S) R e.val.norm (normWr e.wr) := by
  unfold effIndexV at he
  split at he
  case h_2 => cases he
  rename_i m el _ _ hti
  split at he
  case h_2 => cases he
  rename_i hte
  split at he
  case h_2 => cases he
  rename_i l n hx hy
  cases hb : (l.length == m) with
  | false => rw [hb] at he; cases he
  | true =>
  rw [hb] at he
  simp only [cond_true, Option.some.injEq] at he
  subst he
  have hlm : l.length = m := by simpa using hb
  obtain ⟨h0, h1⟩ : 0 ≤ n ∧ n < m := hp
  obtain ⟨_, _, hu, _⟩ := tiB_array (hT _ _ hti)
  obtain ⟨hue, _, ei, hei, hes, _⟩ := tiB_int (hT _ _ hte)
  refine good_val hN hw fun ρ a w hxx => ⟨vI (l.getD n.toNat 0), ?_, rfl⟩
  have g1 := hxx x (by simp [hop, Op.operands])
  have g2 := hxx i (by simp [hop, Op.operands])
  rw [hx] at g1; rw [hy] at g2
  have g1' := rel_s g1
  have g2' := rel_i g2
  have hlt : n.toNat < l.length := by omega
  have hpart : (part el (l.map vI).toArray (n.toNat * 1)).run c.P w = .ok (vI (l.getD n.toNat 0)) w := by
    simp [part, run_isAgg_int hue, hlt, List.getD_eq_getElem?_getD]
  simp only [execOp, hop, g1', g2']
  simp [Instr.index, asIntOf, run_underlying hu, h0, h1, run_size hei, hes, hlt, part, run_isAgg_int hue, List.getD_eq_getElem?_getD]
end
end Go.Proofs.Ytclpoenfcpefmaa

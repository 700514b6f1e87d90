/-
Each effect of the abstract machine is sound: comparisons of structs, slices made, read, cut and appended to. Conditions: none; this text proves nothing of the program. Each effect of the abstract machine is sound: slices made, read, cut and appended to. Conditions: none; this text proves nothing of the program. Each effect of the abstract machine is sound: index, len, cuts, append, make. Conditions: none; this text proves nothing of the program. Each effect of the abstract machine is sound: append, make. Conditions: none; this text proves nothing of the program.
-/
import Derived.Test.YtacomnelongbjabGrow
namespace Go.Proofs.Ytacomnelongbjab
open Go Go.RowKit

section
variable {c : Ctx} {ops : Array Oper} {o : Oper} {S : St} {R : List Nat}

/-! #### comparing structs -/
theorem eqI_run {P : Program} {w : World} {d : Nat} : ∀ (F : List Field) (fs : List (Nat × Nat)) (k : Nat) (xs ys : List Int), fieldsB P F fs = true → (∀ (j : Nat) (p : Nat × Nat), fs[j]? = some p → p = (k + j, 1)) → k + F.length = xs.length → ys.length = xs.length →
    (Op.eqFields (d + 1) (xs.map vI).toArray (ys.map vI).toArray F).run P w = .ok (eqI (xs.drop k) (ys.drop k)) w
  | [], fs, k, xs, ys, _, _, hl, hy => by
    have h1 : xs.drop k = [] := List.drop_of_length_le (by simp at hl; omega)
    simp [Op.eqFields, h1, eqI]
  | f :: F, [], k, xs, ys, h, _, _, _ => by simp [fieldsB] at h
  | f :: F, p :: fs, k, xs, ys, h, hp, hl, hy => by
    have hp0 := hp 0 p rfl
    simp only [Nat.add_zero] at hp0
    subst hp0
    have h' := h
    simp only [fieldsB, Bool.and_eq_true, beq_iff_eq, Nat.blt_eq, Bool.or_eq_true, bne_iff_ne] at h'
    obtain ⟨h1, h2, h3, h4, h5⟩ := h'
    rcases h4 with h4 | ⟨h4, h4'⟩
    · exact absurd rfl h4
    have hu := isI64_spec h4
    simp only [List.length_cons] at hl
    have hkx : k < xs.length := by omega
    have hky : k < ys.length := by omega
    have ih := eqI_run (w := w) (d := d) F fs (k + 1) xs ys h5 (fun j q hq => by have := hp (j + 1) q (by simpa using hq); rw [this]; congr 1; omega) (by omega) hy
    have px : (part f.type (xs.map vI).toArray f.offset).run P w = .ok (vI xs[k]) w := by
      simp [part, run_isAgg_int hu, h1, hkx]
    have py : (part f.type (ys.map vI).toArray f.offset).run P w = .ok (vI ys[k]) w := by
      simp [part, run_isAgg_int hu, h1, hky]
    have dx : xs.drop k = xs[k] :: xs.drop (k + 1) := List.drop_eq_getElem_cons hkx
    have dy : ys.drop k = ys[k] :: ys.drop (k + 1) := List.drop_eq_getElem_cons hky
    have hne : f.name ≠ "_" := by simpa using h4'
    simp only [Op.eqFields, hne, ne_eq, not_false_eq_true, if_true, Sem.run_bind, px, py, Result.andThen_ok, run_equalIn_int w d f.type .i64 .i64 _ _ hu]
    rw [dx, dy]
    simp only [eqI, List.headD_cons, List.tail_cons]
    by_cases he : xs[k] = ys[k]
    · simp [he, ih]
    · have he' : (xs[k] == ys[k]) = false := by simpa using he
      simp [he']

theorem run_equalIn_bool {P : Program} {t : Nat} (w : World) (d : Nat) (a b : Bool) (hu : P.underlying t = some .bool) : (Op.equalIn (d + 1) t (.bool a) (.bool b)).run P w = .ok (a == b) w := by
  unfold Op.equalIn
  simp only [Sem.run_bind, run_underlying hu, Result.andThen_ok]
  rfl
theorem good_bins {tab : Tab} (hT : TabOk c.P tab) {x y : Operand} {op : BinOp} {t t' : Nat} {e : Eff} (hN : ∀ d, o.dst = some d → d < c.N) (hw : Wanted c ops o S) (hop : o.op = .binOp op t x y t')
    (he : effBin (look t tab) op (S.eval x) (S.eval y) = some e) (hp : e.pre) : Good c ops o (den S) R e.val.norm (normWr e.wr) := by
  unfold effBin at he
  split at he
  · rename_i a b hx hy
    exact good_bin hN hw hop hx hy he hp
  · rename_i xs ys hx hy
    split at he
    · rename_i fs n _ hti
      cases hc : (xs.length == n && (ys.length == n && flatB n fs)) with
      | false => rw [hc] at he; cases he
      | true =>
        rw [hc] at he
        simp only [cond_true] at he
        simp only [Bool.and_eq_true, beq_iff_eq] at hc
        obtain ⟨hx1, hy1, hfl⟩ := hc
        obtain ⟨F, i, hu, hi, his, _, hz, hfs, hst, hgt⟩ := tiB_struct (hT _ _ hti)
        obtain ⟨hFl, _⟩ := fieldsB_at hfs
        unfold flatB at hfl
        simp only [Bool.and_eq_true, beq_iff_eq] at hfl
        obtain ⟨hfl1, hfl2⟩ := hfl
        have hflat : ∀ (j : Nat) (p : Nat × Nat), fs[j]? = some p → p = (0 + j, 1) := by
          intro j p hj
          rw [hfl2] at hj
          simp only [List.getElem?_map, Option.map_eq_some_iff] at hj
          obtain ⟨k, hk, rfl⟩ := hj
          have := (List.getElem?_eq_some_iff.1 hk).2
          simp at this
          simp [this]
        have hF' : c.P.fieldsOf t = F := by simp [Program.fieldsOf, hu]
        have heq : ∀ w, (Op.equalIn 10000 t (.agg (xs.map vI).toArray) (.agg (ys.map vI).toArray)).run c.P w = .ok (eqI xs ys) w := by
          intro w
          rw [run_equalIn_struct w 9999 t _ _ (by rw [hu, hF']) hst, hF']
          have := eqI_run (P := c.P) (w := w) (d := 9998) F.toList fs 0 xs ys hfs hflat (by rw [hFl, hfl1]; omega) (by omega)
          simpa using this
        have run : ∀ (a : Act) w (b : Bool), (op = .eql ∧ b = eqI xs ys) ∨ (op = .neq ∧ b = !eqI xs ys) → a.eval x = .agg (xs.map vI).toArray → a.eval y = .agg (ys.map vI).toArray → (execOp a.eval o).run c.P w = .ok (.value (.bool b)) w := by
          intro a w b hb hax hay
          rcases hb with ⟨rfl, rfl⟩ | ⟨rfl, rfl⟩
          · simp only [execOp, hop, hax, hay, Sem.run_bind, run_eqGuard_agg w _ t x y _ _ hgt, Result.andThen_ok]
            simp [binOp, Op.equal, Op.maxDepth, heq w]
          · simp only [execOp, hop, hax, hay, Sem.run_bind, run_eqGuard_agg w _ t x y _ _ hgt, Result.andThen_ok]
            simp [binOp, Op.equal, Op.maxDepth, heq w]
        have fin : ∀ b, ((op = .eql ∧ b = eqI xs ys) ∨ (op = .neq ∧ b = !eqI xs ys)) → Good c ops o (den S) R (AV.norm (.one (.b b))) [] := by
          intro b hb
          refine good_val hN hw fun ρ a w hxx => ⟨.bool b, ?_, rfl⟩
          have h1 := hxx x (by simp [hop, Op.operands])
          have h2 := hxx y (by simp [hop, Op.operands])
          rw [hx] at h1; rw [hy] at h2
          exact run a w b hb (rel_s h1) (rel_s h2)
        split at he
        · simp only [val1, Option.some.injEq] at he; subst he
          exact fin _ (.inl ⟨rfl, rfl⟩)
        · simp only [val1, Option.some.injEq] at he; subst he
          exact fin _ (.inr ⟨rfl, rfl⟩)
        · cases he
    · cases he
  · rename_i a b _ _ hx hy
    split at he
    · rename_i hti
      have hu := (tiB_bool (hT _ _ hti)).1
      unfold binBool at he
      split at he
      case h_2 => cases he
      rename_i u v hau hbv
      have hval : ∀ {a0 : A0} {z : Bool} {ρ : Nat → Value} {w : Value}, boolOf a0 = some z → a0.rel ρ w → w = .bool z := by
        intro a0 z ρ w h1 h2
        unfold boolOf at h1
        split at h1 <;> (try cases h1) <;> exact h2
      have fin : ∀ r, ((op = .eql ∧ r = (u == v)) ∨ (op = .neq ∧ r = (u != v))) → Good c ops o (den S) R (AV.norm (.one (.b r))) [] := by
        intro r hr
        refine good_val hN hw fun ρ a' w hxx => ⟨.bool r, ?_, rfl⟩
        have h1 := hxx x (by simp [hop, Op.operands])
        have h2 := hxx y (by simp [hop, Op.operands])
        rw [hx] at h1; rw [hy] at h2
        have h1' := hval hau h1
        have h2' := hval hbv h2
        rcases hr with ⟨rfl, rfl⟩ | ⟨rfl, rfl⟩
        · simp [execOp, hop, h1', h2', eqGuard, binOp, Op.equal, Op.maxDepth, run_equalIn_bool w 9999 u v hu]
        · simp [execOp, hop, h1', h2', eqGuard, binOp, Op.equal, Op.maxDepth, run_equalIn_bool w 9999 u v hu]
          cases u <;> cases v <;> rfl
      split at he
      · simp only [val1, Option.some.injEq] at he; subst he
        exact fin _ (.inl ⟨rfl, rfl⟩)
      · simp only [val1, Option.some.injEq] at he; subst he
        exact fin _ (.inr ⟨rfl, rfl⟩)
      · cases he
    · cases he
  · cases he

theorem good_max {args : Array Operand} {ts : Array Nat} {x y : Operand} {e : Eff} (hN : ∀ d, o.dst = some d → d < c.N) (hw : Wanted c ops o S) (hop : o.op = .call ⟨.builtin .max, args, ts⟩) (ha : args.toList = [x, y])
    (he : effMax (S.eval x) (S.eval y) = some e) : Good c ops o (den S) R e.val.norm (normWr e.wr) := by
  have haa : args = #[x, y] := by apply Array.ext'; simpa using ha
  subst haa
  unfold effMax at he
  split at he
  · rename_i m n hx hy
    simp only [val1, Option.some.injEq] at he; subst he
    refine good_val hN hw fun ρ a w hxx => ⟨vI (max m n), ?_, rfl⟩
    have h1 := hxx x (by simp [hop, Op.operands, Call.operands])
    have h2 := hxx y (by simp [hop, Op.operands, Call.operands])
    rw [hx] at h1; rw [hy] at h2
    have h1' := rel_i h1
    have h2' := rel_i h2
    have hmx : (if n > m then n else m) = max m n := by omega
    simp [execOp, hop, resolve, invoke, builtin, Builtin.max_, Builtin.max2, h1', h2']
    omega
  · cases he
theorem good_min {args : Array Operand} {ts : Array Nat} {x y : Operand} {e : Eff} (hN : ∀ d, o.dst = some d → d < c.N) (hw : Wanted c ops o S) (hop : o.op = .call ⟨.builtin .min, args, ts⟩) (ha : args.toList = [x, y])
    (he : effMin (S.eval x) (S.eval y) = some e) : Good c ops o (den S) R e.val.norm (normWr e.wr) := by
  have haa : args = #[x, y] := by apply Array.ext'; simpa using ha
  subst haa
  unfold effMin at he
  split at he
  · rename_i m n hx hy
    simp only [val1, Option.some.injEq] at he; subst he
    refine good_val hN hw fun ρ a w hxx => ⟨vI (min m n), ?_, rfl⟩
    have h1 := hxx x (by simp [hop, Op.operands, Call.operands])
    have h2 := hxx y (by simp [hop, Op.operands, Call.operands])
    rw [hx] at h1; rw [hy] at h2
    have h1' := rel_i h1
    have h2' := rel_i h2
    have hmx : (if n < m then n else m) = min m n := by omega
    simp [execOp, hop, resolve, invoke, builtin, Builtin.min_, Builtin.min2, h1', h2']
    omega
  · cases he

theorem good_indexV {tab : Tab} (hT : TabOk c.P tab) {t : Nat} {x i : Operand} {e : Eff} (hN : ∀ d, o.dst = some d → d < c.N) (hw : Wanted c ops o S) (hop : o.op = .index t x i)
    (he : effIndexV tab t (S.eval x) (S.eval i) = some e) (hp : e.pre) : Good c ops o (den S) R e.val.norm (normWr e.wr) := by
  unfold effIndexV at he
  split at he
  case h_2 => cases he
  rename_i m el _ _ hti
  split at he
  case h_2 => cases he
  rename_i hte
  split at he
  case h_2 => cases he
  rename_i l n hx hy
  cases hb : (l.length == m) with
  | false => rw [hb] at he; cases he
  | true =>
  rw [hb] at he
  simp only [cond_true, Option.some.injEq] at he
  subst he
  have hlm : l.length = m := by simpa using hb
  obtain ⟨h0, h1⟩ : 0 ≤ n ∧ n < m := hp
  obtain ⟨_, _, hu, _⟩ := tiB_array (hT _ _ hti)
  obtain ⟨hue, _, ei, hei, hes, _⟩ := tiB_int (hT _ _ hte)
  refine good_val hN hw fun ρ a w hxx => ⟨vI (l.getD n.toNat 0), ?_, rfl⟩
  have g1 := hxx x (by simp [hop, Op.operands])
  have g2 := hxx i (by simp [hop, Op.operands])
  rw [hx] at g1; rw [hy] at g2
  have g1' := rel_s g1
  have g2' := rel_i g2
  have hlt : n.toNat < l.length := by omega
  have hpart : (part el (l.map vI).toArray (n.toNat * 1)).run c.P w = .ok (vI (l.getD n.toNat 0)) w := by
    simp [part, run_isAgg_int hue, hlt, List.getD_eq_getElem?_getD]
  simp only [execOp, hop, g1', g2']
  simp [Instr.index, asIntOf, run_underlying hu, h0, h1, run_size hei, hes, hlt, part, run_isAgg_int hue, List.getD_eq_getElem?_getD]
end
end Go.Proofs.Ytacomnelongbjab
namespace Go.Proofs.Ytacomnelongbjab
open Go Go.RowKit

section
variable {c : Ctx} {ops : Array Oper} {o : Oper} {S : St} {R : List Nat}

/-! #### a row of given elements -/
theorem fill_row {sz : Nat} : ∀ (vs : List Value) (i0 : Nat) (ca : Array Value), (∀ v ∈ vs, v.cells.size = sz) → (i0 + vs.length) * sz ≤ ca.size →
    ∃ arr, Instr.fill (fun i => some (i * sz, sz)) ca (vs.zipIdx i0 |>.map fun p => (p.2, p.1)) = some arr ∧ arr.size = ca.size ∧ arr.toList = ca.toList.take (i0 * sz) ++ vs.flatMap (·.cells.toList) ++ ca.toList.drop ((i0 + vs.length) * sz)
  | [], i0, ca, _, _ => ⟨ca, rfl, rfl, by simp⟩
  | v :: vs, i0, ca, h, hfit => by
    have hv : v.cells.size = sz := h v (by simp)
    simp only [List.length_cons] at hfit
    have hmul : (i0 + (vs.length + 1)) * sz = i0 * sz + sz + vs.length * sz := by rw [Nat.add_mul, Nat.succ_mul]; omega
    have hsm : i0 * sz + sz ≤ ca.size := by omega
    simp only [List.zipIdx_cons, List.map_cons, Instr.fill]
    have hf := fold_cells (cs := ca) (off := i0 * sz) (v := v) (by omega)
    have hsize : (v.cells.zipIdx.foldl (fun cs (c, j) => cs.setIfInBounds (i0 * sz + j) c) ca).size = ca.size := by
      have h1 := congrArg List.length hf
      simp only [Array.length_toList, List.length_append, List.length_take, List.length_drop] at h1
      rw [h1]; omega
    obtain ⟨arr, h1, h2, h3⟩ := fill_row vs (i0 + 1) (v.cells.zipIdx.foldl (fun cs (c, j) => cs.setIfInBounds (i0 * sz + j) c) ca) (fun x hx => h x (by simp [hx])) (by rw [hsize, Nat.add_mul, Nat.succ_mul]; omega)
    refine ⟨arr, ?_, by rw [h2, hsize], ?_⟩
    · rw [if_neg (by simp [hv]; omega)]
      exact h1
    · rw [h3, hf, hv]
      have hl : (ca.toList.take (i0 * sz) ++ v.cells.toList).length = i0 * sz + sz := by simp [hv]; omega
      have e1 : (ca.toList.take (i0 * sz) ++ v.cells.toList ++ ca.toList.drop (i0 * sz + sz)).take ((i0 + 1) * sz) = ca.toList.take (i0 * sz) ++ v.cells.toList := by
        rw [Nat.succ_mul, List.take_append, hl, List.take_of_length_le (by omega)]
        simp
      have e2 : (ca.toList.take (i0 * sz) ++ v.cells.toList ++ ca.toList.drop (i0 * sz + sz)).drop ((i0 + 1 + vs.length) * sz) = ca.toList.drop ((i0 + (vs.length + 1)) * sz) := by
        rw [List.drop_append, hl, List.drop_of_length_le (by rw [hl, Nat.add_mul, Nat.succ_mul]; omega), List.drop_drop]
        simp only [List.nil_append]
        congr 1
        rw [hmul, Nat.add_mul, Nat.succ_mul]
        omega
      rw [e1, e2]
      simp

theorem allParts_spec {n : Nat} : ∀ (ps : List (Nat × AV)) (i : Nat) (avs : List AV), allParts n ps i = some avs → ps = (avs.zipIdx i).map (fun p => (p.2, p.1)) ∧ i + avs.length = n
  | [], i, avs, h => by
    simp only [allParts] at h
    cases hb : i == n with
    | false => rw [hb] at h; cases h
    | true => rw [hb] at h; simp only [cond_true, Option.some.injEq] at h; subst h; exact ⟨rfl, by simpa using hb⟩
  | p :: r, i, avs, h => by
    simp only [allParts] at h
    cases hb : p.1 == i with
    | false => rw [hb] at h; cases h
    | true =>
      rw [hb] at h
      simp only [cond_true, Option.map_eq_some_iff] at h
      obtain ⟨l, hl, rfl⟩ := h
      obtain ⟨h1, h2⟩ := allParts_spec r (i + 1) l hl
      have hp : p = (i, p.2) := by cases p; simp_all
      refine ⟨?_, by simp; omega⟩
      rw [h1, hp]
      simp

theorem ivs_spec {ρ : Nat → Value} : ∀ (avs : List AV) (l : List Int) (us : List Value), ivs avs = some l → us.length = avs.length → (∀ (j : Nat) (a : AV), avs[j]? = some a → ∃ u, us[j]? = some u ∧ a.rel ρ u) → us = l.map vI
  | [], l, us, h, hl, _ => by simp only [ivs, Option.some.injEq] at h; subst h; exact List.eq_nil_of_length_eq_zero hl
  | a :: avs, l, us, h, hl, hr => by
    unfold ivs at h
    split at h
    · rename_i heq; cases heq
    · rename_i x l' heq
      simp only [List.cons.injEq] at heq
      obtain ⟨rfl, rfl⟩ := heq
      simp only [Option.map_eq_some_iff] at h
      obtain ⟨m, hm, rfl⟩ := h
      cases us with
      | nil => simp at hl
      | cons u us =>
        obtain ⟨u', hu, hru⟩ := hr 0 _ rfl
        simp only [List.getElem?_cons_zero, Option.some.injEq] at hu
        subst hu
        have := ivs_spec avs m us hm (by simpa using hl) (fun j a ha => by simpa using hr (j + 1) a (by simpa using ha))
        rw [this, rel_i hru]; rfl
    · cases h
theorem svs_spec {ρ : Nat → Value} {k : Nat} : ∀ (avs : List AV) (l : List (List Int)) (us : List Value), svs k avs = some l → us.length = avs.length → (∀ (j : Nat) (a : AV), avs[j]? = some a → ∃ u, us[j]? = some u ∧ a.rel ρ u) → us = l.map (fun x => .agg (x.map vI).toArray) ∧ ∀ x ∈ l, x.length = k
  | [], l, us, h, hl, _ => by
    simp only [svs, Option.some.injEq] at h; subst h
    exact ⟨List.eq_nil_of_length_eq_zero hl, by simp⟩
  | a :: avs, l, us, h, hl, hr => by
    unfold svs at h
    split at h
    · rename_i heq; cases heq
    · rename_i x l' heq
      simp only [List.cons.injEq] at heq
      obtain ⟨rfl, rfl⟩ := heq
      cases hb : x.length == k with
      | false => rw [hb] at h; cases h
      | true =>
        rw [hb] at h
        simp only [cond_true, Option.map_eq_some_iff] at h
        obtain ⟨m, hm, rfl⟩ := h
        cases us with
        | nil => simp at hl
        | cons u us =>
          obtain ⟨u', hu, hru⟩ := hr 0 _ rfl
          simp only [List.getElem?_cons_zero, Option.some.injEq] at hu
          subst hu
          obtain ⟨h1, h2⟩ := svs_spec avs m us hm (by simpa using hl) (fun j a ha => by simpa using hr (j + 1) a (by simpa using ha))
          refine ⟨by rw [h1, rel_s hru]; rfl, fun y hy => ?_⟩
          simp only [List.mem_cons] at hy
          rcases hy with rfl | hy
          · simpa using hb
          · exact h2 y hy
    · cases h
/-- What 'rowOf' makes: its cells are the elements' cells. -/
theorem rowOf_spec {ρ : Nat → Value} {e : Nat} {ei : Option TI} {avs : List AV} {r : RC} {us : List Value} (h : rowOf e ei avs = some r) (hl : us.length = avs.length) (hr : ∀ (j : Nat) (a : AV), avs[j]? = some a → ∃ u, us[j]? = some u ∧ a.rel ρ u) :
    r.wf ∧ r.elem = e ∧ r.len = us.length ∧ (∀ u ∈ us, u.cells.size = r.sz) ∧ r.cells = us.flatMap (·.cells.toList) := by
  unfold rowOf at h
  split at h
  · simp only [Option.map_eq_some_iff] at h
    obtain ⟨l, hl', rfl⟩ := h
    have := ivs_spec avs l us hl' hl hr
    subst this
    refine ⟨trivial, rfl, by simp [RC.len], fun u hu => ?_, ?_⟩
    · obtain ⟨n, _, rfl⟩ := List.mem_map.1 hu; rfl
    · simp only [RC.cells, List.flatMap_map, Value.cells]
      rw [List.map_eq_flatMap]
  · rename_i k _
    cases hb : Nat.blt 0 k with
    | false => rw [hb] at h; cases h
    | true =>
      rw [hb] at h
      simp only [cond_true, Option.map_eq_some_iff] at h
      obtain ⟨l, hl', rfl⟩ := h
      obtain ⟨h1, h2⟩ := svs_spec avs l us hl' hl hr
      subst h1
      refine ⟨⟨by simpa using hb, h2⟩, rfl, by simp [RC.len], fun u hu => ?_, ?_⟩
      · obtain ⟨x, hx, rfl⟩ := List.mem_map.1 hu
        simp [cells_s, RC.sz, h2 x hx]
      · simp [RC.cells, List.flatMap_map, cells_s]
  · split at h
    · simp only [Option.some.injEq] at h; subst h
      have : us = [] := List.eq_nil_of_length_eq_zero hl
      subst this
      exact ⟨trivial, rfl, rfl, by simp, by simp [RC.cells]⟩
    · cases h
  · cases h

/-- A new row. -/
theorem newrow_holds {c : Ctx} {w : World} {ρ : Nat → Value} {d : Nat} {r : RC} {arr : Array Value} (hwf : r.wf) (hn : r.len ≤ maxLen) (hs : arr.size = r.len * r.sz) (hc : arr.toList = r.cells) (hf : Frame0 c w) :
    (Entry.row r).holds c (w.alloc (.cells arr r.elem)) (upd ρ d (.slice (some ⟨w.heap.size, 0, none⟩) r.len r.len)) d := by
  show OwnsRow _ _ _ (upd ρ d _ d)
  rw [upd_same]
  refine (OwnsRow.flat (RC.wf_flat hwf)).2 ⟨hwf, ⟨RC.cells_length hwf, .inr ⟨w.heap.size, r.len, arr, rfl, Nat.zero_le _, heap_alloc_new w _, Nat.le_refl _, hn, hs, ?_⟩⟩, fun k hk => ?_⟩
  · rw [← hs, ← hc]
    exact List.take_of_length_le (by simp)
  · simp [blkOf] at hk; subst hk; exact .inl hf.size
theorem good_newrow {d : Nat} {r : RC} (hN : ∀ d, o.dst = some d → d < c.N) (hw : Wanted c ops o S) (hd : o.dst = some d) (hR : d ∉ R)
    (h : ∀ ρ (a : Act) w, (∀ x ∈ o.op.operands.toList, (S.eval x).rel ρ (a.eval x)) → ∃ arr, (execOp a.eval o).run c.P w = .ok (.value (.slice (some ⟨w.heap.size, 0, none⟩) r.len r.len)) (w.alloc (.cells arr r.elem)) ∧ r.wf ∧ r.len ≤ maxLen ∧ arr.size = r.len * r.sz ∧ arr.toList = r.cells) :
    Good c ops o (den S) R (AV.norm (.one (.row d))) (normWr [(d, some (.row r))]) := by
  refine good_of hN hw fun S' ρ a w hag hfr hs hdl => ?_
  obtain ⟨arr, hr, hwf, hn, hsz, hc⟩ := h ρ a w (fun x hx => eval_rel hag hs hx)
  refine ⟨_, _, upd ρ d (.slice (some ⟨w.heap.size, 0, none⟩) r.len r.len), .inl hr, ?_⟩
  rw [hd]
  exact hs.alloc (hdl d hd) (hfr d (by simp [wrHs, normWr]) hR) (fun k hk => by simpa [Blk, blkOf] using hk.symm) (newrow_holds hwf hn hsz hc hs.frame) (by simp [AV.norm, A0.norm, AV.rel, A0.rel, A0.conc, upd_same])

theorem elem_sz {ei : TI} {e : Nat} {avs : List AV} {r : RC} (he : rowOf e (some ei) avs = some r) (hT : tiB c.P e ei = true) : r.sz = ei.sz := by
  unfold rowOf at he
  split at he
  · rename_i h
    simp only [Option.some.injEq] at h; subst h
    simp only [Option.map_eq_some_iff] at he
    obtain ⟨l, _, rfl⟩ := he
    exact (tiB_int hT).2.1.symm
  · rename_i k _ h
    simp only [Option.some.injEq] at h; subst h
    cases hb : Nat.blt 0 k with
    | false => rw [hb] at he; cases he
    | true =>
      rw [hb] at he
      simp only [cond_true, Option.map_eq_some_iff] at he
      obtain ⟨l, _, rfl⟩ := he
      rfl
  · rename_i h
    simp only [Option.some.injEq] at h; subst h
    split at he
    · simp only [Option.some.injEq] at he; subst he
      exact (tiB_bool hT).2.1.symm
    · cases he
  · cases he

theorem ti_zero {e : Nat} {ei : TI} {i : TypeInfo} (hT : tiB c.P e ei = true) (hi : c.P.info? e = some i) (hs : plainTI ei = true) : ∃ z, i.zero = some z := by
  obtain ⟨k, sz, b⟩ := ei
  cases k with
  | int => obtain ⟨_, _, i', hi', _, _, hz⟩ := tiB_int hT; rw [hi] at hi'; cases hi'; exact ⟨_, hz⟩
  | bool => obtain ⟨_, _, i', hi', _, _, hz⟩ := tiB_bool hT; rw [hi] at hi'; cases hi'; exact ⟨_, hz⟩
  | struct fs => obtain ⟨_, i', _, hi', _, _, hz, _⟩ := tiB_struct hT; rw [hi] at hi'; cases hi'; exact ⟨_, hz⟩
  | array n e => obtain ⟨i', _, _, hi', _, _, hz, _⟩ := tiB_array hT; rw [hi] at hi'; cases hi'; exact ⟨_, hz⟩
  | slice x => simp [plainTI] at hs
  | mapT x y => simp [plainTI] at hs
  | two x y => simp [plainTI] at hs
  | word x => simp [plainTI] at hs
  | cur => simp [plainTI] at hs
  | uk k => simp [plainTI] at hs

theorem zipIdx_parts (a : Act) : ∀ (ps : List (Nat × Operand)) (avs : List AV) (i : Nat), (ps.map fun p => (p.1, S.eval p.2)) = (avs.zipIdx i).map (fun p => (p.2, p.1)) →
    (ps.map fun p => (p.1, a.eval p.2)) = ((ps.map fun p => a.eval p.2).zipIdx i).map (fun p => (p.2, p.1)) ∧ avs = ps.map fun p => S.eval p.2
  | [], avs, i, h => by
    cases avs with
    | nil => exact ⟨rfl, rfl⟩
    | cons a l => simp at h
  | p :: ps, avs, i, h => by
    cases avs with
    | nil => simp at h
    | cons b l =>
      simp only [List.map_cons, List.zipIdx_cons, List.cons.injEq, Prod.mk.injEq] at h
      obtain ⟨⟨h1, h2⟩, h3⟩ := h
      obtain ⟨h4, h5⟩ := zipIdx_parts a ps l (i + 1) h3
      refine ⟨?_, by rw [h5, ← h2]; rfl⟩
      simp only [List.map_cons, List.zipIdx_cons, h1, h4]

theorem good_buildSlice {tab : Tab} (hT : TabOk c.P tab) {t n : Nat} {ps : Array (Nat × Operand)} {e : Eff} (hN : ∀ d, o.dst = some d → d < c.N) (hw : Wanted c ops o S) (hop : o.op = .buildSlice t n ps)
    (he : effBuildSlice tab t o.dst n (ps.toList.map fun p => (p.1, S.eval p.2)) = some e) (hR : ∀ d, o.dst = some d → d ∉ R) : Good c ops o (den S) R e.val.norm (normWr e.wr) := by
  unfold effBuildSlice at he
  split at he
  case h_2 => cases he
  rename_i d el _ _ hd hti
  split at he
  case h_2 => cases he
  rename_i avs hav
  split at he
  case h_2 => cases he
  rename_i r hr
  cases hb : (Nat.ble n 1000 && Nat.ble r.sz 1000) with
  | false => rw [hb] at he; cases he
  | true =>
  rw [hb] at he
  simp only [cond_true, Option.some.injEq] at he; subst he
  simp only [Bool.and_eq_true] at hb
  have hn1 := Nat.le_of_ble_eq_true hb.1
  have hs1 := Nat.le_of_ble_eq_true hb.2
  obtain ⟨hps, hlen⟩ := allParts_spec _ _ _ hav
  have hu := tiB_slice (hT _ _ hti)
  cases hle : look el tab with
  | none => rw [hle] at hr; simp [rowOf] at hr
  | some ei =>
  rw [hle] at hr
  have hTe := hT _ _ hle
  obtain ⟨i, _, hi, _, his, _⟩ := tiB_info hTe
  have hsz := elem_sz hr hTe
  obtain ⟨z, hz⟩ := ti_zero hTe hi (by unfold rowOf at hr; split at hr <;> simp_all [plainTI])
  refine good_newrow hN hw hd (hR d hd) fun ρ a w hx => ?_
  have hin : ∀ p ∈ ps.toList, (S.eval p.2).rel ρ (a.eval p.2) := fun p hp => hx p.2 (by
    simp only [hop, Op.operands]
    exact List.mem_map.2 ⟨p, hp, rfl⟩)
  obtain ⟨hpa, havs⟩ := zipIdx_parts a ps.toList avs 0 hps
  have hus : (ps.toList.map fun p => a.eval p.2).length = avs.length := by rw [havs]; simp
  obtain ⟨hwf, hel, hl, hcs, hcells⟩ := rowOf_spec (ρ := ρ) (us := ps.toList.map fun p => a.eval p.2) hr hus (fun j b hb => by
    rw [havs] at hb
    simp only [List.getElem?_map, Option.map_eq_some_iff] at hb
    obtain ⟨q, hq, rfl⟩ := hb
    exact ⟨a.eval q.2, by simp [hq], hin q (List.mem_of_getElem? hq)⟩)
  have hln : r.len = n := by rw [hl, hus]; omega
  have his' : i.size = r.sz := by rw [his, hsz]
  obtain ⟨arr, hf1, hf2, hf3⟩ := fill_row (sz := r.sz) (ps.toList.map fun p => a.eval p.2) 0 ((Array.range (n * r.sz)).map ((if n * r.sz = 0 then #[] else z.cells)[· % (if n * r.sz = 0 then (#[] : Array Value) else z.cells).size]!)) hcs (by simp only [Array.size_map, Array.size_range]; rw [hus, ← hlen]; exact Nat.le_refl _)
  have harr : arr.size = r.len * r.sz := by rw [hf2, hln]; simp
  refine ⟨arr, ?_, hwf, by rw [hln]; unfold maxLen; omega, harr, ?_⟩
  · have hsmall : ¬ n * r.sz > 16777216 := by
      have : n * r.sz ≤ 1000 * 1000 := Nat.mul_le_mul hn1 hs1
      omega
    have hpa' : (ps.map fun p => (p.1, a.eval p.2)).toList = ps.toList.map fun p => (p.1, a.eval p.2) := by simp
    have hfill : Instr.fill (fun i => some (i * r.sz, r.sz)) ((Array.range (n * r.sz)).map ((if n * r.sz = 0 then #[] else z.cells)[· % (if n * r.sz = 0 then (#[] : Array Value) else z.cells).size]!)) (ps.map fun p => (p.1, a.eval p.2)).toList = some arr := by
      rw [hpa', hpa]; exact hf1
    simp only [execOp, hop, Instr.buildSlice, Sem.run_bind, run_underlying hu, Result.andThen_ok, run_size hi, his', Nat.reducePow, hsmall, if_false]
    by_cases h0 : n * r.sz = 0
    · rw [if_pos h0] at hfill
      simp only [h0, if_true, Sem.run_bind, Sem.run_pure, Result.andThen_ok]
      rw [h0] at hfill
      rw [hfill]
      simp only [newRow, Sem.run_bind, run_newObj, Result.andThen_ok, Sem.run_pure]
      rw [hln, hel]
      rfl
    · rw [if_neg h0] at hfill
      simp only [h0, if_false, Sem.run_bind, run_zero hi hz, Sem.run_pure, Result.andThen_ok]
      rw [hfill]
      simp only [newRow, Sem.run_bind, run_newObj, Result.andThen_ok, Sem.run_pure]
      rw [hln, hel]
      rfl
  · rw [hf3, hcells]
    have : ((Array.range (n * r.sz)).map ((if n * r.sz = 0 then #[] else z.cells)[· % (if n * r.sz = 0 then (#[] : Array Value) else z.cells).size]!)).toList.drop ((0 + (ps.toList.map fun p => a.eval p.2).length) * r.sz) = [] := List.drop_of_length_le (by
      simp only [Array.length_toList, Array.size_map, Array.size_range]
      rw [hus, ← hlen]
      exact Nat.le_refl _)
    rw [this]
    simp
end
end Go.Proofs.Ytacomnelongbjab
namespace Go.Proofs.Ytacomnelongbjab
open Go Go.RowKit

section
variable {c : Ctx} {ops : Array Oper} {o : Oper} {S : St} {R : List Nat}

theorem en_norm {en : Entry} {r : RC} (h : entryRow (some en) = some r) : en.norm = en := by cases en <;> simp [entryRow] at h <;> rfl
theorem entryRow_look {h : Nat} {r : RC} (hr : entryRow (look h S.mem) = some r) : ∃ en, look h S.mem = some en ∧ entryRow (some en) = some r := by
  cases hl : look h S.mem with
  | none => rw [hl] at hr; simp [entryRow] at hr
  | some en => rw [hl] at hr; exact ⟨en, rfl, hr⟩

theorem run_indexAt_slc {P : Program} {w : World} {t e : Nat} {i : TypeInfo} {a : Addr} {len cap : Nat} {n : Int} (hu : P.underlying t = some (.slice e)) (hi : P.info? e = some i) (h0 : 0 ≤ n) (h1 : n < len) :
    (Instr.indexAt t (.slice (some a) len cap) (vI n)).run P w = .ok (.pointer (some (a.add (n.toNat * i.size)))) w := by
  simp [Instr.indexAt, asIntOf, run_underlying hu, h0, h1, run_size hi]
theorem run_indexAt_arr {P : Program} {w : World} {t e m : Nat} {i : TypeInfo} {a : Addr} {n : Int} (hu : P.underlying t = some (.array m e)) (hi : P.info? e = some i) (h0 : 0 ≤ n) (h1 : n < m) :
    (Instr.indexAt t (.pointer (some a)) (vI n)).run P w = .ok (.pointer (some (a.add (n.toNat * i.size)))) w := by
  simp [Instr.indexAt, asIntOf, Instr.sureAddr, run_underlying hu, h0, h1, run_size hi]

theorem good_index {tab : Tab} (hT : TabOk c.P tab) {t : Nat} {x y : Operand} {e : Eff} (hN : ∀ d, o.dst = some d → d < c.N) (hw : Wanted c ops o S) (hop : o.op = .indexAddr t x y)
    (he : effIndex tab S t (S.eval x) (S.eval y) = some e) (hp : e.pre) (hR : ∀ h ∈ (S.eval x).hs, h ∈ R) : Good c ops o (den S) R e.val.norm (normWr e.wr) := by
  have hxin : x ∈ o.op.operands.toList := by simp [hop, Op.operands]
  have hyin : y ∈ o.op.operands.toList := by simp [hop, Op.operands]
  unfold effIndex at he
  split at he
  case h_2 => cases he
  rename_i n hy
  have hyv : ∀ (S' : SS) (ρ : Nat → Value) (a : Act) (w : World), Agree ops o R (den S) S' → SatR c S' ρ a.tmps w → a.eval y = vI n := by
    intro S' ρ a w hag hs
    have := eval_rel hag hs hyin
    rw [hy] at this
    exact rel_i this
  split at he
  · rename_i el _ _ hti
    have hu := tiB_slice (hT _ _ hti)
    split at he
    case h_2 => cases he
    rename_i ei hle
    obtain ⟨i, _, hi, _, his, _⟩ := tiB_info (hT _ _ hle)
    unfold idxS at he
    split at he
    · rename_i h hx
      have hh : h ∈ R := hR h (by rw [hx]; simp [AV.hs, A0.hs])
      split at he
      case h_2 => cases he
      rename_i r hr
      cases hb : ei.sz == r.sz with
      | false => rw [hb] at he; cases he
      | true =>
        rw [hb] at he
        simp only [cond_true, Option.some.injEq] at he; subst he
        obtain ⟨hp0, hp1⟩ : 0 ≤ n ∧ n < r.len := hp
        obtain ⟨en, hen, hen2⟩ := entryRow_look hr
        refine good_of hN hw fun S' ρ a w hag _ hs hd => ?_
        have hm := mem_at hag hh hen
        rw [en_norm hen2] at hm
        obtain ⟨_, A, k, cap, h1, h2, _, _, h5⟩ := row_at hs hm hen2
        obtain ⟨ad, hA, _⟩ := h5 (by omega)
        subst hA
        have hxr := eval_rel hag hs hxin
        rw [hx] at hxr
        have hxv : a.eval x = .slice (some ad) k cap := Eq.trans (show a.eval x = ρ h from hxr) h1
        refine ⟨_, w, ρ, .inl (by simp only [execOp, hop, hxv, hyv S' ρ a w hag hs]; rw [Sem.run_bind, run_indexAt_slc hu hi hp0 (by omega)]; rfl), hs.val hd ?_⟩
        simp only [AV.norm, A0.norm, AV.rel, A0.rel, A0.conc, h1, addTo_slice, his, Nat.add_zero]
    · rename_i h sz' l r0 hx
      have hh : h ∈ R := hR h (by rw [hx]; simp [AV.hs, A0.hs])
      split at he
      case h_2 => cases he
      rename_i r hr
      cases hb : (ei.sz == r.sz && sz' == ei.sz) with
      | false => rw [hb] at he; cases he
      | true =>
        rw [hb] at he
        simp only [cond_true, Option.some.injEq] at he; subst he
        simp only [Bool.and_eq_true, beq_iff_eq] at hb
        obtain ⟨hb1, hb2⟩ := hb
        subst hb2
        obtain ⟨hp0, hp1, hp2⟩ : 0 ≤ n ∧ l + n < r0 ∧ r0 ≤ r.len := hp
        obtain ⟨en, hen, hen2⟩ := entryRow_look hr
        refine good_of hN hw fun S' ρ a w hag _ hs hd => ?_
        have hm := mem_at hag hh hen
        rw [en_norm hen2] at hm
        obtain ⟨_, A, k, cap, h1, h2, h3, _, h5⟩ := row_at hs hm hen2
        obtain ⟨ad, hA, _⟩ := h5 (by omega)
        subst hA
        have hxr := eval_rel hag hs hxin
        rw [hx] at hxr
        have hcl : cap ≠ l := by omega
        have hxv : a.eval x = .slice (some (ad.add (l * ei.sz))) (r0 - l) (cap - l) := by
          have : a.eval x = subOf (ρ h) ei.sz l r0 := hxr
          rw [this, h1]
          simp [subOf, hcl]
        refine ⟨_, w, ρ, .inl (by simp only [execOp, hop, hxv, hyv S' ρ a w hag hs]; rw [Sem.run_bind, run_indexAt_slc hu hi hp0 (by omega)]; rfl), hs.val hd ?_⟩
        simp only [AV.norm, A0.norm, AV.rel, A0.rel, A0.conc, h1, addTo_slice, his, Nat.add_zero, add_add, Nat.add_mul]
    · -- a row within
      rename_i h p hx
      have hh : h ∈ R := hR h (by rw [hx]; simp [AV.hs, A0.hs])
      split at he
      case h_2 => cases he
      rename_i r hr
      cases hb : ei.sz == r.sz with
      | false => rw [hb] at he; cases he
      | true =>
      rw [hb] at he
      simp only [cond_true, Option.some.injEq] at he; subst he
      obtain ⟨hp0, hp1, hp2⟩ : innerPre (compOf (look h S.mem)) p ∧ 0 ≤ n ∧ n < r.len := hp
      cases hcr : compOf (look h S.mem) with
      | none => rw [hcr] at hr; simp [innerOf] at hr
      | some cr =>
      rw [hcr] at hr hp0
      refine good_of hN hw fun S' ρ a w hag _ hs hd => ?_
      obtain ⟨in_, hc⟩ := comp_of hag hs hh hcr
      obtain ⟨_, A, k, cap, h1, h2, _, _, hA0, _⟩ := (inner_at hc hr hp0).at
      have hxr := eval_rel hag hs hxin
      rw [hx] at hxr
      have hxv : a.eval x = .slice A k cap := Eq.trans (show a.eval x = seg (ρ h) (p + 1) from hxr) h1
      cases A with
      | none => have := hA0 rfl; omega
      | some ad =>
      refine ⟨_, w, ρ, .inl (by simp only [execOp, hop, hxv, hyv S' ρ a w hag hs]; rw [Sem.run_bind, run_indexAt_slc hu hi hp1 (by omega)]; rfl), hs.val hd ?_⟩
      simp only [AV.norm, A0.norm, AV.rel, A0.rel, A0.conc, h1, addTo_slice, his, Nat.add_zero]
    · -- the outer row
      rename_i h hx
      have hh : h ∈ R := hR h (by rw [hx]; simp [AV.hs, A0.hs])
      split at he
      case h_2 => cases he
      rename_i e0 f0 ll hcr
      cases hb : ei.sz == 1 with
      | false => rw [hb] at he; cases he
      | true =>
      rw [hb] at he
      simp only [cond_true, Option.some.injEq] at he; subst he
      have hsz : ei.sz = 1 := by simpa using hb
      obtain ⟨hp1, hp2⟩ : 0 ≤ n ∧ n < ll.length := hp
      refine good_of hN hw fun S' ρ a w hag _ hs hd => ?_
      obtain ⟨in_, O, Is, hv, hr⟩ := comp_of hag hs hh hcr
      have hxr := eval_rel hag hs hxin
      rw [hx] at hxr
      have hxv : a.eval x = O := by
        have : a.eval x = hdV (ρ h) := hxr
        rw [this, hv]; rfl
      rcases hr.outer.2 with ⟨_, hn⟩ | ⟨g, cap, cur, hO, _⟩
      · omega
      · have hO' : a.eval x = .slice (some ⟨g, 0, none⟩) ll.length cap := hxv.trans hO
        refine ⟨_, w, ρ, .inl (by simp only [execOp, hop, hO', hyv S' ρ a w hag hs]; rw [Sem.run_bind, run_indexAt_slc hu hi hp1 (by omega)]; rfl), hs.val hd ?_⟩
        show _ = addTo (seg (ρ h) 0) n.toNat
        rw [hv]
        show _ = addTo O n.toNat
        rw [hO, addTo_slice, his, hsz, Nat.mul_one]
    · cases he
  · rename_i m el _ _ hti
    obtain ⟨_, ei', hu, _, _, _, _, _, hei, hes⟩ := tiB_array (hT _ _ hti)
    split at he
    case h_2 => cases he
    rename_i ei hle
    obtain ⟨i, _, hi, _, his, _⟩ := tiB_info (hT _ _ hle)
    unfold idxA at he
    split at he
    case h_2 => cases he
    rename_i h off hx
    have hh : h ∈ R := hR h (by rw [hx]; simp [AV.hs, A0.hs])
    split at he
    case h_2 => cases he
    rename_i t' l hm0
    cases hb : Nat.blt 1 m with
    | false => rw [hb] at he; cases he
    | true =>
      rw [hb] at he
      simp only [cond_true, Option.some.injEq] at he; subst he
      obtain ⟨hp0, hp1⟩ : 0 ≤ n ∧ n < m := hp
      refine good_of hN hw fun S' ρ a w hag _ hs hd => ?_
      obtain ⟨g, h1, _⟩ := ibox_at hs (mem_at hag hh hm0)
      have hxr := eval_rel hag hs hxin
      rw [hx] at hxr
      have hxv : a.eval x = .pointer (some ⟨g, off, none⟩) := by
        have : a.eval x = addTo (ρ h) off := hxr
        rw [this, h1, addTo_ptr]
      refine ⟨_, w, ρ, .inl (by simp only [execOp, hop, hxv, hyv S' ρ a w hag hs]; rw [Sem.run_bind, run_indexAt_arr hu hi hp0 hp1]; rfl), hs.val hd ?_⟩
      simp only [AV.norm, A0.norm, AV.rel, A0.rel, A0.conc, h1, addTo_ptr, his, add_lit]
      congr 3
      omega
  · cases he

theorem elemSz_slice {tab : Tab} (hT : TabOk c.P tab) {t : Nat} {sz : Nat} (h : elemSz tab t = some sz) : ∃ e i, c.P.underlying t = some (.slice e) ∧ c.P.info? e = some i ∧ i.size = sz := by
  unfold elemSz at h
  split at h
  · rename_i e _ _ hti
    simp only [Option.map_eq_some_iff] at h
    obtain ⟨ei, hle, rfl⟩ := h
    obtain ⟨i, _, hi, _, his, _⟩ := tiB_info (hT _ _ hle)
    exact ⟨e, i, tiB_slice (hT _ _ hti), hi, his⟩
  · cases h

theorem run_len {P : Program} {w : World} {t e : Nat} {A : Option Addr} {n cap : Nat} (ty : Nat) (hu : P.underlying t = some (.slice e)) : (Builtin.len_ #[t] ty #[.slice A n cap]).run P w = .ok (vI n) w := by
  simp [Builtin.len_, run_underlying hu, goInt]

theorem good_len {tab : Tab} (hT : TabOk c.P tab) {args : Array Operand} {ts : Array Nat} {t : Nat} {x : Operand} {e : Eff} (hN : ∀ d, o.dst = some d → d < c.N) (hw : Wanted c ops o S) (hop : o.op = .call ⟨.builtin .len, args, ts⟩) (ha : args.toList = [x]) (hts : ts.toList = [t])
    (ht : (elemSz tab t).isSome = true) (he : lenOf S (S.eval x) = some e) (hp : e.pre) (hR : ∀ h ∈ (S.eval x).hs, h ∈ R) : Good c ops o (den S) R e.val.norm (normWr e.wr) := by
  have haa : args = #[x] := by apply Array.ext'; simpa using ha
  have htt : ts = #[t] := by apply Array.ext'; simpa using hts
  subst haa; subst htt
  obtain ⟨sz, hsz⟩ := Option.isSome_iff_exists.1 ht
  obtain ⟨el, i, hu, _, _⟩ := elemSz_slice hT hsz
  have hxin : x ∈ o.op.operands.toList := by simp [hop, Op.operands, Call.operands]
  have run : ∀ (a : Act) w A (n cap : Nat), a.eval x = .slice A n cap → (execOp a.eval o).run c.P w = .ok (.value (vI n)) w := by
    intro a w A n cap hx
    simp [execOp, hop, resolve, invoke, builtin, hx, run_len _ hu]
  unfold lenOf at he
  split at he
  · rename_i h hx
    have hh : h ∈ R := hR h (by rw [hx]; simp [AV.hs, A0.hs])
    split at he
    case h_2 => cases he
    rename_i r hr
    simp only [val1, Option.some.injEq] at he; subst he
    obtain ⟨en, hen, hen2⟩ := entryRow_look hr
    refine good_of hN hw fun S' ρ a w hag _ hs hd => ?_
    have hm := mem_at hag hh hen
    rw [en_norm hen2] at hm
    obtain ⟨_, A, k, cap, h1, h2, _, _, _⟩ := row_at hs hm hen2
    have hxr := eval_rel hag hs hxin
    rw [hx] at hxr
    have hxv : a.eval x = .slice A k cap := Eq.trans (show a.eval x = ρ h from hxr) h1
    exact ⟨_, w, ρ, .inl (run a w A k cap hxv), hs.val hd (by rw [h2]; rfl)⟩
  · rename_i h sz' l r0 hx
    have hh : h ∈ R := hR h (by rw [hx]; simp [AV.hs, A0.hs])
    split at he
    case h_2 => cases he
    rename_i r hr
    simp only [Option.some.injEq] at he; subst he
    obtain ⟨en, hen, hen2⟩ := entryRow_look hr
    refine good_of hN hw fun S' ρ a w hag _ hs hd => ?_
    have hm := mem_at hag hh hen
    rw [en_norm hen2] at hm
    obtain ⟨_, A, k, cap, h1, h2, _, _, _⟩ := row_at hs hm hen2
    have hxr := eval_rel hag hs hxin
    rw [hx] at hxr
    have hxv : a.eval x = .slice (if cap = l then A else A.map (·.add (l * sz'))) (r0 - l) (cap - l) := by
      have : a.eval x = subOf (ρ h) sz' l r0 := hxr
      rw [this, h1]; rfl
    exact ⟨_, w, ρ, .inl (run a w _ _ _ hxv), hs.val hd rfl⟩
  · rename_i h p hx
    have hh : h ∈ R := hR h (by rw [hx]; simp [AV.hs, A0.hs])
    split at he
    case h_2 => cases he
    rename_i r hr
    simp only [Option.some.injEq] at he; subst he
    cases hcr : compOf (look h S.mem) with
    | none => rw [hcr] at hr; simp [innerOf] at hr
    | some cr =>
    have hp0 : innerPre (compOf (look h S.mem)) p := hp
    rw [hcr] at hr hp0
    refine good_of hN hw fun S' ρ a w hag _ hs hd => ?_
    obtain ⟨in_, hc⟩ := comp_of hag hs hh hcr
    obtain ⟨_, A, k, cap, h1, h2, _⟩ := (inner_at hc hr hp0).at
    have hxr := eval_rel hag hs hxin
    rw [hx] at hxr
    have hxv : a.eval x = .slice A k cap := Eq.trans (show a.eval x = seg (ρ h) (p + 1) from hxr) h1
    exact ⟨_, w, ρ, .inl (run a w _ _ _ hxv), hs.val hd (by rw [h2]; rfl)⟩
  · rename_i h hx
    have hh : h ∈ R := hR h (by rw [hx]; simp [AV.hs, A0.hs])
    split at he
    case h_2 => cases he
    rename_i e0 f0 ll hcr
    simp only [val1, Option.some.injEq] at he; subst he
    refine good_of hN hw fun S' ρ a w hag _ hs hd => ?_
    obtain ⟨in_, O, Is, hv, hr⟩ := comp_of hag hs hh hcr
    have hxr := eval_rel hag hs hxin
    rw [hx] at hxr
    have hxv : a.eval x = O := by
      have : a.eval x = hdV (ρ h) := hxr
      rw [this, hv]; rfl
    have hO : ∃ A cap, O = .slice A ll.length cap := by
      rcases hr.outer.2 with ⟨hO, hn⟩ | ⟨g, cap, cur, hO, _⟩
      · exact ⟨none, 0, by rw [hO, hn]⟩
      · exact ⟨_, _, hO⟩
    obtain ⟨A, cap, hO⟩ := hO
    exact ⟨_, w, ρ, .inl (run a w A _ cap (hxv.trans hO)), hs.val hd rfl⟩
  · rename_i hx
    simp only [val1, Option.some.injEq] at he; subst he
    refine good_of hN hw fun S' ρ a w hag _ hs hd => ?_
    have hxr := eval_rel hag hs hxin
    rw [hx] at hxr
    have hxv : a.eval x = .slice none 0 0 := hxr
    exact ⟨_, w, ρ, .inl (run a w _ _ _ hxv), hs.val hd rfl⟩
  · rename_i h n hx
    have hh : h ∈ R := hR h (by rw [hx]; simp [AV.hs, A0.hs])
    split at he
    case h_2 => cases he
    rename_i r hr
    obtain ⟨en, hen, hen2⟩ := entryRow_look hr
    simp only [val1, Option.some.injEq] at he; subst he
    refine good_of hN hw fun S' ρ a w hag _ hs hd => ?_
    have hmm := mem_at hag hh hen
    rw [en_norm hen2] at hmm
    obtain ⟨_, A, k, cap, h1, _⟩ := row_at hs hmm hen2
    have hxr := eval_rel hag hs hxin
    rw [hx] at hxr
    have hxv : a.eval x = .slice A n n := by
      have h2 : a.eval x = headOf (ρ h) n := hxr
      rw [h2, h1]; rfl
    exact ⟨_, w, ρ, .inl (run a w _ _ _ hxv), hs.val hd rfl⟩
  · cases he

theorem run_slc {P : Program} {w : World} {t e : Nat} {i : TypeInfo} {A : Option Addr} {n cap l r : Nat} {lo hi : Option Value} (hu : P.underlying t = some (.slice e)) (hi_ : P.info? e = some i) (hl : (lo = none ∧ l = 0) ∨ lo = some (vI l)) (hr : (hi = none ∧ r = n) ∨ hi = some (vI r)) (h1 : l ≤ r) (h2 : r ≤ cap) :
    (Instr.sliceAt t (.slice A n cap) lo hi none).run P w = .ok (subOf (.slice A n cap) i.size l r) w := by
  have hb : ∀ (k y : Nat) (cd : BoundsCode), k ≤ y → (Instr.sliceBound (vI k) y cd).run P w = .ok k w := by
    intro k y cd h
    simp [Instr.sliceBound, asIntOf]
    omega
  have hbs : (Instr.sliceBounds true n cap lo hi none).run P w = .ok (l, r, cap) w := by
    unfold Instr.sliceBounds
    rcases hl with ⟨rfl, rfl⟩ | rfl <;> rcases hr with ⟨rfl, rfl⟩ | rfl <;> simp [hb, h1, h2]
  simp [Instr.sliceAt, run_underlying hu, Instr.slice, hbs, run_size hi_, subOf]

theorem good_cut {tab : Tab} (hT : TabOk c.P tab) {t : Nat} {x : Operand} {lo hi : Option Operand} {e : Eff} {p : Nat × Nat} (hN : ∀ d, o.dst = some d → d < c.N) (hw : Wanted c ops o S) (hop : o.op = .slice t x lo hi none)
    (ht : arrElem tab t = some p) (he : cutSlc S p.1 p.2 (S.eval x) (lo.map S.eval) (hi.map S.eval) = some e) (hR : ∀ h ∈ (S.eval x).hs, h ∈ R) : Good c ops o (den S) R e.val.norm (normWr e.wr) := by
  unfold arrElem at ht
  split at ht
  case h_2 => cases ht
  rename_i m el sz by_ hti
  simp only [Option.some.injEq] at ht
  subst ht
  obtain ⟨i, ei, hu, _, _, _, _, _, hei, hes⟩ := tiB_array (hT _ _ hti)
  unfold cutSlc at he
  split at he
  case h_2 => cases he
  rename_i h hx hlo hhi
  have hlo' : lo = none := by simpa using hlo
  have hhi' : hi = none := by simpa using hhi
  subst hlo' hhi'
  split at he
  case h_2 => cases he
  rename_i t' l hl
  cases hb : l.length == m with
  | false => rw [hb] at he; cases he
  | true =>
  rw [hb] at he
  simp only [cond_true, val1, Option.some.injEq] at he
  subst he
  refine good_of hN hw fun S' ρ a w hag _ hs hd => ?_
  have hm := mem_at hag (hR h (by rw [hx]; simp [AV.hs, A0.hs])) hl
  obtain ⟨g, hv1, _, hg⟩ := hs.mem h _ hm
  have hxr := eval_rel hag hs (x := x) (by simp [hop, Op.operands])
  rw [hx] at hxr
  have hxv : a.eval x = .pointer (some ⟨g, 0, none⟩) := by
    have h1 : a.eval x = addTo (ρ h) 0 := hxr
    rw [hv1] at h1
    rw [h1]
    show Value.pointer (some ((⟨g, 0, none⟩ : Addr).add 0)) = _
    rw [add_lit]
  have hrun : (Instr.sliceAt t (.pointer (some ⟨g, 0, none⟩)) none none none).run c.P w = .ok (.slice (some ⟨g, 0, none⟩) m m) w := by
    simp [Instr.sliceAt, run_underlying hu, Instr.sureAddr, Instr.sliceBounds, run_size hei]
    exact fun _ => add_lit g 0 0
  refine ⟨_, w, ρ, .inl (by simp only [execOp, hop, hxv, Option.map_none]; rw [Sem.run_bind, hrun]; rfl), hs.val hd ?_⟩
  simp only [AV.norm, A0.norm, AV.rel, A0.rel, A0.conc, hv1, cutOf]
theorem good_hd {tab : Tab} (hT : TabOk c.P tab) {t : Nat} {x m : Operand} {lo hi : Option Operand} {e : Eff} {sz : Nat} (hN : ∀ d, o.dst = some d → d < c.N) (hw : Wanted c ops o S) (hop : o.op = .slice t x lo hi (some m)) (hsz : elemSz tab t = some sz)
    (he : hdSlc S sz (S.eval x) (lo.map S.eval) (hi.map S.eval) (S.eval m) = some e) (hp : e.pre) (hR : ∀ h ∈ (S.eval x).hs, h ∈ R) : Good c ops o (den S) R e.val.norm (normWr e.wr) := by
  obtain ⟨el, i, hu, hi_, his⟩ := elemSz_slice hT hsz
  unfold hdSlc at he
  split at he
  case h_2 => cases he
  rename_i h p q hx hlo hhi hm
  have hlo' : lo = none := by simpa using hlo
  subst hlo'
  obtain ⟨y, rfl⟩ : ∃ y, hi = some y := by cases hi with
    | none => simp at hhi
    | some y => exact ⟨y, rfl⟩
  simp only [Option.map_some, Option.some.injEq] at hhi
  split at he
  case h_2 => cases he
  rename_i r hr
  cases hb : sz == r.sz with
  | false => rw [hb] at he; cases he
  | true =>
  rw [hb] at he
  simp only [cond_true, Option.some.injEq] at he; subst he
  obtain ⟨rfl, rfl⟩ : p = r.len ∧ q = r.len := hp
  obtain ⟨en, hen, hen2⟩ := entryRow_look hr
  refine good_of hN hw fun S' ρ a w hag _ hs hd => ?_
  have hmm := mem_at hag (hR h (by rw [hx]; simp [AV.hs, A0.hs])) hen
  rw [en_norm hen2] at hmm
  obtain ⟨_, A, n, cap, h1, h2, h3, _, _⟩ := row_at hs hmm hen2
  have hxr := eval_rel hag hs (x := x) (by simp [hop, Op.operands])
  rw [hx] at hxr
  have hxv : a.eval x = .slice A n cap := Eq.trans (show a.eval x = ρ h from hxr) h1
  have hyv : a.eval y = vI r.len := rel_i (by have := eval_rel hag hs (x := y) (by simp [hop, Op.operands]); rw [hhi] at this; exact this)
  have hmv : a.eval m = vI r.len := rel_i (by have := eval_rel hag hs (x := m) (by simp [hop, Op.operands]); rw [hm] at this; exact this)
  have hb : ∀ (k y : Nat) (cd : BoundsCode), k ≤ y → (Instr.sliceBound (vI k) y cd).run c.P w = .ok k w := by
    intro k y cd h
    simp [Instr.sliceBound, asIntOf]
    omega
  have hbs : (Instr.sliceBounds true n cap none (some (vI r.len)) (some (vI r.len))).run c.P w = .ok (0, r.len, r.len) w := by
    unfold Instr.sliceBounds
    simp [hb _ _ _ (show r.len ≤ cap by omega), hb _ _ _ (Nat.le_refl r.len)]
  have hA : (if r.len = 0 then A else A.map (·.add (0 * i.size))) = A := by
    split
    · rfl
    · cases A with
      | none => rfl
      | some ad => simp [Addr.add]
  have hrun : (Instr.sliceAt t (.slice A n cap) none (some (vI r.len)) (some (vI r.len))).run c.P w = .ok (.slice A r.len r.len) w := by
    simp only [Instr.sliceAt, Sem.run_bind, run_underlying hu, Result.andThen_ok, Instr.slice, hbs, run_size hi_, Sem.run_pure, hA, Nat.sub_zero]
  refine ⟨_, w, ρ, .inl (by simp only [execOp, hop, hxv, Option.map_none, Option.map_some, hyv, hmv]; rw [Sem.run_bind, hrun]; rfl), hs.val hd ?_⟩
  simp only [AV.norm, A0.norm, AV.rel, A0.rel, A0.conc, h1, headOf]
theorem good_slice {tab : Tab} (hT : TabOk c.P tab) {t : Nat} {x : Operand} {lo hi mx : Option Operand} {e : Eff} (hN : ∀ d, o.dst = some d → d < c.N) (hw : Wanted c ops o S) (hop : o.op = .slice t x lo hi mx)
    (he : effSlice tab t S (S.eval x) (lo.map S.eval) (hi.map S.eval) (mx.map S.eval) = some e) (hp : e.pre) (hR : ∀ h ∈ (S.eval x).hs, h ∈ R) : Good c ops o (den S) R e.val.norm (normWr e.wr) := by
  unfold effSlice at he
  split at he
  case h_2 =>
    rename_i m0 hmx
    obtain ⟨m, rfl⟩ : ∃ m, mx = some m := by cases mx with
      | none => simp at hmx
      | some m => exact ⟨m, rfl⟩
    simp only [Option.map_some, Option.some.injEq] at hmx
    split at he
    case h_2 => cases he
    rename_i sz hsz
    rw [← hmx] at he
    exact good_hd hT hN hw hop hsz he hp hR
  rename_i hmx
  have hmx' : mx = none := by cases mx with
    | none => rfl
    | some _ => simp at hmx
  subst hmx'
  split at he
  case h_2 =>
    split at he
    case h_2 => cases he
    rename_i p hp0
    exact good_cut hT hN hw hop hp0 he (fun h hh => hR h hh)
  rename_i sz hsz
  obtain ⟨el, i, hu, hi_, his⟩ := elemSz_slice hT hsz
  have hxin : x ∈ o.op.operands.toList := by simp [hop, Op.operands]
  unfold slcOf at he
  split at he
  case h_2 => cases he
  rename_i h hx
  have hh : h ∈ R := hR h (by rw [hx]; simp [AV.hs, A0.hs])
  split at he
  case h_2 => cases he
  rename_i r hr
  obtain ⟨en, hen, hen2⟩ := entryRow_look hr
  cases hb : sz == r.sz with
  | false => rw [hb] at he; cases he
  | true =>
  rw [hb] at he
  simp only [cond_true] at he
  have main : ∀ (l k : Nat), l ≤ k → k ≤ r.len → (∀ (S' : SS) (ρ : Nat → Value) (a : Act) (w : World), Agree ops o R (den S) S' → SatR c S' ρ a.tmps w → ((lo = none ∧ l = 0) ∨ lo.map a.eval = some (vI l)) ∧ ((hi = none ∧ k = r.len) ∨ hi.map a.eval = some (vI k))) →
      Good c ops o (den S) R (AV.norm (.one (.sub h sz l k))) [] := by
    intro l k hlk hkr hb
    refine good_of hN hw fun S' ρ a w hag _ hs hd => ?_
    have hm := mem_at hag hh hen
    rw [en_norm hen2] at hm
    obtain ⟨_, A, n, cap, h1, h2, h3, _, _⟩ := row_at hs hm hen2
    have hxr := eval_rel hag hs hxin
    rw [hx] at hxr
    have hxv : a.eval x = .slice A n cap := Eq.trans (show a.eval x = ρ h from hxr) h1
    obtain ⟨b1, b2⟩ := hb S' ρ a w hag hs
    have hrun := run_slc (P := c.P) (w := w) (A := A) (n := n) (cap := cap) (l := l) (r := k) (lo := lo.map a.eval) (hi := hi.map a.eval) hu hi_ (by
      rcases b1 with ⟨rfl, h0⟩ | h0
      · exact .inl ⟨rfl, h0⟩
      · exact .inr h0) (by
      rcases b2 with ⟨rfl, h0⟩ | h0
      · exact .inl ⟨rfl, by omega⟩
      · exact .inr h0) hlk (by omega)
    refine ⟨_, w, ρ, .inl (by simp only [execOp, hop, hxv, Option.map_none]; rw [Sem.run_bind, hrun]; rfl), hs.val hd ?_⟩
    simp only [AV.norm, A0.norm, AV.rel, A0.rel, A0.conc, h1, his]
  have bnd : ∀ (q : Option Operand) (n : Int), q.map S.eval = some (.one (.i n)) → 0 ≤ n → (∀ z ∈ q, z ∈ o.op.operands.toList) → ∀ (S' : SS) (ρ : Nat → Value) (a : Act) (w : World), Agree ops o R (den S) S' → SatR c S' ρ a.tmps w → q.map a.eval = some (vI n.toNat) := by
    intro q n hq h0 hz S' ρ a w hag hs
    cases q with
    | none => simp at hq
    | some z =>
      simp only [Option.map_some, Option.some.injEq] at hq ⊢
      have := eval_rel hag hs (hz z rfl)
      rw [hq] at this
      rw [rel_i this]
      congr 1
      omega
  have hlo : ∀ z ∈ lo, z ∈ o.op.operands.toList := fun z hz => by simp [hop, Op.operands]; right; left; simpa using hz
  have hhi : ∀ z ∈ hi, z ∈ o.op.operands.toList := fun z hz => by simp [hop, Op.operands]; right; right; simpa using hz
  split at he
  · rename_i h1 h2
    cases he
    have h1' : lo = none := by simpa using h1
    have h2' : hi = none := by simpa using h2
    exact main 0 r.len (Nat.zero_le _) (Nat.le_refl _) fun S' ρ a w hag hs => ⟨.inl ⟨h1', rfl⟩, .inl ⟨h2', rfl⟩⟩
  · rename_i n h1 h2
    cases he
    obtain ⟨p0, p1⟩ : 0 ≤ n ∧ n ≤ r.len := hp
    have h2' : hi = none := by simpa using h2
    exact main n.toNat r.len (by omega) (Nat.le_refl _) fun S' ρ a w hag hs => ⟨.inr (bnd lo n h1 p0 hlo S' ρ a w hag hs), .inl ⟨h2', rfl⟩⟩
  · rename_i n h1 h2
    cases he
    obtain ⟨p0, p1⟩ : 0 ≤ n ∧ n ≤ r.len := hp
    have h1' : lo = none := by simpa using h1
    exact main 0 n.toNat (by omega) (by omega) fun S' ρ a w hag hs => ⟨.inl ⟨h1', rfl⟩, .inr (bnd hi n h2 p0 hhi S' ρ a w hag hs)⟩
  · rename_i m n h1 h2
    cases he
    obtain ⟨p0, p1, p2⟩ : 0 ≤ m ∧ m ≤ n ∧ n ≤ r.len := hp
    exact main m.toNat n.toNat (by omega) (by omega) fun S' ρ a w hag hs => ⟨.inr (bnd lo m h1 p0 hlo S' ρ a w hag hs), .inr (bnd hi n h2 (by omega) hhi S' ρ a w hag hs)⟩
  · cases he
end
end Go.Proofs.Ytacomnelongbjab
namespace Go.Proofs.Ytacomnelongbjab
open Go Go.RowKit

theorem RC.slice_len {r : RC} {l k : Nat} (h0 : r.wf) (h : l ≤ k) (h2 : k ≤ r.len) : (r.slice l k).len = k - l := by
  cases r <;> first | exact h0.elim | (simp [RC.slice, RC.len] at h2 ⊢ <;> omega)
theorem RC.slice_wf {r : RC} (l k : Nat) (h : r.wf) : (r.slice l k).wf := by
  cases r with
  | ints e m => trivial
  | bools e m => trivial
  | recs e n m => exact ⟨h.1, fun x hx => h.2 x (List.mem_of_mem_take (List.mem_of_mem_drop hx))⟩
  | _ => exact h.elim
theorem RC.slice_sz (r : RC) (l k : Nat) : (r.slice l k).sz = r.sz := by cases r <;> rfl
theorem RC.slice_elem (r : RC) (l k : Nat) : (r.slice l k).elem = r.elem := by cases r <;> rfl
theorem RC.slice_cells {r : RC} {l k : Nat} (hwf : r.wf) : (r.slice l k).cells = (r.cells.take (k * r.sz)).drop (l * r.sz) := by
  cases r with
  | ints e m => simp [RC.slice, RC.cells, RC.sz, List.map_take, List.map_drop]
  | bools e m => simp [RC.slice, RC.cells, RC.sz, List.map_take, List.map_drop]
  | recs e n m =>
    simp only [RC.slice, RC.cells, RC.sz]
    rw [flat_take m hwf.2 k, flat_drop (m.take k) (fun x hx => hwf.2 x (List.mem_of_mem_take hx)) l]
  | _ => exact hwf.elim
theorem RC.one {r : RC} : ∀ u ∈ r.cells, u.oneCell' = true := by
  intro u hu
  cases r with
  | ints e m => exact one_vI u hu
  | bools e m =>
    obtain ⟨n, _, rfl⟩ := List.mem_map.1 hu
    rfl
  | recs e n m =>
    obtain ⟨x, _, hx⟩ := List.mem_flatMap.1 hu
    exact one_vI u hx
  | _ => simp [RC.cells] at hu
theorem RC.app_flat {r s t : RC} (h : r.app s = some t) : r.flat = true := by
  cases r <;> cases s <;> first | rfl | (simp [RC.app] at h)
theorem RC.app_spec {r s t : RC} (h : r.app s = some t) (hr : r.wf) (hs : s.wf) : t.wf ∧ t.elem = r.elem ∧ t.sz = r.sz ∧ t.len = r.len + s.len ∧ t.cells = r.cells ++ s.cells ∧ s.sz = r.sz := by
  cases r <;> cases s <;> simp only [RC.app, reduceCtorEq, Option.some.injEq] at h
  · subst h; exact ⟨trivial, rfl, rfl, by simp [RC.len], by simp [RC.cells], rfl⟩
  · rename_i e k l e' k' m
    cases hb : k == k' with
    | false => rw [hb] at h; cases h
    | true =>
      rw [hb] at h
      simp only [cond_true, Option.some.injEq] at h; subst h
      have hk : k = k' := by simpa using hb
      subst hk
      refine ⟨⟨hr.1, fun x hx => ?_⟩, rfl, rfl, by simp [RC.len], by simp [RC.cells], rfl⟩
      simp only [List.mem_append] at hx
      rcases hx with h | h
      · exact hr.2 x h
      · exact hs.2 x h
  · subst h; exact ⟨trivial, rfl, rfl, by simp [RC.len], by simp [RC.cells], rfl⟩

theorem entryRow_flat {e : Option Entry} {r : RC} (h : entryRow e = some r) : r.flat = true := by
  unfold entryRow at h
  split at h
  · rename_i r'
    cases hf : r'.flat with
    | false => rw [hf] at h; cases h
    | true => rw [hf] at h; simp only [cond_true, Option.some.injEq] at h; rw [← h]; exact hf
  · rename_i r'
    cases hf : r'.flat with
    | false => rw [hf] at h; cases h
    | true => rw [hf] at h; simp only [cond_true, Option.some.injEq] at h; rw [← h]; exact hf
  · cases h
theorem RC.slice_flat (r : RC) (l k : Nat) : (r.slice l k).flat = r.flat := by cases r <;> rfl
theorem readOf_flat {S : St} {x : AV} {r : RC} (h : readOf S x = some r) : r.flat = true := by
  unfold readOf at h
  split at h
  · rename_i h0 e0 n
    split at h
    · rename_i t0 l hl
      cases hb : (l.length == n && Nat.ble n 1000) with
      | false => rw [hb] at h; cases h
      | true => rw [hb] at h; simp only [cond_true, Option.some.injEq] at h; rw [← h]; rfl
    · cases h
  · exact entryRow_flat h
  · split at h
    · rename_i sz _ _ _ rc hrc
      cases hb : (sz == rc.sz) with
      | false => rw [hb] at h; cases h
      | true => rw [hb] at h; simp only [cond_true, Option.some.injEq] at h; rw [← h, RC.slice_flat]; exact entryRow_flat hrc
    · cases h
  · cases h

section
variable {c : Ctx} {ops : Array Oper} {o : Oper} {S : St} {R : List Nat}

/-- What a slice value that reads as a row is. -/
theorem read_at {S' : SS} {ρ : Nat → Value} {a : Act} {w : World} {x : AV} {r' : RC} (hag : Agree ops o R (den S) S') (hs : SatR c S' ρ a.tmps w) (hR : ∀ h ∈ x.hs, h ∈ R) (hr : readOf S x = some r') (hp : subPre S x) {v : Value} (hv : x.rel ρ v) :
    r'.wf ∧ ∃ A n cap, v = .slice A n cap ∧ n = r'.len ∧ n ≤ cap ∧ cap ≤ maxLen ∧ (A = none → n = 0) ∧ (∀ ad, A = some ad → ∀ j u, r'.cells[j]? = some u → w.cell? (ad.add j) = some u) := by
  unfold readOf at hr
  split at hr
  · rename_i h e n
    split at hr
    case h_2 => cases hr
    rename_i t l hl
    cases hb : (l.length == n && Nat.ble n 1000) with
    | false => rw [hb] at hr; cases hr
    | true =>
    rw [hb] at hr
    simp only [cond_true, Option.some.injEq] at hr; subst hr
    simp only [Bool.and_eq_true, beq_iff_eq] at hb
    have hn1 := Nat.le_of_ble_eq_true hb.2
    have hm := mem_at hag (hR h (by simp [AV.hs, A0.hs])) hl
    obtain ⟨g, hv1, _, hg⟩ := hs.mem h _ hm
    have hvv : v = cutOf (ρ h) n := hv
    rw [hv1] at hvv
    refine ⟨trivial, some ⟨g, 0, none⟩, n, n, hvv, hb.1.symm, Nat.le_refl _, by unfold maxLen; omega, fun hA => (by cases hA), fun ad hA j u hu => ?_⟩
    simp only [Option.some.injEq] at hA
    subst hA
    have hj : j < l.length := by
      have := (List.getElem?_eq_some_iff.1 hu).1
      simpa [RC.cells] using this
    rw [add_lit, Nat.zero_add, ibox_cell hg j hj, ← hu]
    simp [RC.cells, hj]
  · rename_i h
    obtain ⟨en, hen, hen2⟩ := entryRow_look hr
    have hm := mem_at hag (hR h (by simp [AV.hs, A0.hs])) hen
    rw [en_norm hen2] at hm
    obtain ⟨hwf, A, n, cap, h1, h2, h3, h4, h5⟩ := row_at hs hm hen2
    refine ⟨hwf, A, n, cap, Eq.trans (show v = ρ h from hv) h1, h2, h3, h4, fun hA => ?_, fun ad hA j u hu => ?_⟩
    · rcases Nat.eq_zero_or_pos n with h0 | h0
      · exact h0
      · obtain ⟨ad, hA', _⟩ := h5 h0
        rw [hA] at hA'; cases hA'
    · have hl := RC.cells_length hwf
      have hlt := (List.getElem?_eq_some_iff.1 hu).1
      have hpos : 0 < n := by
        rcases Nat.eq_zero_or_pos n with h0 | h0
        · rw [hl, ← h2, h0] at hlt; simp at hlt
        · exact h0
      obtain ⟨ad', hA', hc⟩ := h5 hpos
      rw [hA] at hA'; cases hA'
      exact hc j u hu
  · rename_i h sz l k
    split at hr
    case h_2 => cases hr
    rename_i rc hrc
    cases hb : sz == rc.sz with
    | false => rw [hb] at hr; cases hr
    | true =>
    rw [hb] at hr
    simp only [cond_true, Option.some.injEq] at hr; subst hr
    have hsz : sz = rc.sz := by simpa using hb
    subst hsz
    have hp' : l ≤ k ∧ k ≤ rc.len := by simpa [subPre, hrc] using hp
    obtain ⟨en, hen, hen2⟩ := entryRow_look hrc
    have hm := mem_at hag (hR h (by simp [AV.hs, A0.hs])) hen
    rw [en_norm hen2] at hm
    obtain ⟨hwf, A, n, cap, h1, h2, h3, h4, h5⟩ := row_at hs hm hen2
    have hvv : v = subOf (ρ h) rc.sz l k := hv
    rw [h1] at hvv
    have hlen := RC.slice_len hwf hp'.1 hp'.2
    refine ⟨RC.slice_wf l k hwf, _, _, _, hvv, hlen.symm, by omega, by omega, fun hA => ?_, fun ad hA j u hu => ?_⟩
    · rcases Nat.eq_zero_or_pos n with h0 | h0
      · omega
      · obtain ⟨ad, hA', _⟩ := h5 h0
        rw [hA'] at hA
        split at hA
        · cases hA
        · cases hA
    · rw [RC.slice_cells hwf] at hu
      have hlt := (List.getElem?_eq_some_iff.1 hu).1
      have hl := RC.cells_length hwf
      simp only [List.length_drop, List.length_take] at hlt
      have hkn : k * rc.sz ≤ rc.len * rc.sz := Nat.mul_le_mul_right _ hp'.2
      have hlk : l ≠ k := by
        intro e
        subst e
        omega
      have hpos : 0 < n := by omega
      obtain ⟨ad', hA', hc⟩ := h5 hpos
      rw [hA', if_neg (by omega)] at hA
      simp only [Option.map_some, Option.some.injEq] at hA
      rw [← hA, add_add]
      refine hc _ u ?_
      rw [List.getElem?_drop, List.getElem?_take_of_lt (by omega)] at hu
      exact hu
  · cases hr

theorem ti_zero_sz {e : Nat} {ei : TI} {i : TypeInfo} {z : Value} (hT : tiB c.P e ei = true) (hi : c.P.info? e = some i) (hz : i.zero = some z) (hs : plainTI ei = true) : z.cells.size = i.size := by
  obtain ⟨k, sz, b⟩ := ei
  cases k with
  | int => obtain ⟨_, _, i', hi', h1, _, h2⟩ := tiB_int hT; rw [hi] at hi'; cases hi'; rw [hz] at h2; cases h2; rw [h1]; rfl
  | bool => obtain ⟨_, _, i', hi', h1, _, h2⟩ := tiB_bool hT; rw [hi] at hi'; cases hi'; rw [hz] at h2; cases h2; rw [h1]; rfl
  | struct fs => obtain ⟨_, i', _, hi', h1, _, h2, _⟩ := tiB_struct hT; rw [hi] at hi'; cases hi'; rw [hz] at h2; cases h2; rw [h1]; simp [Value.cells]
  | array n e => obtain ⟨i', _, _, hi', h1, _, h2, _⟩ := tiB_array hT; rw [hi] at hi'; cases hi'; rw [hz] at h2; cases h2; rw [h1]; simp [Value.cells]
  | slice x => simp [plainTI] at hs
  | mapT x y => simp [plainTI] at hs
  | two x y => simp [plainTI] at hs
  | word x => simp [plainTI] at hs
  | cur => simp [plainTI] at hs
  | uk k => simp [plainTI] at hs

theorem run_append_of_nil {P : Program} {w : World} {t ty e : Nat} {i : TypeInfo} {size : Nat} (ht : P.underlying t = some (.slice e)) (hi : P.info? e = some i)
    (v : Value) (n : Nat) (xs : List Value) (hown : w.ownsRow 0 e size v n xs) (cc : Nat) : (Builtin.append_ #[t, t] ty #[v, .slice none 0 cc]).run P w = .ok v w := by
  rcases hown.2 with ⟨rfl, rfl⟩ | ⟨g, cap, cur, rfl, _, _, hnc, _⟩
  · simp [Builtin.append_, run_underlying ht, sizeOf, typeInfo, hi, Builtin.lenOf, Builtin.firstCells]
  · simp [Builtin.append_, run_underlying ht, sizeOf, typeInfo, hi, Builtin.lenOf, Builtin.firstCells, hnc, storeCells]

/-- append, whatever the source is -/
theorem run_app {P : Program} {w : World} {t ty e : Nat} {i : TypeInfo} {z : Value} (ht : P.underlying t = some (.slice e)) (hi : P.info? e = some i) (hz : i.zero = some z) (hzs : z.cells.size = i.size) (hsz : 0 < i.size) (hb : i.bytes ≤ 1000)
    {v : Value} {n : Nat} {xs : List Value} (hown : w.ownsRow 0 e i.size v n xs) {A : Option Addr} {m cc : Nat} {news : List Value} (hl : news.length = m * i.size) (hn0 : A = none → m = 0) (hnews : ∀ ad, A = some ad → ∀ j u, news[j]? = some u → w.cell? (ad.add j) = some u)
    (h1 : ∀ u ∈ news, u.oneCell' = true) (hlen : n + m ≤ maxRow) :
    ∃ v' w', (Builtin.append_ #[t, t] ty #[v, .slice A m cc]).run P w = .ok v' w' ∧ w'.ownsRow 0 e i.size v' (n + m) (xs ++ news) ∧ w.grownBy w' v.ownBlock ∧ (v'.ownBlock = v.ownBlock ∨ v'.ownBlock = some w.heap.size) := by
  unfold maxRow at hlen
  cases A with
  | none =>
    have hm := hn0 rfl
    subst hm
    have hn : news = [] := List.eq_nil_of_length_eq_zero (by simpa using hl)
    subst hn
    exact ⟨v, w, run_append_of_nil ht hi v n xs hown cc, by simpa using hown, ⟨rfl, rfl, rfl, Nat.le_refl _, fun _ _ _ => rfl⟩, .inl rfl⟩
  | some ad =>
    obtain ⟨v', w', h2, h3, h4, _, h5⟩ := run_append_own_at (P := P) w 0 t ty e i z i.size i.bytes ht hi hz rfl rfl hzs hsz v n xs hown ad m cc news hl (hnews ad rfl) h1 (by unfold maxLen; omega)
      (by have : (n + m) * i.bytes ≤ 100000000000 * 1000 := Nat.mul_le_mul hlen hb
          omega) (Nat.zero_le _)
    exact ⟨v', w', h2, h3, h4, h5⟩

/-- what was there before an append is still there, where it was -/
theorem app_keep {P : Program} {w : World} {t ty e : Nat} {i : TypeInfo} {z : Value} (ht : P.underlying t = some (.slice e)) (hi : P.info? e = some i) (hz : i.zero = some z) (hb : i.bytes ≤ 1000)
    {v : Value} {n : Nat} {xs : List Value} (hown : w.ownsRow 0 e i.size v n xs) {A : Option Addr} {m cc : Nat} {news : List Value} (hl : news.length = m * i.size) (hn0 : A = none → m = 0) (hnews : ∀ ad, A = some ad → ∀ j u, news[j]? = some u → w.cell? (ad.add j) = some u)
    (h1 : ∀ u ∈ news, u.oneCell' = true) (hlen : n + m ≤ maxRow) {v' : Value} {w' : World} (hrun : (Builtin.append_ #[t, t] ty #[v, .slice A m cc]).run P w = .ok v' w') :
    ∀ g, blkOf v = some g → ∀ j, j < n * i.size → w'.cell? ⟨g, j, none⟩ = w.cell? ⟨g, j, none⟩ := by
  intro g hg j hj
  unfold maxRow at hlen
  cases A with
  | none =>
    have hm := hn0 rfl
    subst hm
    rw [run_append_of_nil ht hi v n xs hown cc] at hrun
    simp only [Result.ok.injEq] at hrun
    rw [hrun.2]
  | some ad =>
    rcases hown.2 with ⟨rfl, _⟩ | ⟨g', cap, cur, rfl, _, hgg, hnc, hcm, hcs, htake⟩
    · simp [blkOf] at hg
    · simp only [blkOf, Option.some.injEq] at hg
      subst hg
      by_cases hroom : n + m ≤ cap
      · have hfit : n * i.size + news.length ≤ cur.size := by rw [hl, hcs, ← Nat.add_mul]; exact Nat.mul_le_mul_right _ hroom
        have hr := run_append_room (P := P) w t ty e i ht hi g' n cap cur hgg ad m cc news hl (hnews ad rfl) h1 hroom hfit
        rw [hr] at hrun
        simp only [Result.ok.injEq] at hrun
        rw [← hrun.2]
        have e1 := setRow_heap w g' cur (cur.toList.take (n * i.size) ++ news ++ cur.toList.drop (n * i.size + news.length)).toArray e _ hgg
        simp only [World.cell?, e1, hgg]
        have hjc : j < cur.size := by omega
        have hjt : j < (cur.toList.take (n * i.size)).length := by simp; omega
        simp only [List.getElem?_toArray]
        rw [List.append_assoc, List.getElem?_append_left hjt, List.getElem?_take, if_pos hj]
        simp
      · have holds : ∀ j u, xs[j]? = some u → w.cell? ((⟨g', 0, none⟩ : Addr).add j) = some u := hown.cells (g := g') rfl
        have hmul : (n + m) * i.bytes ≤ 100000000000 * 1000 := Nat.mul_le_mul hlen hb
        have hr := run_append_grow (P := P) w t ty e i z ht hi hz ⟨g', 0, none⟩ n cap xs hown.1 holds ad m cc news hl (hnews ad rfl) (by omega) (by omega) (growslice_fits (by omega) (by omega))
        rw [hr] at hrun
        simp only [Result.ok.injEq] at hrun
        rw [← hrun.2]
        refine World.cell?_of_block (w := w) ?_
        exact heap_alloc_old w.drew _ (heap_lt hgg)
theorem ownBlock_blk {v : Value} {e n : Nat} {sz : Nat} {xs : List Value} {w : World} (h : w.ownsRow 0 e sz v n xs) : v.ownBlock = blkOf v := by
  rcases h.2 with ⟨rfl, _⟩ | ⟨g, cap, cur, rfl, _⟩ <;> rfl
end

/-- Two rows of rows become one: the new handle's values are those of both. -/
theorem good_app2 {c : Ctx} {ops : Array Oper} {o : Oper} {S : St} {tab : Tab} (hT : TabOk c.P tab) {t d : Nat} {s x : Operand} {e : Eff} (hN : ∀ d, o.dst = some d → d < c.N) (hw : Wanted c ops o S) (hop : o.op = .call ⟨.builtin .append, #[s, x], #[t, t]⟩) (hsin : s ∈ o.op.operands.toList) (hxin : x ∈ o.op.operands.toList) (hd : o.dst = some d)
    (he : effApp2 tab t S (some d) (S.eval s) (S.eval x) = some e) (hp : e.pre) : Good c ops o (den S) ((S.eval s).hs ++ (S.eval x).hs) e.val.norm (normWr e.wr) := by
  unfold effApp2 at he
  simp only at he
  split at he
  case h_2 => cases he
  rename_i el _ _ hti
  split at he
  case h_2 => cases he
  rename_i f0 _ _ hle
  have hu := tiB_slice (hT _ _ hti)
  obtain ⟨i, hu2, hi, his, hib, hib2, hz, _⟩ := tiB_slice2 (hT _ _ hle)
  unfold appRows at he
  split at he
  case h_2 => cases he
  rename_i h h2 hse hxe
  split at he
  case h_2 => cases he
  rename_i e1 f1 l1 e2 f2 l2 hm1 hm2
  cases hb1 : (d == h || (d == h2 || h == h2)) with
  | true => rw [hb1] at he; cases he
  | false =>
  rw [hb1] at he
  simp only [cond_false] at he
  cases hb2 : (e1 == el && (e2 == el && f1 == f2)) with
  | false => rw [hb2] at he; cases he
  | true =>
  rw [hb2] at he
  simp only [cond_true, Option.some.injEq] at he; subst he
  simp only [Bool.or_eq_false_iff, beq_eq_false_iff_ne, ne_eq] at hb1
  obtain ⟨hdh, hdh2, hhh⟩ := hb1
  simp only [Bool.and_eq_true, beq_iff_eq] at hb2
  obtain ⟨rfl, rfl, rfl⟩ := hb2
  have hlen : (l1 ++ l2).length ≤ maxRow := hp
  refine good_of hN hw fun S' ρ a w hag hfr hs hdl => ?_
  have hR1 : h ∈ (S.eval s).hs ++ (S.eval x).hs := by simp [hse, AV.hs, A0.hs]
  have hR2 : h2 ∈ (S.eval s).hs ++ (S.eval x).hs := by simp [hxe, AV.hs, A0.hs]
  have m1 : S'.mem h = some (.row (.rows e2 f1 l1)) := mem_at hag hR1 hm1
  have m2 : S'.mem h2 = some (.row (.rows e2 f1 l2)) := mem_at hag hR2 hm2
  have hsep := hs.sep h h2 _ _ m1 m2 rfl rfl hhh
  obtain ⟨O, Is, hv1, hr1⟩ : CompRow w c.own (.rows e2 f1 l1) (ρ h) := (OwnsRow.comp rfl).1 (hs.mem h _ m1)
  obtain ⟨O2, Js, hv2, hr2⟩ : CompRow w c.own (.rows e2 f1 l2) (ρ h2) := (OwnsRow.comp rfl).1 (hs.mem h2 _ m2)
  have hsv : a.eval s = O := by
    have := eval_rel hag hs hsin
    rw [hse] at this
    have h3 : a.eval s = hdV (ρ h) := this
    rw [h3, hv1]; rfl
  have hxv : a.eval x = O2 := by
    have := eval_rel hag hs hxin
    rw [hxe] at this
    have h3 : a.eval x = hdV (ρ h2) := this
    rw [h3, hv2]; rfl
  -- the source's cells
  have hO2 : ∃ A cap, O2 = .slice A l2.length cap ∧ (A = none → l2.length = 0) ∧ ∀ ad, A = some ad → ∀ j u, Js[j]? = some u → w.cell? (ad.add j) = some u := by
    rcases hr2.outer.2 with ⟨hO, hn⟩ | ⟨g, cap, cur, hO, _⟩
    · exact ⟨none, 0, by rw [hO, hn], fun _ => hn, fun ad h => by cases h⟩
    · exact ⟨_, cap, hO, fun h => (by cases h), fun ad h => (by cases h; exact hr2.outer.cells (g := g) (by rw [hO]; rfl))⟩
  obtain ⟨A, cap, hO2, hA0, hAc⟩ := hO2
  have hone : ∀ {ll : List (List Int)} {O : Value} {Is : List Value}, RowsIs w c.own e2 f1 ll O Is → ∀ u ∈ Is, u.oneCell' = true := by
    intro ll O Is hr u hu
    obtain ⟨j, hj⟩ := List.getElem?_of_mem hu
    have hlt : j < ll.length := by rw [← hr.len]; exact (List.getElem?_eq_some_iff.1 hj).1
    obtain ⟨I, hI, hf⟩ := hr.inner j ll[j] (by simp [hlt])
    rw [hj] at hI; cases hI
    obtain ⟨_, A, n, cp, hv, _⟩ := hf.at
    rw [hv]; rfl
  obtain ⟨v', w', hrun, how, hgr, hbk⟩ := run_app (P := c.P) (ty := o.type) hu hi hz (by rw [his]; rfl) (by omega) (by omega) (n := l1.length) (xs := Is) (v := O) (A := A) (m := l2.length) (cc := cap) (news := Js)
    (by rw [his]; exact hr1.outer) (by rw [hr2.len, his]; omega) hA0 hAc (hone hr2) (by simpa using hlen)
  have hob : O.ownBlock = blkOf O := ownBlock_blk hr1.outer
  have hob' : v'.ownBlock = blkOf v' := ownBlock_blk how
  have hfd : S'.Fresh c d := hfr d (by simp [wrHs, normWr]) (by simp [hse, hxe, AV.hs, A0.hs]; exact ⟨hdh, hdh2⟩)
  -- where the new outer row lies
  have hvb : ∀ k, blkOf v' = some k → blkOf O = some k ∨ k = w.heap.size := by
    intro k hk
    rw [← hob'] at hk
    rcases hbk with hh | hh
    · rw [hh, hob] at hk; exact .inl hk
    · rw [hh] at hk; simp at hk; exact .inr hk.symm
  have hch := Chg.grown hgr
  have keepI : ∀ {f : Nat} {l : List Int} {I : Value}, FlatRow w c.own (.ints f l) I → (∀ k, blkOf I = some k → blkOf O ≠ some k) → FlatRow w' c.own (.ints f l) I := by
    intro f l I hf hne
    exact hf.chg fun k hk => hch.block k (hf.blk hk).2 (fun e => hne k hk (by rw [← hob]; exact e.symm))
  have hJO : ∀ (j : Nat) (J : Value), Js[j]? = some J → ∀ k, blkOf J = some k → blkOf O ≠ some k := by
    intro j J hJ k hk hk2
    exact hsep k (by rw [hv1]; exact Blk.of_tuple (j := 0) rfl hk2) (by rw [hv2]; exact Blk.of_tuple (j := j + 1) (by simpa using hJ) hk)
  have hIJ : ∀ (i j : Nat) (I J : Value), Is[i]? = some I → Js[j]? = some J → ∀ k, blkOf I = some k → blkOf J ≠ some k := by
    intro i j I J hI hJ k hk hk2
    exact hsep k (by rw [hv1]; exact Blk.of_tuple (j := i + 1) (by simpa using hI) hk) (by rw [hv2]; exact Blk.of_tuple (j := j + 1) (by simpa using hJ) hk2)
  have ltI : ∀ {ll : List (List Int)} {O : Value} {Is : List Value}, RowsIs w c.own e2 f1 ll O Is → ∀ (j : Nat) (I : Value), Is[j]? = some I → ∀ k, blkOf I = some k → k < w.heap.size := by
    intro ll O Is hr j I hI k hk
    have hlt : j < ll.length := by rw [← hr.len]; exact (List.getElem?_eq_some_iff.1 hI).1
    obtain ⟨I', hI', hf⟩ := hr.inner j ll[j] (by simp [hlt])
    rw [hI] at hI'; cases hI'
    exact (hf.blk hk).2
  have getA : ∀ (j : Nat) (I : Value), (Is ++ Js)[j]? = some I → Is[j]? = some I ∨ (Is.length ≤ j ∧ Js[j - Is.length]? = some I) := by
    intro j I hI
    rcases Nat.lt_or_ge j Is.length with hlt | hge
    · rw [List.getElem?_append_left hlt] at hI; exact .inl hI
    · rw [List.getElem?_append_right hge] at hI; exact .inr ⟨hge, hI⟩
  have hnew : RowsIs w' c.own e2 f1 (l1 ++ l2) v' (Is ++ Js) := by
    refine ⟨by simp [hr1.len, hr2.len], ?_, fun k hk => ?_, fun j l hj => ?_, fun i j I J hij hI hJ k hk => ?_, fun j I hI k hk hk2 => ?_⟩
    · rw [List.length_append]
      rw [his] at how
      exact how
    · rcases hvb k hk with hh | rfl
      · exact hr1.oin k hh
      · exact .inl hs.frame.size
    · rcases Nat.lt_or_ge j l1.length with hlt | hge
      · rw [List.getElem?_append_left hlt] at hj
        obtain ⟨I, hI, hf⟩ := hr1.inner j l hj
        exact ⟨I, by rw [List.getElem?_append_left (by rw [hr1.len]; exact hlt)]; exact hI, keepI hf (hr1.oapart j I hI)⟩
      · rw [List.getElem?_append_right hge] at hj
        obtain ⟨I, hI, hf⟩ := hr2.inner _ l hj
        exact ⟨I, by rw [List.getElem?_append_right (by rw [hr1.len]; exact hge), hr1.len]; exact hI, keepI hf (hJO _ I hI)⟩
    · rcases getA i I hI with hI' | ⟨hg, hI'⟩ <;> rcases getA j J hJ with hJ' | ⟨hg', hJ'⟩
      · exact hr1.apart i j I J hij hI' hJ' k hk
      · exact hIJ _ _ I J hI' hJ' k hk
      · intro hk2; exact hIJ _ _ J I hJ' hI' k hk2 hk
      · exact hr2.apart _ _ I J (by omega) hI' hJ' k hk
    · rcases hvb k hk2 with hh | rfl
      · rcases getA j I hI with hI' | ⟨_, hI'⟩
        · exact hr1.oapart j I hI' k hk hh
        · exact hJO _ I hI' k hk hh
      · rcases getA j I hI with hI' | ⟨_, hI'⟩
        · have := ltI hr1 j I hI' _ hk; omega
        · have := ltI hr2 _ I hI' _ hk; omega
  have hvs : Value.tuple (v' :: (Is ++ Js)).toArray = .tuple (v' :: (Is ++ Js)).toArray := rfl
  refine ⟨v', w', upd ρ d (.tuple (v' :: (Is ++ Js)).toArray), .inl ?_, ?_⟩
  · simp only [execOp, hop, resolve, Sem.run_bind, Sem.run_pure, Result.andThen_ok, invoke, builtin, List.map_toArray, List.map_cons, List.map_nil, hsv, hxv, hO2, hrun]
  · rw [hd]
    have hwr : wrHs (normWr [(h, none), (h2, none), (d, some (Entry.row (.rows e2 f1 (l1 ++ l2))))]) = [h, h2, d] := rfl
    have hlook : ∀ y e', look y (normWr [(h, none), (h2, none), (d, some (Entry.row (.rows e2 f1 (l1 ++ l2))))]) = some (some e') → y = d ∧ e' = .row (.rows e2 f1 (l1 ++ l2)) := by
      intro y e' hy
      simp only [normWr, List.map_cons, List.map_nil, Option.map_none, Option.map_some, look] at hy
      by_cases q1 : h = y
      · simp [q1] at hy
      · have q1' : (h == y) = false := by simpa using q1
        by_cases q2 : h2 = y
        · simp [q1', q2] at hy
        · have q2' : (h2 == y) = false := by simpa using q2
          by_cases q3 : d = y
          · subst q3; simp [q1', q2', Entry.norm] at hy; exact ⟨rfl, hy.symm⟩
          · have q3' : (d == y) = false := by simpa using q3
            simp [q1', q2', q3'] at hy
    -- the blocks of what is new: those of both, or a new one
    have hblk : ∀ k, Blk (.tuple (v' :: (Is ++ Js)).toArray) k → Blk (ρ h) k ∨ Blk (ρ h2) k ∨ k = w.heap.size := by
      intro k hk
      obtain ⟨j, v, hv, hb⟩ := Blk.tuple.1 hk
      cases j with
      | zero =>
        simp at hv; subst hv
        rcases hvb k hb with hh | hh
        · exact .inl (by rw [hv1]; exact Blk.of_tuple (j := 0) rfl hh)
        · exact .inr (.inr hh)
      | succ j =>
        simp only [List.getElem?_cons_succ] at hv
        rcases getA j v hv with hI' | ⟨_, hI'⟩
        · exact .inl (by rw [hv1]; exact Blk.of_tuple (j := j + 1) (by simpa using hI') hb)
        · exact .inr (.inl (by rw [hv2]; exact Blk.of_tuple (j := j - Is.length + 1) (by simpa using hI') hb))
    refine hs.step (D := fun k => some k = O.ownBlock) (fun y hy => by cases hy; exact hdl d hd) hch (fun k hk => hr1.oin k (by rw [← hob]; exact hk.symm)) (fun y hne => ?_) (fun y hy => upd_ne (by rw [hwr] at hy; simp at hy; exact hy.2.2)) (fun y e' hy ho' hnot k hk hke => ?_) (fun y e' hy => ?_) (fun y e' hy ho' k hk => ⟨fun y2 e3 hy2 ho2 hnot hk2 => ?_, fun y2 e3 hy2 ho2 hne => ?_⟩) ?_
    · by_cases hyd : y = d
      · subst hyd; exact hfd
      · exact absurd (upd_ne hyd) hne
    · rw [hwr] at hnot
      simp at hnot
      exact hs.sep y h e' _ hy m1 ho' rfl hnot.1 k hk (by rw [hv1]; exact Blk.of_tuple (j := 0) rfl (by rw [← hob]; exact hke.symm))
    · obtain ⟨rfl, rfl⟩ := hlook y e' hy
      show OwnsRow w' c.own _ (upd ρ y _ y)
      rw [upd_same]
      exact (OwnsRow.comp rfl).2 ⟨v', Is ++ Js, rfl, hnew⟩
    · obtain ⟨rfl, rfl⟩ := hlook y e' hy
      rw [upd_same] at hk
      rw [hwr] at hnot
      simp at hnot
      rcases hblk k hk with hh | hh | hh
      · exact hs.sep y2 h e3 _ hy2 m1 ho2 rfl hnot.1 k hk2 hh
      · exact hs.sep y2 h2 e3 _ hy2 m2 ho2 rfl hnot.2.1 k hk2 hh
      · have := hs.blk_lt hy2 ho2 hk2; omega
    · obtain ⟨q1, _⟩ := hlook y e' hy
      obtain ⟨q2, _⟩ := hlook y2 e3 hy2
      exact absurd (q2.trans q1.symm) hne
    · show v' = hdV (upd ρ d _ d)
      rw [upd_same]; rfl

theorem good_append {c : Ctx} {ops : Array Oper} {o : Oper} {S : St} {tab : Tab} (hT : TabOk c.P tab) {args : Array Operand} {ts : Array Nat} {t : Nat} {s x : Operand} {e : Eff} (hN : ∀ d, o.dst = some d → d < c.N) (hw : Wanted c ops o S) (hop : o.op = .call ⟨.builtin .append, args, ts⟩) (ha : args.toList = [s, x]) (hts : ts.toList = [t, t])
    (he : effAppend tab t S o.dst (S.eval s) (S.eval x) = some e) (hp : e.pre) : Good c ops o (den S) ((S.eval s).hs ++ (S.eval x).hs) e.val.norm (normWr e.wr) := by
  have haa : args = #[s, x] := by apply Array.ext'; simpa using ha
  have htt : ts = #[t, t] := by apply Array.ext'; simpa using hts
  subst haa; subst htt
  have hsin : s ∈ o.op.operands.toList := by simp [hop, Op.operands, Call.operands]
  have hxin : x ∈ o.op.operands.toList := by simp [hop, Op.operands, Call.operands]
  unfold effAppend at he
  split at he
  case h_2 => cases he
  rename_i d hd
  split at he
  case h_2 => exact good_app2 hT hN hw hop hsin hxin hd he hp
  rename_i r' hr'
  split at he
  case h_2 => cases he
  rename_i el _ _ hti
  split at he
  case h_2 => cases he
  rename_i ei hle
  cases hb : (ei.sz == r'.sz && (plainTI ei && Nat.blt 0 ei.sz)) with
  | false => rw [hb] at he; cases he
  | true =>
  rw [hb] at he
  simp only [cond_true] at he
  simp only [Bool.and_eq_true, beq_iff_eq, Nat.blt_eq] at hb
  obtain ⟨hes, hpl, hpos⟩ := hb
  have hu := tiB_slice (hT _ _ hti)
  have hTe := hT _ _ hle
  obtain ⟨i, _, hi, hud, his, hib, hib2⟩ := tiB_info hTe
  -- the source
  have src : subPre S (S.eval x) → ∀ (S' : SS) (ρ : Nat → Value) (a : Act) (w : World), Agree ops o ((S.eval s).hs ++ (S.eval x).hs) (den S) S' → SatR c S' ρ a.tmps w → r'.wf ∧ ∃ A n cap, a.eval x = .slice A n cap ∧ n = r'.len ∧ (A = none → n = 0) ∧ (∀ ad, A = some ad → ∀ j u, r'.cells[j]? = some u → w.cell? (ad.add j) = some u) := by
    intro hsp S' ρ a w hag hs
    obtain ⟨h1, A, n, cap, h2, h3, _, _, h4, h5⟩ := read_at hag hs (fun h hh => List.mem_append_right _ hh) hr' hsp (eval_rel hag hs hxin)
    exact ⟨h1, A, n, cap, h2, h3, h4, h5⟩
  obtain ⟨z, hz⟩ := ti_zero hTe hi hpl
  have hzs := ti_zero_sz hTe hi hz hpl
  -- what the row's slot holds, whatever it is: a slice that owns a row
  have main : ∀ (r r'' : RC) (hwr : Wr), e = ⟨r''.len ≤ maxRow ∧ subPre S (S.eval x), .one (.row d), hwr⟩ → (r.elem = el ∧ r.sz = ei.sz ∧ (r'.wf → r.wf → r''.wf ∧ r''.elem = r.elem ∧ r''.sz = r.sz ∧ r''.len = r.len + r'.len ∧ r''.cells = r.cells ++ r'.cells)) →
      d ∉ (S.eval s).hs ++ (S.eval x).hs → ((∃ h, S.eval s = .one (.row h) ∧ (look h S.mem = some (.row r) ∧ r.flat = true) ∧ hwr = [(h, none), (d, some (.row r''))] ∧ h ≠ d) ∨ (S.eval s = .one .nil ∧ hwr = [(d, some (.row r''))] ∧ r.len = 0 ∧ r.cells = [] ∧ r.wf)) →
      Good c ops o (den S) ((S.eval s).hs ++ (S.eval x).hs) e.val.norm (normWr e.wr) := by
    intro r r'' hwr hee ⟨hre, hrs, happ⟩ hdR hcase
    subst hee
    obtain ⟨hp1, hp2⟩ : r''.len ≤ maxRow ∧ subPre S (S.eval x) := hp
    refine good_of hN hw fun S' ρ a w hag hfr hs hdl => ?_
    have hsr := eval_rel hag hs hsin
    -- the slice that is appended to owns its row
    have hown : r.wf ∧ w.ownsRow 0 r.elem r.sz (a.eval s) r.len r.cells ∧ (∀ k, blkOf (a.eval s) = some k → c.own k) := by
      rcases hcase with ⟨h, hse, ⟨hlk, hfl⟩, _, _⟩ | ⟨hse, _, h0, hc0, hwf⟩
      · have hm := mem_at hag (h := h) (by simp [hse, AV.hs, A0.hs]) hlk
        have hh : FlatRow w c.own r (ρ h) := (OwnsRow.flat hfl).1 (hs.mem h _ hm)
        rw [hse] at hsr
        have hsv : a.eval s = ρ h := hsr
        rw [hsv]
        exact hh
      · rw [hse] at hsr
        have hsv : a.eval s = .slice none 0 0 := hsr
        rw [hsv, h0, hc0]
        exact ⟨hwf, World.ownsRow_nil w 0 _ _, fun k hk => by simp [blkOf] at hk⟩
    obtain ⟨hwf, hown1, hown2⟩ := hown
    obtain ⟨hwf', A, m, cap, hxv, hml, hn0, hnews⟩ := src hp2 S' ρ a w hag hs
    obtain ⟨hw'', he'', hs'', hl'', hc''⟩ := happ hwf' hwf
    have hrlen : r.len + m ≤ maxRow := by rw [hml, ← hl'']; exact hp1
    obtain ⟨v', w', hrun, how, hgr, hbk⟩ := run_app (P := c.P) (ty := o.type) hu hi hz hzs (by omega) (by omega) (n := r.len) (xs := r.cells) (v := a.eval s) (A := A) (m := m) (cc := cap) (news := r'.cells)
      (by rw [hre, hrs, ← his] at hown1; exact hown1) (by rw [RC.cells_length hwf', hml, his, hes]) hn0 hnews RC.one hrlen
    rw [hml, ← hl'', ← hc''] at how
    have hob : (a.eval s).ownBlock = blkOf (a.eval s) := ownBlock_blk hown1
    have hob' : v'.ownBlock = blkOf v' := ownBlock_blk how
    have hownF : FlatRow w' c.own r'' v' := by
      refine ⟨hw'', ?_, fun k hk => ?_⟩
      · rw [he'', hs'', hre, hrs, ← his]; exact how
      · rw [← hob'] at hk
        rcases hbk with h | h
        · rw [h, hob] at hk; exact hown2 k hk
        · rw [h] at hk; simp at hk; subst hk; exact .inl hs.frame.size
    have hown'' : OwnsRow w' c.own r'' v' := (OwnsRow.flat (RC.wf_flat hw'')).2 hownF
    have hfd : S'.Fresh c d := hfr d (by rcases hcase with ⟨h, _, _, hh, _⟩ | ⟨_, hh, _⟩ <;> simp [hh, wrHs, normWr]) hdR
    refine ⟨v', w', upd ρ d v', .inl ?_, ?_⟩
    · simp only [execOp, hop, resolve, Sem.run_bind, Sem.run_pure, Result.andThen_ok, invoke, builtin, List.map_toArray, List.map_cons, List.map_nil, hxv, hrun]
    · rw [hd]
      have hwrd : ∀ y, y ∉ wrHs (normWr hwr) → y ≠ d := by
        intro y hy e
        subst e
        rcases hcase with ⟨h, _, _, hh, _⟩ | ⟨_, hh, _⟩ <;> simp [hh, wrHs, normWr] at hy
      have hlookd : ∀ y e', look y (normWr hwr) = some (some e') → y = d ∧ e' = .row r'' := by
        intro y e' hy
        rcases hcase with ⟨h, _, _, hh, hne⟩ | ⟨_, hh, _⟩
        · rw [hh] at hy
          simp only [normWr, List.map_cons, List.map_nil, Option.map_none, Option.map_some, look] at hy
          by_cases h1 : h = y
          · simp [h1] at hy
          · have h1' : (h == y) = false := by simpa using h1
            by_cases h2 : d = y
            · subst h2; simp [h1', Entry.norm] at hy; exact ⟨rfl, hy.symm⟩
            · have h2' : (d == y) = false := by simpa using h2
              simp [h1', h2'] at hy
        · rw [hh] at hy
          simp only [normWr, List.map_cons, List.map_nil, Option.map_some, look] at hy
          by_cases h2 : d = y
          · subst h2; simp [Entry.norm] at hy; exact ⟨rfl, hy.symm⟩
          · have h2' : (d == y) = false := by simpa using h2
            simp [h2'] at hy
      -- another entry of one's own does not lie in the block that is written
      have hother : ∀ y e', S'.mem y = some e' → e'.isOwn = true → y ∉ wrHs (normWr hwr) → ∀ k, Blk (ρ y) k → some k ≠ (a.eval s).ownBlock := by
        intro y e' hy ho' hnot k hk hke
        rcases hcase with ⟨h, hse, ⟨hlk, hfl⟩, hh, _⟩ | ⟨hse, hh, _⟩
        · have hm := mem_at hag (h := h) (by simp [hse, AV.hs, A0.hs]) hlk
          rw [hse] at hsr
          have hsv : a.eval s = ρ h := hsr
          have hyh : y ≠ h := by intro e; subst e; simp [hh, wrHs, normWr] at hnot
          rw [hob, hsv] at hke
          have hth : FlatRow w c.own r (ρ h) := (OwnsRow.flat hfl).1 (hs.mem h _ hm)
          exact hs.sep y h e' _ hy hm ho' rfl hyh k hk (hth.thin.2 hke.symm)
        · rw [hse] at hsr
          have hsv : a.eval s = .slice none 0 0 := hsr
          rw [hsv] at hke
          simp [Value.ownBlock] at hke
      refine hs.step (D := fun k => some k = (a.eval s).ownBlock) (fun y hy => by cases hy; exact hdl d hd) (Chg.grown hgr) (fun k hk => hown2 k (by rw [← hob]; exact hk.symm)) (fun y hne => ?_) (fun y hy => upd_ne (hwrd y hy)) hother (fun y e' hy => ?_) (fun y e' hy ho' k hk => ⟨fun y2 e2 hy2 ho2 hnot hk2 => ?_, fun y2 e2 hy2 ho2 hne => ?_⟩) ?_
      · by_cases h : y = d
        · subst h; exact hfd
        · exact absurd (upd_ne h) hne
      · obtain ⟨rfl, rfl⟩ := hlookd y e' hy
        show OwnsRow w' c.own r'' (upd ρ y v' y)
        rw [upd_same]; exact hown''
      · obtain ⟨rfl, rfl⟩ := hlookd y e' hy
        rw [upd_same, hownF.thin, ← hob'] at hk
        rcases hbk with h | h
        · exact hother y2 e2 hy2 ho2 hnot k hk2 (by rw [← h]; exact hk.symm)
        · rw [h] at hk
          have := hs.blk_lt hy2 ho2 hk2
          simp at hk; omega
      · obtain ⟨h1, _⟩ := hlookd y e' hy
        obtain ⟨h2, _⟩ := hlookd y2 e2 hy2
        exact absurd (h2.trans h1.symm) hne
      · simp [AV.norm, A0.norm, AV.rel, A0.rel, A0.conc, upd_same]
  unfold appTo at he
  split at he
  · rename_i h hse
    split at he
    case h_2 => cases he
    rename_i r hlk
    split at he
    case h_2 => cases he
    rename_i r'' happ
    cases hc1 : ((S.eval x).hs.contains h || (d == h || (S.eval x).hs.contains d)) with
    | true => rw [hc1] at he; cases he
    | false =>
    rw [hc1] at he
    simp only [cond_false] at he
    cases hc2 : (r.elem == el && r.sz == ei.sz) with
    | false => rw [hc2] at he; cases he
    | true =>
    rw [hc2] at he
    simp only [cond_true, Option.some.injEq] at he
    simp only [Bool.and_eq_true, beq_iff_eq] at hc2
    simp only [Bool.or_eq_false_iff, beq_eq_false_iff_ne, ne_eq, List.contains_eq_mem, decide_eq_false_iff_not] at hc1
    refine main r r'' _ he.symm ⟨hc2.1, hc2.2, fun h1 h2 => by obtain ⟨p1, p2, p3, p4, p5, _⟩ := RC.app_spec happ h2 h1; exact ⟨p1, p2, p3, p4, p5⟩⟩ ?_ (.inl ⟨h, hse, ⟨hlk, RC.app_flat happ⟩, rfl, fun e => hc1.2.1 e.symm⟩)
    rw [hse]
    simp only [AV.hs, A0.hs, List.mem_append, List.mem_singleton, not_or]
    exact ⟨hc1.2.1, hc1.2.2⟩
  · rename_i hse
    cases hc2 : (r'.elem == el && !(S.eval x).hs.contains d) with
    | false => rw [hc2] at he; cases he
    | true =>
    rw [hc2] at he
    simp only [cond_true, Option.some.injEq] at he
    simp only [Bool.and_eq_true, beq_iff_eq, Bool.not_eq_true', List.contains_eq_mem, decide_eq_false_iff_not] at hc2
    have hemp : r'.empty.elem = r'.elem ∧ r'.empty.sz = r'.sz ∧ r'.empty.len = 0 ∧ r'.empty.cells = [] ∧ (r'.wf → r'.empty.wf) := by
      cases r' with
      | ints e l => exact ⟨rfl, rfl, rfl, rfl, fun _ => trivial⟩
      | bools e l => exact ⟨rfl, rfl, rfl, rfl, fun _ => trivial⟩
      | recs e k l => exact ⟨rfl, rfl, rfl, rfl, fun h => ⟨h.1, by simp⟩⟩
      | _ => exact absurd (readOf_flat hr') (by simp [RC.flat])
    obtain ⟨e1, e2, e3, e4, e5⟩ := hemp
    have hwf' : r'.wf ∨ ¬ r'.wf := Classical.em _
    rcases hwf' with hwf' | hwf'
    · refine main r'.empty r' _ he.symm ⟨e1.trans hc2.1, e2.trans hes.symm, fun h1 h2 => ⟨h1, e1.symm, e2.symm, by rw [e3]; omega, by rw [e4]; rfl⟩⟩ ?_ (.inr ⟨hse, rfl, e3, e4, e5 hwf'⟩)
      rw [hse]
      simp only [AV.hs, A0.hs, List.nil_append]
      exact hc2.2
    · -- a source that is no row at all is met by no state
      subst he
      obtain ⟨hp1, hp2⟩ : r'.len ≤ maxRow ∧ subPre S (S.eval x) := hp
      refine good_of hN hw fun S' ρ a w hag hfr hs hdl => ?_
      exact absurd (src hp2 S' ρ a w hag hs).1 hwf'
  · -- a row of which a part is read
    rename_i h hse
    unfold appView at he
    split at he
    case h_2 => cases he
    rename_i e0 k R B e9 k' m hlk
    cases hc1 : (e0 == el && (k == ei.sz && (k' == k && !((S.eval x).hs.contains h || (d == h || (S.eval x).hs.contains d))))) with
    | false => rw [hc1] at he; cases he
    | true =>
    rw [hc1] at he
    simp only [cond_true, Option.some.injEq] at he; subst he
    simp only [Bool.and_eq_true, beq_iff_eq, Bool.not_eq_true', Bool.or_eq_false_iff, beq_eq_false_iff_ne, ne_eq, List.contains_eq_mem, decide_eq_false_iff_not] at hc1
    obtain ⟨rfl, hk, hk', hc1, hdh, hc2⟩ := hc1
    subst hk'
    obtain ⟨hp1, hp2⟩ : R.length + m.length ≤ maxRow ∧ subPre S (S.eval x) := hp
    refine good_of hN hw fun S' ρ a w hag hfr hs hdl => ?_
    have hm := mem_at hag (h := h) (by simp [hse, AV.hs, A0.hs]) hlk
    obtain ⟨W, V, hv, hW, hV, hVW⟩ : CompRow w c.own (.vwp e0 k' R B) (ρ h) := (OwnsRow.comp rfl).1 (hs.mem h _ hm)
    have hsv : a.eval s = V := by
      have := eval_rel hag hs hsin
      rw [hse] at this
      have h1 : a.eval s = seg (ρ h) 2 := this
      rw [h1, hv]; rfl
    obtain ⟨hwf', A, mm, cap, hxv, hml, hn0, hnews⟩ := src hp2 S' ρ a w hag hs
    have hml' : mm = m.length := hml
    have hVo : w.ownsRow 0 e0 i.size V R.length (RC.recs e0 k' R).cells := by
      have := hV.2.1
      rw [his, ← hk]; exact this
    have hnl : (RC.recs e9 k' m).cells.length = mm * i.size := by rw [RC.cells_length hwf', hml, his, hes]
    obtain ⟨v', w', hrun, how, hgr, hbk⟩ := run_app (P := c.P) (ty := o.type) hu hi hz hzs (by omega) (by omega) (n := R.length) (xs := (RC.recs e0 k' R).cells) (v := V) (A := A) (m := mm) (cc := cap) hVo hnl hn0 hnews RC.one (by omega)
    have hkeep := app_keep (P := c.P) (ty := o.type) hu hi hz (by omega) hVo hnl hn0 hnews RC.one (by omega) hrun
    have hob : V.ownBlock = blkOf V := ownBlock_blk hVo
    have hob' : v'.ownBlock = blkOf v' := ownBlock_blk how
    have hch := Chg.grown hgr
    have hksz : k' = i.size := by rw [his]; exact hk
    have happ : (RC.recs e0 k' (R ++ m)).cells = (RC.recs e0 k' R).cells ++ (RC.recs e9 k' m).cells := by simp [RC.cells]
    have hV' : FlatRow w' c.own (.recs e0 k' (R ++ m)) v' := by
      refine ⟨⟨hV.1.1, fun y hy => ?_⟩, ?_, fun q hq => ?_⟩
      · rcases List.mem_append.1 hy with hy | hy
        · exact hV.1.2 y hy
        · exact hwf'.2 y hy
      · have h1 : w'.ownsRow 0 e0 i.size v' (R.length + mm) ((RC.recs e0 k' R).cells ++ (RC.recs e9 k' m).cells) := how
        rw [← happ, hml'] at h1
        rw [← hksz] at h1
        simpa [RC.len, RC.elem, RC.sz] using h1
      · rw [← hob'] at hq
        rcases hbk with h1 | h1
        · rw [h1, hob] at hq; exact hV.2.2 q hq
        · rw [h1] at hq; simp at hq; subst hq; exact .inl hs.frame.size
    have hW' : ViewIs w' c.own (.recs e0 k' B) W := by
      obtain ⟨⟨hwf, A', n', cap', hWv, hn', hc', hmx, hr⟩, hWb⟩ := hW
      refine ⟨⟨hwf, A', n', cap', hWv, hn', hc', hmx, fun h0 => ?_⟩, fun q hq => ⟨(hWb q hq).1, Nat.lt_of_lt_of_le (hWb q hq).2 hgr.size⟩⟩
      obtain ⟨ad, hA', hin, hcell⟩ := hr h0
      refine ⟨ad, hA', hin, fun j u hu => ?_⟩
      have hjl := (List.getElem?_eq_some_iff.1 hu).1
      rw [RC.cells_length hwf] at hjl
      have hjl' : j < B.length * k' := hjl
      have hadb : blkOf W = some ad.block := by rw [hWv, hA']; rfl
      by_cases hbb : blkOf V = some ad.block
      · obtain ⟨off, ho1, ho2⟩ := hVW ad n' cap' (by rw [hWv, hA']) ad.block hbb rfl
        have he1 : ad.add j = ⟨ad.block, off + j, none⟩ := by rw [ho1]; exact add_lit _ _ _
        have h2 := hcell j u hu
        rw [he1] at h2 ⊢
        rw [hkeep ad.block hbb (off + j) (by rw [← hksz]; omega)]
        exact h2
      · have hb2 : (ad.add j).block = ad.block := by unfold Addr.add; split <;> rfl
        rw [World.cell?_of_block (w := w) (by rw [hb2]; exact hch.block _ (hWb _ hadb).2 (fun e => hbb (by rw [← hob]; exact e.symm)))]
        exact hcell j u hu
    have hVW' : ViewAt v' W (B.length * k') ((R ++ m).length * k') := by
      intro ad n' cap' hWv q hq hqb
      rw [← hob'] at hq
      rcases hbk with h1 | h1
      · rw [h1, hob] at hq
        obtain ⟨off, ho1, ho2⟩ := hVW ad n' cap' hWv q hq hqb
        refine ⟨off, ho1, Nat.le_trans ho2 ?_⟩
        rw [List.length_append]; exact Nat.mul_le_mul_right _ (by omega)
      · rw [h1] at hq
        simp at hq
        have := (hW.2 ad.block (by rw [hWv]; rfl)).2
        omega
    have hdR : d ∉ (S.eval s).hs ++ (S.eval x).hs := by
      rw [hse]
      simp only [AV.hs, A0.hs, List.mem_append, List.mem_singleton, not_or]
      exact ⟨hdh, hc2⟩
    have hfd : S'.Fresh c d := hfr d (by simp [wrHs, normWr]) hdR
    have hup : ∀ z, z ≠ d → upd ρ d (.tuple #[undef, W, v']) z = ρ z := fun z hz => upd_ne hz
    have hwr : wrHs (normWr [(h, some (Entry.t1 d)), (d, some (Entry.row (.vwp e0 k' (R ++ m) B)))]) = [h, d] := rfl
    have hlook : ∀ y e', look y (normWr [(h, some (Entry.t1 d)), (d, some (Entry.row (.vwp e0 k' (R ++ m) B)))]) = some (some e') → (y = h ∧ e' = .t1 d) ∨ (y = d ∧ e' = .row (.vwp e0 k' (R ++ m) B)) := by
      intro y e' hy
      simp only [normWr, List.map_cons, List.map_nil, Option.map_some, look] at hy
      by_cases q1 : h = y
      · simp only [q1, beq_self_eq_true, cond_true, Option.some.injEq] at hy
        exact .inl ⟨q1.symm, hy.symm⟩
      · have q1' : (h == y) = false := by simpa using q1
        rw [q1'] at hy
        simp only [cond_false] at hy
        by_cases q2 : d = y
        · simp only [q2, beq_self_eq_true, cond_true, Option.some.injEq] at hy
          exact .inr ⟨q2.symm, hy.symm⟩
        · have q2' : (d == y) = false := by simpa using q2
          rw [q2'] at hy
          cases hy
    refine ⟨v', w', upd ρ d (.tuple #[undef, W, v']), .inl ?_, ?_⟩
    · simp only [execOp, hop, resolve, Sem.run_bind, Sem.run_pure, Result.andThen_ok, invoke, builtin, List.map_toArray, List.map_cons, List.map_nil, hsv, hxv, hrun]
    · rw [hd]
      refine hs.step (D := fun k => some k = V.ownBlock) (fun y hy => by cases hy; exact hdl d hd) hch (fun q hq => hV.2.2 q (by rw [← hob]; exact hq.symm)) (fun y hne => ?_) (fun y hy => hup y (by rw [hwr] at hy; simp at hy; exact hy.2)) (fun y e' hy ho' hnot q hq hqe => ?_) (fun y e' hy => ?_) (fun y e' hy ho' q hq => ⟨fun y2 e3 hy2 ho2 hnot hq2 => ?_, fun y2 e3 hy2 ho2 hne => ?_⟩) ?_
      · by_cases hyd : y = d
        · subst hyd; exact hfd
        · exact absurd (hup y hyd) hne
      · rw [hwr] at hnot
        simp at hnot
        exact hs.sep y h e' _ hy hm ho' rfl hnot.1 q hq (by rw [hv]; exact ⟨2, _, rfl, by rw [← hob]; exact hqe.symm⟩)
      · rcases hlook y e' hy with ⟨rfl, rfl⟩ | ⟨rfl, rfl⟩
        · show seg (upd ρ d _ y) 1 = seg (upd ρ d _ d) 1
          rw [hup y (fun e => hdh e.symm), upd_same, hv]; rfl
        · show OwnsRow w' c.own _ (upd ρ y _ y)
          rw [upd_same]
          exact (OwnsRow.comp rfl).2 ⟨W, v', rfl, hW', hV', hVW'⟩
      · rcases hlook y e' hy with ⟨rfl, rfl⟩ | ⟨rfl, rfl⟩
        · cases ho'
        · rw [upd_same] at hq
          rw [hwr] at hnot
          simp at hnot
          have inH : Blk (ρ h) q → False := fun hb => hs.sep y2 h e3 _ hy2 hm ho2 rfl hnot.1 q hq2 hb
          obtain ⟨j, J, hJ, hbJ⟩ := hq
          match j, hJ with
          | 0, hJ => simp at hJ; subst hJ; simp [blkOf, undef] at hbJ
          | 1, hJ => simp at hJ; subst hJ; exact inH (by rw [hv]; exact ⟨1, _, rfl, hbJ⟩)
          | 2, hJ =>
            simp at hJ; subst hJ
            rw [← hob'] at hbJ
            rcases hbk with h1 | h1
            · rw [h1, hob] at hbJ; exact inH (by rw [hv]; exact ⟨2, _, rfl, hbJ⟩)
            · rw [h1] at hbJ
              have := hs.blk_lt hy2 ho2 hq2
              simp at hbJ; omega
          | j + 3, hJ => simp at hJ
      · rcases hlook y e' hy with ⟨rfl, rfl⟩ | ⟨rfl, rfl⟩
        · cases ho'
        · rcases hlook y2 e3 hy2 with ⟨rfl, rfl⟩ | ⟨rfl, rfl⟩
          · cases ho2
          · exact absurd rfl hne
      · show v' = seg (upd ρ d _ d) 2
        rw [upd_same]; rfl
  · cases he
end Go.Proofs.Ytacomnelongbjab

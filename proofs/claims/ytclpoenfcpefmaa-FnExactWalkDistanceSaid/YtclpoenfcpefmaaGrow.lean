/-
  Each effect of the abstract machine is sound: structs made and compared, slices. Conditions: none; this text proves nothing of the program.
-/
import Derived.Test.YtclpoenfcpefmaaGstore
namespace Go.Proofs.Ytclpoenfcpefmaa
open Go Go.RowKit

section
variable {c : Ctx} {ops : Array Oper} {o : Oper} {S : St} {R : List Nat}

/-! #### structs -/
theorem fold_cells {cs : Array Value} {off : Nat} {v : Value} (hfit : off + v.cells.size ≤ cs.size) :
    (v.cells.zipIdx.foldl (fun cs (c, j) => cs.setIfInBounds (off + j) c) cs).toList = cs.toList.take off ++ v.cells.toList ++ cs.toList.drop (off + v.cells.size) := by
  rw [← Array.foldl_toList, Array.toList_zipIdx]
  have key : ∀ (l : List Value) (k : Nat) (cs : Array Value), off + k + l.length ≤ cs.size →
      ((l.zipIdx k).foldl (fun (cs : Array Value) (p : Value × Nat) => cs.setIfInBounds (off + p.2) p.1) cs).toList = cs.toList.take (off + k) ++ l ++ cs.toList.drop (off + k + l.length) := by
    intro l
    induction l with
    | nil => intro k cs _; simp
    | cons x l ih =>
      intro k cs h
      simp only [List.length_cons] at h
      simp only [List.zipIdx_cons, List.foldl_cons]
      rw [ih (k + 1) _ (by simp; omega)]
      have hs : (cs.setIfInBounds (off + k) x).toList = cs.toList.take (off + k) ++ x :: cs.toList.drop (off + k + 1) := by
        rw [Array.toList_setIfInBounds, List.set_eq_take_append_cons_drop, if_pos (by simp; omega)]
      have hl : (cs.toList.take (off + k)).length = off + k := by simp; omega
      have h1 : (cs.setIfInBounds (off + k) x).toList.take (off + (k + 1)) = cs.toList.take (off + k) ++ [x] := by
        rw [hs, List.take_append, hl, List.take_of_length_le (by omega), show off + (k + 1) - (off + k) = 1 by omega]
        simp
      have h2 : (cs.setIfInBounds (off + k) x).toList.drop (off + (k + 1) + l.length) = cs.toList.drop (off + k + (l.length + 1)) := by
        rw [Array.toList_setIfInBounds, List.drop_set, if_pos (by omega)]
        congr 1
        omega
      rw [h1, h2]
      simp
  have := key v.cells.toList 0 cs (by simpa using hfit)
  simpa using this

theorem fill_build {place : Nat → Option (Nat × Nat)} {fs : List (Nat × Nat)} (hpl : ∀ (j : Nat) (p : Nat × Nat), fs[j]? = some p → place j = some p) {ρ : Nat → Value} : ∀ (ps : List (Nat × AV)) (vs : List (Nat × Value)) (cs res : List Int) (ca : Array Value),
    vs.length = ps.length → (∀ (j : Nat) (p : Nat × AV), ps[j]? = some p → ∃ v, vs[j]? = some (p.1, v) ∧ p.2.rel ρ v) → ca = (cs.map vI).toArray → buildOf fs ps cs = some res → Instr.fill place ca vs = some (res.map vI).toArray
  | [], vs, cs, res, ca, hl, _, hca, hb => by
    simp only [buildOf, Option.some.injEq] at hb
    subst hb
    have : vs = [] := List.eq_nil_of_length_eq_zero hl
    subst this
    rw [Instr.fill, hca]
  | p :: ps, [], cs, res, ca, hl, _, _, _ => by simp at hl
  | p :: ps, v :: vs, cs, res, ca, hl, hrel, hca, hb => by
    obtain ⟨u, hu, hr⟩ := hrel 0 p rfl
    simp only [List.getElem?_cons_zero, Option.some.injEq] at hu
    subst hu
    obtain ⟨i, a⟩ := p
    have ih := fill_build hpl (ρ := ρ) ps vs
    have hrel' : ∀ (j : Nat) (p : Nat × AV), ps[j]? = some p → ∃ v, vs[j]? = some (p.1, v) ∧ p.2.rel ρ v := fun j p hp => by simpa using hrel (j + 1) p (by simpa using hp)
    have hl' : vs.length = ps.length := by simpa using hl
    unfold buildOf at hb
    split at hb
    · rename_i h; cases h
    · rename_i cs _ _ i' n r' heq
      simp only [List.cons.injEq, Prod.mk.injEq] at heq
      obtain ⟨⟨rfl, rfl⟩, rfl⟩ := heq
      split at hb
      · rename_i q hq
        cases hc : (q.2 == 1 && Nat.blt q.1 cs.length) with
        | false => rw [hc] at hb; cases hb
        | true =>
          rw [hc] at hb
          simp only [cond_true] at hb
          simp only [Bool.and_eq_true, beq_iff_eq, Nat.blt_eq] at hc
          have hu := rel_i hr
          subst hu
          have hpl' := hpl i q hq
          obtain ⟨q1, q2⟩ := q
          simp only at hc
          obtain ⟨rfl, hlt⟩ := hc
          have hsz : ca.size = cs.length := by rw [hca]; simp
          rw [Instr.fill, hpl']
          dsimp only
          split
          · rename_i hbad
            exfalso
            simp [Value.cells, hsz] at hbad
            omega
          refine ih (cs.set q1 n) res _ hl' hrel' ?_ hb
          have hf := fold_cells (cs := ca) (off := q1) (v := vI n) (by simp [Value.cells, hsz]; omega)
          apply Array.ext'
          refine Eq.trans hf ?_
          rw [List.set_eq_take_append_cons_drop, if_pos hlt, hca]
          simp [Value.cells]
      · cases hb
    · rename_i cs _ _ i' m r' heq
      simp only [List.cons.injEq, Prod.mk.injEq] at heq
      obtain ⟨⟨rfl, rfl⟩, rfl⟩ := heq
      split at hb
      · rename_i q hq
        cases hc : (q.2 == m.length && Nat.ble (q.1 + m.length) cs.length) with
        | false => rw [hc] at hb; cases hb
        | true =>
          rw [hc] at hb
          simp only [cond_true] at hb
          simp only [Bool.and_eq_true, beq_iff_eq] at hc
          obtain ⟨hc1, hc2⟩ := hc
          have hfit := Nat.le_of_ble_eq_true hc2
          have hu := rel_s hr
          subst hu
          have hpl' := hpl i q hq
          obtain ⟨q1, q2⟩ := q
          simp only at hc1 hfit
          subst hc1
          have hsz : ca.size = cs.length := by rw [hca]; simp
          rw [Instr.fill, hpl']
          dsimp only
          split
          · rename_i hbad
            exfalso
            simp [cells_s, hsz] at hbad
            omega
          refine ih (setAt cs q1 m) res _ hl' hrel' ?_ hb
          have hf := fold_cells (cs := ca) (off := q1) (v := .agg (m.map vI).toArray) (by simp [cells_s, hsz]; omega)
          apply Array.ext'
          refine Eq.trans hf ?_
          rw [setAt_eq m cs q1 hfit, hca]
          simp [cells_s]
      · cases hb
    · cases hb

theorem parts_rel {ρ : Nat → Value} {a : Act} (ps : List (Nat × Operand)) (h : ∀ p ∈ ps, (S.eval p.2).rel ρ (a.eval p.2)) :
    (ps.map fun p => (p.1, a.eval p.2)).length = (ps.map fun p => (p.1, S.eval p.2)).length ∧
    ∀ (j : Nat) (p : Nat × AV), (ps.map fun p => (p.1, S.eval p.2))[j]? = some p → ∃ v, (ps.map fun p => (p.1, a.eval p.2))[j]? = some (p.1, v) ∧ p.2.rel ρ v := by
  refine ⟨by simp, fun j p hp => ?_⟩
  simp only [List.getElem?_map, Option.map_eq_some_iff] at hp
  obtain ⟨q, hq, rfl⟩ := hp
  exact ⟨a.eval q.2, by simp [hq], h q (List.mem_of_getElem? hq)⟩

theorem mapM_ok {α β : Type} {P : Program} {w : World} (f : α → Sem β) (g : α → β) : ∀ (l : List α), (∀ x ∈ l, (f x).run P w = .ok (g x) w) → (l.mapM f).run P w = .ok (l.map g) w
  | [], _ => rfl
  | x :: l, h => by
    have ih := mapM_ok f g l (fun y hy => h y (by simp [hy]))
    simp [List.mapM_cons, h x (by simp), ih]

theorem good_build {tab : Tab} (hT : TabOk c.P tab) {t : Nat} {ps : Array (Nat × Operand)} {e : Eff} (hN : ∀ d, o.dst = some d → d < c.N) (hw : Wanted c ops o S) (hop : o.op = .build t ps)
    (he : effBuild (look t tab) (ps.toList.map fun p => (p.1, S.eval p.2)) = some e) : Good c ops o (den S) R e.val.norm (normWr e.wr) := by
  have hin : ∀ ρ (a : Act), (∀ x ∈ o.op.operands.toList, (S.eval x).rel ρ (a.eval x)) → ∀ p ∈ ps.toList, (S.eval p.2).rel ρ (a.eval p.2) := fun ρ a hx p hp => hx p.2 (by
    simp only [hop, Op.operands]
    exact List.mem_map.2 ⟨p, hp, rfl⟩)
  unfold effBuild at he
  split at he
  · rename_i fs n _ hti
    split at he
    · rename_i cs hcs
      simp only [val1, Option.some.injEq] at he; subst he
      obtain ⟨F, i, hu, hi, his, _, hz, hfs, _⟩ := tiB_struct (hT _ _ hti)
      obtain ⟨hFl, hat⟩ := fieldsB_at hfs
      refine good_val hN hw fun ρ a w hx => ⟨.agg (cs.map vI).toArray, ?_, rfl⟩
      obtain ⟨hl, hrel⟩ := parts_rel ps.toList (hin ρ a hx)
      have hmap : (F.mapM fun f => do pure (f.offset, ← sizeOf f.type) : Sem (Array (Nat × Nat))).run c.P w = .ok fs.toArray w := by
        rw [Array.mapM_eq_mapM_toList]
        have h1 : ∀ f ∈ F.toList, (do pure (f.offset, ← sizeOf f.type) : Sem (Nat × Nat)).run c.P w = .ok (f.offset, ((c.P.info? f.type).map (·.size)).getD 0) w := by
          intro f hf
          obtain ⟨j, hj⟩ := List.getElem?_of_mem hf
          have hjl : j < fs.length := by rw [← hFl]; exact (List.getElem?_eq_some_iff.1 hj).1
          obtain ⟨f', fi, h1, h2, h3, h4, _⟩ := hat j fs[j] (by simp [hjl])
          have : f' = f := Option.some.inj (h1.symm.trans hj)
          subst this
          simp [run_size h3, h3]
        rw [Sem.run_map, mapM_ok _ _ _ h1]
        simp only [Result.andThen_ok]
        congr 2
        apply List.ext_getElem?
        intro j
        by_cases hj : j < fs.length
        · obtain ⟨f', fi, h1, h2, h3, h4, _⟩ := hat j fs[j] (by simp [hj])
          simp only [List.getElem?_map, h1, Option.map_some, h3, Option.getD_some, h2, h4]
          simp [hj]
        · rw [List.getElem?_eq_none (by rw [List.length_map, hFl]; omega), List.getElem?_eq_none (by omega)]
      have hfill := fill_build (place := fun j => fs.toArray[j]?) (fs := fs) (fun j p hp => by simpa using hp) (ρ := ρ) (ps.toList.map fun p => (p.1, S.eval p.2)) (ps.toList.map fun p => (p.1, a.eval p.2)) (List.replicate n 0) cs ((List.replicate n (vI 0)).toArray) hl hrel (by simp) hcs
      simp only [execOp, hop, Instr.build, Sem.run_bind, run_zero hi hz, Result.andThen_ok, run_underlying hu, hmap]
      have hpa : (ps.map fun p => (p.1, a.eval p.2)).toList = ps.toList.map fun p => (p.1, a.eval p.2) := by simp
      simp only [Value.cells, hpa, hfill, Sem.run_pure, Result.andThen_ok]
    · cases he
  · rename_i m el n _ hti
    split at he
    · rename_i cs hcs
      simp only [val1, Option.some.injEq] at he; subst he
      obtain ⟨i, ei, hu, hi, his, _, hz, hmn, hei, hes⟩ := tiB_array (hT _ _ hti)
      refine good_val hN hw fun ρ a w hx => ⟨.agg (cs.map vI).toArray, ?_, rfl⟩
      obtain ⟨hl, hrel⟩ := parts_rel ps.toList (hin ρ a hx)
      subst hmn
      have hfill := fill_build (place := fun j => some (j * ei.size, ei.size)) (fs := (List.range m).map fun j => (j, 1)) (fun j p hp => by
          simp only [List.getElem?_map, Option.map_eq_some_iff] at hp
          obtain ⟨k, hk, rfl⟩ := hp
          have : k = j := by
            have := List.getElem?_eq_some_iff.1 hk
            obtain ⟨_, h⟩ := this
            simpa using h.symm
          subst this
          simp [hes]) (ρ := ρ) (ps.toList.map fun p => (p.1, S.eval p.2)) (ps.toList.map fun p => (p.1, a.eval p.2)) (List.replicate m 0) cs ((List.replicate m (vI 0)).toArray) hl hrel (by simp) hcs
      simp only [execOp, hop, Instr.build, Sem.run_bind, run_zero hi hz, Result.andThen_ok, run_underlying hu, run_size hei]
      have hpa : (ps.map fun p => (p.1, a.eval p.2)).toList = ps.toList.map fun p => (p.1, a.eval p.2) := by simp
      simp only [Value.cells, hpa, hfill, Sem.run_pure, Result.andThen_ok]
    · cases he
  · cases he
end
end Go.Proofs.Ytclpoenfcpefmaa

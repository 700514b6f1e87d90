/-
  Each effect of the abstract machine is sound: maps made, rows gathered under one handle, a row within a row of rows handed to a function. Conditions: none; this text proves nothing of the program.
-/
import Derived.Test.YtclpoenfcpefmaaGmp
namespace Go.Proofs.Ytclpoenfcpefmaa
open Go Go.RowKit

section
variable {c : Ctx} {ops : Array Oper} {o : Oper} {S : St} {R : List Nat}

theorem look_gather {cons : List Nat} {d y : Nat} {e e' : Entry} (h : look y (cons.map (fun x => (x, (none : Option Entry))) ++ [(d, some e)]) = some (some e')) : y = d ∧ e' = e := by
  induction cons with
  | nil =>
    simp only [List.map_nil, List.nil_append, look_one] at h
    by_cases hd : d = y
    · simp only [hd, if_true, Option.some.injEq] at h; exact ⟨hd.symm, h.symm⟩
    · simp [hd] at h
  | cons x l ih =>
    simp only [List.map_cons, List.cons_append, look] at h
    by_cases hx : x = y
    · simp [hx] at h
    · have : (x == y) = false := by simpa using hx
      rw [this] at h
      exact ih h
/-- Handles are gathered under a new one; a block may be new. -/
theorem SatR.gather {S : SS} {ρ : Nat → Value} {w w' : World} {a : Act} {d : Nat} {e : Entry} {cons : List Nat} {v u : Value} {val : AV} (h : SatR c S ρ a.tmps w) (hd : d < a.tmps.size) (hf : S.Fresh c d) (ch : Chg w w' (fun _ => False)) (hds : ∀ x ∈ cons, x ≠ d)
    (hcons : ∀ x ∈ cons, ∃ e, S.mem x = some e ∧ e.isOwn = true) (hb : ∀ k, Blk u k → w.heap.size ≤ k ∨ ∃ x ∈ cons, Blk (ρ x) k) (he : e.holds c w' (upd ρ d u) d) (hv : val.rel (upd ρ d u) v) :
    SatR c (S.apply (some d) val (cons.map (fun x => (x, none)) ++ [(d, some e)])) (upd ρ d u) (a.put (some d) v).tmps w' := by
  have hwr : ∀ x, x ∈ wrHs (cons.map (fun x => (x, (none : Option Entry))) ++ [(d, some e)]) ↔ x ∈ cons ∨ x = d := by
    intro x; simp [wrHs]
  refine h.step (fun x hx => by cases hx; exact hd) ch (fun _ hk => hk.elim) (fun x hne => ?_) (fun x hx => ?_) (fun _ _ _ _ _ _ _ hk => hk) (fun x e' hx => ?_) (fun x e' hx ho k hk => ⟨fun y e'' hy ho' hnot hk' => ?_, fun y e'' hy ho' hne => ?_⟩) hv
  · by_cases hx : x = d
    · subst hx; exact hf
    · exact absurd (upd_ne hx) hne
  · exact upd_ne fun e => hx ((hwr x).2 (.inr e))
  · obtain ⟨rfl, rfl⟩ := look_gather hx
    exact he
  · obtain ⟨rfl, rfl⟩ := look_gather hx
    rw [upd_same] at hk
    rcases hb k hk with h1 | ⟨z, hz, h1⟩
    · have := h.blk_lt hy ho' hk'; omega
    · obtain ⟨ez, hz1, hz2⟩ := hcons z hz
      have hyz : y ≠ z := fun e => hnot ((hwr y).2 (.inl (by rw [e]; exact hz)))
      exact h.sep y z e'' ez hy hz1 ho' hz2 hyz k hk' h1
  · obtain ⟨q1, _⟩ := look_gather hx
    obtain ⟨q2, _⟩ := look_gather hy
    exact absurd (q2.trans q1.symm) hne

theorem good_makeMap {tab : Tab} {t : Nat} {e : Eff} (hN : ∀ d, o.dst = some d → d < c.N) (hw : Wanted c ops o S) (hop : o.op = .makeMap t none) (he : effMakeMap tab t o.dst = some e) (hR : ∀ d, o.dst = some d → d ∉ R) : Good c ops o (den S) R e.val.norm (normWr e.wr) := by
  unfold effMakeMap at he
  split at he
  case h_2 => cases he
  rename_i d k et _ _ hd hti
  split at he
  case h_2 => cases he
  split at he
  case h_2 => cases he
  rename_i n _ _ m hm
  simp only [Option.some.injEq] at he; subst he
  refine good_of hN hw fun S' ρ a w hag hfr hs hdl => ?_
  have hrun : (execOp a.eval o).run c.P w = .ok (.value (.map (some w.heap.size))) (w.alloc (.map #[] 0)) := by
    simp [execOp, hop, Instr.makeMap]
  refine ⟨_, _, upd ρ d (.map (some w.heap.size)), .inl hrun, ?_⟩
  rw [hd]
  refine SatR.gather (cons := []) hs (hdl d hd) (hfr d (by simp [wrHs, normWr]) (hR d hd)) (Chg.alloc w _) (by simp) (by simp) (fun k hk => .inl ?_) ?_ ?_
  · have : some w.heap.size = some k := hk
    simp at this; omega
  · show OwnsRow _ _ _ (upd ρ d _ d)
    rw [upd_same]
    refine (OwnsRow.comp rfl).2 ⟨w.heap.size, #[], 0, rfl, .inl hs.frame.size, heap_alloc_new w _, ?_, ?_⟩
    · unfold emptyMC at hm
      split at hm <;> simp at hm <;> subst hm <;> rfl
    · unfold emptyMC at hm
      split at hm <;> simp at hm <;> subst hm <;> simp [MC.keys]
  · show _ = hdV (upd ρ d _ d)
    rw [upd_same]; rfl

/-- what a row's handle and a map's stand for -/
theorem row_map {S' : SS} {ρ : Nat → Value} {a : Act} {w : World} (hag : Agree ops o R (den S) S') (hs : SatR c S' ρ a.tmps w) {h1 h2 e k n : Nat} {fs : List (List Int)} {m : MC} (hm1 : look h1 S.mem = some (.row (.recs e k fs))) (hm2 : look h2 S.mem = some (.row (.mp n m))) (hR1 : h1 ∈ R) (hR2 : h2 ∈ R) :
    FlatRow w c.own (.recs e k fs) (ρ h1) ∧ CompRow w c.own (.mp n m) (ρ h2) ∧ S'.mem h1 = some (.row (.recs e k fs)) ∧ S'.mem h2 = some (.row (.mp n m)) := by
  have m1 := mem_at hag hR1 hm1
  have m2 := mem_at hag hR2 hm2
  exact ⟨(OwnsRow.flat rfl).1 (hs.mem h1 _ m1), (OwnsRow.comp rfl).1 (hs.mem h2 _ m2), m1, m2⟩

theorem good_buildTwo {tab : Tab} (hT : TabOk c.P tab) {t : Nat} {ps : Array (Nat × Operand)} {e : Eff} {ft gt sz by_ : Nat} (hN : ∀ d, o.dst = some d → d < c.N) (hw : Wanted c ops o S) (hop : o.op = .build t ps) (hti : look t tab = some ⟨.two ft gt, sz, by_⟩)
    (he : buildTwo S (ps.toList.map fun p => (p.1, S.eval p.2)) = some e) (hR : ∀ p ∈ ps.toList, ∀ h ∈ (S.eval p.2).hs, h ∈ R) : Good c ops o (den S) R e.val.norm (normWr e.wr) := by
  unfold buildTwo at he
  split at he
  case h_2 => cases he
  rename_i h1 h2 hps
  split at he
  case h_2 => cases he
  rename_i e0 k0 fs0 n0 m0 hm1 hm2
  simp only [val1, Option.some.injEq] at he; subst he
  obtain ⟨x, y, hpl, hx, hy⟩ : ∃ x y, ps.toList = [(0, x), (1, y)] ∧ S.eval x = .one (.row h1) ∧ S.eval y = .one (.co h2) := by
    match hl : ps.toList, hps with
    | [p, q], hps =>
      simp only [List.map_cons, List.map_nil, List.cons.injEq, Prod.mk.injEq, and_true] at hps
      obtain ⟨⟨a1, a2⟩, a3, a4⟩ := hps
      exact ⟨p.2, q.2, by rw [← a1, ← a3], a2, a4⟩
    | [], hps => simp at hps
    | [_], hps => simp at hps
    | _ :: _ :: _ :: _, hps => simp at hps
  have hpa : ps = #[(0, x), (1, y)] := by apply Array.ext'; simpa using hpl
  subst hpa
  obtain ⟨F, i, cs, hu, hi, his, hz, hzs, hF⟩ := tiB_two (hT _ _ hti)
  obtain ⟨fa, fb, hFF, o1, o2, t1, t2, ⟨i1, hi1, hs1⟩, ⟨i2, hi2, hs2⟩⟩ := twoB_spec hF
  have hFa : F = #[fa, fb] := by apply Array.ext'; simpa using hFF
  refine good_of hN hw fun S' ρ a w hag _ hs hd => ?_
  obtain ⟨f1, f2, _, _⟩ := row_map hag hs hm1 hm2 (hR (0, x) (by simp) h1 (by rw [hx]; simp [AV.hs, A0.hs])) (hR (1, y) (by simp) h2 (by rw [hy]; simp [AV.hs, A0.hs]))
  obtain ⟨_, A, n, cap, hA, _⟩ := f1.at
  obtain ⟨b, es, clock, hv2, _⟩ := f2
  have hxv : a.eval x = .slice A n cap := by
    have := eval_rel hag hs (x := x) (by simp [hop, Op.operands])
    rw [hx] at this
    exact Eq.trans (show a.eval x = ρ h1 from this) hA
  have hyv : a.eval y = .map (some b) := by
    have := eval_rel hag hs (x := y) (by simp [hop, Op.operands])
    rw [hy] at this
    have h3 : a.eval y = hdV (ρ h2) := this
    rw [h3, hv2]; rfl
  obtain ⟨z0, z1, hcs⟩ : ∃ z0 z1, cs = #[z0, z1] := by
    match hl : cs.toList with
    | [z0, z1] => exact ⟨z0, z1, by apply Array.ext'; simpa using hl⟩
    | [] => have := congrArg List.length hl; simp [hzs] at this
    | [_] => have := congrArg List.length hl; simp [hzs] at this
    | _ :: _ :: _ :: _ => have := congrArg List.length hl; simp [hzs] at this
  refine ⟨.agg #[a.eval x, a.eval y], w, ρ, .inl ?_, hs.val hd ?_⟩
  · subst hcs
    rw [hxv, hyv]
    have hmap : (F.mapM fun f => do pure (f.offset, ← sizeOf f.type) : Sem (Array (Nat × Nat))).run c.P w = .ok #[(0, 1), (1, 1)] w := by
      rw [hFa, Array.mapM_eq_mapM_toList]
      simp [List.mapM_cons, o1, o2, t1, t2, run_size hi1, run_size hi2, hs1, hs2]
    simp only [execOp, hop, Instr.build, Sem.run_bind, run_zero hi hz, Result.andThen_ok, run_underlying hu, hmap]
    simp [Instr.fill, Value.cells, hxv, hyv]
  · show _ = Value.agg #[ρ h1, hdV (ρ h2)]
    rw [hxv, hyv, hA, hv2]; rfl

theorem good_boxPair {t d h1 h2 : Nat} {x : Operand} {e : Eff} (hN : ∀ d, o.dst = some d → d < c.N) (hw : Wanted c ops o S) (hop : o.op = .box t x) (hd : o.dst = some d) (hx : S.eval x = .one (.ag h1 h2)) (he : boxPair S d h1 h2 = some e) (hR : ∀ h ∈ (S.eval x).hs, h ∈ R) (hRe : R = (S.eval x).hs) : Good c ops o (den S) R e.val.norm (normWr e.wr) := by
  unfold boxPair at he
  split at he
  case h_2 => cases he
  rename_i e0 k0 fs0 hm1
  split at he
  case h_2 => cases he
  rename_i n0 m0 hm2
  cases hb : (d == h1 || (d == h2 || h1 == h2)) with
  | true => rw [hb] at he; cases he
  | false =>
  rw [hb] at he
  simp only [cond_false, Option.some.injEq] at he; subst he
  simp only [Bool.or_eq_false_iff, beq_eq_false_iff_ne, ne_eq] at hb
  obtain ⟨b1, b2, b3⟩ := hb
  refine good_of hN hw fun S' ρ a w hag hfr hs hdl => ?_
  obtain ⟨f1, f2, m1, m2⟩ := row_map hag hs hm1 hm2 (hR h1 (by rw [hx]; simp [AV.hs, A0.hs])) (hR h2 (by rw [hx]; simp [AV.hs, A0.hs]))
  obtain ⟨_, A, n, cap, hA, _⟩ := f1.at
  obtain ⟨b, es, clock, hv2, hin, hbk, hmi⟩ := f2
  have hxv : a.eval x = .agg #[ρ h1, .map (some b)] := by
    have := eval_rel hag hs (x := x) (by simp [hop, Op.operands])
    rw [hx] at this
    have h3 : a.eval x = .agg #[ρ h1, hdV (ρ h2)] := this
    rw [h3, hv2]; rfl
  have hfd : S'.Fresh c d := hfr d (by simp [wrHs, normWr]) (by rw [hRe, hx]; simp [AV.hs, A0.hs]; exact ⟨b1, b2⟩)
  have ch := Chg.alloc w (.cells #[ρ h1, .map (some b)] t)
  refine ⟨.pointer (some ⟨w.heap.size, 0, none⟩), w.alloc (.cells #[ρ h1, .map (some b)] t), upd ρ d (.tuple #[.pointer (some ⟨w.heap.size, 0, none⟩), ρ h1, .map (some b)]), .inl (by simp [execOp, hop, hxv, run_box, Value.cells]), ?_⟩
  rw [hd]
  refine SatR.gather (cons := [h1, h2]) hs (hdl d hd) hfd ch (by intro y hy; simp at hy; rcases hy with rfl | rfl <;> first | exact (fun e => b1 e.symm) | exact (fun e => b2 e.symm)) (by intro y hy; simp at hy; rcases hy with rfl | rfl <;> first | exact ⟨_, m1, rfl⟩ | exact ⟨_, m2, rfl⟩) (fun k hk => ?_) ?_ ?_
  · obtain ⟨j, v, hv, hb⟩ := hk
    match j, hv with
    | 0, hv => simp at hv; subst hv; simp [blkOf] at hb; exact .inl (by omega)
    | 1, hv => simp at hv; subst hv; exact .inr ⟨h1, by simp, f1.thin.2 hb⟩
    | 2, hv => simp at hv; subst hv; exact .inr ⟨h2, by simp, by rw [hv2]; exact hb⟩
    | j + 3, hv => simp at hv
  · show OwnsRow _ _ _ (upd ρ d _ d)
    rw [upd_same]
    refine (OwnsRow.comp rfl).2 ⟨w.heap.size, ρ h1, b, es, clock, t, rfl, .inl hs.frame.size, heap_alloc_new w _, f1.chg fun k hk => ch.block k (f1.blk hk).2 (fun h => h), hin, (ch.block b (heap_lt hbk) fun h => h).trans hbk, hmi⟩
  · show _ = hdV (upd ρ d _ d)
    rw [upd_same]; rfl

theorem range0 : Array.range 0 = #[] := by apply Array.ext'; simp
theorem range1 : Array.range 1 = #[0] := by apply Array.ext'; simp [List.range_succ]
theorem good_buildRows {tab : Tab} (hT : TabOk c.P tab) {t el f n d : Nat} {ps : Array (Nat × Operand)} {e : Eff} {sz by_ sz2 by2 : Nat} (hN : ∀ d, o.dst = some d → d < c.N) (hw : Wanted c ops o S) (hop : o.op = .buildSlice t n ps) (hd : o.dst = some d) (hti : look t tab = some ⟨.slice el, sz, by_⟩) (hle : look el tab = some ⟨.slice f, sz2, by2⟩)
    (he : buildRows S d el f n (ps.toList.map fun p => (p.1, S.eval p.2)) = some e) (hR : R = ps.toList.flatMap fun p => (S.eval p.2).hs) : Good c ops o (den S) R e.val.norm (normWr e.wr) := by
  have hu := tiB_slice (hT _ _ hti)
  obtain ⟨i, _, hi, his, _, _, hz, _⟩ := tiB_slice2 (hT _ _ hle)
  unfold buildRows at he
  split at he
  · rename_i hps
    cases hb : n == 0 with
    | false => rw [hb] at he; cases he
    | true =>
    rw [hb] at he
    simp only [cond_true, Option.some.injEq] at he; subst he
    have hn : n = 0 := by simpa using hb
    subst hn
    have hpl : ps = #[] := by
      apply Array.ext'
      simpa using hps
    subst hpl
    refine good_of hN hw fun S' ρ a w hag hfr hs hdl => ?_
    have hfd : S'.Fresh c d := hfr d (by simp [wrHs, normWr]) (by rw [hR]; simp)
    have ch := Chg.alloc w (.cells #[] el)
    have hrun : (execOp a.eval o).run c.P w = .ok (.value (.slice (some ⟨w.heap.size, 0, none⟩) 0 0)) (w.alloc (.cells #[] el)) := by
      simp [execOp, hop, Instr.buildSlice, run_underlying hu, run_size hi, Instr.fill, newRow, range0]
    refine ⟨_, _, upd ρ d (.tuple (.slice (some ⟨w.heap.size, 0, none⟩) 0 0 :: []).toArray), .inl hrun, ?_⟩
    rw [hd]
    refine SatR.gather (cons := []) hs (hdl d hd) hfd ch (by simp) (by simp) (fun k hk => ?_) ?_ ?_
    · obtain ⟨j, v, hv, hb⟩ := Blk.tuple.1 hk
      cases j with
      | zero => simp at hv; subst hv; simp [blkOf] at hb; exact .inl (by omega)
      | succ j => simp at hv
    · show OwnsRow _ _ _ (upd ρ d _ d)
      rw [upd_same]
      refine (OwnsRow.comp rfl).2 ⟨_, [], rfl, rfl, ⟨rfl, .inr ⟨w.heap.size, 0, #[], rfl, Nat.zero_le _, heap_alloc_new w _, Nat.le_refl _, Nat.zero_le _, rfl, rfl⟩⟩, fun k hk => ?_, by simp, by simp, by simp⟩
      simp [blkOf] at hk; subst hk; exact .inl hs.frame.size
    · show _ = hdV (upd ρ d _ d)
      rw [upd_same]; rfl
  · rename_i h hps
    split at he
    case h_2 => cases he
    rename_i f' l hm
    cases hb : (n == 1 && (f == f' && !(d == h))) with
    | false => rw [hb] at he; cases he
    | true =>
    rw [hb] at he
    simp only [cond_true, Option.some.injEq] at he; subst he
    simp only [Bool.and_eq_true, beq_iff_eq, Bool.not_eq_true', beq_eq_false_iff_ne, ne_eq] at hb
    obtain ⟨rfl, rfl, hdh⟩ := hb
    obtain ⟨x, hpl, hx⟩ : ∃ x, ps.toList = [(0, x)] ∧ S.eval x = .one (.row h) := by
      match hl : ps.toList, hps with
      | [p], hps =>
        simp only [List.map_cons, List.map_nil, List.cons.injEq, Prod.mk.injEq, and_true] at hps
        obtain ⟨a1, a2⟩ := hps
        exact ⟨p.2, by rw [← a1], a2⟩
      | [], hps => simp at hps
      | _ :: _ :: _, hps => simp at hps
    have hpa : ps = #[(0, x)] := by apply Array.ext'; simpa using hpl
    subst hpa
    have hRR : R = [h] := by rw [hR]; simp [hx, AV.hs, A0.hs]
    refine good_of hN hw fun S' ρ a w hag hfr hs hdl => ?_
    have m1 : S'.mem h = some (.row (.ints f l)) := mem_at hag (by rw [hRR]; simp) hm
    have f1 : FlatRow w c.own (.ints f l) (ρ h) := (OwnsRow.flat rfl).1 (hs.mem h _ m1)
    obtain ⟨_, A, k, cap, hA, _⟩ := f1.at
    have hxv : a.eval x = ρ h := by
      have := eval_rel hag hs (x := x) (by simp [hop, Op.operands])
      rw [hx] at this
      exact this
    have hfd : S'.Fresh c d := hfr d (by simp [wrHs, normWr]) (by rw [hRR]; simpa using hdh)
    have ch := Chg.alloc w (.cells #[ρ h] el)
    have hrun : (execOp a.eval o).run c.P w = .ok (.value (.slice (some ⟨w.heap.size, 0, none⟩) 1 1)) (w.alloc (.cells #[ρ h] el)) := by
      simp [execOp, hop, Instr.buildSlice, run_underlying hu, run_size hi, his, run_zero hi hz, Instr.fill, newRow, hxv, hA, Value.cells, range1]
    refine ⟨_, _, upd ρ d (.tuple (.slice (some ⟨w.heap.size, 0, none⟩) 1 1 :: [ρ h]).toArray), .inl hrun, ?_⟩
    rw [hd]
    refine SatR.gather (cons := [h]) hs (hdl d hd) hfd ch (by intro y hy; simp at hy; subst hy; exact fun e => hdh e.symm) (by intro y hy; simp at hy; subst hy; exact ⟨_, m1, rfl⟩) (fun k hk => ?_) ?_ ?_
    · obtain ⟨j, v, hv, hb⟩ := Blk.tuple.1 hk
      match j, hv with
      | 0, hv => simp at hv; subst hv; simp [blkOf] at hb; exact .inl (by omega)
      | 1, hv => simp at hv; subst hv; exact .inr ⟨h, by simp, f1.thin.2 hb⟩
      | j + 2, hv => simp at hv
    · show OwnsRow _ _ _ (upd ρ d _ d)
      rw [upd_same]
      refine (OwnsRow.comp rfl).2 ⟨_, [ρ h], rfl, rfl, ⟨rfl, .inr ⟨w.heap.size, 1, #[ρ h], rfl, Nat.zero_le _, heap_alloc_new w _, Nat.le_refl _, by unfold maxLen; omega, rfl, rfl⟩⟩, fun k hk => ?_, fun j l' hj => ?_, fun i j I J hij hI hJ => ?_, fun j I hI k hk hk2 => ?_⟩
      · simp [blkOf] at hk; subst hk; exact .inl hs.frame.size
      · match j, hj with
        | 0, hj => simp at hj; subst hj; exact ⟨ρ h, rfl, f1.chg fun k hk => ch.block k (f1.blk hk).2 (fun h => h)⟩
        | j + 1, hj => simp at hj
      · match i, j, hI, hJ with
        | 0, 0, _, _ => exact absurd rfl hij
        | 0, j + 1, _, hJ => simp at hJ
        | i + 1, _, hI, _ => simp at hI
      · match j, hI with
        | 0, hI =>
          simp at hI; subst hI
          simp [blkOf] at hk2
          have := (f1.blk hk).2
          omega
        | j + 1, hI => simp at hI
    · show _ = hdV (upd ρ d _ d)
      rw [upd_same]; rfl
  · cases he
/-- A row within a row of rows is handed to a function and comes back with other elements. -/
theorem good_callIn {spec : Spec} (hspec : SpecOk c.P spec) {f : Nat} {args : Array Operand} {ts : Array Nat} {e : Eff} (hN : ∀ d, o.dst = some d → d < c.N) (hw : Wanted c ops o S) {fx : Operand} (hop : o.op = .call ⟨.value fx, args, ts⟩) (hfx : S.eval fx = .one (.fn f))
    {h p : Nat} {rest : List AV} (hargs0 : args.toList.map S.eval = .one (.ci h p) :: rest) {ce : CEff} (hce : spec f ((args.toList.map S.eval).map (argOf S)) = some ce) (he : callIn S h p rest ce = some e) (hp : e.pre) (_ : ((args.toList.map S.eval).map (argOf S)).all argOk = true) :
    Good c ops o (den S) ((args.toList.map S.eval).flatMap AV.hs) e.val.norm (normWr e.wr) := by
  obtain ⟨hfn, fn, hfs, hbody, hname⟩ := hspec f _ ce hce
  unfold callIn at he
  split at he
  case h_2 => cases he
  rename_i f' l' a0 e0 f0 ll houts hres hm
  cases hb : (plainA a0 && (f0 == f' && (rest.map (argOf S)).all plainA)) with
  | false => rw [hb] at he; cases he
  | true =>
  rw [hb] at he
  simp only [cond_true, Option.some.injEq] at he; subst he
  simp only [Bool.and_eq_true, beq_iff_eq] at hb
  obtain ⟨hpa, rfl, hpl⟩ := hb
  obtain ⟨hpre, hpl2⟩ : ce.pre ∧ p < ll.length := hp
  have hR : h ∈ (args.toList.map S.eval).flatMap AV.hs := by rw [hargs0]; simp [AV.hs, A0.hs]
  refine good_call_of hN hw fun S' ρ a w hag hfr hs hdl => ?_
  have hin : ∀ z ∈ args.toList, z ∈ o.op.operands.toList := fun z hz => by simp [hop, Op.operands, Call.operands]; right; simpa using hz
  have m1 : S'.mem h = some (.row (.rows e0 f0 ll)) := mem_at hag hR hm
  obtain ⟨O, Is, hv, hr⟩ : CompRow w c.own (.rows e0 f0 ll) (ρ h) := (OwnsRow.comp rfl).1 (hs.mem h _ m1)
  obtain ⟨I, hI, hf⟩ := hr.inner p (ll.getD p []) (by simp [hpl2])
  have hseg : seg (ρ h) (p + 1) = I := by
    rw [hv]
    have hlt := (List.getElem?_eq_some_iff.1 hI).1
    have heq := (List.getElem?_eq_some_iff.1 hI).2
    simp [seg, hlt, heq]
  have hIb : ∀ k, blkOf I = some k → Blk (ρ h) k := fun k hk => by rw [hv]; exact Blk.of_tuple (j := p + 1) (by simpa using hI) hk
  obtain ⟨z0, zs, hzs, hz0, hzr⟩ : ∃ z0 zs, args.toList = z0 :: zs ∧ S.eval z0 = .one (.ci h p) ∧ zs.map S.eval = rest := by
    cases hl : args.toList with
    | nil => rw [hl] at hargs0; simp at hargs0
    | cons z0 zs =>
      rw [hl] at hargs0
      simp only [List.map_cons, List.cons.injEq] at hargs0
      exact ⟨z0, zs, rfl, hargs0.1, hargs0.2⟩
  have hIv : a.eval z0 = I := by
    have := eval_rel hag hs (hin z0 (by rw [hzs]; simp))
    rw [hz0] at this
    have h2 : a.eval z0 = seg (ρ h) (p + 1) := this
    rw [h2, hseg]
  -- the other arguments are plain
  have hplain : ∀ z ∈ zs, plainA (argOf S (S.eval z)) = true ∧ a.eval z = (argOf S (S.eval z)).conc noρ ∧ hdV (a.eval z) = a.eval z := by
    intro z hz
    have h1 : plainA (argOf S (S.eval z)) = true := by
      refine List.all_eq_true.1 hpl _ ?_
      rw [← hzr, List.map_map]
      exact List.mem_map.2 ⟨z, hz, rfl⟩
    have hok : argOk (argOf S (S.eval z)) = true := by
      unfold plainA at h1
      split at h1 <;> first | (rename_i heq; rw [heq]; rfl) | cases h1
    refine ⟨h1, ?_⟩
    rcases argOf_rel hok (eval_rel hag hs (hin z (by rw [hzs]; simp [hz]))) with ⟨r, hra, _⟩ | ⟨_, h3, _, h4⟩
    · rw [hra] at h1; simp [plainA] at h1
    · exact ⟨h3, h4⟩
  have hbI : Blk I = fun k => blkOf I = some k := by
    funext k
    exact propext hf.thin
  have hob : ∀ k, OutBlk ce.outs (args.toList.map a.eval) k ↔ blkOf I = some k := by
    intro k
    rw [houts]
    constructor
    · rintro ⟨q, hq, v, hv', hk⟩
      simp at hq; subst hq
      rw [hzs] at hv'
      simp at hv'; subst hv'
      rw [hIv, hbI] at hk
      exact hk
    · intro hk
      exact ⟨(0, some (.ints f0 l')), by simp, I, by rw [hzs]; simp [hIv], by rw [hbI]; exact hk⟩
  have hown : ∀ k, OutBlk ce.outs (args.toList.map a.eval) k → c.own k := fun k hk => hf.2.2 k ((hob k).1 hk)
  have hargs : ArgsOk w ce.outs ((args.toList.map S.eval).map (argOf S)) (args.toList.map a.eval) := by
    refine ⟨by simp, fun j b hb => ?_, fun q hq q' hq' hne => ?_, fun q hq => ?_⟩
    · cases j with
      | zero =>
        rw [hzs] at hb ⊢
        simp only [List.map_cons, List.getElem?_cons_zero, Option.some.injEq] at hb ⊢
        subst hb
        refine ⟨_, rfl, ?_⟩
        rw [hz0, houts, hIv]
        simp only [argOf, compOf, hm, RC.flat, cond_false, innerOf]
        unfold ArgRel
        simp only
        rw [if_pos (by simp)]
        exact (OwnsRow.flat rfl).2 (hf.mono fun k hk _ _ => hk)
      | succ j =>
        rw [hzs] at hb ⊢
        simp only [List.map_cons, List.getElem?_cons_succ] at hb ⊢
        simp only [List.getElem?_map, Option.map_eq_some_iff] at hb
        obtain ⟨x, ⟨z, hz, rfl⟩, rfl⟩ := hb
        obtain ⟨h1, h2, _⟩ := hplain z (List.mem_of_getElem? hz)
        refine ⟨a.eval z, by simp [hz], ?_⟩
        rw [h2]
        unfold plainA at h1
        unfold ArgRel
        split
        · rename_i r hr'; rw [hr'] at h1; simp at h1
        · refine ⟨?_, rfl⟩
          split at h1 <;> first | (rename_i heq; rw [heq]; rfl) | cases h1
    · rw [houts] at hq hq'
      simp at hq hq'
      subst hq; subst hq'
      exact absurd rfl hne
    · rw [houts] at hq
      simp at hq
      subst hq
      refine ⟨.ints f0 (ll.getD p []), ?_⟩
      rw [hargs0]
      simp [argOf, compOf, hm, RC.flat, innerOf]
  have hheads : (args.toList.map a.eval).map hdV = args.toList.map a.eval := by
    rw [hzs]
    simp only [List.map_cons, List.map_map, List.cons.injEq]
    refine ⟨by rw [hIv]; exact flat_thin hf, List.map_congr_left fun z hz => (hplain z hz).2.2⟩
  have hrun : (execOp a.eval o).run c.P w = .ok (.enter f (args.toList.map a.eval).toArray) w := by
    have hb : fn.body ≠ none := fun e => by rw [e] at hbody; cases hbody
    have hn : fn.name ≠ "runtime.NumGoroutine" := fun e => by rw [e] at hname; simp at hname
    have hfe : (S.eval fx).rel ρ (a.eval fx) := eval_rel hag hs (by simp [hop, Op.operands, Call.operands])
    rw [hfx] at hfe
    have hev : a.eval fx = .func (.func f) #[] #[] := hfe
    simp [execOp, hop, resolve, hev, Deferred.ofValue, invoke, callFunc, hfs, hn, hb]
    rw [← Array.toList_map]
  rw [← hheads] at hrun
  refine ⟨f, _, hrun, (hfn hpre w _ hargs).mono fun e' w' ⟨v, hev, hret⟩ => ⟨v, hev, ρ, ?_⟩⟩
  obtain ⟨us, hus1, hus2, hus3, _⟩ := hret.res
  obtain ⟨u0, hu0, hown0⟩ := hret.outs (0, some (.ints f0 l')) (by rw [houts]; simp) _ rfl
  have hu0' : u0 = I := by
    rw [hzs] at hu0
    simp at hu0
    rw [← hu0, hIv]
  subst hu0'
  have hnewI : FlatRow w' c.own (.ints f0 l') u0 := by
    refine ((OwnsRow.flat rfl).1 hown0).mono fun k _ _ hk => ?_
    rcases hk with hk | hk
    · exact .inl (Nat.le_trans hs.frame.size hk)
    · exact hown k hk
  have hnew : RowsIs w' c.own e0 f0 (ll.set p l') O Is := hr.set hI (fun k hk hne => hret.chg.block k hk fun hX => hne ((hob k).1 hX)) hnewI
  refine hs.step (D := OutBlk ce.outs (args.toList.map a.eval)) hdl hret.chg hown (fun x hne => absurd rfl hne) (fun x hx => rfl) (fun y en hy ho hnot k hk hX => ?_) (fun y e1 hy => ?_) (fun y e1 hy ho k hk => ⟨fun y2 e2 hy2 ho2 hnot hk2 => ?_, fun y2 e2 hy2 ho2 hne => ?_⟩) ?_
  · have hne : y ≠ h := by simpa [wrHs, normWr] using hnot
    exact hs.sep y h en _ hy m1 ho rfl hne k hk (hIb k ((hob k).1 hX))
  · by_cases hyd : h = y
    · subst hyd
      simp [normWr, look] at hy
      subst hy
      exact (OwnsRow.comp rfl).2 ⟨O, Is, hv, hnew⟩
    · have : (h == y) = false := by simpa using hyd
      simp [normWr, look, this] at hy
  · by_cases hyd : h = y
    · subst hyd
      have hne : y2 ≠ h := by simpa [wrHs, normWr] using hnot
      exact hs.sep y2 h e2 _ hy2 m1 ho2 rfl hne k hk2 hk
    · have : (h == y) = false := by simpa using hyd
      simp [normWr, look, this] at hy
  · by_cases hyd : h = y
    · subst hyd
      have : (h == y2) = false := by simpa using fun e => hne e.symm
      simp [normWr, look, this] at hy2
    · have : (h == y) = false := by simpa using hyd
      simp [normWr, look, this] at hy
  · rw [hres] at hus1 hus2 hus3
    simp only at hus1
    obtain ⟨u, rfl, rfl⟩ := hus1
    obtain ⟨u', hu', hru⟩ := hus3 0 a0 rfl
    simp only [List.getElem?_cons_zero, Option.some.injEq] at hu'
    subst hu'
    show (AV.one a0).norm.rel ρ (hdV u)
    refine (AV.rel_norm ρ _ _).2 ?_
    unfold plainA at hpa
    split at hpa
    · rw [hru.2]; rfl
    · rw [hru.2]; rfl
    · cases hpa

/-- ALL CALLS. -/
theorem good_call {spec : Spec} (hspec : SpecOk c.P spec) {f : Nat} {args : Array Operand} {ts : Array Nat} {e : Eff} (hN : ∀ d, o.dst = some d → d < c.N) (hw : Wanted c ops o S) {fx : Operand} (hop : o.op = .call ⟨.value fx, args, ts⟩) (hfx : S.eval fx = .one (.fn f))
    (he : effCall spec S o.dst f (args.toList.map S.eval) = some e) (hp : e.pre) : Good c ops o (den S) ((args.toList.map S.eval).flatMap AV.hs) e.val.norm (normWr e.wr) := by
  by_cases hnin : ∃ h p rest, args.toList.map S.eval = .one (.ci h p) :: rest ∧ ∃ ce, spec f ((args.toList.map S.eval).map (argOf S)) = some ce ∧ outsEmpty ce.outs = false
  · obtain ⟨h, p, rest, h1, ce, h2, h3⟩ := hnin
    unfold effCall at he
    split at he
    case h_2 => cases he
    cases hall : ((args.toList.map S.eval).map (argOf S)).all argOk with
    | false => rw [hall] at he; cases he
    | true =>
    rw [hall] at he
    simp only [cond_true, h2] at he
    have he' : callIn S h p rest ce = some e := by
      rw [h1] at he
      simp only [callGo, h3, cond_false] at he
      exact he
    exact good_callIn hspec hN hw hop hfx h1 h2 he' hp hall
  · exact good_callA hspec hN hw hop hfx he hp hnin
end
end Go.Proofs.Ytclpoenfcpefmaa

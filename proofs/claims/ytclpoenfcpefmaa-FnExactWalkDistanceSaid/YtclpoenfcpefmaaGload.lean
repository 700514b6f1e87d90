/-
  Each effect of the abstract machine is sound: loads, stores, structs made and compared. Conditions: none; this text proves nothing of the program.
-/
import Derived.Test.YtclpoenfcpefmaaGmem
namespace Go.Proofs.Ytclpoenfcpefmaa
open Go Go.RowKit

theorem flat_at {k : Nat} {d : List Int} : ∀ (l : List (List Int)), (∀ x ∈ l, x.length = k) → ∀ q f, q < l.length → f < k → (l.flatMap fun x => x.map vI)[q * k + f]? = some (vI ((l.getD q d).getD f 0))
  | [], _, q, f, hq, _ => by simp at hq
  | x :: l, h, q, f, hq, hf => by
    have hx : x.length = k := h x (by simp)
    cases q with
    | zero =>
      simp only [List.flatMap_cons, Nat.zero_mul, Nat.zero_add]
      rw [List.getElem?_append_left (by simp; omega)]
      simp [hx, hf]
    | succ q =>
      have ih := flat_at (d := d) l (fun y hy => h y (by simp [hy])) q f (by simpa using hq) hf
      simp only [List.flatMap_cons]
      rw [List.getElem?_append_right (by simp [hx, Nat.succ_mul]; omega)]
      have : (q + 1) * k + f - (x.map vI).length = q * k + f := by simp [hx, Nat.succ_mul]; omega
      rw [this, ih]
      simp
theorem flat_length {k : Nat} : ∀ (l : List (List Int)), (∀ x ∈ l, x.length = k) → (l.flatMap fun x => x.map vI).length = l.length * k
  | [], _ => by simp
  | x :: l, h => by
    have hx : x.length = k := h x (by simp)
    have ih := flat_length l (fun y hy => h y (by simp [hy]))
    simp only [List.flatMap_cons, List.length_append, List.length_map, hx, ih, List.length_cons, Nat.succ_mul]
    omega
theorem RC.wf_flat {r : RC} (h : r.wf) : r.flat = true := by cases r <;> first | rfl | exact h.elim
theorem RC.cells_length {r : RC} (h : r.wf) : r.cells.length = r.len * r.sz := by
  cases r with
  | mp n m => exact h.elim
  | grp e k fs n m => exact h.elim
  | rows e f ll => exact h.elim
  | vwp e k R B => exact h.elim
  | ints e l => simp [RC.cells, RC.len, RC.sz]
  | recs e k l => exact flat_length l h.2
  | bools e l => simp [RC.cells, RC.len, RC.sz]

section
variable {c : Ctx} {ops : Array Oper} {o : Oper} {S : St} {R : List Nat}

theorem ibox_cell {w : World} {g t : Nat} {l : List Int} (h : w.heap[g]? = some (.cells (l.map vI).toArray t (0, 0))) (j : Nat) (hj : j < l.length) : w.cell? ⟨g, j, none⟩ = some (vI (l.getD j 0)) := by
  rw [cell_of_row w g j _ t (0, 0) h]
  simp [hj]

/-- A load: what is asked of it. -/
theorem good_load_of {t : Nat} {x : Operand} {av : AV} (hN : ∀ d, o.dst = some d → d < c.N) (hw : Wanted c ops o S) (hop : o.op = .load t x)
    (h : ∀ (S' : SS) (ρ : Nat → Value) (a : Act) (w : World), Agree ops o R (den S) S' → SatR c S' ρ a.tmps w → ∃ v, (Instr.loadAt t (a.eval x)).run c.P w = .ok v w ∧ av.rel ρ v) : Good c ops o (den S) R av.norm [] := by
  refine good_of hN hw fun S' ρ a w hag _ hs hd => ?_
  obtain ⟨v, hr, hv⟩ := h S' ρ a w hag hs
  exact ⟨v, w, ρ, .inl (by simp [execOp, hop, hr]), hs.val hd ((AV.rel_norm ρ _ _).2 hv)⟩

theorem loadR_flat {ti : Option TI} {sz q f : Nat} {r : RC} {e : Eff} (h : loadR ti sz q f r = some e) : r.flat = true := by
  cases r <;> first | rfl | cases h
/-- what a load from a row gives, wherever the row lies -/
theorem loadR_run {P : Program} {w : World} {tab : Tab} (hT : TabOk P tab) {t sz q f : Nat} {r : RC} {e : Eff} (he : loadR (look t tab) sz q f r = some e) (hp : e.pre) (hwf : r.wf) {ad : Addr} (hc : ∀ j v, r.cells[q * sz + f + j]? = some v → w.cell? (ad.add j) = some v) :
    ∃ v, (Instr.loadAt t (.pointer (some ad))).run P w = .ok v w ∧ (∀ ρ, e.val.rel ρ v) ∧ e.wr = [] := by
  unfold loadR at he
  split at he
  · rename_i e0 l
    split at he
    · rename_i hti
      cases hb : (sz == 1 && f == 0) with
      | false => rw [hb] at he; cases he
      | true =>
        rw [hb] at he
        simp only [cond_true, Option.some.injEq] at he; subst he
        simp only [Bool.and_eq_true, beq_iff_eq] at hb
        obtain ⟨hsz, hf⟩ := hb
        have hq : q < l.length := hp
        obtain ⟨hu, _⟩ := tiB_int (hT _ _ hti)
        refine ⟨vI (l.getD q 0), ?_, fun _ => rfl, rfl⟩
        refine run_loadAt_int hu ?_
        have := hc 0 (vI (l.getD q 0)) (by simp [RC.cells, hsz, hf, hq])
        simpa [Addr.add] using this
    · cases he
  · rename_i e0 l
    split at he
    · rename_i hti
      cases hb : (sz == 1 && f == 0) with
      | false => rw [hb] at he; cases he
      | true =>
        rw [hb] at he
        simp only [cond_true, Option.some.injEq] at he; subst he
        simp only [Bool.and_eq_true, beq_iff_eq] at hb
        obtain ⟨hsz, hf⟩ := hb
        have hq : q < l.length := hp
        obtain ⟨hu, _⟩ := tiB_bool (hT _ _ hti)
        refine ⟨.bool (l.getD q false), ?_, fun _ => rfl, rfl⟩
        refine run_loadAt_bool hu ?_
        have := hc 0 (.bool (l.getD q false)) (by simp [RC.cells, hsz, hf, hq])
        simpa [Addr.add] using this
    · cases he
  · rename_i e0 k l
    split at he
    · rename_i hti
      cases hb : (sz == k && Nat.blt f k) with
      | false => rw [hb] at he; cases he
      | true =>
        rw [hb] at he
        simp only [cond_true, Option.some.injEq] at he; subst he
        simp only [Bool.and_eq_true, beq_iff_eq, Nat.blt_eq] at hb
        obtain ⟨hsz, hf⟩ := hb
        have hq : q < l.length := hp
        obtain ⟨hu, _⟩ := tiB_int (hT _ _ hti)
        refine ⟨vI ((l.getD q (List.replicate k 0)).getD f 0), ?_, fun _ => rfl, rfl⟩
        refine run_loadAt_int hu ?_
        have := hc 0 (vI ((l.getD q (List.replicate k 0)).getD f 0)) (by rw [hsz]; exact flat_at l hwf.2 q f hq hf)
        simpa [Addr.add] using this
    · rename_i fs n _ hti
      cases hb : (sz == k && (f == 0 && n == k)) with
      | false => rw [hb] at he; cases he
      | true =>
        rw [hb] at he
        simp only [cond_true, Option.some.injEq] at he; subst he
        simp only [Bool.and_eq_true, beq_iff_eq] at hb
        obtain ⟨hsz, hf, hnk⟩ := hb
        have hq : q < l.length := hp
        obtain ⟨F, i, hu, hi, his, _⟩ := tiB_struct (hT _ _ hti)
        refine ⟨_, ?_, fun _ => rfl, rfl⟩
        refine run_loadAt_agg (run_isAgg_struct hu) hi (by simp; omega) (fun j v hv => hc j v ?_)
        have hj : j < k := by
          have := (List.getElem?_eq_some_iff.1 hv).1
          simpa using this
        rw [hsz, hf, Nat.add_zero]
        have h6 : (l.flatMap fun x => x.map vI)[q * k + j]? = _ := flat_at (d := List.replicate k 0) l hwf.2 q j hq hj
        simp only [RC.cells]
        rw [h6]
        simpa [hj] using hv
    · cases he
  · cases he
/-- the cells of a row with elements -/
theorem FlatRow.at {w : World} {p : Nat → Prop} {r : RC} {v : Value} (h : FlatRow w p r v) : r.wf ∧ ∃ A n cap, v = .slice A n cap ∧ n = r.len ∧ n ≤ cap ∧ cap ≤ maxLen ∧ (A = none → n = 0) ∧ ∀ ad, A = some ad → ∀ j u, r.cells[j]? = some u → w.cell? (ad.add j) = some u := by
  obtain ⟨hwf, hown, _⟩ := h
  refine ⟨hwf, ?_⟩
  rcases hown.2 with ⟨hv, hn⟩ | ⟨g, cap, cur, hv, _, hg, hnc, hcm, _⟩
  · exact ⟨none, 0, 0, hv, hn.symm, Nat.le_refl _, Nat.zero_le _, fun _ => rfl, fun ad h => by cases h⟩
  · exact ⟨_, _, cap, hv, rfl, hnc, hcm, fun h => (by cases h), fun ad h => (by cases h; exact hown.cells (g := g) (by rw [hv]; rfl))⟩
theorem FlatRow.reads {w : World} {p q : Nat → Prop} {r : RC} {v : Value} (h : FlatRow w p r v) (hpq : ∀ k, blkOf v = some k → q k) : FlatReads w q r v := by
  refine ⟨h.1, ?_⟩
  rcases h.2.1.2 with ⟨hv, hn⟩ | ⟨g, cap, cur, hv, _, hg, hnc, hcm, _⟩
  · exact ⟨none, 0, 0, hv, hn.symm, Nat.le_refl _, Nat.zero_le _, fun h0 => absurd h0 (by omega)⟩
  · exact ⟨_, _, cap, hv, rfl, hnc, hcm, fun _ => ⟨_, rfl, hpq g (by rw [hv]; rfl), h.2.1.cells (g := g) (by rw [hv]; rfl)⟩⟩
theorem FlatReads.at {w : World} {p : Nat → Prop} {r : RC} {v : Value} (h : FlatReads w p r v) : r.wf ∧ ∃ A n cap, v = .slice A n cap ∧ n = r.len ∧ n ≤ cap ∧ cap ≤ maxLen ∧ (A = none → n = 0) ∧ ∀ ad, A = some ad → ∀ j u, r.cells[j]? = some u → w.cell? (ad.add j) = some u := by
  obtain ⟨hwf, A, n, cap, hv, hn, hc, hm', hr⟩ := h
  refine ⟨hwf, A, n, cap, hv, hn, hc, hm', fun hA => ?_, fun ad hA j u hu => ?_⟩
  · rcases Nat.eq_zero_or_pos n with h0 | h0
    · exact h0
    · obtain ⟨a, h1, _⟩ := hr h0
      rw [hA] at h1; cases h1
  · rcases Nat.eq_zero_or_pos n with h0 | h0
    · have h1 := RC.cells_length hwf
      rw [← hn, h0, Nat.zero_mul] at h1
      have h2 := (List.getElem?_eq_some_iff.1 hu).1
      omega
    · obtain ⟨a, h1, _, h3⟩ := hr h0
      rw [hA] at h1
      cases h1
      exact h3 j u hu
theorem FlatReads.thin {w : World} {p : Nat → Prop} {r : RC} {v : Value} (h : FlatReads w p r v) : hdV v = v := by
  obtain ⟨_, A, n, cap, hv, _⟩ := h
  rw [hv]; rfl
/-- A row within, and where its value stands. -/
theorem inner_at {w : World} {in_ : Nat → Prop} {cr : RC} {V : Value} {p : Nat} {r : RC} (h : CompRow w in_ cr V) (hr : innerOf (some cr) p = some r) (hp : innerPre (some cr) p) : FlatReads w in_ r (seg V (p + 1)) := by
  cases cr with
  | grp e k fs n m =>
    cases p with
    | succ p => simp [innerOf] at hr
    | zero =>
      simp only [innerOf, Option.some.injEq] at hr; subst hr
      obtain ⟨g, A, b, es, clock, t, rfl, _, _, h3, _⟩ := h
      exact h3.reads h3.2.2
  | rows e f ll =>
    simp only [innerOf, Option.some.injEq] at hr; subst hr
    obtain ⟨O, Is, rfl, hR⟩ := h
    have hp' : p < ll.length := hp
    obtain ⟨I, hI, hf⟩ := hR.inner p (ll.getD p []) (by simp [hp'])
    have : seg (.tuple (O :: Is).toArray) (p + 1) = I := by
      unfold seg
      have hlt := (List.getElem?_eq_some_iff.1 hI).1
      have heq := (List.getElem?_eq_some_iff.1 hI).2
      simp [hlt, heq]
    rw [this]; exact hf.reads hf.2.2
  | vwp e k R B =>
    obtain ⟨W, X, rfl, h1, h2, _⟩ := h
    match p, hr with
    | 0, hr =>
      simp only [innerOf, Option.some.injEq] at hr; subst hr
      exact h1.1
    | 1, hr =>
      simp only [innerOf, Option.some.injEq] at hr; subst hr
      exact h2.reads h2.2.2
    | p + 2, hr => simp [innerOf] at hr
  | _ => simp [innerOf] at hr
theorem loadR_pre {ti : Option TI} {sz q f : Nat} {r : RC} {e : Eff} (he : loadR ti sz q f r = some e) (hp : e.pre) : q < r.len ∧ sz = r.sz ∧ e.wr = [] := by
  unfold loadR at he
  split at he
  · split at he
    · cases hb : (sz == 1 && f == 0) with
      | false => rw [hb] at he; cases he
      | true =>
        rw [hb] at he
        simp only [cond_true, Option.some.injEq] at he; subst he
        simp only [Bool.and_eq_true, beq_iff_eq] at hb
        exact ⟨hp, hb.1, rfl⟩
    · cases he
  · split at he
    · cases hb : (sz == 1 && f == 0) with
      | false => rw [hb] at he; cases he
      | true =>
        rw [hb] at he
        simp only [cond_true, Option.some.injEq] at he; subst he
        simp only [Bool.and_eq_true, beq_iff_eq] at hb
        exact ⟨hp, hb.1, rfl⟩
    · cases he
  · rename_i e0 k l
    split at he
    · cases hb : (sz == k && Nat.blt f k) with
      | false => rw [hb] at he; cases he
      | true =>
        rw [hb] at he
        simp only [cond_true, Option.some.injEq] at he; subst he
        simp only [Bool.and_eq_true, beq_iff_eq] at hb
        exact ⟨hp, hb.1, rfl⟩
    · rename_i fs n by_
      cases hb : (sz == k && (f == 0 && n == k)) with
      | false => rw [hb] at he; cases he
      | true =>
        rw [hb] at he
        simp only [cond_true, Option.some.injEq] at he; subst he
        simp only [Bool.and_eq_true, beq_iff_eq] at hb
        exact ⟨hp, hb.1, rfl⟩
    · cases he
  · cases he

theorem good_load {tab : Tab} (hT : TabOk c.P tab) {t : Nat} {x : Operand} {e : Eff} (hN : ∀ d, o.dst = some d → d < c.N) (hw : Wanted c ops o S) (hop : o.op = .load t x) (he : effLoad (look t tab) S (S.eval x) = some e) (hp : e.pre) (hR : ∀ h ∈ (S.eval x).hs, h ∈ R) : Good c ops o (den S) R e.val.norm (normWr e.wr) := by
  have hxin : x ∈ o.op.operands.toList := by simp [hop, Op.operands]
  unfold effLoad at he
  split at he
  · rename_i h off hx
    have hh : h ∈ R := hR h (by rw [hx]; simp [AV.hs, A0.hs])
    split at he
    · -- a box of integers
      rename_i t' l hm
      have at_ : ∀ (S' : SS) (ρ : Nat → Value) (a : Act) (w : World), Agree ops o R (den S) S' → SatR c S' ρ a.tmps w → ∃ g, a.eval x = .pointer (some ⟨g, off, none⟩) ∧ w.heap[g]? = some (.cells (l.map vI).toArray t' (0, 0)) := by
        intro S' ρ a w hag hs
        obtain ⟨g, h1, h2⟩ := ibox_at hs (mem_at hag hh hm)
        have h3 := eval_rel hag hs hxin
        rw [hx] at h3
        have h4 : a.eval x = addTo (ρ h) off := h3
        exact ⟨g, by rw [h4, h1, addTo_ptr], h2⟩
      have agg : ∀ n, (∀ w, (isAgg t).run c.P w = .ok true w) → (∃ i, c.P.info? t = some i ∧ i.size = n) → off + n ≤ l.length → Good c ops o (den S) R (AV.norm (.one (.s ((l.drop off).take n)))) [] := by
        intro n hagg ⟨i, hi, hin⟩ hfit
        refine good_load_of hN hw hop fun S' ρ a w hag hs => ?_
        obtain ⟨g, ha, hg⟩ := at_ S' ρ a w hag hs
        refine ⟨_, ?_, rfl⟩
        rw [ha]
        refine run_loadAt_agg (hagg w) hi ?_ ?_
        · simp; omega
        · intro j v hv
          rw [add_lit]
          have hj : j < n := by
            have := (List.getElem?_eq_some_iff.1 hv).1
            simp at this; omega
          rw [ibox_cell hg _ (by omega)]
          simp [hj] at hv
          obtain ⟨y, hy, rfl⟩ := hv
          simp [hy]
      unfold loadI at he
      split at he
      · -- an integer
        rename_i hti
        split at he
        · rename_i n hn
          simp only [val1, Option.some.injEq] at he; subst he
          refine good_load_of hN hw hop fun S' ρ a w hag hs => ?_
          obtain ⟨g, ha, hg⟩ := at_ S' ρ a w hag hs
          obtain ⟨hu, _⟩ := tiB_int (hT _ _ hti)
          refine ⟨vI n, ?_, rfl⟩
          rw [ha]
          refine run_loadAt_int hu ?_
          have hlt := (List.getElem?_eq_some_iff.1 hn).1
          rw [ibox_cell hg _ hlt]
          simp [hn]
        · cases he
      · rename_i hti
        obtain ⟨F, i, hu, hi, hs, _⟩ := tiB_struct (hT _ _ hti)
        cases hb : Nat.ble (off + _) l.length with
        | false => rw [hb] at he; cases he
        | true =>
          rw [hb] at he
          simp only [cond_true, val1, Option.some.injEq] at he; subst he
          exact agg _ (fun w => run_isAgg_struct hu) ⟨i, hi, hs⟩ (Nat.le_of_ble_eq_true hb)
      · rename_i hti
        obtain ⟨i, ei, hu, hi, hs, _⟩ := tiB_array (hT _ _ hti)
        cases hb : Nat.ble (off + _) l.length with
        | false => rw [hb] at he; cases he
        | true =>
          rw [hb] at he
          simp only [cond_true, val1, Option.some.injEq] at he; subst he
          exact agg _ (fun w => run_isAgg_array hu) ⟨i, hi, hs⟩ (Nat.le_of_ble_eq_true hb)
      · cases he
    · -- a box of values
      rename_i t' cs hm
      have cell : ∀ (a0 : A0), cs[off]? = some a0 → ∀ (S' : SS) (ρ : Nat → Value) (a : Act) (w : World), Agree ops o R (den S) S' → SatR c S' ρ a.tmps w → ∃ ad v, a.eval x = .pointer (some ad) ∧ w.cell? ad = some v ∧ a0.rel ρ v := by
        intro a0 ha0 S' ρ a w hag hs
        obtain ⟨g, arr, h1, h2, h3, h4⟩ := box_at (t := t') (cs := cs.map A0.norm) hs (mem_at hag hh hm)
        have h5 := eval_rel hag hs hxin
        rw [hx] at h5
        have h6 : a.eval x = addTo (ρ h) off := h5
        obtain ⟨v, hv, hr⟩ := h4 off a0.norm (by simp [ha0])
        refine ⟨⟨g, off, none⟩, v, by rw [h6, h1, addTo_ptr], ?_, (A0.rel_norm ρ a0 v).1 hr⟩
        rw [cell_of_row w g off arr t' (0, 0) h2]; exact hv
      unfold load1 at he
      split at he
      · rename_i a0 ha0
        split at he
        · rename_i hti
          simp only [val1, Option.some.injEq] at he; subst he
          refine good_load_of hN hw hop fun S' ρ a w hag hs => ?_
          obtain ⟨ad, v, ha, hc, hr⟩ := cell a0 ha0 S' ρ a w hag hs
          obtain ⟨hu, _⟩ := tiB_int (hT _ _ hti)
          exact ⟨v, by rw [ha]; exact run_loadAt_int hu hc, hr⟩
        · rename_i hti
          simp only [val1, Option.some.injEq] at he; subst he
          refine good_load_of hN hw hop fun S' ρ a w hag hs => ?_
          obtain ⟨ad, v, ha, hc, hr⟩ := cell a0 ha0 S' ρ a w hag hs
          obtain ⟨hu, _⟩ := tiB_bool (hT _ _ hti)
          exact ⟨v, by rw [ha]; exact run_loadAt_bool hu hc, hr⟩
        · cases he
      · cases he
    · cases he
  · rename_i h sz q f hx
    have hh : h ∈ R := hR h (by rw [hx]; simp [AV.hs, A0.hs])
    have rowcase : ∀ (r : RC) (en : Entry), look h S.mem = some en → entryRow (some en) = some r → en.norm = en → loadR (look t tab) sz q f r = some e → Good c ops o (den S) R e.val.norm (normWr e.wr) := by
      intro r en hm hen hnorm he
      have at_ : q < r.len → sz = r.sz → ∀ (S' : SS) (ρ : Nat → Value) (a : Act) (w : World), Agree ops o R (den S) S' → SatR c S' ρ a.tmps w → r.wf ∧ ∃ ad : Addr, a.eval x = .pointer (some ad) ∧ ∀ j v, r.cells[q * sz + f + j]? = some v → w.cell? (ad.add j) = some v := by
        intro hq hsz S' ρ a w hag hs
        have hm' := mem_at hag hh hm
        rw [hnorm] at hm'
        obtain ⟨hwf, A, n, cap, h1, h2, _, _, h5⟩ := row_at hs hm' hen
        obtain ⟨ad, hA, hc⟩ := h5 (by omega)
        subst hA
        have h3 := eval_rel hag hs hxin
        rw [hx] at h3
        have h4 : a.eval x = addTo (ρ h) (q * sz + f) := h3
        refine ⟨hwf, ad.add (q * sz + f), by rw [h4, h1]; rfl, fun j v hv => ?_⟩
        rw [add_add]
        exact hc _ v hv
      obtain ⟨hq, hsz, hwr⟩ := loadR_pre he hp
      rw [hwr]
      refine good_load_of hN hw hop fun S' ρ a w hag hs => ?_
      obtain ⟨hwf, ad, ha, hc⟩ := at_ hq hsz S' ρ a w hag hs
      rw [ha]
      obtain ⟨v, h5, h6, _⟩ := loadR_run (P := c.P) (w := w) hT he hp hwf hc
      exact ⟨v, h5, h6 ρ⟩
    split at he
    · rename_i r hm; exact rowcase r _ hm (by simp [entryRow, loadR_flat he]) rfl he
    · rename_i r hm; exact rowcase r _ hm (by simp [entryRow, loadR_flat he]) rfl he
    · rename_i t' l hm
      split at he
      · rename_i hti
        simp only [Option.some.injEq] at he; subst he
        have hq : q * sz + f < l.length := hp
        refine good_load_of hN hw hop fun S' ρ a w hag hs => ?_
        obtain ⟨g, h1, h2⟩ := ibox_at hs (mem_at hag hh hm)
        have h3 := eval_rel hag hs hxin
        rw [hx] at h3
        have h4 : a.eval x = addTo (ρ h) (q * sz + f) := h3
        obtain ⟨hu, _⟩ := tiB_int (hT _ _ hti)
        refine ⟨vI (l.getD (q * sz + f) 0), ?_, rfl⟩
        rw [h4, h1, addTo_ptr]
        exact run_loadAt_int hu (ibox_cell h2 _ hq)
      · cases he
    · cases he
  · -- a cell of the first value
    rename_i h q hx
    have hh : h ∈ R := hR h (by rw [hx]; simp [AV.hs, A0.hs])
    have evx : ∀ (S' : SS) (ρ : Nat → Value) (a : Act) (w : World), Agree ops o R (den S) S' → SatR c S' ρ a.tmps w → a.eval x = addTo (seg (ρ h) 0) q := by
      intro S' ρ a w hag hs
      have h3 := eval_rel hag hs hxin
      rw [hx] at h3
      exact h3
    unfold loadO at he
    split at he
    · rename_i _ _ _ _ _ hcr
      split at he
      · rename_i hti
        cases hb : (q == 0) with
        | false => rw [hb] at he; cases he
        | true =>
        rw [hb] at he
        simp only [cond_true, val1, Option.some.injEq] at he; subst he
        have hq : q = 0 := by simpa using hb
        subst hq
        have hu := tiB_slice (hT _ _ hti)
        refine good_load_of hN hw hop fun S' ρ a w hag hs => ?_
        obtain ⟨in_, g, A, b, es, clock, t', hv, _, hg, _⟩ := comp_of hag hs hh hcr
        refine ⟨A, ?_, ?_⟩
        · rw [evx S' ρ a w hag hs, hv]
          refine run_loadAt_slice hu (a := (⟨g, 0, none⟩ : Addr).add 0) ?_
          rw [add0, cell_of_row w g 0 _ t' (0, 0) hg]; rfl
        · show A = seg (ρ h) 1
          rw [hv]; rfl
      · rename_i hti
        cases hb : (q == 1) with
        | false => rw [hb] at he; cases he
        | true =>
        rw [hb] at he
        simp only [cond_true, val1, Option.some.injEq] at he; subst he
        have hq : q = 1 := by simpa using hb
        subst hq
        have hu := tiB_map (hT _ _ hti)
        refine good_load_of hN hw hop fun S' ρ a w hag hs => ?_
        obtain ⟨in_, g, A, b, es, clock, t', hv, _, hg, _⟩ := comp_of hag hs hh hcr
        refine ⟨.map (some b), ?_, ?_⟩
        · rw [evx S' ρ a w hag hs, hv]
          refine run_loadAt_map hu (a := (⟨g, 0, none⟩ : Addr).add 1) ?_
          rw [add0, cell_of_row w g 1 _ t' (0, 0) hg]; rfl
        · show Value.map (some b) = seg (ρ h) 2
          rw [hv]; rfl
      · cases he
    · rename_i _ _ ll hcr
      split at he
      case h_2 => cases he
      rename_i hti
      simp only [Option.some.injEq] at he; subst he
      have hq : q < ll.length := hp
      have hu := tiB_slice (hT _ _ hti)
      refine good_load_of hN hw hop fun S' ρ a w hag hs => ?_
      obtain ⟨in_, O, Is, hv, hr⟩ := comp_of hag hs hh hcr
      obtain ⟨I, hI, _⟩ := hr.inner q ll[q] (by simp [hq])
      refine ⟨I, ?_, ?_⟩
      · rw [evx S' ρ a w hag hs, hv]
        show (Instr.loadAt t (addTo O q)).run c.P w = _
        rcases hr.outer.2 with ⟨_, hn⟩ | ⟨g, cap, cur, hO, _⟩
        · omega
        · have hc := hr.outer.cells (g := g) (by rw [hO]; rfl) q I hI
          rw [hO]
          exact run_loadAt_slice hu hc
      · show I = seg (ρ h) (q + 1)
        rw [hv]
        have hlt := (List.getElem?_eq_some_iff.1 hI).1
        have heq := (List.getElem?_eq_some_iff.1 hI).2
        simp [seg, hlt, heq]
    · cases he
  · -- a cell of a row within
    rename_i h p sz q f hx
    have hh : h ∈ R := hR h (by rw [hx]; simp [AV.hs, A0.hs])
    unfold loadN at he
    split at he
    case h_2 => cases he
    rename_i r hr
    split at he
    case h_2 => cases he
    rename_i e' he'
    simp only [Option.some.injEq] at he; subst he
    obtain ⟨hp1, hp2⟩ := hp
    cases hcr : compOf (look h S.mem) with
    | none => rw [hcr] at hr; simp [innerOf] at hr
    | some cr =>
    rw [hcr] at hr hp1
    show Good c ops o (den S) R e'.val.norm []
    refine good_load_of hN hw hop fun S' ρ a w hag hs => ?_
    obtain ⟨in_, hc⟩ := comp_of hag hs hh hcr
    have hin := inner_at hc hr hp1
    obtain ⟨hwf, A, n, cap, hv, hn, _, _, hA0, hcell⟩ := hin.at
    have h3 := eval_rel hag hs hxin
    rw [hx] at h3
    have h4 : a.eval x = addTo (seg (ρ h) (p + 1)) (q * sz + f) := h3
    have hpos : A ≠ none := by
      intro hA
      have h0 := hA0 hA
      have hq := (loadR_pre he' hp2).1
      omega
    cases A with
    | none => exact absurd rfl hpos
    | some ad =>
      rw [h4, hv]
      show ∃ v, (Instr.loadAt t (.pointer (some (ad.add (q * sz + f))))).run c.P w = .ok v w ∧ _
      obtain ⟨v, h5, h6, _⟩ := loadR_run (P := c.P) hT he' hp2 hwf (ad := ad.add (q * sz + f)) (w := w) fun j v hj => by rw [add_add]; exact hcell ad rfl _ v hj
      exact ⟨v, h5, h6 ρ⟩
  · cases he
end
end Go.Proofs.Ytclpoenfcpefmaa

/-
  Each effect of the abstract machine is sound: loads, stores, structs made and compared. Conditions: none; this text proves nothing of the program.
-/
import Derived.Test.YthjmjacniemfiabGmem
namespace Go.Proofs.Ythjmjacniemfiab
open Go Go.RowKit

theorem flat_at {k : Nat} {d : List Int} : ∀ (l : List (List Int)), (∀ x ∈ l, x.length = k) → ∀ q f, q < l.length → f < k → (l.flatMap fun x => x.map vI)[q * k + f]? = some (vI ((l.getD q d).getD f 0))
  | [], _, q, f, hq, _ => by simp at hq
  | x :: l, h, q, f, hq, hf => by
    have hx : x.length = k := h x (by simp)
    cases q with
    | zero =>
      simp only [List.flatMap_cons, Nat.zero_mul, Nat.zero_add]
      rw [List.getElem?_append_left (by simp; omega)]
      simp [hx, hf]
    | succ q =>
      have ih := flat_at (d := d) l (fun y hy => h y (by simp [hy])) q f (by simpa using hq) hf
      simp only [List.flatMap_cons]
      rw [List.getElem?_append_right (by simp [hx, Nat.succ_mul]; omega)]
      have : (q + 1) * k + f - (x.map vI).length = q * k + f := by simp [hx, Nat.succ_mul]; omega
      rw [this, ih]
      simp
theorem flat_length {k : Nat} : ∀ (l : List (List Int)), (∀ x ∈ l, x.length = k) → (l.flatMap fun x => x.map vI).length = l.length * k
  | [], _ => by simp
  | x :: l, h => by
    have hx : x.length = k := h x (by simp)
    have ih := flat_length l (fun y hy => h y (by simp [hy]))
    simp only [List.flatMap_cons, List.length_append, List.length_map, hx, ih, List.length_cons, Nat.succ_mul]
    omega
theorem RC.cells_length {r : RC} (h : r.wf) : r.cells.length = r.len * r.sz := by
  cases r with
  | ints e l => simp [RC.cells, RC.len, RC.sz]
  | recs e k l => exact flat_length l h.2
  | bools e l => simp [RC.cells, RC.len, RC.sz]

section
variable {c : Ctx} {ops : Array Oper} {o : Oper} {S : St} {R : List Nat}

theorem ibox_cell {w : World} {g t : Nat} {l : List Int} (h : w.heap[g]? = some (.cells (l.map vI).toArray t (0, 0))) (j : Nat) (hj : j < l.length) : w.cell? ⟨g, j, none⟩ = some (vI (l.getD j 0)) := by
  rw [cell_of_row w g j _ t (0, 0) h]
  simp [hj]

/-- A load: what is asked of it. -/
theorem good_load_of {t : Nat} {x : Operand} {av : AV} (hN : ∀ d, o.dst = some d → d < c.N) (hw : Wanted c ops o S) (hop : o.op = .load t x)
    (h : ∀ (S' : SS) (ρ : Nat → Value) (a : Act) (w : World), Agree ops o R (den S) S' → SatR c S' ρ a.tmps w → ∃ v, (Instr.loadAt t (a.eval x)).run c.P w = .ok v w ∧ av.rel ρ v) : Good c ops o (den S) R av.norm [] := by
  refine good_of hN hw fun S' ρ a w hag _ hs hd => ?_
  obtain ⟨v, hr, hv⟩ := h S' ρ a w hag hs
  exact ⟨v, w, ρ, .inl (by simp [execOp, hop, hr]), hs.val hd ((AV.rel_norm ρ _ _).2 hv)⟩

theorem good_load {tab : Tab} (hT : TabOk c.P tab) {t : Nat} {x : Operand} {e : Eff} (hN : ∀ d, o.dst = some d → d < c.N) (hw : Wanted c ops o S) (hop : o.op = .load t x) (he : effLoad (look t tab) S (S.eval x) = some e) (hp : e.pre) (hR : ∀ h ∈ (S.eval x).hs, h ∈ R) : Good c ops o (den S) R e.val.norm (normWr e.wr) := by
  have hxin : x ∈ o.op.operands.toList := by simp [hop, Op.operands]
  unfold effLoad at he
  split at he
  · rename_i h off hx
    have hh : h ∈ R := hR h (by rw [hx]; simp [AV.hs, A0.hs])
    split at he
    · -- a box of integers
      rename_i t' l hm
      have at_ : ∀ (S' : SS) (ρ : Nat → Value) (a : Act) (w : World), Agree ops o R (den S) S' → SatR c S' ρ a.tmps w → ∃ g, a.eval x = .pointer (some ⟨g, off, none⟩) ∧ w.heap[g]? = some (.cells (l.map vI).toArray t' (0, 0)) := by
        intro S' ρ a w hag hs
        obtain ⟨g, h1, h2⟩ := ibox_at hs (mem_at hag hh hm)
        have h3 := eval_rel hag hs hxin
        rw [hx] at h3
        have h4 : a.eval x = addTo (ρ h) off := h3
        exact ⟨g, by rw [h4, h1, addTo_ptr], h2⟩
      have agg : ∀ n, (∀ w, (isAgg t).run c.P w = .ok true w) → (∃ i, c.P.info? t = some i ∧ i.size = n) → off + n ≤ l.length → Good c ops o (den S) R (AV.norm (.one (.s ((l.drop off).take n)))) [] := by
        intro n hagg ⟨i, hi, hin⟩ hfit
        refine good_load_of hN hw hop fun S' ρ a w hag hs => ?_
        obtain ⟨g, ha, hg⟩ := at_ S' ρ a w hag hs
        refine ⟨_, ?_, rfl⟩
        rw [ha]
        refine run_loadAt_agg (hagg w) hi ?_ ?_
        · simp; omega
        · intro j v hv
          rw [add_lit]
          have hj : j < n := by
            have := (List.getElem?_eq_some_iff.1 hv).1
            simp at this; omega
          rw [ibox_cell hg _ (by omega)]
          simp [hj] at hv
          obtain ⟨y, hy, rfl⟩ := hv
          simp [hy]
      unfold loadI at he
      split at he
      · -- an integer
        rename_i hti
        split at he
        · rename_i n hn
          simp only [val1, Option.some.injEq] at he; subst he
          refine good_load_of hN hw hop fun S' ρ a w hag hs => ?_
          obtain ⟨g, ha, hg⟩ := at_ S' ρ a w hag hs
          obtain ⟨hu, _⟩ := tiB_int (hT _ _ hti)
          refine ⟨vI n, ?_, rfl⟩
          rw [ha]
          refine run_loadAt_int hu ?_
          have hlt := (List.getElem?_eq_some_iff.1 hn).1
          rw [ibox_cell hg _ hlt]
          simp [hn]
        · cases he
      · rename_i hti
        obtain ⟨F, i, hu, hi, hs, _⟩ := tiB_struct (hT _ _ hti)
        cases hb : Nat.ble (off + _) l.length with
        | false => rw [hb] at he; cases he
        | true =>
          rw [hb] at he
          simp only [cond_true, val1, Option.some.injEq] at he; subst he
          exact agg _ (fun w => run_isAgg_struct hu) ⟨i, hi, hs⟩ (Nat.le_of_ble_eq_true hb)
      · rename_i hti
        obtain ⟨i, ei, hu, hi, hs, _⟩ := tiB_array (hT _ _ hti)
        cases hb : Nat.ble (off + _) l.length with
        | false => rw [hb] at he; cases he
        | true =>
          rw [hb] at he
          simp only [cond_true, val1, Option.some.injEq] at he; subst he
          exact agg _ (fun w => run_isAgg_array hu) ⟨i, hi, hs⟩ (Nat.le_of_ble_eq_true hb)
      · cases he
    · -- a box of values
      rename_i t' cs hm
      have cell : ∀ (a0 : A0), cs[off]? = some a0 → ∀ (S' : SS) (ρ : Nat → Value) (a : Act) (w : World), Agree ops o R (den S) S' → SatR c S' ρ a.tmps w → ∃ ad v, a.eval x = .pointer (some ad) ∧ w.cell? ad = some v ∧ a0.rel ρ v := by
        intro a0 ha0 S' ρ a w hag hs
        obtain ⟨g, arr, h1, h2, h3, h4⟩ := box_at (t := t') (cs := cs.map A0.norm) hs (mem_at hag hh hm)
        have h5 := eval_rel hag hs hxin
        rw [hx] at h5
        have h6 : a.eval x = addTo (ρ h) off := h5
        obtain ⟨v, hv, hr⟩ := h4 off a0.norm (by simp [ha0])
        refine ⟨⟨g, off, none⟩, v, by rw [h6, h1, addTo_ptr], ?_, (A0.rel_norm ρ a0 v).1 hr⟩
        rw [cell_of_row w g off arr t' (0, 0) h2]; exact hv
      unfold load1 at he
      split at he
      · rename_i a0 ha0
        split at he
        · rename_i hti
          simp only [val1, Option.some.injEq] at he; subst he
          refine good_load_of hN hw hop fun S' ρ a w hag hs => ?_
          obtain ⟨ad, v, ha, hc, hr⟩ := cell a0 ha0 S' ρ a w hag hs
          obtain ⟨hu, _⟩ := tiB_int (hT _ _ hti)
          exact ⟨v, by rw [ha]; exact run_loadAt_int hu hc, hr⟩
        · rename_i hti
          simp only [val1, Option.some.injEq] at he; subst he
          refine good_load_of hN hw hop fun S' ρ a w hag hs => ?_
          obtain ⟨ad, v, ha, hc, hr⟩ := cell a0 ha0 S' ρ a w hag hs
          obtain ⟨hu, _⟩ := tiB_bool (hT _ _ hti)
          exact ⟨v, by rw [ha]; exact run_loadAt_bool hu hc, hr⟩
        · cases he
      · cases he
    · cases he
  · rename_i h sz q f hx
    have hh : h ∈ R := hR h (by rw [hx]; simp [AV.hs, A0.hs])
    have rowcase : ∀ (r : RC) (en : Entry), look h S.mem = some en → entryRow (some en) = some r → en.norm = en → loadR (look t tab) sz q f r = some e → Good c ops o (den S) R e.val.norm (normWr e.wr) := by
      intro r en hm hen hnorm he
      have at_ : q < r.len → sz = r.sz → ∀ (S' : SS) (ρ : Nat → Value) (a : Act) (w : World), Agree ops o R (den S) S' → SatR c S' ρ a.tmps w → r.wf ∧ ∃ ad : Addr, a.eval x = .pointer (some ad) ∧ ∀ j v, r.cells[q * sz + f + j]? = some v → w.cell? (ad.add j) = some v := by
        intro hq hsz S' ρ a w hag hs
        have hm' := mem_at hag hh hm
        rw [hnorm] at hm'
        obtain ⟨hwf, A, n, cap, h1, h2, _, _, h5⟩ := row_at hs hm' hen
        obtain ⟨ad, hA, hc⟩ := h5 (by omega)
        subst hA
        have h3 := eval_rel hag hs hxin
        rw [hx] at h3
        have h4 : a.eval x = addTo (ρ h) (q * sz + f) := h3
        refine ⟨hwf, ad.add (q * sz + f), by rw [h4, h1]; rfl, fun j v hv => ?_⟩
        rw [add_add]
        exact hc _ v hv
      unfold loadR at he
      split at he
      · -- integers
        rename_i e0 l
        split at he
        · rename_i hti
          cases hb : (sz == 1 && f == 0) with
          | false => rw [hb] at he; cases he
          | true =>
            rw [hb] at he
            simp only [cond_true, Option.some.injEq] at he; subst he
            simp only [Bool.and_eq_true, beq_iff_eq] at hb
            obtain ⟨hsz, hf⟩ := hb
            have hq : q < l.length := hp
            refine good_load_of hN hw hop fun S' ρ a w hag hs => ?_
            obtain ⟨_, ad, ha, hc⟩ := at_ hq hsz S' ρ a w hag hs
            obtain ⟨hu, _⟩ := tiB_int (hT _ _ hti)
            refine ⟨vI (l.getD q 0), ?_, rfl⟩
            rw [ha]
            refine run_loadAt_int hu ?_
            have := hc 0 (vI (l.getD q 0)) (by simp [RC.cells, hsz, hf, hq])
            simpa [Addr.add] using this
        · cases he
      · -- bools
        rename_i e0 l
        split at he
        · rename_i hti
          cases hb : (sz == 1 && f == 0) with
          | false => rw [hb] at he; cases he
          | true =>
            rw [hb] at he
            simp only [cond_true, Option.some.injEq] at he; subst he
            simp only [Bool.and_eq_true, beq_iff_eq] at hb
            obtain ⟨hsz, hf⟩ := hb
            have hq : q < l.length := hp
            refine good_load_of hN hw hop fun S' ρ a w hag hs => ?_
            obtain ⟨_, ad, ha, hc⟩ := at_ hq hsz S' ρ a w hag hs
            obtain ⟨hu, _⟩ := tiB_bool (hT _ _ hti)
            refine ⟨.bool (l.getD q false), ?_, rfl⟩
            rw [ha]
            refine run_loadAt_bool hu ?_
            have := hc 0 (.bool (l.getD q false)) (by simp [RC.cells, hsz, hf, hq])
            simpa [Addr.add] using this
        · cases he
      · -- structs
        rename_i e0 k l
        split at he
        · rename_i hti
          cases hb : (sz == k && Nat.blt f k) with
          | false => rw [hb] at he; cases he
          | true =>
            rw [hb] at he
            simp only [cond_true, Option.some.injEq] at he; subst he
            simp only [Bool.and_eq_true, beq_iff_eq, Nat.blt_eq] at hb
            obtain ⟨hsz, hf⟩ := hb
            have hq : q < l.length := hp
            refine good_load_of hN hw hop fun S' ρ a w hag hs => ?_
            obtain ⟨hwf, ad, ha, hc⟩ := at_ hq hsz S' ρ a w hag hs
            obtain ⟨hu, _⟩ := tiB_int (hT _ _ hti)
            refine ⟨vI ((l.getD q (List.replicate k 0)).getD f 0), ?_, rfl⟩
            rw [ha]
            refine run_loadAt_int hu ?_
            have := hc 0 (vI ((l.getD q (List.replicate k 0)).getD f 0)) (by rw [hsz]; exact flat_at l hwf.2 q f hq hf)
            simpa [Addr.add] using this
        · rename_i fs n _ hti
          cases hb : (sz == k && (f == 0 && n == k)) with
          | false => rw [hb] at he; cases he
          | true =>
            rw [hb] at he
            simp only [cond_true, Option.some.injEq] at he; subst he
            simp only [Bool.and_eq_true, beq_iff_eq] at hb
            obtain ⟨hsz, hf, hnk⟩ := hb
            have hq : q < l.length := hp
            refine good_load_of hN hw hop fun S' ρ a w hag hs => ?_
            obtain ⟨hwf, ad, ha, hc⟩ := at_ hq hsz S' ρ a w hag hs
            obtain ⟨F, i, hu, hi, his, _⟩ := tiB_struct (hT _ _ hti)
            refine ⟨_, ?_, rfl⟩
            rw [ha]
            refine run_loadAt_agg (run_isAgg_struct hu) hi (by simp; omega) (fun j v hv => hc j v ?_)
            have hj : j < k := by
              have := (List.getElem?_eq_some_iff.1 hv).1
              simpa using this
            rw [hsz, hf, Nat.add_zero]
            have h6 : (l.flatMap fun x => x.map vI)[q * k + j]? = _ := flat_at (d := List.replicate k 0) l hwf.2 q j hq hj
            simp only [RC.cells]
            rw [h6]
            simpa [hj] using hv
        · cases he
    split at he
    · rename_i r hm; exact rowcase r _ hm rfl rfl he
    · rename_i r hm; exact rowcase r _ hm rfl rfl he
    · rename_i t' l hm
      split at he
      · rename_i hti
        simp only [Option.some.injEq] at he; subst he
        have hq : q * sz + f < l.length := hp
        refine good_load_of hN hw hop fun S' ρ a w hag hs => ?_
        obtain ⟨g, h1, h2⟩ := ibox_at hs (mem_at hag hh hm)
        have h3 := eval_rel hag hs hxin
        rw [hx] at h3
        have h4 : a.eval x = addTo (ρ h) (q * sz + f) := h3
        obtain ⟨hu, _⟩ := tiB_int (hT _ _ hti)
        refine ⟨vI (l.getD (q * sz + f) 0), ?_, rfl⟩
        rw [h4, h1, addTo_ptr]
        exact run_loadAt_int hu (ibox_cell h2 _ hq)
      · cases he
    · cases he
  · cases he
end
end Go.Proofs.Ythjmjacniemfiab

/-
  Each effect of the abstract machine is sound: slices made, read, cut and appended to. Conditions: none; this text proves nothing of the program.
-/
import Derived.Test.YtclpoenfcpefmaaGslice
namespace Go.Proofs.Ytclpoenfcpefmaa
open Go Go.RowKit

section
variable {c : Ctx} {ops : Array Oper} {o : Oper} {S : St} {R : List Nat}

/-! #### a row of given elements -/
theorem fill_row {sz : Nat} : ∀ (vs : List Value) (i0 : Nat) (ca : Array Value), (∀ v ∈ vs, v.cells.size = sz) → (i0 + vs.length) * sz ≤ ca.size →
    ∃ arr, Instr.fill (fun i => some (i * sz, sz)) ca (vs.zipIdx i0 |>.map fun p => (p.2, p.1)) = some arr ∧ arr.size = ca.size ∧ arr.toList = ca.toList.take (i0 * sz) ++ vs.flatMap (·.cells.toList) ++ ca.toList.drop ((i0 + vs.length) * sz)
  | [], i0, ca, _, _ => ⟨ca, rfl, rfl, by simp⟩
  | v :: vs, i0, ca, h, hfit => by
    have hv : v.cells.size = sz := h v (by simp)
    simp only [List.length_cons] at hfit
    have hmul : (i0 + (vs.length + 1)) * sz = i0 * sz + sz + vs.length * sz := by rw [Nat.add_mul, Nat.succ_mul]; omega
    have hsm : i0 * sz + sz ≤ ca.size := by omega
    simp only [List.zipIdx_cons, List.map_cons, Instr.fill]
    have hf := fold_cells (cs := ca) (off := i0 * sz) (v := v) (by omega)
    have hsize : (v.cells.zipIdx.foldl (fun cs (c, j) => cs.setIfInBounds (i0 * sz + j) c) ca).size = ca.size := by
      have h1 := congrArg List.length hf
      simp only [Array.length_toList, List.length_append, List.length_take, List.length_drop] at h1
      rw [h1]; omega
    obtain ⟨arr, h1, h2, h3⟩ := fill_row vs (i0 + 1) (v.cells.zipIdx.foldl (fun cs (c, j) => cs.setIfInBounds (i0 * sz + j) c) ca) (fun x hx => h x (by simp [hx])) (by rw [hsize, Nat.add_mul, Nat.succ_mul]; omega)
    refine ⟨arr, ?_, by rw [h2, hsize], ?_⟩
    · rw [if_neg (by simp [hv]; omega)]
      exact h1
    · rw [h3, hf, hv]
      have hl : (ca.toList.take (i0 * sz) ++ v.cells.toList).length = i0 * sz + sz := by simp [hv]; omega
      have e1 : (ca.toList.take (i0 * sz) ++ v.cells.toList ++ ca.toList.drop (i0 * sz + sz)).take ((i0 + 1) * sz) = ca.toList.take (i0 * sz) ++ v.cells.toList := by
        rw [Nat.succ_mul, List.take_append, hl, List.take_of_length_le (by omega)]
        simp
      have e2 : (ca.toList.take (i0 * sz) ++ v.cells.toList ++ ca.toList.drop (i0 * sz + sz)).drop ((i0 + 1 + vs.length) * sz) = ca.toList.drop ((i0 + (vs.length + 1)) * sz) := by
        rw [List.drop_append, hl, List.drop_of_length_le (by rw [hl, Nat.add_mul, Nat.succ_mul]; omega), List.drop_drop]
        simp only [List.nil_append]
        congr 1
        rw [hmul, Nat.add_mul, Nat.succ_mul]
        omega
      rw [e1, e2]
      simp

theorem allParts_spec {n : Nat} : ∀ (ps : List (Nat × AV)) (i : Nat) (avs : List AV), allParts n ps i = some avs → ps = (avs.zipIdx i).map (fun p => (p.2, p.1)) ∧ i + avs.length = n
  | [], i, avs, h => by
    simp only [allParts] at h
    cases hb : i == n with
    | false => rw [hb] at h; cases h
    | true => rw [hb] at h; simp only [cond_true, Option.some.injEq] at h; subst h; exact ⟨rfl, by simpa using hb⟩
  | p :: r, i, avs, h => by
    simp only [allParts] at h
    cases hb : p.1 == i with
    | false => rw [hb] at h; cases h
    | true =>
      rw [hb] at h
      simp only [cond_true, Option.map_eq_some_iff] at h
      obtain ⟨l, hl, rfl⟩ := h
      obtain ⟨h1, h2⟩ := allParts_spec r (i + 1) l hl
      have hp : p = (i, p.2) := by cases p; simp_all
      refine ⟨?_, by simp; omega⟩
      rw [h1, hp]
      simp

theorem ivs_spec {ρ : Nat → Value} : ∀ (avs : List AV) (l : List Int) (us : List Value), ivs avs = some l → us.length = avs.length → (∀ (j : Nat) (a : AV), avs[j]? = some a → ∃ u, us[j]? = some u ∧ a.rel ρ u) → us = l.map vI
  | [], l, us, h, hl, _ => by simp only [ivs, Option.some.injEq] at h; subst h; exact List.eq_nil_of_length_eq_zero hl
  | a :: avs, l, us, h, hl, hr => by
    unfold ivs at h
    split at h
    · rename_i heq; cases heq
    · rename_i x l' heq
      simp only [List.cons.injEq] at heq
      obtain ⟨rfl, rfl⟩ := heq
      simp only [Option.map_eq_some_iff] at h
      obtain ⟨m, hm, rfl⟩ := h
      cases us with
      | nil => simp at hl
      | cons u us =>
        obtain ⟨u', hu, hru⟩ := hr 0 _ rfl
        simp only [List.getElem?_cons_zero, Option.some.injEq] at hu
        subst hu
        have := ivs_spec avs m us hm (by simpa using hl) (fun j a ha => by simpa using hr (j + 1) a (by simpa using ha))
        rw [this, rel_i hru]; rfl
    · cases h
theorem svs_spec {ρ : Nat → Value} {k : Nat} : ∀ (avs : List AV) (l : List (List Int)) (us : List Value), svs k avs = some l → us.length = avs.length → (∀ (j : Nat) (a : AV), avs[j]? = some a → ∃ u, us[j]? = some u ∧ a.rel ρ u) → us = l.map (fun x => .agg (x.map vI).toArray) ∧ ∀ x ∈ l, x.length = k
  | [], l, us, h, hl, _ => by
    simp only [svs, Option.some.injEq] at h; subst h
    exact ⟨List.eq_nil_of_length_eq_zero hl, by simp⟩
  | a :: avs, l, us, h, hl, hr => by
    unfold svs at h
    split at h
    · rename_i heq; cases heq
    · rename_i x l' heq
      simp only [List.cons.injEq] at heq
      obtain ⟨rfl, rfl⟩ := heq
      cases hb : x.length == k with
      | false => rw [hb] at h; cases h
      | true =>
        rw [hb] at h
        simp only [cond_true, Option.map_eq_some_iff] at h
        obtain ⟨m, hm, rfl⟩ := h
        cases us with
        | nil => simp at hl
        | cons u us =>
          obtain ⟨u', hu, hru⟩ := hr 0 _ rfl
          simp only [List.getElem?_cons_zero, Option.some.injEq] at hu
          subst hu
          obtain ⟨h1, h2⟩ := svs_spec avs m us hm (by simpa using hl) (fun j a ha => by simpa using hr (j + 1) a (by simpa using ha))
          refine ⟨by rw [h1, rel_s hru]; rfl, fun y hy => ?_⟩
          simp only [List.mem_cons] at hy
          rcases hy with rfl | hy
          · simpa using hb
          · exact h2 y hy
    · cases h
/-- What 'rowOf' makes: its cells are the elements' cells. -/
theorem rowOf_spec {ρ : Nat → Value} {e : Nat} {ei : Option TI} {avs : List AV} {r : RC} {us : List Value} (h : rowOf e ei avs = some r) (hl : us.length = avs.length) (hr : ∀ (j : Nat) (a : AV), avs[j]? = some a → ∃ u, us[j]? = some u ∧ a.rel ρ u) :
    r.wf ∧ r.elem = e ∧ r.len = us.length ∧ (∀ u ∈ us, u.cells.size = r.sz) ∧ r.cells = us.flatMap (·.cells.toList) := by
  unfold rowOf at h
  split at h
  · simp only [Option.map_eq_some_iff] at h
    obtain ⟨l, hl', rfl⟩ := h
    have := ivs_spec avs l us hl' hl hr
    subst this
    refine ⟨trivial, rfl, by simp [RC.len], fun u hu => ?_, ?_⟩
    · obtain ⟨n, _, rfl⟩ := List.mem_map.1 hu; rfl
    · simp only [RC.cells, List.flatMap_map, Value.cells]
      rw [List.map_eq_flatMap]
  · rename_i k _
    cases hb : Nat.blt 0 k with
    | false => rw [hb] at h; cases h
    | true =>
      rw [hb] at h
      simp only [cond_true, Option.map_eq_some_iff] at h
      obtain ⟨l, hl', rfl⟩ := h
      obtain ⟨h1, h2⟩ := svs_spec avs l us hl' hl hr
      subst h1
      refine ⟨⟨by simpa using hb, h2⟩, rfl, by simp [RC.len], fun u hu => ?_, ?_⟩
      · obtain ⟨x, hx, rfl⟩ := List.mem_map.1 hu
        simp [cells_s, RC.sz, h2 x hx]
      · simp [RC.cells, List.flatMap_map, cells_s]
  · split at h
    · simp only [Option.some.injEq] at h; subst h
      have : us = [] := List.eq_nil_of_length_eq_zero hl
      subst this
      exact ⟨trivial, rfl, rfl, by simp, by simp [RC.cells]⟩
    · cases h
  · cases h

/-- A new row. -/
theorem newrow_holds {c : Ctx} {w : World} {ρ : Nat → Value} {d : Nat} {r : RC} {arr : Array Value} (hwf : r.wf) (hn : r.len ≤ maxLen) (hs : arr.size = r.len * r.sz) (hc : arr.toList = r.cells) (hf : Frame0 c w) :
    (Entry.row r).holds c (w.alloc (.cells arr r.elem)) (upd ρ d (.slice (some ⟨w.heap.size, 0, none⟩) r.len r.len)) d := by
  show OwnsRow _ _ _ (upd ρ d _ d)
  rw [upd_same]
  refine (OwnsRow.flat (RC.wf_flat hwf)).2 ⟨hwf, ⟨RC.cells_length hwf, .inr ⟨w.heap.size, r.len, arr, rfl, Nat.zero_le _, heap_alloc_new w _, Nat.le_refl _, hn, hs, ?_⟩⟩, fun k hk => ?_⟩
  · rw [← hs, ← hc]
    exact List.take_of_length_le (by simp)
  · simp [blkOf] at hk; subst hk; exact .inl hf.size
theorem good_newrow {d : Nat} {r : RC} (hN : ∀ d, o.dst = some d → d < c.N) (hw : Wanted c ops o S) (hd : o.dst = some d) (hR : d ∉ R)
    (h : ∀ ρ (a : Act) w, (∀ x ∈ o.op.operands.toList, (S.eval x).rel ρ (a.eval x)) → ∃ arr, (execOp a.eval o).run c.P w = .ok (.value (.slice (some ⟨w.heap.size, 0, none⟩) r.len r.len)) (w.alloc (.cells arr r.elem)) ∧ r.wf ∧ r.len ≤ maxLen ∧ arr.size = r.len * r.sz ∧ arr.toList = r.cells) :
    Good c ops o (den S) R (AV.norm (.one (.row d))) (normWr [(d, some (.row r))]) := by
  refine good_of hN hw fun S' ρ a w hag hfr hs hdl => ?_
  obtain ⟨arr, hr, hwf, hn, hsz, hc⟩ := h ρ a w (fun x hx => eval_rel hag hs hx)
  refine ⟨_, _, upd ρ d (.slice (some ⟨w.heap.size, 0, none⟩) r.len r.len), .inl hr, ?_⟩
  rw [hd]
  exact hs.alloc (hdl d hd) (hfr d (by simp [wrHs, normWr]) hR) (fun k hk => by simpa [Blk, blkOf] using hk.symm) (newrow_holds hwf hn hsz hc hs.frame) (by simp [AV.norm, A0.norm, AV.rel, A0.rel, A0.conc, upd_same])

theorem elem_sz {ei : TI} {e : Nat} {avs : List AV} {r : RC} (he : rowOf e (some ei) avs = some r) (hT : tiB c.P e ei = true) : r.sz = ei.sz := by
  unfold rowOf at he
  split at he
  · rename_i h
    simp only [Option.some.injEq] at h; subst h
    simp only [Option.map_eq_some_iff] at he
    obtain ⟨l, _, rfl⟩ := he
    exact (tiB_int hT).2.1.symm
  · rename_i k _ h
    simp only [Option.some.injEq] at h; subst h
    cases hb : Nat.blt 0 k with
    | false => rw [hb] at he; cases he
    | true =>
      rw [hb] at he
      simp only [cond_true, Option.map_eq_some_iff] at he
      obtain ⟨l, _, rfl⟩ := he
      rfl
  · rename_i h
    simp only [Option.some.injEq] at h; subst h
    split at he
    · simp only [Option.some.injEq] at he; subst he
      exact (tiB_bool hT).2.1.symm
    · cases he
  · cases he

theorem ti_zero {e : Nat} {ei : TI} {i : TypeInfo} (hT : tiB c.P e ei = true) (hi : c.P.info? e = some i) (hs : plainTI ei = true) : ∃ z, i.zero = some z := by
  obtain ⟨k, sz, b⟩ := ei
  cases k with
  | int => obtain ⟨_, _, i', hi', _, _, hz⟩ := tiB_int hT; rw [hi] at hi'; cases hi'; exact ⟨_, hz⟩
  | bool => obtain ⟨_, _, i', hi', _, _, hz⟩ := tiB_bool hT; rw [hi] at hi'; cases hi'; exact ⟨_, hz⟩
  | struct fs => obtain ⟨_, i', _, hi', _, _, hz, _⟩ := tiB_struct hT; rw [hi] at hi'; cases hi'; exact ⟨_, hz⟩
  | array n e => obtain ⟨i', _, _, hi', _, _, hz, _⟩ := tiB_array hT; rw [hi] at hi'; cases hi'; exact ⟨_, hz⟩
  | slice x => simp [plainTI] at hs
  | mapT x y => simp [plainTI] at hs
  | two x y => simp [plainTI] at hs

theorem zipIdx_parts (a : Act) : ∀ (ps : List (Nat × Operand)) (avs : List AV) (i : Nat), (ps.map fun p => (p.1, S.eval p.2)) = (avs.zipIdx i).map (fun p => (p.2, p.1)) →
    (ps.map fun p => (p.1, a.eval p.2)) = ((ps.map fun p => a.eval p.2).zipIdx i).map (fun p => (p.2, p.1)) ∧ avs = ps.map fun p => S.eval p.2
  | [], avs, i, h => by
    cases avs with
    | nil => exact ⟨rfl, rfl⟩
    | cons a l => simp at h
  | p :: ps, avs, i, h => by
    cases avs with
    | nil => simp at h
    | cons b l =>
      simp only [List.map_cons, List.zipIdx_cons, List.cons.injEq, Prod.mk.injEq] at h
      obtain ⟨⟨h1, h2⟩, h3⟩ := h
      obtain ⟨h4, h5⟩ := zipIdx_parts a ps l (i + 1) h3
      refine ⟨?_, by rw [h5, ← h2]; rfl⟩
      simp only [List.map_cons, List.zipIdx_cons, h1, h4]

theorem good_buildSlice {tab : Tab} (hT : TabOk c.P tab) {t n : Nat} {ps : Array (Nat × Operand)} {e : Eff} (hN : ∀ d, o.dst = some d → d < c.N) (hw : Wanted c ops o S) (hop : o.op = .buildSlice t n ps)
    (he : effBuildSlice tab t o.dst n (ps.toList.map fun p => (p.1, S.eval p.2)) = some e) (hR : ∀ d, o.dst = some d → d ∉ R) : Good c ops o (den S) R e.val.norm (normWr e.wr) := by
  unfold effBuildSlice at he
  split at he
  case h_2 => cases he
  rename_i d el _ _ hd hti
  split at he
  case h_2 => cases he
  rename_i avs hav
  split at he
  case h_2 => cases he
  rename_i r hr
  cases hb : (Nat.ble n 1000 && Nat.ble r.sz 1000) with
  | false => rw [hb] at he; cases he
  | true =>
  rw [hb] at he
  simp only [cond_true, Option.some.injEq] at he; subst he
  simp only [Bool.and_eq_true] at hb
  have hn1 := Nat.le_of_ble_eq_true hb.1
  have hs1 := Nat.le_of_ble_eq_true hb.2
  obtain ⟨hps, hlen⟩ := allParts_spec _ _ _ hav
  have hu := tiB_slice (hT _ _ hti)
  cases hle : look el tab with
  | none => rw [hle] at hr; simp [rowOf] at hr
  | some ei =>
  rw [hle] at hr
  have hTe := hT _ _ hle
  obtain ⟨i, _, hi, _, his, _⟩ := tiB_info hTe
  have hsz := elem_sz hr hTe
  obtain ⟨z, hz⟩ := ti_zero hTe hi (by unfold rowOf at hr; split at hr <;> simp_all [plainTI])
  refine good_newrow hN hw hd (hR d hd) fun ρ a w hx => ?_
  have hin : ∀ p ∈ ps.toList, (S.eval p.2).rel ρ (a.eval p.2) := fun p hp => hx p.2 (by
    simp only [hop, Op.operands]
    exact List.mem_map.2 ⟨p, hp, rfl⟩)
  obtain ⟨hpa, havs⟩ := zipIdx_parts a ps.toList avs 0 hps
  have hus : (ps.toList.map fun p => a.eval p.2).length = avs.length := by rw [havs]; simp
  obtain ⟨hwf, hel, hl, hcs, hcells⟩ := rowOf_spec (ρ := ρ) (us := ps.toList.map fun p => a.eval p.2) hr hus (fun j b hb => by
    rw [havs] at hb
    simp only [List.getElem?_map, Option.map_eq_some_iff] at hb
    obtain ⟨q, hq, rfl⟩ := hb
    exact ⟨a.eval q.2, by simp [hq], hin q (List.mem_of_getElem? hq)⟩)
  have hln : r.len = n := by rw [hl, hus]; omega
  have his' : i.size = r.sz := by rw [his, hsz]
  obtain ⟨arr, hf1, hf2, hf3⟩ := fill_row (sz := r.sz) (ps.toList.map fun p => a.eval p.2) 0 ((Array.range (n * r.sz)).map ((if n * r.sz = 0 then #[] else z.cells)[· % (if n * r.sz = 0 then (#[] : Array Value) else z.cells).size]!)) hcs (by simp only [Array.size_map, Array.size_range]; rw [hus, ← hlen]; exact Nat.le_refl _)
  have harr : arr.size = r.len * r.sz := by rw [hf2, hln]; simp
  refine ⟨arr, ?_, hwf, by rw [hln]; unfold maxLen; omega, harr, ?_⟩
  · have hsmall : ¬ n * r.sz > 16777216 := by
      have : n * r.sz ≤ 1000 * 1000 := Nat.mul_le_mul hn1 hs1
      omega
    have hpa' : (ps.map fun p => (p.1, a.eval p.2)).toList = ps.toList.map fun p => (p.1, a.eval p.2) := by simp
    have hfill : Instr.fill (fun i => some (i * r.sz, r.sz)) ((Array.range (n * r.sz)).map ((if n * r.sz = 0 then #[] else z.cells)[· % (if n * r.sz = 0 then (#[] : Array Value) else z.cells).size]!)) (ps.map fun p => (p.1, a.eval p.2)).toList = some arr := by
      rw [hpa', hpa]; exact hf1
    simp only [execOp, hop, Instr.buildSlice, Sem.run_bind, run_underlying hu, Result.andThen_ok, run_size hi, his', Nat.reducePow, hsmall, if_false]
    by_cases h0 : n * r.sz = 0
    · rw [if_pos h0] at hfill
      simp only [h0, if_true, Sem.run_bind, Sem.run_pure, Result.andThen_ok]
      rw [h0] at hfill
      rw [hfill]
      simp only [newRow, Sem.run_bind, run_newObj, Result.andThen_ok, Sem.run_pure]
      rw [hln, hel]
      rfl
    · rw [if_neg h0] at hfill
      simp only [h0, if_false, Sem.run_bind, run_zero hi hz, Sem.run_pure, Result.andThen_ok]
      rw [hfill]
      simp only [newRow, Sem.run_bind, run_newObj, Result.andThen_ok, Sem.run_pure]
      rw [hln, hel]
      rfl
  · rw [hf3, hcells]
    have : ((Array.range (n * r.sz)).map ((if n * r.sz = 0 then #[] else z.cells)[· % (if n * r.sz = 0 then (#[] : Array Value) else z.cells).size]!)).toList.drop ((0 + (ps.toList.map fun p => a.eval p.2).length) * r.sz) = [] := List.drop_of_length_le (by
      simp only [Array.length_toList, Array.size_map, Array.size_range]
      rw [hus, ← hlen]
      exact Nat.le_refl _)
    rw [this]
    simp
end
end Go.Proofs.Ytclpoenfcpefmaa

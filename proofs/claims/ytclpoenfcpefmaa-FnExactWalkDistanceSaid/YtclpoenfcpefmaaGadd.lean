/-
  Each effect of the abstract machine is sound: append, make. Conditions: none; this text proves nothing of the program.
-/
import Derived.Test.YtclpoenfcpefmaaGidx
namespace Go.Proofs.Ytclpoenfcpefmaa
open Go Go.RowKit

theorem RC.slice_len {r : RC} {l k : Nat} (h0 : r.wf) (h : l ≤ k) (h2 : k ≤ r.len) : (r.slice l k).len = k - l := by
  cases r <;> first | exact h0.elim | (simp [RC.slice, RC.len] at h2 ⊢ <;> omega)
theorem RC.slice_wf {r : RC} (l k : Nat) (h : r.wf) : (r.slice l k).wf := by
  cases r with
  | ints e m => trivial
  | bools e m => trivial
  | recs e n m => exact ⟨h.1, fun x hx => h.2 x (List.mem_of_mem_take (List.mem_of_mem_drop hx))⟩
  | _ => exact h.elim
theorem RC.slice_sz (r : RC) (l k : Nat) : (r.slice l k).sz = r.sz := by cases r <;> rfl
theorem RC.slice_elem (r : RC) (l k : Nat) : (r.slice l k).elem = r.elem := by cases r <;> rfl
theorem RC.slice_cells {r : RC} {l k : Nat} (hwf : r.wf) : (r.slice l k).cells = (r.cells.take (k * r.sz)).drop (l * r.sz) := by
  cases r with
  | ints e m => simp [RC.slice, RC.cells, RC.sz, List.map_take, List.map_drop]
  | bools e m => simp [RC.slice, RC.cells, RC.sz, List.map_take, List.map_drop]
  | recs e n m =>
    simp only [RC.slice, RC.cells, RC.sz]
    rw [flat_take m hwf.2 k, flat_drop (m.take k) (fun x hx => hwf.2 x (List.mem_of_mem_take hx)) l]
  | _ => exact hwf.elim
theorem RC.one {r : RC} : ∀ u ∈ r.cells, u.oneCell' = true := by
  intro u hu
  cases r with
  | ints e m => exact one_vI u hu
  | bools e m =>
    obtain ⟨n, _, rfl⟩ := List.mem_map.1 hu
    rfl
  | recs e n m =>
    obtain ⟨x, _, hx⟩ := List.mem_flatMap.1 hu
    exact one_vI u hx
  | _ => simp [RC.cells] at hu
theorem RC.app_flat {r s t : RC} (h : r.app s = some t) : r.flat = true := by
  cases r <;> cases s <;> first | rfl | (simp [RC.app] at h)
theorem RC.app_spec {r s t : RC} (h : r.app s = some t) (hr : r.wf) (hs : s.wf) : t.wf ∧ t.elem = r.elem ∧ t.sz = r.sz ∧ t.len = r.len + s.len ∧ t.cells = r.cells ++ s.cells ∧ s.sz = r.sz := by
  cases r <;> cases s <;> simp only [RC.app, reduceCtorEq, Option.some.injEq] at h
  · subst h; exact ⟨trivial, rfl, rfl, by simp [RC.len], by simp [RC.cells], rfl⟩
  · rename_i e k l e' k' m
    cases hb : k == k' with
    | false => rw [hb] at h; cases h
    | true =>
      rw [hb] at h
      simp only [cond_true, Option.some.injEq] at h; subst h
      have hk : k = k' := by simpa using hb
      subst hk
      refine ⟨⟨hr.1, fun x hx => ?_⟩, rfl, rfl, by simp [RC.len], by simp [RC.cells], rfl⟩
      simp only [List.mem_append] at hx
      rcases hx with h | h
      · exact hr.2 x h
      · exact hs.2 x h
  · subst h; exact ⟨trivial, rfl, rfl, by simp [RC.len], by simp [RC.cells], rfl⟩

theorem entryRow_flat {e : Option Entry} {r : RC} (h : entryRow e = some r) : r.flat = true := by
  unfold entryRow at h
  split at h
  · rename_i r'
    cases hf : r'.flat with
    | false => rw [hf] at h; cases h
    | true => rw [hf] at h; simp only [cond_true, Option.some.injEq] at h; rw [← h]; exact hf
  · rename_i r'
    cases hf : r'.flat with
    | false => rw [hf] at h; cases h
    | true => rw [hf] at h; simp only [cond_true, Option.some.injEq] at h; rw [← h]; exact hf
  · cases h
theorem RC.slice_flat (r : RC) (l k : Nat) : (r.slice l k).flat = r.flat := by cases r <;> rfl
theorem readOf_flat {S : St} {x : AV} {r : RC} (h : readOf S x = some r) : r.flat = true := by
  unfold readOf at h
  split at h
  · rename_i h0 e0 n
    split at h
    · rename_i t0 l hl
      cases hb : (l.length == n && Nat.ble n 1000) with
      | false => rw [hb] at h; cases h
      | true => rw [hb] at h; simp only [cond_true, Option.some.injEq] at h; rw [← h]; rfl
    · cases h
  · exact entryRow_flat h
  · split at h
    · rename_i sz _ _ _ rc hrc
      cases hb : (sz == rc.sz) with
      | false => rw [hb] at h; cases h
      | true => rw [hb] at h; simp only [cond_true, Option.some.injEq] at h; rw [← h, RC.slice_flat]; exact entryRow_flat hrc
    · cases h
  · cases h

section
variable {c : Ctx} {ops : Array Oper} {o : Oper} {S : St} {R : List Nat}

/-- What a slice value that reads as a row is. -/
theorem read_at {S' : SS} {ρ : Nat → Value} {a : Act} {w : World} {x : AV} {r' : RC} (hag : Agree ops o R (den S) S') (hs : SatR c S' ρ a.tmps w) (hR : ∀ h ∈ x.hs, h ∈ R) (hr : readOf S x = some r') (hp : subPre S x) {v : Value} (hv : x.rel ρ v) :
    r'.wf ∧ ∃ A n cap, v = .slice A n cap ∧ n = r'.len ∧ n ≤ cap ∧ cap ≤ maxLen ∧ (A = none → n = 0) ∧ (∀ ad, A = some ad → ∀ j u, r'.cells[j]? = some u → w.cell? (ad.add j) = some u) := by
  unfold readOf at hr
  split at hr
  · rename_i h e n
    split at hr
    case h_2 => cases hr
    rename_i t l hl
    cases hb : (l.length == n && Nat.ble n 1000) with
    | false => rw [hb] at hr; cases hr
    | true =>
    rw [hb] at hr
    simp only [cond_true, Option.some.injEq] at hr; subst hr
    simp only [Bool.and_eq_true, beq_iff_eq] at hb
    have hn1 := Nat.le_of_ble_eq_true hb.2
    have hm := mem_at hag (hR h (by simp [AV.hs, A0.hs])) hl
    obtain ⟨g, hv1, _, hg⟩ := hs.mem h _ hm
    have hvv : v = cutOf (ρ h) n := hv
    rw [hv1] at hvv
    refine ⟨trivial, some ⟨g, 0, none⟩, n, n, hvv, hb.1.symm, Nat.le_refl _, by unfold maxLen; omega, fun hA => (by cases hA), fun ad hA j u hu => ?_⟩
    simp only [Option.some.injEq] at hA
    subst hA
    have hj : j < l.length := by
      have := (List.getElem?_eq_some_iff.1 hu).1
      simpa [RC.cells] using this
    rw [add_lit, Nat.zero_add, ibox_cell hg j hj, ← hu]
    simp [RC.cells, hj]
  · rename_i h
    obtain ⟨en, hen, hen2⟩ := entryRow_look hr
    have hm := mem_at hag (hR h (by simp [AV.hs, A0.hs])) hen
    rw [en_norm hen2] at hm
    obtain ⟨hwf, A, n, cap, h1, h2, h3, h4, h5⟩ := row_at hs hm hen2
    refine ⟨hwf, A, n, cap, Eq.trans (show v = ρ h from hv) h1, h2, h3, h4, fun hA => ?_, fun ad hA j u hu => ?_⟩
    · rcases Nat.eq_zero_or_pos n with h0 | h0
      · exact h0
      · obtain ⟨ad, hA', _⟩ := h5 h0
        rw [hA] at hA'; cases hA'
    · have hl := RC.cells_length hwf
      have hlt := (List.getElem?_eq_some_iff.1 hu).1
      have hpos : 0 < n := by
        rcases Nat.eq_zero_or_pos n with h0 | h0
        · rw [hl, ← h2, h0] at hlt; simp at hlt
        · exact h0
      obtain ⟨ad', hA', hc⟩ := h5 hpos
      rw [hA] at hA'; cases hA'
      exact hc j u hu
  · rename_i h sz l k
    split at hr
    case h_2 => cases hr
    rename_i rc hrc
    cases hb : sz == rc.sz with
    | false => rw [hb] at hr; cases hr
    | true =>
    rw [hb] at hr
    simp only [cond_true, Option.some.injEq] at hr; subst hr
    have hsz : sz = rc.sz := by simpa using hb
    subst hsz
    have hp' : l ≤ k ∧ k ≤ rc.len := by simpa [subPre, hrc] using hp
    obtain ⟨en, hen, hen2⟩ := entryRow_look hrc
    have hm := mem_at hag (hR h (by simp [AV.hs, A0.hs])) hen
    rw [en_norm hen2] at hm
    obtain ⟨hwf, A, n, cap, h1, h2, h3, h4, h5⟩ := row_at hs hm hen2
    have hvv : v = subOf (ρ h) rc.sz l k := hv
    rw [h1] at hvv
    have hlen := RC.slice_len hwf hp'.1 hp'.2
    refine ⟨RC.slice_wf l k hwf, _, _, _, hvv, hlen.symm, by omega, by omega, fun hA => ?_, fun ad hA j u hu => ?_⟩
    · rcases Nat.eq_zero_or_pos n with h0 | h0
      · omega
      · obtain ⟨ad, hA', _⟩ := h5 h0
        rw [hA'] at hA
        split at hA
        · cases hA
        · cases hA
    · rw [RC.slice_cells hwf] at hu
      have hlt := (List.getElem?_eq_some_iff.1 hu).1
      have hl := RC.cells_length hwf
      simp only [List.length_drop, List.length_take] at hlt
      have hkn : k * rc.sz ≤ rc.len * rc.sz := Nat.mul_le_mul_right _ hp'.2
      have hlk : l ≠ k := by
        intro e
        subst e
        omega
      have hpos : 0 < n := by omega
      obtain ⟨ad', hA', hc⟩ := h5 hpos
      rw [hA', if_neg (by omega)] at hA
      simp only [Option.map_some, Option.some.injEq] at hA
      rw [← hA, add_add]
      refine hc _ u ?_
      rw [List.getElem?_drop, List.getElem?_take_of_lt (by omega)] at hu
      exact hu
  · cases hr

theorem ti_zero_sz {e : Nat} {ei : TI} {i : TypeInfo} {z : Value} (hT : tiB c.P e ei = true) (hi : c.P.info? e = some i) (hz : i.zero = some z) (hs : plainTI ei = true) : z.cells.size = i.size := by
  obtain ⟨k, sz, b⟩ := ei
  cases k with
  | int => obtain ⟨_, _, i', hi', h1, _, h2⟩ := tiB_int hT; rw [hi] at hi'; cases hi'; rw [hz] at h2; cases h2; rw [h1]; rfl
  | bool => obtain ⟨_, _, i', hi', h1, _, h2⟩ := tiB_bool hT; rw [hi] at hi'; cases hi'; rw [hz] at h2; cases h2; rw [h1]; rfl
  | struct fs => obtain ⟨_, i', _, hi', h1, _, h2, _⟩ := tiB_struct hT; rw [hi] at hi'; cases hi'; rw [hz] at h2; cases h2; rw [h1]; simp [Value.cells]
  | array n e => obtain ⟨i', _, _, hi', h1, _, h2, _⟩ := tiB_array hT; rw [hi] at hi'; cases hi'; rw [hz] at h2; cases h2; rw [h1]; simp [Value.cells]
  | slice x => simp [plainTI] at hs
  | mapT x y => simp [plainTI] at hs
  | two x y => simp [plainTI] at hs

theorem run_append_of_nil {P : Program} {w : World} {t ty e : Nat} {i : TypeInfo} {size : Nat} (ht : P.underlying t = some (.slice e)) (hi : P.info? e = some i)
    (v : Value) (n : Nat) (xs : List Value) (hown : w.ownsRow 0 e size v n xs) (cc : Nat) : (Builtin.append_ #[t, t] ty #[v, .slice none 0 cc]).run P w = .ok v w := by
  rcases hown.2 with ⟨rfl, rfl⟩ | ⟨g, cap, cur, rfl, _, _, hnc, _⟩
  · simp [Builtin.append_, run_underlying ht, sizeOf, typeInfo, hi, Builtin.lenOf, Builtin.firstCells]
  · simp [Builtin.append_, run_underlying ht, sizeOf, typeInfo, hi, Builtin.lenOf, Builtin.firstCells, hnc, storeCells]

/-- append, whatever the source is -/
theorem run_app {P : Program} {w : World} {t ty e : Nat} {i : TypeInfo} {z : Value} (ht : P.underlying t = some (.slice e)) (hi : P.info? e = some i) (hz : i.zero = some z) (hzs : z.cells.size = i.size) (hsz : 0 < i.size) (hb : i.bytes ≤ 1000)
    {v : Value} {n : Nat} {xs : List Value} (hown : w.ownsRow 0 e i.size v n xs) {A : Option Addr} {m cc : Nat} {news : List Value} (hl : news.length = m * i.size) (hn0 : A = none → m = 0) (hnews : ∀ ad, A = some ad → ∀ j u, news[j]? = some u → w.cell? (ad.add j) = some u)
    (h1 : ∀ u ∈ news, u.oneCell' = true) (hlen : n + m ≤ maxRow) :
    ∃ v' w', (Builtin.append_ #[t, t] ty #[v, .slice A m cc]).run P w = .ok v' w' ∧ w'.ownsRow 0 e i.size v' (n + m) (xs ++ news) ∧ w.grownBy w' v.ownBlock ∧ (v'.ownBlock = v.ownBlock ∨ v'.ownBlock = some w.heap.size) := by
  unfold maxRow at hlen
  cases A with
  | none =>
    have hm := hn0 rfl
    subst hm
    have hn : news = [] := List.eq_nil_of_length_eq_zero (by simpa using hl)
    subst hn
    exact ⟨v, w, run_append_of_nil ht hi v n xs hown cc, by simpa using hown, ⟨rfl, rfl, rfl, Nat.le_refl _, fun _ _ _ => rfl⟩, .inl rfl⟩
  | some ad =>
    obtain ⟨v', w', h2, h3, h4, _, h5⟩ := run_append_own_at (P := P) w 0 t ty e i z i.size i.bytes ht hi hz rfl rfl hzs hsz v n xs hown ad m cc news hl (hnews ad rfl) h1 (by unfold maxLen; omega)
      (by have : (n + m) * i.bytes ≤ 100000000000 * 1000 := Nat.mul_le_mul hlen hb
          omega) (Nat.zero_le _)
    exact ⟨v', w', h2, h3, h4, h5⟩

/-- what was there before an append is still there, where it was -/
theorem app_keep {P : Program} {w : World} {t ty e : Nat} {i : TypeInfo} {z : Value} (ht : P.underlying t = some (.slice e)) (hi : P.info? e = some i) (hz : i.zero = some z) (hb : i.bytes ≤ 1000)
    {v : Value} {n : Nat} {xs : List Value} (hown : w.ownsRow 0 e i.size v n xs) {A : Option Addr} {m cc : Nat} {news : List Value} (hl : news.length = m * i.size) (hn0 : A = none → m = 0) (hnews : ∀ ad, A = some ad → ∀ j u, news[j]? = some u → w.cell? (ad.add j) = some u)
    (h1 : ∀ u ∈ news, u.oneCell' = true) (hlen : n + m ≤ maxRow) {v' : Value} {w' : World} (hrun : (Builtin.append_ #[t, t] ty #[v, .slice A m cc]).run P w = .ok v' w') :
    ∀ g, blkOf v = some g → ∀ j, j < n * i.size → w'.cell? ⟨g, j, none⟩ = w.cell? ⟨g, j, none⟩ := by
  intro g hg j hj
  unfold maxRow at hlen
  cases A with
  | none =>
    have hm := hn0 rfl
    subst hm
    rw [run_append_of_nil ht hi v n xs hown cc] at hrun
    simp only [Result.ok.injEq] at hrun
    rw [hrun.2]
  | some ad =>
    rcases hown.2 with ⟨rfl, _⟩ | ⟨g', cap, cur, rfl, _, hgg, hnc, hcm, hcs, htake⟩
    · simp [blkOf] at hg
    · simp only [blkOf, Option.some.injEq] at hg
      subst hg
      by_cases hroom : n + m ≤ cap
      · have hfit : n * i.size + news.length ≤ cur.size := by rw [hl, hcs, ← Nat.add_mul]; exact Nat.mul_le_mul_right _ hroom
        have hr := run_append_room (P := P) w t ty e i ht hi g' n cap cur hgg ad m cc news hl (hnews ad rfl) h1 hroom hfit
        rw [hr] at hrun
        simp only [Result.ok.injEq] at hrun
        rw [← hrun.2]
        have e1 := setRow_heap w g' cur (cur.toList.take (n * i.size) ++ news ++ cur.toList.drop (n * i.size + news.length)).toArray e _ hgg
        simp only [World.cell?, e1, hgg]
        have hjc : j < cur.size := by omega
        have hjt : j < (cur.toList.take (n * i.size)).length := by simp; omega
        simp only [List.getElem?_toArray]
        rw [List.append_assoc, List.getElem?_append_left hjt, List.getElem?_take, if_pos hj]
        simp
      · have holds : ∀ j u, xs[j]? = some u → w.cell? ((⟨g', 0, none⟩ : Addr).add j) = some u := hown.cells (g := g') rfl
        have hmul : (n + m) * i.bytes ≤ 100000000000 * 1000 := Nat.mul_le_mul hlen hb
        have hr := run_append_grow (P := P) w t ty e i z ht hi hz ⟨g', 0, none⟩ n cap xs hown.1 holds ad m cc news hl (hnews ad rfl) (by omega) (by omega) (growslice_fits (by omega) (by omega))
        rw [hr] at hrun
        simp only [Result.ok.injEq] at hrun
        rw [← hrun.2]
        refine World.cell?_of_block (w := w) ?_
        exact heap_alloc_old w.drew _ (heap_lt hgg)
theorem ownBlock_blk {v : Value} {e n : Nat} {sz : Nat} {xs : List Value} {w : World} (h : w.ownsRow 0 e sz v n xs) : v.ownBlock = blkOf v := by
  rcases h.2 with ⟨rfl, _⟩ | ⟨g, cap, cur, rfl, _⟩ <;> rfl
end

/-- Two rows of rows become one: the new handle's values are those of both. -/
theorem good_app2 {c : Ctx} {ops : Array Oper} {o : Oper} {S : St} {tab : Tab} (hT : TabOk c.P tab) {t d : Nat} {s x : Operand} {e : Eff} (hN : ∀ d, o.dst = some d → d < c.N) (hw : Wanted c ops o S) (hop : o.op = .call ⟨.builtin .append, #[s, x], #[t, t]⟩) (hsin : s ∈ o.op.operands.toList) (hxin : x ∈ o.op.operands.toList) (hd : o.dst = some d)
    (he : effApp2 tab t S (some d) (S.eval s) (S.eval x) = some e) (hp : e.pre) : Good c ops o (den S) ((S.eval s).hs ++ (S.eval x).hs) e.val.norm (normWr e.wr) := by
  unfold effApp2 at he
  simp only at he
  split at he
  case h_2 => cases he
  rename_i el _ _ hti
  split at he
  case h_2 => cases he
  rename_i f0 _ _ hle
  have hu := tiB_slice (hT _ _ hti)
  obtain ⟨i, hu2, hi, his, hib, hib2, hz, _⟩ := tiB_slice2 (hT _ _ hle)
  unfold appRows at he
  split at he
  case h_2 => cases he
  rename_i h h2 hse hxe
  split at he
  case h_2 => cases he
  rename_i e1 f1 l1 e2 f2 l2 hm1 hm2
  cases hb1 : (d == h || (d == h2 || h == h2)) with
  | true => rw [hb1] at he; cases he
  | false =>
  rw [hb1] at he
  simp only [cond_false] at he
  cases hb2 : (e1 == el && (e2 == el && f1 == f2)) with
  | false => rw [hb2] at he; cases he
  | true =>
  rw [hb2] at he
  simp only [cond_true, Option.some.injEq] at he; subst he
  simp only [Bool.or_eq_false_iff, beq_eq_false_iff_ne, ne_eq] at hb1
  obtain ⟨hdh, hdh2, hhh⟩ := hb1
  simp only [Bool.and_eq_true, beq_iff_eq] at hb2
  obtain ⟨rfl, rfl, rfl⟩ := hb2
  have hlen : (l1 ++ l2).length ≤ maxRow := hp
  refine good_of hN hw fun S' ρ a w hag hfr hs hdl => ?_
  have hR1 : h ∈ (S.eval s).hs ++ (S.eval x).hs := by simp [hse, AV.hs, A0.hs]
  have hR2 : h2 ∈ (S.eval s).hs ++ (S.eval x).hs := by simp [hxe, AV.hs, A0.hs]
  have m1 : S'.mem h = some (.row (.rows e2 f1 l1)) := mem_at hag hR1 hm1
  have m2 : S'.mem h2 = some (.row (.rows e2 f1 l2)) := mem_at hag hR2 hm2
  have hsep := hs.sep h h2 _ _ m1 m2 rfl rfl hhh
  obtain ⟨O, Is, hv1, hr1⟩ : CompRow w c.own (.rows e2 f1 l1) (ρ h) := (OwnsRow.comp rfl).1 (hs.mem h _ m1)
  obtain ⟨O2, Js, hv2, hr2⟩ : CompRow w c.own (.rows e2 f1 l2) (ρ h2) := (OwnsRow.comp rfl).1 (hs.mem h2 _ m2)
  have hsv : a.eval s = O := by
    have := eval_rel hag hs hsin
    rw [hse] at this
    have h3 : a.eval s = hdV (ρ h) := this
    rw [h3, hv1]; rfl
  have hxv : a.eval x = O2 := by
    have := eval_rel hag hs hxin
    rw [hxe] at this
    have h3 : a.eval x = hdV (ρ h2) := this
    rw [h3, hv2]; rfl
  -- the source's cells
  have hO2 : ∃ A cap, O2 = .slice A l2.length cap ∧ (A = none → l2.length = 0) ∧ ∀ ad, A = some ad → ∀ j u, Js[j]? = some u → w.cell? (ad.add j) = some u := by
    rcases hr2.outer.2 with ⟨hO, hn⟩ | ⟨g, cap, cur, hO, _⟩
    · exact ⟨none, 0, by rw [hO, hn], fun _ => hn, fun ad h => by cases h⟩
    · exact ⟨_, cap, hO, fun h => (by cases h), fun ad h => (by cases h; exact hr2.outer.cells (g := g) (by rw [hO]; rfl))⟩
  obtain ⟨A, cap, hO2, hA0, hAc⟩ := hO2
  have hone : ∀ {ll : List (List Int)} {O : Value} {Is : List Value}, RowsIs w c.own e2 f1 ll O Is → ∀ u ∈ Is, u.oneCell' = true := by
    intro ll O Is hr u hu
    obtain ⟨j, hj⟩ := List.getElem?_of_mem hu
    have hlt : j < ll.length := by rw [← hr.len]; exact (List.getElem?_eq_some_iff.1 hj).1
    obtain ⟨I, hI, hf⟩ := hr.inner j ll[j] (by simp [hlt])
    rw [hj] at hI; cases hI
    obtain ⟨_, A, n, cp, hv, _⟩ := hf.at
    rw [hv]; rfl
  obtain ⟨v', w', hrun, how, hgr, hbk⟩ := run_app (P := c.P) (ty := o.type) hu hi hz (by rw [his]; rfl) (by omega) (by omega) (n := l1.length) (xs := Is) (v := O) (A := A) (m := l2.length) (cc := cap) (news := Js)
    (by rw [his]; exact hr1.outer) (by rw [hr2.len, his]; omega) hA0 hAc (hone hr2) (by simpa using hlen)
  have hob : O.ownBlock = blkOf O := ownBlock_blk hr1.outer
  have hob' : v'.ownBlock = blkOf v' := ownBlock_blk how
  have hfd : S'.Fresh c d := hfr d (by simp [wrHs, normWr]) (by simp [hse, hxe, AV.hs, A0.hs]; exact ⟨hdh, hdh2⟩)
  -- where the new outer row lies
  have hvb : ∀ k, blkOf v' = some k → blkOf O = some k ∨ k = w.heap.size := by
    intro k hk
    rw [← hob'] at hk
    rcases hbk with hh | hh
    · rw [hh, hob] at hk; exact .inl hk
    · rw [hh] at hk; simp at hk; exact .inr hk.symm
  have hch := Chg.grown hgr
  have keepI : ∀ {f : Nat} {l : List Int} {I : Value}, FlatRow w c.own (.ints f l) I → (∀ k, blkOf I = some k → blkOf O ≠ some k) → FlatRow w' c.own (.ints f l) I := by
    intro f l I hf hne
    exact hf.chg fun k hk => hch.block k (hf.blk hk).2 (fun e => hne k hk (by rw [← hob]; exact e.symm))
  have hJO : ∀ (j : Nat) (J : Value), Js[j]? = some J → ∀ k, blkOf J = some k → blkOf O ≠ some k := by
    intro j J hJ k hk hk2
    exact hsep k (by rw [hv1]; exact Blk.of_tuple (j := 0) rfl hk2) (by rw [hv2]; exact Blk.of_tuple (j := j + 1) (by simpa using hJ) hk)
  have hIJ : ∀ (i j : Nat) (I J : Value), Is[i]? = some I → Js[j]? = some J → ∀ k, blkOf I = some k → blkOf J ≠ some k := by
    intro i j I J hI hJ k hk hk2
    exact hsep k (by rw [hv1]; exact Blk.of_tuple (j := i + 1) (by simpa using hI) hk) (by rw [hv2]; exact Blk.of_tuple (j := j + 1) (by simpa using hJ) hk2)
  have ltI : ∀ {ll : List (List Int)} {O : Value} {Is : List Value}, RowsIs w c.own e2 f1 ll O Is → ∀ (j : Nat) (I : Value), Is[j]? = some I → ∀ k, blkOf I = some k → k < w.heap.size := by
    intro ll O Is hr j I hI k hk
    have hlt : j < ll.length := by rw [← hr.len]; exact (List.getElem?_eq_some_iff.1 hI).1
    obtain ⟨I', hI', hf⟩ := hr.inner j ll[j] (by simp [hlt])
    rw [hI] at hI'; cases hI'
    exact (hf.blk hk).2
  have getA : ∀ (j : Nat) (I : Value), (Is ++ Js)[j]? = some I → Is[j]? = some I ∨ (Is.length ≤ j ∧ Js[j - Is.length]? = some I) := by
    intro j I hI
    rcases Nat.lt_or_ge j Is.length with hlt | hge
    · rw [List.getElem?_append_left hlt] at hI; exact .inl hI
    · rw [List.getElem?_append_right hge] at hI; exact .inr ⟨hge, hI⟩
  have hnew : RowsIs w' c.own e2 f1 (l1 ++ l2) v' (Is ++ Js) := by
    refine ⟨by simp [hr1.len, hr2.len], ?_, fun k hk => ?_, fun j l hj => ?_, fun i j I J hij hI hJ k hk => ?_, fun j I hI k hk hk2 => ?_⟩
    · rw [List.length_append]
      rw [his] at how
      exact how
    · rcases hvb k hk with hh | rfl
      · exact hr1.oin k hh
      · exact .inl hs.frame.size
    · rcases Nat.lt_or_ge j l1.length with hlt | hge
      · rw [List.getElem?_append_left hlt] at hj
        obtain ⟨I, hI, hf⟩ := hr1.inner j l hj
        exact ⟨I, by rw [List.getElem?_append_left (by rw [hr1.len]; exact hlt)]; exact hI, keepI hf (hr1.oapart j I hI)⟩
      · rw [List.getElem?_append_right hge] at hj
        obtain ⟨I, hI, hf⟩ := hr2.inner _ l hj
        exact ⟨I, by rw [List.getElem?_append_right (by rw [hr1.len]; exact hge), hr1.len]; exact hI, keepI hf (hJO _ I hI)⟩
    · rcases getA i I hI with hI' | ⟨hg, hI'⟩ <;> rcases getA j J hJ with hJ' | ⟨hg', hJ'⟩
      · exact hr1.apart i j I J hij hI' hJ' k hk
      · exact hIJ _ _ I J hI' hJ' k hk
      · intro hk2; exact hIJ _ _ J I hJ' hI' k hk2 hk
      · exact hr2.apart _ _ I J (by omega) hI' hJ' k hk
    · rcases hvb k hk2 with hh | rfl
      · rcases getA j I hI with hI' | ⟨_, hI'⟩
        · exact hr1.oapart j I hI' k hk hh
        · exact hJO _ I hI' k hk hh
      · rcases getA j I hI with hI' | ⟨_, hI'⟩
        · have := ltI hr1 j I hI' _ hk; omega
        · have := ltI hr2 _ I hI' _ hk; omega
  have hvs : Value.tuple (v' :: (Is ++ Js)).toArray = .tuple (v' :: (Is ++ Js)).toArray := rfl
  refine ⟨v', w', upd ρ d (.tuple (v' :: (Is ++ Js)).toArray), .inl ?_, ?_⟩
  · simp only [execOp, hop, resolve, Sem.run_bind, Sem.run_pure, Result.andThen_ok, invoke, builtin, List.map_toArray, List.map_cons, List.map_nil, hsv, hxv, hO2, hrun]
  · rw [hd]
    have hwr : wrHs (normWr [(h, none), (h2, none), (d, some (Entry.row (.rows e2 f1 (l1 ++ l2))))]) = [h, h2, d] := rfl
    have hlook : ∀ y e', look y (normWr [(h, none), (h2, none), (d, some (Entry.row (.rows e2 f1 (l1 ++ l2))))]) = some (some e') → y = d ∧ e' = .row (.rows e2 f1 (l1 ++ l2)) := by
      intro y e' hy
      simp only [normWr, List.map_cons, List.map_nil, Option.map_none, Option.map_some, look] at hy
      by_cases q1 : h = y
      · simp [q1] at hy
      · have q1' : (h == y) = false := by simpa using q1
        by_cases q2 : h2 = y
        · simp [q1', q2] at hy
        · have q2' : (h2 == y) = false := by simpa using q2
          by_cases q3 : d = y
          · subst q3; simp [q1', q2', Entry.norm] at hy; exact ⟨rfl, hy.symm⟩
          · have q3' : (d == y) = false := by simpa using q3
            simp [q1', q2', q3'] at hy
    -- the blocks of what is new: those of both, or a new one
    have hblk : ∀ k, Blk (.tuple (v' :: (Is ++ Js)).toArray) k → Blk (ρ h) k ∨ Blk (ρ h2) k ∨ k = w.heap.size := by
      intro k hk
      obtain ⟨j, v, hv, hb⟩ := Blk.tuple.1 hk
      cases j with
      | zero =>
        simp at hv; subst hv
        rcases hvb k hb with hh | hh
        · exact .inl (by rw [hv1]; exact Blk.of_tuple (j := 0) rfl hh)
        · exact .inr (.inr hh)
      | succ j =>
        simp only [List.getElem?_cons_succ] at hv
        rcases getA j v hv with hI' | ⟨_, hI'⟩
        · exact .inl (by rw [hv1]; exact Blk.of_tuple (j := j + 1) (by simpa using hI') hb)
        · exact .inr (.inl (by rw [hv2]; exact Blk.of_tuple (j := j - Is.length + 1) (by simpa using hI') hb))
    refine hs.step (D := fun k => some k = O.ownBlock) (fun y hy => by cases hy; exact hdl d hd) hch (fun k hk => hr1.oin k (by rw [← hob]; exact hk.symm)) (fun y hne => ?_) (fun y hy => upd_ne (by rw [hwr] at hy; simp at hy; exact hy.2.2)) (fun y e' hy ho' hnot k hk hke => ?_) (fun y e' hy => ?_) (fun y e' hy ho' k hk => ⟨fun y2 e3 hy2 ho2 hnot hk2 => ?_, fun y2 e3 hy2 ho2 hne => ?_⟩) ?_
    · by_cases hyd : y = d
      · subst hyd; exact hfd
      · exact absurd (upd_ne hyd) hne
    · rw [hwr] at hnot
      simp at hnot
      exact hs.sep y h e' _ hy m1 ho' rfl hnot.1 k hk (by rw [hv1]; exact Blk.of_tuple (j := 0) rfl (by rw [← hob]; exact hke.symm))
    · obtain ⟨rfl, rfl⟩ := hlook y e' hy
      show OwnsRow w' c.own _ (upd ρ y _ y)
      rw [upd_same]
      exact (OwnsRow.comp rfl).2 ⟨v', Is ++ Js, rfl, hnew⟩
    · obtain ⟨rfl, rfl⟩ := hlook y e' hy
      rw [upd_same] at hk
      rw [hwr] at hnot
      simp at hnot
      rcases hblk k hk with hh | hh | hh
      · exact hs.sep y2 h e3 _ hy2 m1 ho2 rfl hnot.1 k hk2 hh
      · exact hs.sep y2 h2 e3 _ hy2 m2 ho2 rfl hnot.2.1 k hk2 hh
      · have := hs.blk_lt hy2 ho2 hk2; omega
    · obtain ⟨q1, _⟩ := hlook y e' hy
      obtain ⟨q2, _⟩ := hlook y2 e3 hy2
      exact absurd (q2.trans q1.symm) hne
    · show v' = hdV (upd ρ d _ d)
      rw [upd_same]; rfl

theorem good_append {c : Ctx} {ops : Array Oper} {o : Oper} {S : St} {tab : Tab} (hT : TabOk c.P tab) {args : Array Operand} {ts : Array Nat} {t : Nat} {s x : Operand} {e : Eff} (hN : ∀ d, o.dst = some d → d < c.N) (hw : Wanted c ops o S) (hop : o.op = .call ⟨.builtin .append, args, ts⟩) (ha : args.toList = [s, x]) (hts : ts.toList = [t, t])
    (he : effAppend tab t S o.dst (S.eval s) (S.eval x) = some e) (hp : e.pre) : Good c ops o (den S) ((S.eval s).hs ++ (S.eval x).hs) e.val.norm (normWr e.wr) := by
  have haa : args = #[s, x] := by apply Array.ext'; simpa using ha
  have htt : ts = #[t, t] := by apply Array.ext'; simpa using hts
  subst haa; subst htt
  have hsin : s ∈ o.op.operands.toList := by simp [hop, Op.operands, Call.operands]
  have hxin : x ∈ o.op.operands.toList := by simp [hop, Op.operands, Call.operands]
  unfold effAppend at he
  split at he
  case h_2 => cases he
  rename_i d hd
  split at he
  case h_2 => exact good_app2 hT hN hw hop hsin hxin hd he hp
  rename_i r' hr'
  split at he
  case h_2 => cases he
  rename_i el _ _ hti
  split at he
  case h_2 => cases he
  rename_i ei hle
  cases hb : (ei.sz == r'.sz && (plainTI ei && Nat.blt 0 ei.sz)) with
  | false => rw [hb] at he; cases he
  | true =>
  rw [hb] at he
  simp only [cond_true] at he
  simp only [Bool.and_eq_true, beq_iff_eq, Nat.blt_eq] at hb
  obtain ⟨hes, hpl, hpos⟩ := hb
  have hu := tiB_slice (hT _ _ hti)
  have hTe := hT _ _ hle
  obtain ⟨i, _, hi, hud, his, hib, hib2⟩ := tiB_info hTe
  -- the source
  have src : subPre S (S.eval x) → ∀ (S' : SS) (ρ : Nat → Value) (a : Act) (w : World), Agree ops o ((S.eval s).hs ++ (S.eval x).hs) (den S) S' → SatR c S' ρ a.tmps w → r'.wf ∧ ∃ A n cap, a.eval x = .slice A n cap ∧ n = r'.len ∧ (A = none → n = 0) ∧ (∀ ad, A = some ad → ∀ j u, r'.cells[j]? = some u → w.cell? (ad.add j) = some u) := by
    intro hsp S' ρ a w hag hs
    obtain ⟨h1, A, n, cap, h2, h3, _, _, h4, h5⟩ := read_at hag hs (fun h hh => List.mem_append_right _ hh) hr' hsp (eval_rel hag hs hxin)
    exact ⟨h1, A, n, cap, h2, h3, h4, h5⟩
  obtain ⟨z, hz⟩ := ti_zero hTe hi hpl
  have hzs := ti_zero_sz hTe hi hz hpl
  -- what the row's slot holds, whatever it is: a slice that owns a row
  have main : ∀ (r r'' : RC) (hwr : Wr), e = ⟨r''.len ≤ maxRow ∧ subPre S (S.eval x), .one (.row d), hwr⟩ → (r.elem = el ∧ r.sz = ei.sz ∧ (r'.wf → r.wf → r''.wf ∧ r''.elem = r.elem ∧ r''.sz = r.sz ∧ r''.len = r.len + r'.len ∧ r''.cells = r.cells ++ r'.cells)) →
      d ∉ (S.eval s).hs ++ (S.eval x).hs → ((∃ h, S.eval s = .one (.row h) ∧ (look h S.mem = some (.row r) ∧ r.flat = true) ∧ hwr = [(h, none), (d, some (.row r''))] ∧ h ≠ d) ∨ (S.eval s = .one .nil ∧ hwr = [(d, some (.row r''))] ∧ r.len = 0 ∧ r.cells = [] ∧ r.wf)) →
      Good c ops o (den S) ((S.eval s).hs ++ (S.eval x).hs) e.val.norm (normWr e.wr) := by
    intro r r'' hwr hee ⟨hre, hrs, happ⟩ hdR hcase
    subst hee
    obtain ⟨hp1, hp2⟩ : r''.len ≤ maxRow ∧ subPre S (S.eval x) := hp
    refine good_of hN hw fun S' ρ a w hag hfr hs hdl => ?_
    have hsr := eval_rel hag hs hsin
    -- the slice that is appended to owns its row
    have hown : r.wf ∧ w.ownsRow 0 r.elem r.sz (a.eval s) r.len r.cells ∧ (∀ k, blkOf (a.eval s) = some k → c.own k) := by
      rcases hcase with ⟨h, hse, ⟨hlk, hfl⟩, _, _⟩ | ⟨hse, _, h0, hc0, hwf⟩
      · have hm := mem_at hag (h := h) (by simp [hse, AV.hs, A0.hs]) hlk
        have hh : FlatRow w c.own r (ρ h) := (OwnsRow.flat hfl).1 (hs.mem h _ hm)
        rw [hse] at hsr
        have hsv : a.eval s = ρ h := hsr
        rw [hsv]
        exact hh
      · rw [hse] at hsr
        have hsv : a.eval s = .slice none 0 0 := hsr
        rw [hsv, h0, hc0]
        exact ⟨hwf, World.ownsRow_nil w 0 _ _, fun k hk => by simp [blkOf] at hk⟩
    obtain ⟨hwf, hown1, hown2⟩ := hown
    obtain ⟨hwf', A, m, cap, hxv, hml, hn0, hnews⟩ := src hp2 S' ρ a w hag hs
    obtain ⟨hw'', he'', hs'', hl'', hc''⟩ := happ hwf' hwf
    have hrlen : r.len + m ≤ maxRow := by rw [hml, ← hl'']; exact hp1
    obtain ⟨v', w', hrun, how, hgr, hbk⟩ := run_app (P := c.P) (ty := o.type) hu hi hz hzs (by omega) (by omega) (n := r.len) (xs := r.cells) (v := a.eval s) (A := A) (m := m) (cc := cap) (news := r'.cells)
      (by rw [hre, hrs, ← his] at hown1; exact hown1) (by rw [RC.cells_length hwf', hml, his, hes]) hn0 hnews RC.one hrlen
    rw [hml, ← hl'', ← hc''] at how
    have hob : (a.eval s).ownBlock = blkOf (a.eval s) := ownBlock_blk hown1
    have hob' : v'.ownBlock = blkOf v' := ownBlock_blk how
    have hownF : FlatRow w' c.own r'' v' := by
      refine ⟨hw'', ?_, fun k hk => ?_⟩
      · rw [he'', hs'', hre, hrs, ← his]; exact how
      · rw [← hob'] at hk
        rcases hbk with h | h
        · rw [h, hob] at hk; exact hown2 k hk
        · rw [h] at hk; simp at hk; subst hk; exact .inl hs.frame.size
    have hown'' : OwnsRow w' c.own r'' v' := (OwnsRow.flat (RC.wf_flat hw'')).2 hownF
    have hfd : S'.Fresh c d := hfr d (by rcases hcase with ⟨h, _, _, hh, _⟩ | ⟨_, hh, _⟩ <;> simp [hh, wrHs, normWr]) hdR
    refine ⟨v', w', upd ρ d v', .inl ?_, ?_⟩
    · simp only [execOp, hop, resolve, Sem.run_bind, Sem.run_pure, Result.andThen_ok, invoke, builtin, List.map_toArray, List.map_cons, List.map_nil, hxv, hrun]
    · rw [hd]
      have hwrd : ∀ y, y ∉ wrHs (normWr hwr) → y ≠ d := by
        intro y hy e
        subst e
        rcases hcase with ⟨h, _, _, hh, _⟩ | ⟨_, hh, _⟩ <;> simp [hh, wrHs, normWr] at hy
      have hlookd : ∀ y e', look y (normWr hwr) = some (some e') → y = d ∧ e' = .row r'' := by
        intro y e' hy
        rcases hcase with ⟨h, _, _, hh, hne⟩ | ⟨_, hh, _⟩
        · rw [hh] at hy
          simp only [normWr, List.map_cons, List.map_nil, Option.map_none, Option.map_some, look] at hy
          by_cases h1 : h = y
          · simp [h1] at hy
          · have h1' : (h == y) = false := by simpa using h1
            by_cases h2 : d = y
            · subst h2; simp [h1', Entry.norm] at hy; exact ⟨rfl, hy.symm⟩
            · have h2' : (d == y) = false := by simpa using h2
              simp [h1', h2'] at hy
        · rw [hh] at hy
          simp only [normWr, List.map_cons, List.map_nil, Option.map_some, look] at hy
          by_cases h2 : d = y
          · subst h2; simp [Entry.norm] at hy; exact ⟨rfl, hy.symm⟩
          · have h2' : (d == y) = false := by simpa using h2
            simp [h2'] at hy
      -- another entry of one's own does not lie in the block that is written
      have hother : ∀ y e', S'.mem y = some e' → e'.isOwn = true → y ∉ wrHs (normWr hwr) → ∀ k, Blk (ρ y) k → some k ≠ (a.eval s).ownBlock := by
        intro y e' hy ho' hnot k hk hke
        rcases hcase with ⟨h, hse, ⟨hlk, hfl⟩, hh, _⟩ | ⟨hse, hh, _⟩
        · have hm := mem_at hag (h := h) (by simp [hse, AV.hs, A0.hs]) hlk
          rw [hse] at hsr
          have hsv : a.eval s = ρ h := hsr
          have hyh : y ≠ h := by intro e; subst e; simp [hh, wrHs, normWr] at hnot
          rw [hob, hsv] at hke
          have hth : FlatRow w c.own r (ρ h) := (OwnsRow.flat hfl).1 (hs.mem h _ hm)
          exact hs.sep y h e' _ hy hm ho' rfl hyh k hk (hth.thin.2 hke.symm)
        · rw [hse] at hsr
          have hsv : a.eval s = .slice none 0 0 := hsr
          rw [hsv] at hke
          simp [Value.ownBlock] at hke
      refine hs.step (D := fun k => some k = (a.eval s).ownBlock) (fun y hy => by cases hy; exact hdl d hd) (Chg.grown hgr) (fun k hk => hown2 k (by rw [← hob]; exact hk.symm)) (fun y hne => ?_) (fun y hy => upd_ne (hwrd y hy)) hother (fun y e' hy => ?_) (fun y e' hy ho' k hk => ⟨fun y2 e2 hy2 ho2 hnot hk2 => ?_, fun y2 e2 hy2 ho2 hne => ?_⟩) ?_
      · by_cases h : y = d
        · subst h; exact hfd
        · exact absurd (upd_ne h) hne
      · obtain ⟨rfl, rfl⟩ := hlookd y e' hy
        show OwnsRow w' c.own r'' (upd ρ y v' y)
        rw [upd_same]; exact hown''
      · obtain ⟨rfl, rfl⟩ := hlookd y e' hy
        rw [upd_same, hownF.thin, ← hob'] at hk
        rcases hbk with h | h
        · exact hother y2 e2 hy2 ho2 hnot k hk2 (by rw [← h]; exact hk.symm)
        · rw [h] at hk
          have := hs.blk_lt hy2 ho2 hk2
          simp at hk; omega
      · obtain ⟨h1, _⟩ := hlookd y e' hy
        obtain ⟨h2, _⟩ := hlookd y2 e2 hy2
        exact absurd (h2.trans h1.symm) hne
      · simp [AV.norm, A0.norm, AV.rel, A0.rel, A0.conc, upd_same]
  unfold appTo at he
  split at he
  · rename_i h hse
    split at he
    case h_2 => cases he
    rename_i r hlk
    split at he
    case h_2 => cases he
    rename_i r'' happ
    cases hc1 : ((S.eval x).hs.contains h || (d == h || (S.eval x).hs.contains d)) with
    | true => rw [hc1] at he; cases he
    | false =>
    rw [hc1] at he
    simp only [cond_false] at he
    cases hc2 : (r.elem == el && r.sz == ei.sz) with
    | false => rw [hc2] at he; cases he
    | true =>
    rw [hc2] at he
    simp only [cond_true, Option.some.injEq] at he
    simp only [Bool.and_eq_true, beq_iff_eq] at hc2
    simp only [Bool.or_eq_false_iff, beq_eq_false_iff_ne, ne_eq, List.contains_eq_mem, decide_eq_false_iff_not] at hc1
    refine main r r'' _ he.symm ⟨hc2.1, hc2.2, fun h1 h2 => by obtain ⟨p1, p2, p3, p4, p5, _⟩ := RC.app_spec happ h2 h1; exact ⟨p1, p2, p3, p4, p5⟩⟩ ?_ (.inl ⟨h, hse, ⟨hlk, RC.app_flat happ⟩, rfl, fun e => hc1.2.1 e.symm⟩)
    rw [hse]
    simp only [AV.hs, A0.hs, List.mem_append, List.mem_singleton, not_or]
    exact ⟨hc1.2.1, hc1.2.2⟩
  · rename_i hse
    cases hc2 : (r'.elem == el && !(S.eval x).hs.contains d) with
    | false => rw [hc2] at he; cases he
    | true =>
    rw [hc2] at he
    simp only [cond_true, Option.some.injEq] at he
    simp only [Bool.and_eq_true, beq_iff_eq, Bool.not_eq_true', List.contains_eq_mem, decide_eq_false_iff_not] at hc2
    have hemp : r'.empty.elem = r'.elem ∧ r'.empty.sz = r'.sz ∧ r'.empty.len = 0 ∧ r'.empty.cells = [] ∧ (r'.wf → r'.empty.wf) := by
      cases r' with
      | ints e l => exact ⟨rfl, rfl, rfl, rfl, fun _ => trivial⟩
      | bools e l => exact ⟨rfl, rfl, rfl, rfl, fun _ => trivial⟩
      | recs e k l => exact ⟨rfl, rfl, rfl, rfl, fun h => ⟨h.1, by simp⟩⟩
      | _ => exact absurd (readOf_flat hr') (by simp [RC.flat])
    obtain ⟨e1, e2, e3, e4, e5⟩ := hemp
    have hwf' : r'.wf ∨ ¬ r'.wf := Classical.em _
    rcases hwf' with hwf' | hwf'
    · refine main r'.empty r' _ he.symm ⟨e1.trans hc2.1, e2.trans hes.symm, fun h1 h2 => ⟨h1, e1.symm, e2.symm, by rw [e3]; omega, by rw [e4]; rfl⟩⟩ ?_ (.inr ⟨hse, rfl, e3, e4, e5 hwf'⟩)
      rw [hse]
      simp only [AV.hs, A0.hs, List.nil_append]
      exact hc2.2
    · -- a source that is no row at all is met by no state
      subst he
      obtain ⟨hp1, hp2⟩ : r'.len ≤ maxRow ∧ subPre S (S.eval x) := hp
      refine good_of hN hw fun S' ρ a w hag hfr hs hdl => ?_
      exact absurd (src hp2 S' ρ a w hag hs).1 hwf'
  · -- a row of which a part is read
    rename_i h hse
    unfold appView at he
    split at he
    case h_2 => cases he
    rename_i e0 k R B e9 k' m hlk
    cases hc1 : (e0 == el && (k == ei.sz && (k' == k && !((S.eval x).hs.contains h || (d == h || (S.eval x).hs.contains d))))) with
    | false => rw [hc1] at he; cases he
    | true =>
    rw [hc1] at he
    simp only [cond_true, Option.some.injEq] at he; subst he
    simp only [Bool.and_eq_true, beq_iff_eq, Bool.not_eq_true', Bool.or_eq_false_iff, beq_eq_false_iff_ne, ne_eq, List.contains_eq_mem, decide_eq_false_iff_not] at hc1
    obtain ⟨rfl, hk, hk', hc1, hdh, hc2⟩ := hc1
    subst hk'
    obtain ⟨hp1, hp2⟩ : R.length + m.length ≤ maxRow ∧ subPre S (S.eval x) := hp
    refine good_of hN hw fun S' ρ a w hag hfr hs hdl => ?_
    have hm := mem_at hag (h := h) (by simp [hse, AV.hs, A0.hs]) hlk
    obtain ⟨W, V, hv, hW, hV, hVW⟩ : CompRow w c.own (.vwp e0 k' R B) (ρ h) := (OwnsRow.comp rfl).1 (hs.mem h _ hm)
    have hsv : a.eval s = V := by
      have := eval_rel hag hs hsin
      rw [hse] at this
      have h1 : a.eval s = seg (ρ h) 2 := this
      rw [h1, hv]; rfl
    obtain ⟨hwf', A, mm, cap, hxv, hml, hn0, hnews⟩ := src hp2 S' ρ a w hag hs
    have hml' : mm = m.length := hml
    have hVo : w.ownsRow 0 e0 i.size V R.length (RC.recs e0 k' R).cells := by
      have := hV.2.1
      rw [his, ← hk]; exact this
    have hnl : (RC.recs e9 k' m).cells.length = mm * i.size := by rw [RC.cells_length hwf', hml, his, hes]
    obtain ⟨v', w', hrun, how, hgr, hbk⟩ := run_app (P := c.P) (ty := o.type) hu hi hz hzs (by omega) (by omega) (n := R.length) (xs := (RC.recs e0 k' R).cells) (v := V) (A := A) (m := mm) (cc := cap) hVo hnl hn0 hnews RC.one (by omega)
    have hkeep := app_keep (P := c.P) (ty := o.type) hu hi hz (by omega) hVo hnl hn0 hnews RC.one (by omega) hrun
    have hob : V.ownBlock = blkOf V := ownBlock_blk hVo
    have hob' : v'.ownBlock = blkOf v' := ownBlock_blk how
    have hch := Chg.grown hgr
    have hksz : k' = i.size := by rw [his]; exact hk
    have happ : (RC.recs e0 k' (R ++ m)).cells = (RC.recs e0 k' R).cells ++ (RC.recs e9 k' m).cells := by simp [RC.cells]
    have hV' : FlatRow w' c.own (.recs e0 k' (R ++ m)) v' := by
      refine ⟨⟨hV.1.1, fun y hy => ?_⟩, ?_, fun q hq => ?_⟩
      · rcases List.mem_append.1 hy with hy | hy
        · exact hV.1.2 y hy
        · exact hwf'.2 y hy
      · have h1 : w'.ownsRow 0 e0 i.size v' (R.length + mm) ((RC.recs e0 k' R).cells ++ (RC.recs e9 k' m).cells) := how
        rw [← happ, hml'] at h1
        rw [← hksz] at h1
        simpa [RC.len, RC.elem, RC.sz] using h1
      · rw [← hob'] at hq
        rcases hbk with h1 | h1
        · rw [h1, hob] at hq; exact hV.2.2 q hq
        · rw [h1] at hq; simp at hq; subst hq; exact .inl hs.frame.size
    have hW' : ViewIs w' c.own (.recs e0 k' B) W := by
      obtain ⟨⟨hwf, A', n', cap', hWv, hn', hc', hmx, hr⟩, hWb⟩ := hW
      refine ⟨⟨hwf, A', n', cap', hWv, hn', hc', hmx, fun h0 => ?_⟩, fun q hq => ⟨(hWb q hq).1, Nat.lt_of_lt_of_le (hWb q hq).2 hgr.size⟩⟩
      obtain ⟨ad, hA', hin, hcell⟩ := hr h0
      refine ⟨ad, hA', hin, fun j u hu => ?_⟩
      have hjl := (List.getElem?_eq_some_iff.1 hu).1
      rw [RC.cells_length hwf] at hjl
      have hjl' : j < B.length * k' := hjl
      have hadb : blkOf W = some ad.block := by rw [hWv, hA']; rfl
      by_cases hbb : blkOf V = some ad.block
      · obtain ⟨off, ho1, ho2⟩ := hVW ad n' cap' (by rw [hWv, hA']) ad.block hbb rfl
        have he1 : ad.add j = ⟨ad.block, off + j, none⟩ := by rw [ho1]; exact add_lit _ _ _
        have h2 := hcell j u hu
        rw [he1] at h2 ⊢
        rw [hkeep ad.block hbb (off + j) (by rw [← hksz]; omega)]
        exact h2
      · have hb2 : (ad.add j).block = ad.block := by unfold Addr.add; split <;> rfl
        rw [World.cell?_of_block (w := w) (by rw [hb2]; exact hch.block _ (hWb _ hadb).2 (fun e => hbb (by rw [← hob]; exact e.symm)))]
        exact hcell j u hu
    have hVW' : ViewAt v' W (B.length * k') ((R ++ m).length * k') := by
      intro ad n' cap' hWv q hq hqb
      rw [← hob'] at hq
      rcases hbk with h1 | h1
      · rw [h1, hob] at hq
        obtain ⟨off, ho1, ho2⟩ := hVW ad n' cap' hWv q hq hqb
        refine ⟨off, ho1, Nat.le_trans ho2 ?_⟩
        rw [List.length_append]; exact Nat.mul_le_mul_right _ (by omega)
      · rw [h1] at hq
        simp at hq
        have := (hW.2 ad.block (by rw [hWv]; rfl)).2
        omega
    have hdR : d ∉ (S.eval s).hs ++ (S.eval x).hs := by
      rw [hse]
      simp only [AV.hs, A0.hs, List.mem_append, List.mem_singleton, not_or]
      exact ⟨hdh, hc2⟩
    have hfd : S'.Fresh c d := hfr d (by simp [wrHs, normWr]) hdR
    have hup : ∀ z, z ≠ d → upd ρ d (.tuple #[undef, W, v']) z = ρ z := fun z hz => upd_ne hz
    have hwr : wrHs (normWr [(h, some (Entry.t1 d)), (d, some (Entry.row (.vwp e0 k' (R ++ m) B)))]) = [h, d] := rfl
    have hlook : ∀ y e', look y (normWr [(h, some (Entry.t1 d)), (d, some (Entry.row (.vwp e0 k' (R ++ m) B)))]) = some (some e') → (y = h ∧ e' = .t1 d) ∨ (y = d ∧ e' = .row (.vwp e0 k' (R ++ m) B)) := by
      intro y e' hy
      simp only [normWr, List.map_cons, List.map_nil, Option.map_some, look] at hy
      by_cases q1 : h = y
      · simp only [q1, beq_self_eq_true, cond_true, Option.some.injEq] at hy
        exact .inl ⟨q1.symm, hy.symm⟩
      · have q1' : (h == y) = false := by simpa using q1
        rw [q1'] at hy
        simp only [cond_false] at hy
        by_cases q2 : d = y
        · simp only [q2, beq_self_eq_true, cond_true, Option.some.injEq] at hy
          exact .inr ⟨q2.symm, hy.symm⟩
        · have q2' : (d == y) = false := by simpa using q2
          rw [q2'] at hy
          cases hy
    refine ⟨v', w', upd ρ d (.tuple #[undef, W, v']), .inl ?_, ?_⟩
    · simp only [execOp, hop, resolve, Sem.run_bind, Sem.run_pure, Result.andThen_ok, invoke, builtin, List.map_toArray, List.map_cons, List.map_nil, hsv, hxv, hrun]
    · rw [hd]
      refine hs.step (D := fun k => some k = V.ownBlock) (fun y hy => by cases hy; exact hdl d hd) hch (fun q hq => hV.2.2 q (by rw [← hob]; exact hq.symm)) (fun y hne => ?_) (fun y hy => hup y (by rw [hwr] at hy; simp at hy; exact hy.2)) (fun y e' hy ho' hnot q hq hqe => ?_) (fun y e' hy => ?_) (fun y e' hy ho' q hq => ⟨fun y2 e3 hy2 ho2 hnot hq2 => ?_, fun y2 e3 hy2 ho2 hne => ?_⟩) ?_
      · by_cases hyd : y = d
        · subst hyd; exact hfd
        · exact absurd (hup y hyd) hne
      · rw [hwr] at hnot
        simp at hnot
        exact hs.sep y h e' _ hy hm ho' rfl hnot.1 q hq (by rw [hv]; exact ⟨2, _, rfl, by rw [← hob]; exact hqe.symm⟩)
      · rcases hlook y e' hy with ⟨rfl, rfl⟩ | ⟨rfl, rfl⟩
        · show seg (upd ρ d _ y) 1 = seg (upd ρ d _ d) 1
          rw [hup y (fun e => hdh e.symm), upd_same, hv]; rfl
        · show OwnsRow w' c.own _ (upd ρ y _ y)
          rw [upd_same]
          exact (OwnsRow.comp rfl).2 ⟨W, v', rfl, hW', hV', hVW'⟩
      · rcases hlook y e' hy with ⟨rfl, rfl⟩ | ⟨rfl, rfl⟩
        · cases ho'
        · rw [upd_same] at hq
          rw [hwr] at hnot
          simp at hnot
          have inH : Blk (ρ h) q → False := fun hb => hs.sep y2 h e3 _ hy2 hm ho2 rfl hnot.1 q hq2 hb
          obtain ⟨j, J, hJ, hbJ⟩ := hq
          match j, hJ with
          | 0, hJ => simp at hJ; subst hJ; simp [blkOf, undef] at hbJ
          | 1, hJ => simp at hJ; subst hJ; exact inH (by rw [hv]; exact ⟨1, _, rfl, hbJ⟩)
          | 2, hJ =>
            simp at hJ; subst hJ
            rw [← hob'] at hbJ
            rcases hbk with h1 | h1
            · rw [h1, hob] at hbJ; exact inH (by rw [hv]; exact ⟨2, _, rfl, hbJ⟩)
            · rw [h1] at hbJ
              have := hs.blk_lt hy2 ho2 hq2
              simp at hbJ; omega
          | j + 3, hJ => simp at hJ
      · rcases hlook y e' hy with ⟨rfl, rfl⟩ | ⟨rfl, rfl⟩
        · cases ho'
        · rcases hlook y2 e3 hy2 with ⟨rfl, rfl⟩ | ⟨rfl, rfl⟩
          · cases ho2
          · exact absurd rfl hne
      · show v' = seg (upd ρ d _ d) 2
        rw [upd_same]; rfl
  · cases he
end Go.Proofs.Ytclpoenfcpefmaa

/-
  Each effect of the abstract machine is sound: index, len, cuts, append, make. Conditions: none; this text proves nothing of the program.
-/
import Derived.Test.YtclpoenfcpefmaaGapp
namespace Go.Proofs.Ytclpoenfcpefmaa
open Go Go.RowKit

section
variable {c : Ctx} {ops : Array Oper} {o : Oper} {S : St} {R : List Nat}

theorem en_norm {en : Entry} {r : RC} (h : entryRow (some en) = some r) : en.norm = en := by cases en <;> simp [entryRow] at h <;> rfl
theorem entryRow_look {h : Nat} {r : RC} (hr : entryRow (look h S.mem) = some r) : ∃ en, look h S.mem = some en ∧ entryRow (some en) = some r := by
  cases hl : look h S.mem with
  | none => rw [hl] at hr; simp [entryRow] at hr
  | some en => rw [hl] at hr; exact ⟨en, rfl, hr⟩

theorem run_indexAt_slc {P : Program} {w : World} {t e : Nat} {i : TypeInfo} {a : Addr} {len cap : Nat} {n : Int} (hu : P.underlying t = some (.slice e)) (hi : P.info? e = some i) (h0 : 0 ≤ n) (h1 : n < len) :
    (Instr.indexAt t (.slice (some a) len cap) (vI n)).run P w = .ok (.pointer (some (a.add (n.toNat * i.size)))) w := by
  simp [Instr.indexAt, asIntOf, run_underlying hu, h0, h1, run_size hi]
theorem run_indexAt_arr {P : Program} {w : World} {t e m : Nat} {i : TypeInfo} {a : Addr} {n : Int} (hu : P.underlying t = some (.array m e)) (hi : P.info? e = some i) (h0 : 0 ≤ n) (h1 : n < m) :
    (Instr.indexAt t (.pointer (some a)) (vI n)).run P w = .ok (.pointer (some (a.add (n.toNat * i.size)))) w := by
  simp [Instr.indexAt, asIntOf, Instr.sureAddr, run_underlying hu, h0, h1, run_size hi]

theorem good_index {tab : Tab} (hT : TabOk c.P tab) {t : Nat} {x y : Operand} {e : Eff} (hN : ∀ d, o.dst = some d → d < c.N) (hw : Wanted c ops o S) (hop : o.op = .indexAddr t x y)
    (he : effIndex tab S t (S.eval x) (S.eval y) = some e) (hp : e.pre) (hR : ∀ h ∈ (S.eval x).hs, h ∈ R) : Good c ops o (den S) R e.val.norm (normWr e.wr) := by
  have hxin : x ∈ o.op.operands.toList := by simp [hop, Op.operands]
  have hyin : y ∈ o.op.operands.toList := by simp [hop, Op.operands]
  unfold effIndex at he
  split at he
  case h_2 => cases he
  rename_i n hy
  have hyv : ∀ (S' : SS) (ρ : Nat → Value) (a : Act) (w : World), Agree ops o R (den S) S' → SatR c S' ρ a.tmps w → a.eval y = vI n := by
    intro S' ρ a w hag hs
    have := eval_rel hag hs hyin
    rw [hy] at this
    exact rel_i this
  split at he
  · rename_i el _ _ hti
    have hu := tiB_slice (hT _ _ hti)
    split at he
    case h_2 => cases he
    rename_i ei hle
    obtain ⟨i, _, hi, _, his, _⟩ := tiB_info (hT _ _ hle)
    unfold idxS at he
    split at he
    · rename_i h hx
      have hh : h ∈ R := hR h (by rw [hx]; simp [AV.hs, A0.hs])
      split at he
      case h_2 => cases he
      rename_i r hr
      cases hb : ei.sz == r.sz with
      | false => rw [hb] at he; cases he
      | true =>
        rw [hb] at he
        simp only [cond_true, Option.some.injEq] at he; subst he
        obtain ⟨hp0, hp1⟩ : 0 ≤ n ∧ n < r.len := hp
        obtain ⟨en, hen, hen2⟩ := entryRow_look hr
        refine good_of hN hw fun S' ρ a w hag _ hs hd => ?_
        have hm := mem_at hag hh hen
        rw [en_norm hen2] at hm
        obtain ⟨_, A, k, cap, h1, h2, _, _, h5⟩ := row_at hs hm hen2
        obtain ⟨ad, hA, _⟩ := h5 (by omega)
        subst hA
        have hxr := eval_rel hag hs hxin
        rw [hx] at hxr
        have hxv : a.eval x = .slice (some ad) k cap := Eq.trans (show a.eval x = ρ h from hxr) h1
        refine ⟨_, w, ρ, .inl (by simp only [execOp, hop, hxv, hyv S' ρ a w hag hs]; rw [Sem.run_bind, run_indexAt_slc hu hi hp0 (by omega)]; rfl), hs.val hd ?_⟩
        simp only [AV.norm, A0.norm, AV.rel, A0.rel, A0.conc, h1, addTo_slice, his, Nat.add_zero]
    · rename_i h sz' l r0 hx
      have hh : h ∈ R := hR h (by rw [hx]; simp [AV.hs, A0.hs])
      split at he
      case h_2 => cases he
      rename_i r hr
      cases hb : (ei.sz == r.sz && sz' == ei.sz) with
      | false => rw [hb] at he; cases he
      | true =>
        rw [hb] at he
        simp only [cond_true, Option.some.injEq] at he; subst he
        simp only [Bool.and_eq_true, beq_iff_eq] at hb
        obtain ⟨hb1, hb2⟩ := hb
        subst hb2
        obtain ⟨hp0, hp1, hp2⟩ : 0 ≤ n ∧ l + n < r0 ∧ r0 ≤ r.len := hp
        obtain ⟨en, hen, hen2⟩ := entryRow_look hr
        refine good_of hN hw fun S' ρ a w hag _ hs hd => ?_
        have hm := mem_at hag hh hen
        rw [en_norm hen2] at hm
        obtain ⟨_, A, k, cap, h1, h2, h3, _, h5⟩ := row_at hs hm hen2
        obtain ⟨ad, hA, _⟩ := h5 (by omega)
        subst hA
        have hxr := eval_rel hag hs hxin
        rw [hx] at hxr
        have hcl : cap ≠ l := by omega
        have hxv : a.eval x = .slice (some (ad.add (l * ei.sz))) (r0 - l) (cap - l) := by
          have : a.eval x = subOf (ρ h) ei.sz l r0 := hxr
          rw [this, h1]
          simp [subOf, hcl]
        refine ⟨_, w, ρ, .inl (by simp only [execOp, hop, hxv, hyv S' ρ a w hag hs]; rw [Sem.run_bind, run_indexAt_slc hu hi hp0 (by omega)]; rfl), hs.val hd ?_⟩
        simp only [AV.norm, A0.norm, AV.rel, A0.rel, A0.conc, h1, addTo_slice, his, Nat.add_zero, add_add, Nat.add_mul]
    · -- a row within
      rename_i h p hx
      have hh : h ∈ R := hR h (by rw [hx]; simp [AV.hs, A0.hs])
      split at he
      case h_2 => cases he
      rename_i r hr
      cases hb : ei.sz == r.sz with
      | false => rw [hb] at he; cases he
      | true =>
      rw [hb] at he
      simp only [cond_true, Option.some.injEq] at he; subst he
      obtain ⟨hp0, hp1, hp2⟩ : innerPre (compOf (look h S.mem)) p ∧ 0 ≤ n ∧ n < r.len := hp
      cases hcr : compOf (look h S.mem) with
      | none => rw [hcr] at hr; simp [innerOf] at hr
      | some cr =>
      rw [hcr] at hr hp0
      refine good_of hN hw fun S' ρ a w hag _ hs hd => ?_
      obtain ⟨in_, hc⟩ := comp_of hag hs hh hcr
      obtain ⟨_, A, k, cap, h1, h2, _, _, hA0, _⟩ := (inner_at hc hr hp0).at
      have hxr := eval_rel hag hs hxin
      rw [hx] at hxr
      have hxv : a.eval x = .slice A k cap := Eq.trans (show a.eval x = seg (ρ h) (p + 1) from hxr) h1
      cases A with
      | none => have := hA0 rfl; omega
      | some ad =>
      refine ⟨_, w, ρ, .inl (by simp only [execOp, hop, hxv, hyv S' ρ a w hag hs]; rw [Sem.run_bind, run_indexAt_slc hu hi hp1 (by omega)]; rfl), hs.val hd ?_⟩
      simp only [AV.norm, A0.norm, AV.rel, A0.rel, A0.conc, h1, addTo_slice, his, Nat.add_zero]
    · -- the outer row
      rename_i h hx
      have hh : h ∈ R := hR h (by rw [hx]; simp [AV.hs, A0.hs])
      split at he
      case h_2 => cases he
      rename_i e0 f0 ll hcr
      cases hb : ei.sz == 1 with
      | false => rw [hb] at he; cases he
      | true =>
      rw [hb] at he
      simp only [cond_true, Option.some.injEq] at he; subst he
      have hsz : ei.sz = 1 := by simpa using hb
      obtain ⟨hp1, hp2⟩ : 0 ≤ n ∧ n < ll.length := hp
      refine good_of hN hw fun S' ρ a w hag _ hs hd => ?_
      obtain ⟨in_, O, Is, hv, hr⟩ := comp_of hag hs hh hcr
      have hxr := eval_rel hag hs hxin
      rw [hx] at hxr
      have hxv : a.eval x = O := by
        have : a.eval x = hdV (ρ h) := hxr
        rw [this, hv]; rfl
      rcases hr.outer.2 with ⟨_, hn⟩ | ⟨g, cap, cur, hO, _⟩
      · omega
      · have hO' : a.eval x = .slice (some ⟨g, 0, none⟩) ll.length cap := hxv.trans hO
        refine ⟨_, w, ρ, .inl (by simp only [execOp, hop, hO', hyv S' ρ a w hag hs]; rw [Sem.run_bind, run_indexAt_slc hu hi hp1 (by omega)]; rfl), hs.val hd ?_⟩
        show _ = addTo (seg (ρ h) 0) n.toNat
        rw [hv]
        show _ = addTo O n.toNat
        rw [hO, addTo_slice, his, hsz, Nat.mul_one]
    · cases he
  · rename_i m el _ _ hti
    obtain ⟨_, ei', hu, _, _, _, _, _, hei, hes⟩ := tiB_array (hT _ _ hti)
    split at he
    case h_2 => cases he
    rename_i ei hle
    obtain ⟨i, _, hi, _, his, _⟩ := tiB_info (hT _ _ hle)
    unfold idxA at he
    split at he
    case h_2 => cases he
    rename_i h off hx
    have hh : h ∈ R := hR h (by rw [hx]; simp [AV.hs, A0.hs])
    split at he
    case h_2 => cases he
    rename_i t' l hm0
    cases hb : Nat.blt 1 m with
    | false => rw [hb] at he; cases he
    | true =>
      rw [hb] at he
      simp only [cond_true, Option.some.injEq] at he; subst he
      obtain ⟨hp0, hp1⟩ : 0 ≤ n ∧ n < m := hp
      refine good_of hN hw fun S' ρ a w hag _ hs hd => ?_
      obtain ⟨g, h1, _⟩ := ibox_at hs (mem_at hag hh hm0)
      have hxr := eval_rel hag hs hxin
      rw [hx] at hxr
      have hxv : a.eval x = .pointer (some ⟨g, off, none⟩) := by
        have : a.eval x = addTo (ρ h) off := hxr
        rw [this, h1, addTo_ptr]
      refine ⟨_, w, ρ, .inl (by simp only [execOp, hop, hxv, hyv S' ρ a w hag hs]; rw [Sem.run_bind, run_indexAt_arr hu hi hp0 hp1]; rfl), hs.val hd ?_⟩
      simp only [AV.norm, A0.norm, AV.rel, A0.rel, A0.conc, h1, addTo_ptr, his, add_lit]
      congr 3
      omega
  · cases he

theorem elemSz_slice {tab : Tab} (hT : TabOk c.P tab) {t : Nat} {sz : Nat} (h : elemSz tab t = some sz) : ∃ e i, c.P.underlying t = some (.slice e) ∧ c.P.info? e = some i ∧ i.size = sz := by
  unfold elemSz at h
  split at h
  · rename_i e _ _ hti
    simp only [Option.map_eq_some_iff] at h
    obtain ⟨ei, hle, rfl⟩ := h
    obtain ⟨i, _, hi, _, his, _⟩ := tiB_info (hT _ _ hle)
    exact ⟨e, i, tiB_slice (hT _ _ hti), hi, his⟩
  · cases h

theorem run_len {P : Program} {w : World} {t e : Nat} {A : Option Addr} {n cap : Nat} (ty : Nat) (hu : P.underlying t = some (.slice e)) : (Builtin.len_ #[t] ty #[.slice A n cap]).run P w = .ok (vI n) w := by
  simp [Builtin.len_, run_underlying hu, goInt]

theorem good_len {tab : Tab} (hT : TabOk c.P tab) {args : Array Operand} {ts : Array Nat} {t : Nat} {x : Operand} {e : Eff} (hN : ∀ d, o.dst = some d → d < c.N) (hw : Wanted c ops o S) (hop : o.op = .call ⟨.builtin .len, args, ts⟩) (ha : args.toList = [x]) (hts : ts.toList = [t])
    (ht : (elemSz tab t).isSome = true) (he : lenOf S (S.eval x) = some e) (hp : e.pre) (hR : ∀ h ∈ (S.eval x).hs, h ∈ R) : Good c ops o (den S) R e.val.norm (normWr e.wr) := by
  have haa : args = #[x] := by apply Array.ext'; simpa using ha
  have htt : ts = #[t] := by apply Array.ext'; simpa using hts
  subst haa; subst htt
  obtain ⟨sz, hsz⟩ := Option.isSome_iff_exists.1 ht
  obtain ⟨el, i, hu, _, _⟩ := elemSz_slice hT hsz
  have hxin : x ∈ o.op.operands.toList := by simp [hop, Op.operands, Call.operands]
  have run : ∀ (a : Act) w A (n cap : Nat), a.eval x = .slice A n cap → (execOp a.eval o).run c.P w = .ok (.value (vI n)) w := by
    intro a w A n cap hx
    simp [execOp, hop, resolve, invoke, builtin, hx, run_len _ hu]
  unfold lenOf at he
  split at he
  · rename_i h hx
    have hh : h ∈ R := hR h (by rw [hx]; simp [AV.hs, A0.hs])
    split at he
    case h_2 => cases he
    rename_i r hr
    simp only [val1, Option.some.injEq] at he; subst he
    obtain ⟨en, hen, hen2⟩ := entryRow_look hr
    refine good_of hN hw fun S' ρ a w hag _ hs hd => ?_
    have hm := mem_at hag hh hen
    rw [en_norm hen2] at hm
    obtain ⟨_, A, k, cap, h1, h2, _, _, _⟩ := row_at hs hm hen2
    have hxr := eval_rel hag hs hxin
    rw [hx] at hxr
    have hxv : a.eval x = .slice A k cap := Eq.trans (show a.eval x = ρ h from hxr) h1
    exact ⟨_, w, ρ, .inl (run a w A k cap hxv), hs.val hd (by rw [h2]; rfl)⟩
  · rename_i h sz' l r0 hx
    have hh : h ∈ R := hR h (by rw [hx]; simp [AV.hs, A0.hs])
    split at he
    case h_2 => cases he
    rename_i r hr
    simp only [Option.some.injEq] at he; subst he
    obtain ⟨en, hen, hen2⟩ := entryRow_look hr
    refine good_of hN hw fun S' ρ a w hag _ hs hd => ?_
    have hm := mem_at hag hh hen
    rw [en_norm hen2] at hm
    obtain ⟨_, A, k, cap, h1, h2, _, _, _⟩ := row_at hs hm hen2
    have hxr := eval_rel hag hs hxin
    rw [hx] at hxr
    have hxv : a.eval x = .slice (if cap = l then A else A.map (·.add (l * sz'))) (r0 - l) (cap - l) := by
      have : a.eval x = subOf (ρ h) sz' l r0 := hxr
      rw [this, h1]; rfl
    exact ⟨_, w, ρ, .inl (run a w _ _ _ hxv), hs.val hd rfl⟩
  · rename_i h p hx
    have hh : h ∈ R := hR h (by rw [hx]; simp [AV.hs, A0.hs])
    split at he
    case h_2 => cases he
    rename_i r hr
    simp only [Option.some.injEq] at he; subst he
    cases hcr : compOf (look h S.mem) with
    | none => rw [hcr] at hr; simp [innerOf] at hr
    | some cr =>
    have hp0 : innerPre (compOf (look h S.mem)) p := hp
    rw [hcr] at hr hp0
    refine good_of hN hw fun S' ρ a w hag _ hs hd => ?_
    obtain ⟨in_, hc⟩ := comp_of hag hs hh hcr
    obtain ⟨_, A, k, cap, h1, h2, _⟩ := (inner_at hc hr hp0).at
    have hxr := eval_rel hag hs hxin
    rw [hx] at hxr
    have hxv : a.eval x = .slice A k cap := Eq.trans (show a.eval x = seg (ρ h) (p + 1) from hxr) h1
    exact ⟨_, w, ρ, .inl (run a w _ _ _ hxv), hs.val hd (by rw [h2]; rfl)⟩
  · rename_i h hx
    have hh : h ∈ R := hR h (by rw [hx]; simp [AV.hs, A0.hs])
    split at he
    case h_2 => cases he
    rename_i e0 f0 ll hcr
    simp only [val1, Option.some.injEq] at he; subst he
    refine good_of hN hw fun S' ρ a w hag _ hs hd => ?_
    obtain ⟨in_, O, Is, hv, hr⟩ := comp_of hag hs hh hcr
    have hxr := eval_rel hag hs hxin
    rw [hx] at hxr
    have hxv : a.eval x = O := by
      have : a.eval x = hdV (ρ h) := hxr
      rw [this, hv]; rfl
    have hO : ∃ A cap, O = .slice A ll.length cap := by
      rcases hr.outer.2 with ⟨hO, hn⟩ | ⟨g, cap, cur, hO, _⟩
      · exact ⟨none, 0, by rw [hO, hn]⟩
      · exact ⟨_, _, hO⟩
    obtain ⟨A, cap, hO⟩ := hO
    exact ⟨_, w, ρ, .inl (run a w A _ cap (hxv.trans hO)), hs.val hd rfl⟩
  · rename_i hx
    simp only [val1, Option.some.injEq] at he; subst he
    refine good_of hN hw fun S' ρ a w hag _ hs hd => ?_
    have hxr := eval_rel hag hs hxin
    rw [hx] at hxr
    have hxv : a.eval x = .slice none 0 0 := hxr
    exact ⟨_, w, ρ, .inl (run a w _ _ _ hxv), hs.val hd rfl⟩
  · rename_i h n hx
    have hh : h ∈ R := hR h (by rw [hx]; simp [AV.hs, A0.hs])
    split at he
    case h_2 => cases he
    rename_i r hr
    obtain ⟨en, hen, hen2⟩ := entryRow_look hr
    simp only [val1, Option.some.injEq] at he; subst he
    refine good_of hN hw fun S' ρ a w hag _ hs hd => ?_
    have hmm := mem_at hag hh hen
    rw [en_norm hen2] at hmm
    obtain ⟨_, A, k, cap, h1, _⟩ := row_at hs hmm hen2
    have hxr := eval_rel hag hs hxin
    rw [hx] at hxr
    have hxv : a.eval x = .slice A n n := by
      have h2 : a.eval x = headOf (ρ h) n := hxr
      rw [h2, h1]; rfl
    exact ⟨_, w, ρ, .inl (run a w _ _ _ hxv), hs.val hd rfl⟩
  · cases he

theorem run_slc {P : Program} {w : World} {t e : Nat} {i : TypeInfo} {A : Option Addr} {n cap l r : Nat} {lo hi : Option Value} (hu : P.underlying t = some (.slice e)) (hi_ : P.info? e = some i) (hl : (lo = none ∧ l = 0) ∨ lo = some (vI l)) (hr : (hi = none ∧ r = n) ∨ hi = some (vI r)) (h1 : l ≤ r) (h2 : r ≤ cap) :
    (Instr.sliceAt t (.slice A n cap) lo hi none).run P w = .ok (subOf (.slice A n cap) i.size l r) w := by
  have hb : ∀ (k y : Nat) (cd : BoundsCode), k ≤ y → (Instr.sliceBound (vI k) y cd).run P w = .ok k w := by
    intro k y cd h
    simp [Instr.sliceBound, asIntOf]
    omega
  have hbs : (Instr.sliceBounds true n cap lo hi none).run P w = .ok (l, r, cap) w := by
    unfold Instr.sliceBounds
    rcases hl with ⟨rfl, rfl⟩ | rfl <;> rcases hr with ⟨rfl, rfl⟩ | rfl <;> simp [hb, h1, h2]
  simp [Instr.sliceAt, run_underlying hu, Instr.slice, hbs, run_size hi_, subOf]

theorem good_cut {tab : Tab} (hT : TabOk c.P tab) {t : Nat} {x : Operand} {lo hi : Option Operand} {e : Eff} {p : Nat × Nat} (hN : ∀ d, o.dst = some d → d < c.N) (hw : Wanted c ops o S) (hop : o.op = .slice t x lo hi none)
    (ht : arrElem tab t = some p) (he : cutSlc S p.1 p.2 (S.eval x) (lo.map S.eval) (hi.map S.eval) = some e) (hR : ∀ h ∈ (S.eval x).hs, h ∈ R) : Good c ops o (den S) R e.val.norm (normWr e.wr) := by
  unfold arrElem at ht
  split at ht
  case h_2 => cases ht
  rename_i m el sz by_ hti
  simp only [Option.some.injEq] at ht
  subst ht
  obtain ⟨i, ei, hu, _, _, _, _, _, hei, hes⟩ := tiB_array (hT _ _ hti)
  unfold cutSlc at he
  split at he
  case h_2 => cases he
  rename_i h hx hlo hhi
  have hlo' : lo = none := by simpa using hlo
  have hhi' : hi = none := by simpa using hhi
  subst hlo' hhi'
  split at he
  case h_2 => cases he
  rename_i t' l hl
  cases hb : l.length == m with
  | false => rw [hb] at he; cases he
  | true =>
  rw [hb] at he
  simp only [cond_true, val1, Option.some.injEq] at he
  subst he
  refine good_of hN hw fun S' ρ a w hag _ hs hd => ?_
  have hm := mem_at hag (hR h (by rw [hx]; simp [AV.hs, A0.hs])) hl
  obtain ⟨g, hv1, _, hg⟩ := hs.mem h _ hm
  have hxr := eval_rel hag hs (x := x) (by simp [hop, Op.operands])
  rw [hx] at hxr
  have hxv : a.eval x = .pointer (some ⟨g, 0, none⟩) := by
    have h1 : a.eval x = addTo (ρ h) 0 := hxr
    rw [hv1] at h1
    rw [h1]
    show Value.pointer (some ((⟨g, 0, none⟩ : Addr).add 0)) = _
    rw [add_lit]
  have hrun : (Instr.sliceAt t (.pointer (some ⟨g, 0, none⟩)) none none none).run c.P w = .ok (.slice (some ⟨g, 0, none⟩) m m) w := by
    simp [Instr.sliceAt, run_underlying hu, Instr.sureAddr, Instr.sliceBounds, run_size hei]
    exact fun _ => add_lit g 0 0
  refine ⟨_, w, ρ, .inl (by simp only [execOp, hop, hxv, Option.map_none]; rw [Sem.run_bind, hrun]; rfl), hs.val hd ?_⟩
  simp only [AV.norm, A0.norm, AV.rel, A0.rel, A0.conc, hv1, cutOf]
theorem good_hd {tab : Tab} (hT : TabOk c.P tab) {t : Nat} {x m : Operand} {lo hi : Option Operand} {e : Eff} {sz : Nat} (hN : ∀ d, o.dst = some d → d < c.N) (hw : Wanted c ops o S) (hop : o.op = .slice t x lo hi (some m)) (hsz : elemSz tab t = some sz)
    (he : hdSlc S sz (S.eval x) (lo.map S.eval) (hi.map S.eval) (S.eval m) = some e) (hp : e.pre) (hR : ∀ h ∈ (S.eval x).hs, h ∈ R) : Good c ops o (den S) R e.val.norm (normWr e.wr) := by
  obtain ⟨el, i, hu, hi_, his⟩ := elemSz_slice hT hsz
  unfold hdSlc at he
  split at he
  case h_2 => cases he
  rename_i h p q hx hlo hhi hm
  have hlo' : lo = none := by simpa using hlo
  subst hlo'
  obtain ⟨y, rfl⟩ : ∃ y, hi = some y := by cases hi with
    | none => simp at hhi
    | some y => exact ⟨y, rfl⟩
  simp only [Option.map_some, Option.some.injEq] at hhi
  split at he
  case h_2 => cases he
  rename_i r hr
  cases hb : sz == r.sz with
  | false => rw [hb] at he; cases he
  | true =>
  rw [hb] at he
  simp only [cond_true, Option.some.injEq] at he; subst he
  obtain ⟨rfl, rfl⟩ : p = r.len ∧ q = r.len := hp
  obtain ⟨en, hen, hen2⟩ := entryRow_look hr
  refine good_of hN hw fun S' ρ a w hag _ hs hd => ?_
  have hmm := mem_at hag (hR h (by rw [hx]; simp [AV.hs, A0.hs])) hen
  rw [en_norm hen2] at hmm
  obtain ⟨_, A, n, cap, h1, h2, h3, _, _⟩ := row_at hs hmm hen2
  have hxr := eval_rel hag hs (x := x) (by simp [hop, Op.operands])
  rw [hx] at hxr
  have hxv : a.eval x = .slice A n cap := Eq.trans (show a.eval x = ρ h from hxr) h1
  have hyv : a.eval y = vI r.len := rel_i (by have := eval_rel hag hs (x := y) (by simp [hop, Op.operands]); rw [hhi] at this; exact this)
  have hmv : a.eval m = vI r.len := rel_i (by have := eval_rel hag hs (x := m) (by simp [hop, Op.operands]); rw [hm] at this; exact this)
  have hb : ∀ (k y : Nat) (cd : BoundsCode), k ≤ y → (Instr.sliceBound (vI k) y cd).run c.P w = .ok k w := by
    intro k y cd h
    simp [Instr.sliceBound, asIntOf]
    omega
  have hbs : (Instr.sliceBounds true n cap none (some (vI r.len)) (some (vI r.len))).run c.P w = .ok (0, r.len, r.len) w := by
    unfold Instr.sliceBounds
    simp [hb _ _ _ (show r.len ≤ cap by omega), hb _ _ _ (Nat.le_refl r.len)]
  have hA : (if r.len = 0 then A else A.map (·.add (0 * i.size))) = A := by
    split
    · rfl
    · cases A with
      | none => rfl
      | some ad => simp [Addr.add]
  have hrun : (Instr.sliceAt t (.slice A n cap) none (some (vI r.len)) (some (vI r.len))).run c.P w = .ok (.slice A r.len r.len) w := by
    simp only [Instr.sliceAt, Sem.run_bind, run_underlying hu, Result.andThen_ok, Instr.slice, hbs, run_size hi_, Sem.run_pure, hA, Nat.sub_zero]
  refine ⟨_, w, ρ, .inl (by simp only [execOp, hop, hxv, Option.map_none, Option.map_some, hyv, hmv]; rw [Sem.run_bind, hrun]; rfl), hs.val hd ?_⟩
  simp only [AV.norm, A0.norm, AV.rel, A0.rel, A0.conc, h1, headOf]
theorem good_slice {tab : Tab} (hT : TabOk c.P tab) {t : Nat} {x : Operand} {lo hi mx : Option Operand} {e : Eff} (hN : ∀ d, o.dst = some d → d < c.N) (hw : Wanted c ops o S) (hop : o.op = .slice t x lo hi mx)
    (he : effSlice tab t S (S.eval x) (lo.map S.eval) (hi.map S.eval) (mx.map S.eval) = some e) (hp : e.pre) (hR : ∀ h ∈ (S.eval x).hs, h ∈ R) : Good c ops o (den S) R e.val.norm (normWr e.wr) := by
  unfold effSlice at he
  split at he
  case h_2 =>
    rename_i m0 hmx
    obtain ⟨m, rfl⟩ : ∃ m, mx = some m := by cases mx with
      | none => simp at hmx
      | some m => exact ⟨m, rfl⟩
    simp only [Option.map_some, Option.some.injEq] at hmx
    split at he
    case h_2 => cases he
    rename_i sz hsz
    rw [← hmx] at he
    exact good_hd hT hN hw hop hsz he hp hR
  rename_i hmx
  have hmx' : mx = none := by cases mx with
    | none => rfl
    | some _ => simp at hmx
  subst hmx'
  split at he
  case h_2 =>
    split at he
    case h_2 => cases he
    rename_i p hp0
    exact good_cut hT hN hw hop hp0 he (fun h hh => hR h hh)
  rename_i sz hsz
  obtain ⟨el, i, hu, hi_, his⟩ := elemSz_slice hT hsz
  have hxin : x ∈ o.op.operands.toList := by simp [hop, Op.operands]
  unfold slcOf at he
  split at he
  case h_2 => cases he
  rename_i h hx
  have hh : h ∈ R := hR h (by rw [hx]; simp [AV.hs, A0.hs])
  split at he
  case h_2 => cases he
  rename_i r hr
  obtain ⟨en, hen, hen2⟩ := entryRow_look hr
  cases hb : sz == r.sz with
  | false => rw [hb] at he; cases he
  | true =>
  rw [hb] at he
  simp only [cond_true] at he
  have main : ∀ (l k : Nat), l ≤ k → k ≤ r.len → (∀ (S' : SS) (ρ : Nat → Value) (a : Act) (w : World), Agree ops o R (den S) S' → SatR c S' ρ a.tmps w → ((lo = none ∧ l = 0) ∨ lo.map a.eval = some (vI l)) ∧ ((hi = none ∧ k = r.len) ∨ hi.map a.eval = some (vI k))) →
      Good c ops o (den S) R (AV.norm (.one (.sub h sz l k))) [] := by
    intro l k hlk hkr hb
    refine good_of hN hw fun S' ρ a w hag _ hs hd => ?_
    have hm := mem_at hag hh hen
    rw [en_norm hen2] at hm
    obtain ⟨_, A, n, cap, h1, h2, h3, _, _⟩ := row_at hs hm hen2
    have hxr := eval_rel hag hs hxin
    rw [hx] at hxr
    have hxv : a.eval x = .slice A n cap := Eq.trans (show a.eval x = ρ h from hxr) h1
    obtain ⟨b1, b2⟩ := hb S' ρ a w hag hs
    have hrun := run_slc (P := c.P) (w := w) (A := A) (n := n) (cap := cap) (l := l) (r := k) (lo := lo.map a.eval) (hi := hi.map a.eval) hu hi_ (by
      rcases b1 with ⟨rfl, h0⟩ | h0
      · exact .inl ⟨rfl, h0⟩
      · exact .inr h0) (by
      rcases b2 with ⟨rfl, h0⟩ | h0
      · exact .inl ⟨rfl, by omega⟩
      · exact .inr h0) hlk (by omega)
    refine ⟨_, w, ρ, .inl (by simp only [execOp, hop, hxv, Option.map_none]; rw [Sem.run_bind, hrun]; rfl), hs.val hd ?_⟩
    simp only [AV.norm, A0.norm, AV.rel, A0.rel, A0.conc, h1, his]
  have bnd : ∀ (q : Option Operand) (n : Int), q.map S.eval = some (.one (.i n)) → 0 ≤ n → (∀ z ∈ q, z ∈ o.op.operands.toList) → ∀ (S' : SS) (ρ : Nat → Value) (a : Act) (w : World), Agree ops o R (den S) S' → SatR c S' ρ a.tmps w → q.map a.eval = some (vI n.toNat) := by
    intro q n hq h0 hz S' ρ a w hag hs
    cases q with
    | none => simp at hq
    | some z =>
      simp only [Option.map_some, Option.some.injEq] at hq ⊢
      have := eval_rel hag hs (hz z rfl)
      rw [hq] at this
      rw [rel_i this]
      congr 1
      omega
  have hlo : ∀ z ∈ lo, z ∈ o.op.operands.toList := fun z hz => by simp [hop, Op.operands]; right; left; simpa using hz
  have hhi : ∀ z ∈ hi, z ∈ o.op.operands.toList := fun z hz => by simp [hop, Op.operands]; right; right; simpa using hz
  split at he
  · rename_i h1 h2
    cases he
    have h1' : lo = none := by simpa using h1
    have h2' : hi = none := by simpa using h2
    exact main 0 r.len (Nat.zero_le _) (Nat.le_refl _) fun S' ρ a w hag hs => ⟨.inl ⟨h1', rfl⟩, .inl ⟨h2', rfl⟩⟩
  · rename_i n h1 h2
    cases he
    obtain ⟨p0, p1⟩ : 0 ≤ n ∧ n ≤ r.len := hp
    have h2' : hi = none := by simpa using h2
    exact main n.toNat r.len (by omega) (Nat.le_refl _) fun S' ρ a w hag hs => ⟨.inr (bnd lo n h1 p0 hlo S' ρ a w hag hs), .inl ⟨h2', rfl⟩⟩
  · rename_i n h1 h2
    cases he
    obtain ⟨p0, p1⟩ : 0 ≤ n ∧ n ≤ r.len := hp
    have h1' : lo = none := by simpa using h1
    exact main 0 n.toNat (by omega) (by omega) fun S' ρ a w hag hs => ⟨.inl ⟨h1', rfl⟩, .inr (bnd hi n h2 p0 hhi S' ρ a w hag hs)⟩
  · rename_i m n h1 h2
    cases he
    obtain ⟨p0, p1, p2⟩ : 0 ≤ m ∧ m ≤ n ∧ n ≤ r.len := hp
    exact main m.toNat n.toNat (by omega) (by omega) fun S' ρ a w hag hs => ⟨.inr (bnd lo m h1 p0 hlo S' ρ a w hag hs), .inr (bnd hi n h2 (by omega) hhi S' ρ a w hag hs)⟩
  · cases he
end
end Go.Proofs.Ytclpoenfcpefmaa

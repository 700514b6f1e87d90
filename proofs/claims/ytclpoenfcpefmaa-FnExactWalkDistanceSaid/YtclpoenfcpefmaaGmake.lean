/-
  Each effect of the abstract machine is sound: a slice made of zeroes; then all operations under one theorem. Conditions: none; this text proves nothing of the program.
-/
import Derived.Test.YtclpoenfcpefmaaGmq
import Derived.Laws.CopyRow
namespace Go.Proofs.Ytclpoenfcpefmaa
open Go Go.RowKit

section
variable {c : Ctx} {ops : Array Oper} {o : Oper} {S : St} {R : List Nat}

theorem zeroRow_spec {tab : Tab} (hT : TabOk c.P tab) {e n : Nat} {ei : TI} {r : RC} (hle : look e tab = some ei) (h : zeroRow e (some ei) n = some r) :
    ∃ i z, c.P.info? e = some i ∧ i.zero = some z ∧ i.size = r.sz ∧ i.bytes ≤ 1000 ∧ r.elem = e ∧ r.len = n ∧ r.wf ∧ (madeCells z.cells (n * i.size)).toList = r.cells := by
  have hTe := hT _ _ hle
  obtain ⟨i0, _, hi0, _, _, hb, hb2⟩ := tiB_info hTe
  unfold zeroRow at h
  split at h
  · rename_i hk
    simp only [Option.some.injEq] at hk h
    subst hk; subst h
    obtain ⟨_, rfl, i, hi, his, _, hz⟩ := tiB_int hTe
    have hii := Option.some.inj (hi0.symm.trans hi); rw [hii] at hb
    refine ⟨_, _, hi, hz, his, by rw [hb]; exact hb2, rfl, by simp [RC.len], trivial, ?_⟩
    apply List.ext_getElem?
    intro j
    simp only [madeCells, his, Value.cells, RC.cells, Array.toList_map, Array.toList_range, List.getElem?_map, List.map_replicate, List.getElem?_replicate]
    by_cases hj : j < n
    · simp [hj, Nat.mod_one]
    · simp [hj]
  · rename_i hk
    simp only [Option.some.injEq] at hk h
    subst hk; subst h
    obtain ⟨_, rfl, i, hi, his, _, hz⟩ := tiB_bool hTe
    have hii := Option.some.inj (hi0.symm.trans hi); rw [hii] at hb
    refine ⟨_, _, hi, hz, his, by rw [hb]; exact hb2, rfl, by simp [RC.len], trivial, ?_⟩
    apply List.ext_getElem?
    intro j
    simp only [madeCells, his, Value.cells, RC.cells, Array.toList_map, Array.toList_range, List.getElem?_map, List.map_replicate, List.getElem?_replicate]
    by_cases hj : j < n
    · simp [hj, Nat.mod_one]
    · simp [hj]
  · rename_i fs k _ hk
    simp only [Option.some.injEq] at hk
    subst hk
    cases hb0 : Nat.blt 0 k with
    | false => rw [hb0] at h; cases h
    | true =>
      rw [hb0] at h
      simp only [cond_true, Option.some.injEq] at h
      subst h
      have hk0 : 0 < k := by simpa [Nat.blt_eq] using hb0
      obtain ⟨F, i, _, hi, his, _, hz, _⟩ := tiB_struct hTe
      have hii := Option.some.inj (hi0.symm.trans hi); rw [hii] at hb
      refine ⟨_, _, hi, hz, his, by rw [hb]; exact hb2, rfl, by simp [RC.len], ⟨hk0, fun x hx => by rw [(List.mem_replicate.1 hx).2]; simp⟩, ?_⟩
      have hflat : ∀ m : Nat, (List.replicate m (List.replicate k (0 : Int))).flatMap (fun x => x.map vI) = List.replicate (m * k) (vI 0) := by
        intro m
        induction m with
        | zero => simp
        | succ m ih =>
          rw [List.replicate_succ, List.flatMap_cons, ih, List.map_replicate, List.replicate_append_replicate]
          congr 1
          rw [Nat.succ_mul]; omega
      simp only [RC.cells]
      rw [hflat]
      apply List.ext_getElem?
      intro j
      simp only [madeCells, his, Value.cells, Array.toList_map, Array.toList_range, List.getElem?_map, List.getElem?_replicate]
      by_cases hj : j < n * k
      · have : j % k < k := Nat.mod_lt _ hk0
        simp [hj, this]
      · simp [hj]
  · cases h

theorem good_makeSlice {tab : Tab} (hT : TabOk c.P tab) {t : Nat} {x y : Operand} {e : Eff} (hN : ∀ d, o.dst = some d → d < c.N) (hw : Wanted c ops o S) (hop : o.op = .makeSlice t x y)
    (he : effMakeSlice tab t o.dst (S.eval x) (S.eval y) = some e) (hp : e.pre) (hR : ∀ d, o.dst = some d → d ∉ R) : Good c ops o (den S) R e.val.norm (normWr e.wr) := by
  unfold effMakeSlice at he
  split at he
  case h_2 => cases he
  rename_i d el _ _ hd hti
  split at he
  case h_2 => cases he
  rename_i n m hx hy
  split at he
  case h_2 => cases he
  rename_i r hr
  simp only [Option.some.injEq] at he; subst he
  obtain ⟨h1, h2, h3⟩ : n = m ∧ 0 ≤ n ∧ n ≤ 1000000000 := hp
  subst h1
  have hu := tiB_slice (hT _ _ hti)
  cases hle : look el tab with
  | none => rw [hle] at hr; simp [zeroRow] at hr
  | some ei =>
  rw [hle] at hr
  obtain ⟨i, z, hi, hz, his, hby, hel, hln, hwf, hcells⟩ := zeroRow_spec hT hle hr
  refine good_newrow hN hw hd (hR d hd) fun ρ a w hxx => ?_
  have e1 := hxx x (by simp [hop, Op.operands])
  have e2 := hxx y (by simp [hop, Op.operands])
  rw [hx] at e1; rw [hy] at e2
  have e1' := rel_i e1
  have e2' := rel_i e2
  have hnn : n = ((n.toNat : Nat) : Int) := by omega
  have hmul : (i.bytes : Int) * n ≤ 281474976710656 := by
    have h4 : i.bytes * n.toNat ≤ 1000 * 1000000000 := Nat.mul_le_mul hby (by omega)
    have h5 : ((i.bytes * n.toNat : Nat) : Int) = (i.bytes : Int) * n := by rw [Int.natCast_mul]; rw [← hnn]
    omega
  have hrun := run_make (P := c.P) w t el i z hu hi hz .i64 .i64 n n h2 (Int.le_refl _) hmul (by omega)
  refine ⟨madeCells z.cells (n.toNat * i.size), ?_, hwf, by rw [hln]; unfold maxLen; omega, by rw [size_madeCells, hln, his], by rw [hcells]⟩
  rw [hel, hln]
  simp [execOp, hop, e1', e2', hrun]

theorem good_makeRows {tab : Tab} (hT : TabOk c.P tab) {t el f sz by_ sz2 by2 : Nat} {x y : Operand} {e : Eff} (hN : ∀ d, o.dst = some d → d < c.N) (hw : Wanted c ops o S) (hop : o.op = .makeSlice t x y) (hti : look t tab = some ⟨.slice el, sz, by_⟩) (hle : look el tab = some ⟨.slice f, sz2, by2⟩)
    (he : makeRows o.dst el f (S.eval x) (S.eval y) = some e) (hp : e.pre) (hR : ∀ d, o.dst = some d → d ∉ R) : Good c ops o (den S) R e.val.norm (normWr e.wr) := by
  unfold makeRows at he
  split at he
  case h_2 => cases he
  rename_i d n m hd hx hy
  simp only [Option.some.injEq] at he; subst he
  obtain ⟨h1, h2, h3⟩ : n = m ∧ 0 ≤ n ∧ n ≤ 1000000000 := hp
  subst h1
  have hu := tiB_slice (hT _ _ hti)
  obtain ⟨i, _, hi, his, hby, hby2, hz, _⟩ := tiB_slice2 (hT _ _ hle)
  refine good_of hN hw fun S' ρ a w hag hfr hs hdl => ?_
  have hfd : S'.Fresh c d := hfr d (by simp [wrHs, normWr]) (hR d hd)
  have e1' := rel_i (by have := eval_rel hag hs (x := x) (by simp [hop, Op.operands]); rw [hx] at this; exact this)
  have e2' := rel_i (by have := eval_rel hag hs (x := y) (by simp [hop, Op.operands]); rw [hy] at this; exact this)
  have hmul : (i.bytes : Int) * n ≤ 281474976710656 := by
    have h4 : i.bytes * n.toNat ≤ 1000 * 1000000000 := Nat.mul_le_mul (by omega) (by omega)
    have h5 : ((i.bytes * n.toNat : Nat) : Int) = (i.bytes : Int) * n := by rw [Int.natCast_mul]; rw [show ((n.toNat : Nat) : Int) = n by omega]
    omega
  have hrun := run_make (P := c.P) w t el i (.slice none 0 0) hu hi hz .i64 .i64 n n h2 (Int.le_refl _) hmul (by omega)
  have hcells : (madeCells (Value.slice none 0 0).cells (n.toNat * i.size)).toList = List.replicate n.toNat (.slice none 0 0) := by
    apply List.ext_getElem?
    intro j
    simp only [madeCells, his, Value.cells, Array.toList_map, Array.toList_range, List.getElem?_map, List.getElem?_replicate]
    by_cases hj : j < n.toNat
    · simp [hj, Nat.mod_one]
    · simp [hj]
  have hsize : (madeCells (Value.slice none 0 0).cells (n.toNat * i.size)).size = n.toNat := by
    rw [← Array.length_toList, hcells, List.length_replicate]
  have ch := Chg.alloc w (.cells (madeCells (Value.slice none 0 0).cells (n.toNat * i.size)) el)
  have hnil : ∀ (j : Nat) (v : Value), (List.replicate n.toNat (Value.slice none 0 0))[j]? = some v → v = .slice none 0 0 := by
    intro j v hv
    rw [List.getElem?_replicate] at hv
    split at hv
    · exact (Option.some.inj hv).symm
    · cases hv
  refine ⟨.slice (some ⟨w.heap.size, 0, none⟩) n.toNat n.toNat, w.alloc (.cells (madeCells (Value.slice none 0 0).cells (n.toNat * i.size)) el), upd ρ d (.tuple (.slice (some ⟨w.heap.size, 0, none⟩) n.toNat n.toNat :: List.replicate n.toNat (.slice none 0 0)).toArray), .inl (by simp [execOp, hop, e1', e2', hrun]), ?_⟩
  rw [hd]
  refine SatR.gather (cons := []) hs (hdl d hd) hfd ch (by simp) (by simp) (fun k hk => ?_) ?_ ?_
  · obtain ⟨j, v, hv, hb⟩ := Blk.tuple.1 hk
    cases j with
    | zero => simp at hv; subst hv; simp [blkOf] at hb; exact .inl (by omega)
    | succ j =>
      rw [List.getElem?_cons_succ] at hv
      rw [hnil j v hv] at hb
      simp [blkOf] at hb
  · show OwnsRow _ _ _ (upd ρ d _ d)
    rw [upd_same]
    refine (OwnsRow.comp rfl).2 ⟨_, List.replicate n.toNat (.slice none 0 0), rfl, by simp, ?_, fun k hk => ?_, fun j l hj => ?_, fun i j I J _ hI hJ k hk => ?_, fun j I hI k hk => ?_⟩
    · rw [List.length_replicate]
      exact ⟨by simp, .inr ⟨w.heap.size, n.toNat, _, rfl, Nat.zero_le _, heap_alloc_new w _, Nat.le_refl _, by unfold maxLen; omega, by rw [hsize]; simp, by rw [hcells]; simp⟩⟩
    · simp [blkOf] at hk; subst hk; exact .inl hs.frame.size
    · rw [List.getElem?_replicate] at hj
      split at hj
      · rename_i hlt
        cases hj
        exact ⟨.slice none 0 0, by simp [hlt], trivial, World.ownsRow_nil _ 0 _ _, by simp [blkOf]⟩
      · cases hj
    · rw [hnil i I hI] at hk; simp [blkOf] at hk
    · rw [hnil j I hI] at hk; simp [blkOf] at hk
  · show _ = hdV (upd ρ d _ d)
    rw [upd_same]; rfl
theorem ivs_hs : ∀ {avs : List AV} {l : List Int}, ivs avs = some l → ∀ a ∈ avs, a.hs = []
  | [], _, _, a, ha => by cases ha
  | b :: avs, l, h, a, ha => by
    unfold ivs at h
    split at h
    · rename_i heq; cases heq
    · rename_i x l' heq
      simp only [List.cons.injEq] at heq
      obtain ⟨rfl, rfl⟩ := heq
      simp only [Option.map_eq_some_iff] at h
      obtain ⟨m, hm, rfl⟩ := h
      simp only [List.mem_cons] at ha
      rcases ha with rfl | ha
      · rfl
      · exact ivs_hs hm a ha
    · cases h
theorem svs_hs {k : Nat} : ∀ {avs : List AV} {l : List (List Int)}, svs k avs = some l → ∀ a ∈ avs, a.hs = []
  | [], _, _, a, ha => by cases ha
  | b :: avs, l, h, a, ha => by
    unfold svs at h
    split at h
    · rename_i heq; cases heq
    · rename_i x l' heq
      simp only [List.cons.injEq] at heq
      obtain ⟨rfl, rfl⟩ := heq
      cases hb : x.length == k with
      | false => rw [hb] at h; cases h
      | true =>
      rw [hb] at h
      simp only [cond_true, Option.map_eq_some_iff] at h
      obtain ⟨m, hm, rfl⟩ := h
      simp only [List.mem_cons] at ha
      rcases ha with rfl | ha
      · rfl
      · exact svs_hs hm a ha
    · cases h
theorem buildSlice_hs {tab : Tab} {t n : Nat} {d : Option Nat} {ps : List (Nat × Operand)} {e : Eff} (he : effBuildSlice tab t d n (ps.map fun p => (p.1, S.eval p.2)) = some e) : ∀ p ∈ ps, (S.eval p.2).hs = [] := by
  unfold effBuildSlice at he
  split at he
  case h_2 => cases he
  split at he
  case h_2 => cases he
  rename_i avs hav
  split at he
  case h_2 => cases he
  rename_i r hr
  obtain ⟨hps, _⟩ := allParts_spec _ _ _ hav
  have hall : ∀ a ∈ avs, a.hs = [] := by
    unfold rowOf at hr
    split at hr
    · simp only [Option.map_eq_some_iff] at hr
      obtain ⟨l, hl, _⟩ := hr
      exact ivs_hs hl
    · rename_i k _ _
      cases hb : Nat.blt 0 k with
      | false => rw [hb] at hr; cases hr
      | true =>
        rw [hb] at hr
        simp only [cond_true, Option.map_eq_some_iff] at hr
        obtain ⟨l, hl, _⟩ := hr
        exact svs_hs hl
    · split at hr
      · intro a ha; cases ha
      · cases hr
    · cases hr
  intro p hp
  have hmem : (p.1, S.eval p.2) ∈ (avs.zipIdx 0).map (fun p => (p.2, p.1)) := by
    rw [← hps]
    exact List.mem_map.2 ⟨p, hp, rfl⟩
  obtain ⟨q, hq, heq⟩ := List.mem_map.1 hmem
  have h1 : q.1 = S.eval p.2 := congrArg Prod.snd heq
  rw [← h1]
  refine hall _ ?_
  have := List.mem_zipIdx hq
  obtain ⟨_, _, h2⟩ := this
  rw [h2]
  exact List.getElem_mem _
theorem run_copy_at {P : Program} {w : World} {dT sT ty elem g o dLen dCap : Nat} {a : Addr} {sLen sCap n : Nat} {cur : Array Value} {t : TypeId} {i : TypeInfo} {cs : List Value}
    (hu : P.underlying dT = some (.slice elem)) (hi : P.info? elem = some i) (hg : w.heap[g]? = some (.cells cur t (0, 0))) (hn : n = Nat.min sLen dLen) (hcs : cs.length = n * i.size)
    (hsrc : ∀ j v, cs[j]? = some v → w.cell? (a.add j) = some v) (hfit : o + cs.length ≤ cur.size) (h1 : ∀ v ∈ cs, v.oneCell' = true) :
    (Builtin.copy_ #[dT, sT] ty #[.slice (some ⟨g, o, none⟩) dLen dCap, .slice (some a) sLen sCap]).run P w = .ok (vI n) (w.setRow g (cur.toList.take o ++ cs ++ cur.toList.drop (o + cs.length)).toArray) := by
  have hf := run_firstCells_some (P := P) w i.size n a sLen sCap cs hcs hsrc
  have hst := run_storeCells_at P g o t cs 0 cur w hg (by simpa using hfit) h1
  simp only [Nat.add_zero] at hst
  simp [Builtin.copy_, run_underlying hu, Builtin.lenOf, sizeOf, typeInfo, hi, ← hn, hf, hst, goInt, vI]
theorem run_copy_zero {P : Program} {w : World} {dT sT ty elem : Nat} {A B : Option Addr} {dLen dCap sLen sCap : Nat} {i : TypeInfo}
    (hu : P.underlying dT = some (.slice elem)) (hi : P.info? elem = some i) (hn : Nat.min sLen dLen = 0) :
    (Builtin.copy_ #[dT, sT] ty #[.slice A dLen dCap, .slice B sLen sCap]).run P w = .ok (vI 0) w := by
  cases A <;> cases B <;> simp [Builtin.copy_, run_underlying hu, Builtin.lenOf, Builtin.firstCells, loadCells, loadCellsFrom, sizeOf, typeInfo, hi, hn, storeCells, goInt, vI]
theorem good_copy {tab : Tab} (hT : TabOk c.P tab) {args : Array Operand} {ts : Array Nat} {t t' : Nat} {x y : Operand} {e : Eff} (hN : ∀ d, o.dst = some d → d < c.N) (hw : Wanted c ops o S) (hop : o.op = .call ⟨.builtin .copy, args, ts⟩) (ha : args.toList = [x, y]) (hts : ts.toList = [t, t'])
    (he : effCopy S (elemSz tab t) (S.eval x) (S.eval y) = some e) (hp : e.pre) (hR : ∀ h ∈ (S.eval x).hs, h ∈ R) : Good c ops o (den S) R e.val.norm (normWr e.wr) := by
  have haa : args = #[x, y] := by apply Array.ext'; simpa using ha
  have htt : ts = #[t, t'] := by apply Array.ext'; simpa using hts
  subst haa; subst htt
  unfold effCopy at he
  split at he
  case h_2 => cases he
  rename_i h sz l1 r1 h2 sz2 l2 r2 hx hy
  split at he
  case h_2 => cases he
  rename_i e0 k Q hlk
  cases hb : (h == h2 && (sz == k && (sz2 == k && elemSz tab t == some k))) with
  | false => rw [hb] at he; cases he
  | true =>
  rw [hb] at he
  simp only [cond_true, Option.some.injEq] at he; subst he
  simp only [Bool.and_eq_true, beq_iff_eq] at hb
  obtain ⟨rfl, rfl, rfl, hez⟩ := hb
  obtain ⟨⟨p1, p2⟩, p3, p4⟩ : (l1 ≤ r1 ∧ r1 ≤ Q.length) ∧ l2 ≤ r2 ∧ r2 ≤ Q.length := hp
  obtain ⟨el, i, hu, hi, his⟩ := elemSz_slice hT hez
  refine good_of hN hw fun S' ρ a w hag hfr hs hdl => ?_
  have hm := mem_at hag (h := h) (hR h (by rw [hx]; simp [AV.hs, A0.hs])) hlk
  have hV : FlatRow w c.own (.recs e0 sz2 Q) (ρ h) := (OwnsRow.flat rfl).1 (hs.mem h _ hm)
  have hxv : a.eval x = subOf (ρ h) sz2 l1 r1 := by
    have := eval_rel hag hs (x := x) (by simp [hop, Op.operands, Call.operands])
    rw [hx] at this; exact this
  have hyv : a.eval y = subOf (ρ h) sz2 l2 r2 := by
    have := eval_rel hag hs (x := y) (by simp [hop, Op.operands, Call.operands])
    rw [hy] at this; exact this
  generalize hn : min (r2 - l2) (r1 - l1) = n
  have hlk1 : ∀ y' e', look y' (normWr [(h, some (Entry.row (.recs e0 sz2 (Q.take l1 ++ ((Q.drop l2).take n ++ Q.drop (l1 + n))))))]) = some (some e') → y' = h ∧ e' = .row (.recs e0 sz2 (Q.take l1 ++ ((Q.drop l2).take n ++ Q.drop (l1 + n)))) := by
    intro y' e' hy
    simp only [normWr, List.map_cons, List.map_nil, Option.map_some, look] at hy
    by_cases q1 : h = y'
    · simp only [q1, beq_self_eq_true, cond_true, Option.some.injEq] at hy
      exact ⟨q1.symm, hy.symm⟩
    · have q1' : (h == y') = false := by simpa using q1
      rw [q1'] at hy; cases hy
  by_cases h0 : n = 0
  · have hrun : (Builtin.copy_ #[t, t'] o.type #[a.eval x, a.eval y]).run c.P w = .ok (vI 0) w := by
      have hsub : ∀ l r, ∃ A' n' c', subOf (ρ h) sz2 l r = .slice A' n' c' ∧ n' = r - l := by
        intro l r
        obtain ⟨_, A, n1, cap, hA, _⟩ := hV.at
        rw [hA]
        exact ⟨_, _, _, rfl, rfl⟩
      obtain ⟨A1, n1, c1, e1, m1⟩ := hsub l1 r1
      obtain ⟨A2, n2, c2, e2, m2⟩ := hsub l2 r2
      rw [hxv, hyv, e1, e2]
      exact run_copy_zero hu hi (by rw [m1, m2]; exact hn.trans h0)
    have hsame : Q.take l1 ++ ((Q.drop l2).take n ++ Q.drop (l1 + n)) = Q := by rw [h0]; simp
    refine ⟨vI n, w, ρ, .inl (by simp only [execOp, hop, resolve, Sem.run_bind, Sem.run_pure, Result.andThen_ok, invoke, builtin, List.map_toArray, List.map_cons, List.map_nil, hrun, h0]; rfl), ?_⟩
    refine hs.step hdl (Chg.refl w (fun _ => False)) (fun _ hk => hk.elim) (fun _ hne => absurd rfl hne) (fun _ _ => rfl) (fun _ _ _ _ _ _ _ hk => hk) (fun y' e' hy => ?_) (fun y' e' hy ho' q hq => ⟨fun y2 e2 hy2 ho2 hnot hq2 => ?_, fun y2 e2 hy2 ho2 hne => ?_⟩) rfl
    · obtain ⟨rfl, rfl⟩ := hlk1 y' e' hy
      rw [hsame]
      exact hs.mem y' _ hm
    · obtain ⟨rfl, rfl⟩ := hlk1 y' e' hy
      have hne : y2 ≠ y' := by simpa [wrHs, normWr] using hnot
      exact hs.sep y2 y' _ _ hy2 hm ho2 rfl hne q hq2 hq
    · obtain ⟨q1, _⟩ := hlk1 y' e' hy
      obtain ⟨q2, _⟩ := hlk1 y2 e2 hy2
      exact absurd (q2.trans q1.symm) hne
  · have hXl : ((Q.drop l2).take n).length = n := by rw [List.length_take, List.length_drop]; omega
    have hl1n : l1 + n ≤ Q.length := by omega
    have hl2n : l2 + n ≤ Q.length := by omega
    rcases hV.2.1.2 with ⟨_, hz⟩ | ⟨g, cap, cur, hVv, hbg, hg, hnc, hcm, hcs, htake⟩
    · have : Q.length = 0 := hz
      omega
    have hnc' : Q.length ≤ cap := hnc
    have hsub : ∀ l r, l < r → r ≤ Q.length → subOf (ρ h) sz2 l r = .slice (some ⟨g, l * sz2, none⟩) (r - l) (cap - l) := by
      intro l r q1 q2
      rw [hVv]
      have : cap ≠ l := by omega
      simp [subOf, this, add_lit]
    have hcl : (RC.recs e0 sz2 ((Q.drop l2).take n)).cells.length = n * i.size := by
      have hwf : (RC.recs e0 sz2 ((Q.drop l2).take n)).wf := ⟨hV.1.1, fun y' hy => hV.1.2 y' (List.mem_of_mem_drop (List.mem_of_mem_take hy))⟩
      have h5 := RC.cells_length hwf
      rw [h5, his]
      show ((Q.drop l2).take n).length * sz2 = _
      rw [hXl]
    have hsc : (RC.recs e0 sz2 ((Q.drop l2).take n)).cells = ((RC.recs e0 sz2 Q).cells.take ((l2 + n) * sz2)).drop (l2 * sz2) := by
      have h5 := RC.slice_cells (r := .recs e0 sz2 Q) (l := l2) (k := l2 + n) hV.1
      have h6 : (RC.recs e0 sz2 Q).slice l2 (l2 + n) = .recs e0 sz2 ((Q.drop l2).take n) := by
        simp only [RC.slice, List.drop_take]
        congr 2
        omega
      rw [h6] at h5
      exact h5
    have hsrc : ∀ j v, (RC.recs e0 sz2 ((Q.drop l2).take n)).cells[j]? = some v → w.cell? ((⟨g, l2 * sz2, none⟩ : Addr).add j) = some v := by
      intro j v hj
      rw [hsc, List.getElem?_drop, List.getElem?_take] at hj
      split at hj
      · have h5 := hV.2.1.cells (g := g) (by rw [hVv]; rfl) _ _ hj
        rw [add_lit] at h5 ⊢
        simpa using h5
      · cases hj
    have hN : Q.length * sz2 ≤ cur.size := by rw [show cur.size = cap * sz2 from hcs]; exact Nat.mul_le_mul_right _ hnc'
    have hfit : l1 * sz2 + (RC.recs e0 sz2 ((Q.drop l2).take n)).cells.length ≤ Q.length * sz2 := by
      rw [hcl, his, ← Nat.add_mul]; exact Nat.mul_le_mul_right _ hl1n
    have hrun := run_copy_at (P := c.P) (sT := t') (ty := o.type) (dLen := r1 - l1) (dCap := cap - l1) (sLen := r2 - l2) (sCap := cap - l2) (o := l1 * sz2) hu hi hg hn.symm hcl hsrc (by omega) RC.one
    refine ⟨vI n, _, ρ, .inl (by
      simp only [execOp, hop, resolve, Sem.run_bind, Sem.run_pure, Result.andThen_ok, invoke, builtin, List.map_toArray, List.map_cons, List.map_nil, hxv, hyv, hsub l1 r1 (by omega) p2, hsub l2 r2 (by omega) p4, hrun]; rfl), ?_⟩
    refine hs.write (e := .row (.recs e0 sz2 Q)) hdl hm rfl (hV.thin.2 (by rw [hVv]; rfl)) ?_ rfl
    have hcells : (RC.recs e0 sz2 (Q.take l1 ++ ((Q.drop l2).take n ++ Q.drop (l1 + n)))).cells = (RC.recs e0 sz2 Q).cells.take (l1 * sz2) ++ (RC.recs e0 sz2 ((Q.drop l2).take n)).cells ++ (RC.recs e0 sz2 Q).cells.drop ((l1 + n) * sz2) := by
      simp only [RC.cells]
      rw [flat_take Q hV.1.2 l1, flat_drop Q hV.1.2 (l1 + n), List.flatMap_append, List.flatMap_append, List.append_assoc]
    have hnl : (Q.take l1 ++ ((Q.drop l2).take n ++ Q.drop (l1 + n))).length = Q.length := by
      rw [List.length_append, List.length_append, hXl, List.length_take, List.length_drop]; omega
    have hmem' : ∀ y' ∈ Q.take l1 ++ ((Q.drop l2).take n ++ Q.drop (l1 + n)), y'.length = sz2 := by
      intro y' hy
      rcases List.mem_append.1 hy with hy | hy
      · exact hV.1.2 y' (List.mem_of_mem_take hy)
      · rcases List.mem_append.1 hy with hy | hy
        · exact hV.1.2 y' (List.mem_of_mem_drop (List.mem_of_mem_take hy))
        · exact hV.1.2 y' (List.mem_of_mem_drop hy)
    refine (OwnsRow.flat rfl).2 ⟨⟨hV.1.1, hmem'⟩, ?_, fun q hq => hV.2.2 q hq⟩
    have hwf2 : (RC.recs e0 sz2 (Q.take l1 ++ ((Q.drop l2).take n ++ Q.drop (l1 + n)))).wf := ⟨hV.1.1, hmem'⟩
    refine ⟨RC.cells_length hwf2, .inr ⟨g, cap, _, ?_, hbg, setRow_heap w g cur _ _ _ hg, by rw [show (RC.recs e0 sz2 (Q.take l1 ++ ((Q.drop l2).take n ++ Q.drop (l1 + n)))).len = Q.length from hnl]; exact hnc', hcm, ?_, ?_⟩⟩
    · rw [hVv]
      show Value.slice _ Q.length cap = Value.slice _ _ cap
      rw [show (RC.recs e0 sz2 (Q.take l1 ++ ((Q.drop l2).take n ++ Q.drop (l1 + n)))).len = Q.length from hnl]
    · show (_ : Array Value).size = cap * sz2
      have h7 : cur.size = cap * sz2 := hcs
      simp only [List.size_toArray, List.length_append, List.length_take, List.length_drop, Array.length_toList]
      omega
    · show List.take ((Q.take l1 ++ ((Q.drop l2).take n ++ Q.drop (l1 + n))).length * sz2) _ = _
      rw [hnl, hcells]
      have htk : cur.toList.take (Q.length * sz2) = (RC.recs e0 sz2 Q).cells := htake
      have hll : l1 * sz2 ≤ Q.length * sz2 := Nat.mul_le_mul_right _ (by omega)
      have e1 : (RC.recs e0 sz2 Q).cells.take (l1 * sz2) = cur.toList.take (l1 * sz2) := by
        rw [← htk, List.take_take]; congr 1; omega
      have hm1 : l1 * sz2 + (RC.recs e0 sz2 ((Q.drop l2).take n)).cells.length = (l1 + n) * sz2 := by rw [hcl, his, ← Nat.add_mul]
      have e2 : (RC.recs e0 sz2 Q).cells.drop ((l1 + n) * sz2) = (cur.toList.drop ((l1 + n) * sz2)).take (Q.length * sz2 - (l1 + n) * sz2) := by
        rw [← htk, List.drop_take]
      rw [e1, e2, hm1]
      have hal : (cur.toList.take (l1 * sz2) ++ (RC.recs e0 sz2 ((Q.drop l2).take n)).cells).length = (l1 + n) * sz2 := by
        rw [List.length_append, List.length_take, Array.length_toList, ← hm1]; omega
      show List.take (Q.length * sz2) ((cur.toList.take (l1 * sz2) ++ (RC.recs e0 sz2 ((Q.drop l2).take n)).cells) ++ cur.toList.drop ((l1 + n) * sz2)) = _
      rw [List.take_append, hal, List.take_of_length_le (by rw [hal, ← hm1]; exact hfit)]
/-- ALL OPERATIONS. -/
theorem good_eff {tab : Tab} (hT : TabOk c.P tab) {spec : Spec} (hspec : SpecOk c.P spec) {e : Eff} (hN : ∀ d, o.dst = some d → d < c.N) (hw : Wanted c ops o S)
    (he : eff tab spec o.dst o.op S = some e) (hp : e.pre) : Good c ops o (den S) (rdOf S o.op) e.val.norm (normWr e.wr) := by
  unfold eff at he
  split at he
  · rename_i x hop
    simp only [val1, Option.some.injEq] at he; subst he
    exact good_move hN hw (.inl hop)
  · rename_i x hop
    simp only [val1, Option.some.injEq] at he; subst he
    exact good_move hN hw (.inr hop)
  · rename_i t x hop
    rw [hop]
    unfold effBox2 at he
    split at he
    · rename_i h1 h2 hx
      split at he
      case h_2 => cases he
      rename_i d hd
      exact good_boxPair hN hw hop hd hx he (fun h hh => hh) rfl
    · refine good_box hN hw hop he fun d hd => ?_
      have : (S.eval x).hs = [] := by
        unfold effBox at he
        split at he <;> first | (rename_i hx; rw [hx]; rfl) | cases he
      simp [rdOf, this]
  · rename_i x hop
    exact good_nil hN hw hop he (by rw [hop]; exact fun h hh => hh)
  · rename_i t hop
    rw [hop]
    exact good_makeMap hN hw hop he (by simp [rdOf])
  · rename_i t x y ok hop
    exact good_lookup hT hN hw hop he (by rw [hop]; exact fun h hh => hh)
  · rename_i t x y z hop
    exact good_update hT hN hw (.inl hop) he (by rw [hop]; exact fun h hh => hh)
  · rename_i t x y z hop
    exact good_update hT hN hw (.inr hop) he (by rw [hop]; exact fun h hh => hh)
  · rename_i t hop
    rw [hop]
    exact good_alloc hT hN hw hop he (by simp [rdOf])
  · rename_i t x f hop
    exact good_field hT hN hw hop he hp (by rw [hop]; exact fun h hh => hh)
  · rename_i t x hop
    exact good_load hT hN hw hop he hp (by rw [hop]; exact fun h hh => hh)
  · rename_i t x y hop
    exact good_store hT hN hw hop he hp (by rw [hop]; rfl)
  · rename_i t ps hop
    unfold effBuild2 at he
    split at he
    · rename_i hti
      exact good_buildTwo hT hN hw hop hti he (by rw [hop]; exact fun p hp h hh => List.mem_flatMap.2 ⟨p, hp, hh⟩)
    · exact good_build hT hN hw hop he
  · rename_i t n ps hop
    unfold effBuildSl at he
    split at he
    case h_2 => cases he
    rename_i el _ _ hti
    split at he
    · rename_i f _ _ hle
      split at he
      case h_2 => cases he
      rename_i d hd
      exact good_buildRows hT hN hw hop hd hti hle he (by rw [hop]; rfl)
    · rename_i hns
      refine good_buildSlice hT hN hw hop he fun d hd => ?_
      rw [hop]
      simp only [rdOf, List.mem_flatMap, not_exists, not_and]
      intro p hp
      have hav : (S.eval p.2).hs = [] := buildSlice_hs he p hp
      rw [hav]; simp
  · rename_i t x y hop
    rw [hop]
    unfold effMakeSl at he
    split at he
    case h_2 => cases he
    rename_i el _ _ hti
    split at he
    · rename_i f _ _ hle
      exact good_makeRows hT hN hw hop hti hle he hp (by simp [rdOf])
    · exact good_makeSlice hT hN hw hop he hp (by simp [rdOf])
  · rename_i op t x y t' hop
    exact good_bins hT hN hw hop he hp
  · rename_i op t x hop
    exact good_un hN hw hop he
  · rename_i cc x y hop
    exact good_pick hN hw hop he
  · rename_i t j hop
    exact good_extract hN hw hop he
  · rename_i t x j hop
    exact good_index hT hN hw hop he hp (by rw [hop]; exact fun h hh => hh)
  · rename_i t x lo hi mx hop
    exact good_slice hT hN hw hop he hp (by rw [hop]; exact fun h hh => hh)
  · rename_i t x j hop
    exact good_indexV hT hN hw hop he hp
  · rename_i fx args ts hop
    split at he
    case h_2 => cases he
    rename_i f hfx
    have := good_call hspec hN hw hop hfx he hp
    rw [hop]
    simpa [rdOf, List.flatMap_map] using this
  · rename_i args ts hop
    split at he
    · rename_i x t ha hts
      cases hb : (elemSz tab t).isSome with
      | false => rw [hb] at he; cases he
      | true =>
        rw [hb] at he
        exact good_len hT hN hw hop ha hts hb he hp (by rw [hop]; simp [rdOf, ha])
    · cases he
  · rename_i args ts hop
    split at he
    · rename_i s x t t' ha hts
      cases hb : (t == t') with
      | false => rw [hb] at he; cases he
      | true =>
        rw [hb] at he
        have htt : t = t' := by simpa using hb
        subst htt
        have := good_append hT hN hw hop ha hts he hp
        rw [hop]
        simpa [rdOf, ha] using this
    · cases he
  · rename_i args ts hop
    split at he
    · rename_i x y t t' ha hts
      rw [hop]
      refine good_copy hT hN hw hop ha hts he hp fun h hh => ?_
      simp [rdOf, ha, hh]
    · cases he
  · rename_i args ts hop
    split at he
    · rename_i x y ha
      exact good_max hN hw hop ha he
    · cases he
  · rename_i args ts hop
    split at he
    · rename_i x y ha
      exact good_min hN hw hop ha he
    · cases he
  · cases he
end
end Go.Proofs.Ytclpoenfcpefmaa

/-
  Each effect of the abstract machine is sound: a slice made of zeroes; then all operations under one theorem. Conditions: none; this text proves nothing of the program.
-/
import Derived.Test.YtgmgdnifdejjlaaGmq
namespace Go.Proofs.Ytgmgdnifdejjlaa
open Go Go.RowKit

section
variable {c : Ctx} {ops : Array Oper} {o : Oper} {S : St} {R : List Nat}

theorem zeroRow_spec {tab : Tab} (hT : TabOk c.P tab) {e n : Nat} {ei : TI} {r : RC} (hle : look e tab = some ei) (h : zeroRow e (some ei) n = some r) :
    ∃ i z, c.P.info? e = some i ∧ i.zero = some z ∧ i.size = r.sz ∧ i.bytes ≤ 1000 ∧ r.elem = e ∧ r.len = n ∧ r.wf ∧ (madeCells z.cells (n * i.size)).toList = r.cells := by
  have hTe := hT _ _ hle
  obtain ⟨i0, _, hi0, _, _, hb, hb2⟩ := tiB_info hTe
  unfold zeroRow at h
  split at h
  · rename_i hk
    simp only [Option.some.injEq] at hk h
    subst hk; subst h
    obtain ⟨_, rfl, i, hi, his, _, hz⟩ := tiB_int hTe
    have hii := Option.some.inj (hi0.symm.trans hi); rw [hii] at hb
    refine ⟨_, _, hi, hz, his, by rw [hb]; exact hb2, rfl, by simp [RC.len], trivial, ?_⟩
    apply List.ext_getElem?
    intro j
    simp only [madeCells, his, Value.cells, RC.cells, Array.toList_map, Array.toList_range, List.getElem?_map, List.map_replicate, List.getElem?_replicate]
    by_cases hj : j < n
    · simp [hj, Nat.mod_one]
    · simp [hj]
  · rename_i hk
    simp only [Option.some.injEq] at hk h
    subst hk; subst h
    obtain ⟨_, rfl, i, hi, his, _, hz⟩ := tiB_bool hTe
    have hii := Option.some.inj (hi0.symm.trans hi); rw [hii] at hb
    refine ⟨_, _, hi, hz, his, by rw [hb]; exact hb2, rfl, by simp [RC.len], trivial, ?_⟩
    apply List.ext_getElem?
    intro j
    simp only [madeCells, his, Value.cells, RC.cells, Array.toList_map, Array.toList_range, List.getElem?_map, List.map_replicate, List.getElem?_replicate]
    by_cases hj : j < n
    · simp [hj, Nat.mod_one]
    · simp [hj]
  · rename_i fs k _ hk
    simp only [Option.some.injEq] at hk
    subst hk
    cases hb0 : Nat.blt 0 k with
    | false => rw [hb0] at h; cases h
    | true =>
      rw [hb0] at h
      simp only [cond_true, Option.some.injEq] at h
      subst h
      have hk0 : 0 < k := by simpa [Nat.blt_eq] using hb0
      obtain ⟨F, i, _, hi, his, _, hz, _⟩ := tiB_struct hTe
      have hii := Option.some.inj (hi0.symm.trans hi); rw [hii] at hb
      refine ⟨_, _, hi, hz, his, by rw [hb]; exact hb2, rfl, by simp [RC.len], ⟨hk0, fun x hx => by rw [(List.mem_replicate.1 hx).2]; simp⟩, ?_⟩
      have hflat : ∀ m : Nat, (List.replicate m (List.replicate k (0 : Int))).flatMap (fun x => x.map vI) = List.replicate (m * k) (vI 0) := by
        intro m
        induction m with
        | zero => simp
        | succ m ih =>
          rw [List.replicate_succ, List.flatMap_cons, ih, List.map_replicate, List.replicate_append_replicate]
          congr 1
          rw [Nat.succ_mul]; omega
      simp only [RC.cells]
      rw [hflat]
      apply List.ext_getElem?
      intro j
      simp only [madeCells, his, Value.cells, Array.toList_map, Array.toList_range, List.getElem?_map, List.getElem?_replicate]
      by_cases hj : j < n * k
      · have : j % k < k := Nat.mod_lt _ hk0
        simp [hj, this]
      · simp [hj]
  · cases h

theorem good_makeSlice {tab : Tab} (hT : TabOk c.P tab) {t : Nat} {x y : Operand} {e : Eff} (hN : ∀ d, o.dst = some d → d < c.N) (hw : Wanted c ops o S) (hop : o.op = .makeSlice t x y)
    (he : effMakeSlice tab t o.dst (S.eval x) (S.eval y) = some e) (hp : e.pre) (hR : ∀ d, o.dst = some d → d ∉ R) : Good c ops o (den S) R e.val.norm (normWr e.wr) := by
  unfold effMakeSlice at he
  split at he
  case h_2 => cases he
  rename_i d el _ _ hd hti
  split at he
  case h_2 => cases he
  rename_i n m hx hy
  split at he
  case h_2 => cases he
  rename_i r hr
  simp only [Option.some.injEq] at he; subst he
  obtain ⟨h1, h2, h3⟩ : n = m ∧ 0 ≤ n ∧ n ≤ 1000000000 := hp
  subst h1
  have hu := tiB_slice (hT _ _ hti)
  cases hle : look el tab with
  | none => rw [hle] at hr; simp [zeroRow] at hr
  | some ei =>
  rw [hle] at hr
  obtain ⟨i, z, hi, hz, his, hby, hel, hln, hwf, hcells⟩ := zeroRow_spec hT hle hr
  refine good_newrow hN hw hd (hR d hd) fun ρ a w hxx => ?_
  have e1 := hxx x (by simp [hop, Op.operands])
  have e2 := hxx y (by simp [hop, Op.operands])
  rw [hx] at e1; rw [hy] at e2
  have e1' := rel_i e1
  have e2' := rel_i e2
  have hnn : n = ((n.toNat : Nat) : Int) := by omega
  have hmul : (i.bytes : Int) * n ≤ 281474976710656 := by
    have h4 : i.bytes * n.toNat ≤ 1000 * 1000000000 := Nat.mul_le_mul hby (by omega)
    have h5 : ((i.bytes * n.toNat : Nat) : Int) = (i.bytes : Int) * n := by rw [Int.natCast_mul]; rw [← hnn]
    omega
  have hrun := run_make (P := c.P) w t el i z hu hi hz .i64 .i64 n n h2 (Int.le_refl _) hmul (by omega)
  refine ⟨madeCells z.cells (n.toNat * i.size), ?_, hwf, by rw [hln]; unfold maxLen; omega, by rw [size_madeCells, hln, his], by rw [hcells]⟩
  rw [hel, hln]
  simp [execOp, hop, e1', e2', hrun]

theorem good_makeRows {tab : Tab} (hT : TabOk c.P tab) {t el f sz by_ sz2 by2 : Nat} {x y : Operand} {e : Eff} (hN : ∀ d, o.dst = some d → d < c.N) (hw : Wanted c ops o S) (hop : o.op = .makeSlice t x y) (hti : look t tab = some ⟨.slice el, sz, by_⟩) (hle : look el tab = some ⟨.slice f, sz2, by2⟩)
    (he : makeRows o.dst el f (S.eval x) (S.eval y) = some e) (hp : e.pre) (hR : ∀ d, o.dst = some d → d ∉ R) : Good c ops o (den S) R e.val.norm (normWr e.wr) := by
  unfold makeRows at he
  split at he
  case h_2 => cases he
  rename_i d n m hd hx hy
  simp only [Option.some.injEq] at he; subst he
  obtain ⟨h1, h2, h3⟩ : n = m ∧ 0 ≤ n ∧ n ≤ 1000000000 := hp
  subst h1
  have hu := tiB_slice (hT _ _ hti)
  obtain ⟨i, _, hi, his, hby, hby2, hz, _⟩ := tiB_slice2 (hT _ _ hle)
  refine good_of hN hw fun S' ρ a w hag hfr hs hdl => ?_
  have hfd : S'.Fresh c d := hfr d (by simp [wrHs, normWr]) (hR d hd)
  have e1' := rel_i (by have := eval_rel hag hs (x := x) (by simp [hop, Op.operands]); rw [hx] at this; exact this)
  have e2' := rel_i (by have := eval_rel hag hs (x := y) (by simp [hop, Op.operands]); rw [hy] at this; exact this)
  have hmul : (i.bytes : Int) * n ≤ 281474976710656 := by
    have h4 : i.bytes * n.toNat ≤ 1000 * 1000000000 := Nat.mul_le_mul (by omega) (by omega)
    have h5 : ((i.bytes * n.toNat : Nat) : Int) = (i.bytes : Int) * n := by rw [Int.natCast_mul]; rw [show ((n.toNat : Nat) : Int) = n by omega]
    omega
  have hrun := run_make (P := c.P) w t el i (.slice none 0 0) hu hi hz .i64 .i64 n n h2 (Int.le_refl _) hmul (by omega)
  have hcells : (madeCells (Value.slice none 0 0).cells (n.toNat * i.size)).toList = List.replicate n.toNat (.slice none 0 0) := by
    apply List.ext_getElem?
    intro j
    simp only [madeCells, his, Value.cells, Array.toList_map, Array.toList_range, List.getElem?_map, List.getElem?_replicate]
    by_cases hj : j < n.toNat
    · simp [hj, Nat.mod_one]
    · simp [hj]
  have hsize : (madeCells (Value.slice none 0 0).cells (n.toNat * i.size)).size = n.toNat := by
    rw [← Array.length_toList, hcells, List.length_replicate]
  have ch := Chg.alloc w (.cells (madeCells (Value.slice none 0 0).cells (n.toNat * i.size)) el)
  have hnil : ∀ (j : Nat) (v : Value), (List.replicate n.toNat (Value.slice none 0 0))[j]? = some v → v = .slice none 0 0 := by
    intro j v hv
    rw [List.getElem?_replicate] at hv
    split at hv
    · exact (Option.some.inj hv).symm
    · cases hv
  refine ⟨.slice (some ⟨w.heap.size, 0, none⟩) n.toNat n.toNat, w.alloc (.cells (madeCells (Value.slice none 0 0).cells (n.toNat * i.size)) el), upd ρ d (.tuple (.slice (some ⟨w.heap.size, 0, none⟩) n.toNat n.toNat :: List.replicate n.toNat (.slice none 0 0)).toArray), .inl (by simp [execOp, hop, e1', e2', hrun]), ?_⟩
  rw [hd]
  refine SatR.gather (cons := []) hs (hdl d hd) hfd ch (by simp) (by simp) (fun k hk => ?_) ?_ ?_
  · obtain ⟨j, v, hv, hb⟩ := Blk.tuple.1 hk
    cases j with
    | zero => simp at hv; subst hv; simp [blkOf] at hb; exact .inl (by omega)
    | succ j =>
      rw [List.getElem?_cons_succ] at hv
      rw [hnil j v hv] at hb
      simp [blkOf] at hb
  · show OwnsRow _ _ _ (upd ρ d _ d)
    rw [upd_same]
    refine (OwnsRow.comp rfl).2 ⟨_, List.replicate n.toNat (.slice none 0 0), rfl, by simp, ?_, fun k hk => ?_, fun j l hj => ?_, fun i j I J _ hI hJ k hk => ?_, fun j I hI k hk => ?_⟩
    · rw [List.length_replicate]
      exact ⟨by simp, .inr ⟨w.heap.size, n.toNat, _, rfl, Nat.zero_le _, heap_alloc_new w _, Nat.le_refl _, by unfold maxLen; omega, by rw [hsize]; simp, by rw [hcells]; simp⟩⟩
    · simp [blkOf] at hk; subst hk; exact .inl hs.frame.size
    · rw [List.getElem?_replicate] at hj
      split at hj
      · rename_i hlt
        cases hj
        exact ⟨.slice none 0 0, by simp [hlt], trivial, World.ownsRow_nil _ 0 _ _, by simp [blkOf]⟩
      · cases hj
    · rw [hnil i I hI] at hk; simp [blkOf] at hk
    · rw [hnil j I hI] at hk; simp [blkOf] at hk
  · show _ = hdV (upd ρ d _ d)
    rw [upd_same]; rfl
theorem ivs_hs : ∀ {avs : List AV} {l : List Int}, ivs avs = some l → ∀ a ∈ avs, a.hs = []
  | [], _, _, a, ha => by cases ha
  | b :: avs, l, h, a, ha => by
    unfold ivs at h
    split at h
    · rename_i heq; cases heq
    · rename_i x l' heq
      simp only [List.cons.injEq] at heq
      obtain ⟨rfl, rfl⟩ := heq
      simp only [Option.map_eq_some_iff] at h
      obtain ⟨m, hm, rfl⟩ := h
      simp only [List.mem_cons] at ha
      rcases ha with rfl | ha
      · rfl
      · exact ivs_hs hm a ha
    · cases h
theorem svs_hs {k : Nat} : ∀ {avs : List AV} {l : List (List Int)}, svs k avs = some l → ∀ a ∈ avs, a.hs = []
  | [], _, _, a, ha => by cases ha
  | b :: avs, l, h, a, ha => by
    unfold svs at h
    split at h
    · rename_i heq; cases heq
    · rename_i x l' heq
      simp only [List.cons.injEq] at heq
      obtain ⟨rfl, rfl⟩ := heq
      cases hb : x.length == k with
      | false => rw [hb] at h; cases h
      | true =>
      rw [hb] at h
      simp only [cond_true, Option.map_eq_some_iff] at h
      obtain ⟨m, hm, rfl⟩ := h
      simp only [List.mem_cons] at ha
      rcases ha with rfl | ha
      · rfl
      · exact svs_hs hm a ha
    · cases h
theorem buildSlice_hs {tab : Tab} {t n : Nat} {d : Option Nat} {ps : List (Nat × Operand)} {e : Eff} (he : effBuildSlice tab t d n (ps.map fun p => (p.1, S.eval p.2)) = some e) : ∀ p ∈ ps, (S.eval p.2).hs = [] := by
  unfold effBuildSlice at he
  split at he
  case h_2 => cases he
  split at he
  case h_2 => cases he
  rename_i avs hav
  split at he
  case h_2 => cases he
  rename_i r hr
  obtain ⟨hps, _⟩ := allParts_spec _ _ _ hav
  have hall : ∀ a ∈ avs, a.hs = [] := by
    unfold rowOf at hr
    split at hr
    · simp only [Option.map_eq_some_iff] at hr
      obtain ⟨l, hl, _⟩ := hr
      exact ivs_hs hl
    · rename_i k _ _
      cases hb : Nat.blt 0 k with
      | false => rw [hb] at hr; cases hr
      | true =>
        rw [hb] at hr
        simp only [cond_true, Option.map_eq_some_iff] at hr
        obtain ⟨l, hl, _⟩ := hr
        exact svs_hs hl
    · split at hr
      · intro a ha; cases ha
      · cases hr
    · cases hr
  intro p hp
  have hmem : (p.1, S.eval p.2) ∈ (avs.zipIdx 0).map (fun p => (p.2, p.1)) := by
    rw [← hps]
    exact List.mem_map.2 ⟨p, hp, rfl⟩
  obtain ⟨q, hq, heq⟩ := List.mem_map.1 hmem
  have h1 : q.1 = S.eval p.2 := congrArg Prod.snd heq
  rw [← h1]
  refine hall _ ?_
  have := List.mem_zipIdx hq
  obtain ⟨_, _, h2⟩ := this
  rw [h2]
  exact List.getElem_mem _
/-- ALL OPERATIONS. -/
theorem good_eff {tab : Tab} (hT : TabOk c.P tab) {spec : Spec} (hspec : SpecOk c.P spec) {e : Eff} (hN : ∀ d, o.dst = some d → d < c.N) (hw : Wanted c ops o S)
    (he : eff tab spec o.dst o.op S = some e) (hp : e.pre) : Good c ops o (den S) (rdOf S o.op) e.val.norm (normWr e.wr) := by
  unfold eff at he
  split at he
  · rename_i x hop
    simp only [val1, Option.some.injEq] at he; subst he
    exact good_move hN hw (.inl hop)
  · rename_i x hop
    simp only [val1, Option.some.injEq] at he; subst he
    exact good_move hN hw (.inr hop)
  · rename_i t x hop
    rw [hop]
    unfold effBox2 at he
    split at he
    · rename_i h1 h2 hx
      split at he
      case h_2 => cases he
      rename_i d hd
      exact good_boxPair hN hw hop hd hx he (fun h hh => hh) rfl
    · refine good_box hN hw hop he fun d hd => ?_
      have : (S.eval x).hs = [] := by
        unfold effBox at he
        split at he <;> first | (rename_i hx; rw [hx]; rfl) | cases he
      simp [rdOf, this]
  · rename_i x hop
    exact good_nil hN hw hop he (by rw [hop]; exact fun h hh => hh)
  · rename_i t hop
    rw [hop]
    exact good_makeMap hN hw hop he (by simp [rdOf])
  · rename_i t x y ok hop
    exact good_lookup hT hN hw hop he (by rw [hop]; exact fun h hh => hh)
  · rename_i t x y z hop
    exact good_update hT hN hw hop he (by rw [hop]; exact fun h hh => hh)
  · rename_i t hop
    rw [hop]
    exact good_alloc hT hN hw hop he (by simp [rdOf])
  · rename_i t x f hop
    exact good_field hT hN hw hop he hp (by rw [hop]; exact fun h hh => hh)
  · rename_i t x hop
    exact good_load hT hN hw hop he hp (by rw [hop]; exact fun h hh => hh)
  · rename_i t x y hop
    exact good_store hT hN hw hop he hp (by rw [hop]; rfl)
  · rename_i t ps hop
    unfold effBuild2 at he
    split at he
    · rename_i hti
      exact good_buildTwo hT hN hw hop hti he (by rw [hop]; exact fun p hp h hh => List.mem_flatMap.2 ⟨p, hp, hh⟩)
    · exact good_build hT hN hw hop he
  · rename_i t n ps hop
    unfold effBuildSl at he
    split at he
    case h_2 => cases he
    rename_i el _ _ hti
    split at he
    · rename_i f _ _ hle
      split at he
      case h_2 => cases he
      rename_i d hd
      exact good_buildRows hT hN hw hop hd hti hle he (by rw [hop]; rfl)
    · rename_i hns
      refine good_buildSlice hT hN hw hop he fun d hd => ?_
      rw [hop]
      simp only [rdOf, List.mem_flatMap, not_exists, not_and]
      intro p hp
      have hav : (S.eval p.2).hs = [] := buildSlice_hs he p hp
      rw [hav]; simp
  · rename_i t x y hop
    rw [hop]
    unfold effMakeSl at he
    split at he
    case h_2 => cases he
    rename_i el _ _ hti
    split at he
    · rename_i f _ _ hle
      exact good_makeRows hT hN hw hop hti hle he hp (by simp [rdOf])
    · exact good_makeSlice hT hN hw hop he hp (by simp [rdOf])
  · rename_i op t x y t' hop
    exact good_bins hT hN hw hop he hp
  · rename_i op t x hop
    exact good_un hN hw hop he
  · rename_i cc x y hop
    exact good_pick hN hw hop he
  · rename_i t j hop
    exact good_extract hN hw hop he
  · rename_i t x j hop
    exact good_index hT hN hw hop he hp (by rw [hop]; exact fun h hh => hh)
  · rename_i t x lo hi mx hop
    exact good_slice hT hN hw hop he hp (by rw [hop]; exact fun h hh => hh)
  · rename_i t x j hop
    exact good_indexV hT hN hw hop he hp
  · rename_i fx args ts hop
    split at he
    case h_2 => cases he
    rename_i f hfx
    have := good_call hspec hN hw hop hfx he hp
    rw [hop]
    simpa [rdOf, List.flatMap_map] using this
  · rename_i args ts hop
    split at he
    · rename_i x t ha hts
      cases hb : (elemSz tab t).isSome with
      | false => rw [hb] at he; cases he
      | true =>
        rw [hb] at he
        exact good_len hT hN hw hop ha hts hb he hp (by rw [hop]; simp [rdOf, ha])
    · cases he
  · rename_i args ts hop
    split at he
    · rename_i s x t t' ha hts
      cases hb : (t == t') with
      | false => rw [hb] at he; cases he
      | true =>
        rw [hb] at he
        have htt : t = t' := by simpa using hb
        subst htt
        have := good_append hT hN hw hop ha hts he hp
        rw [hop]
        simpa [rdOf, ha] using this
    · cases he
  · rename_i args ts hop
    split at he
    · rename_i x y ha
      exact good_max hN hw hop ha he
    · cases he
  · rename_i args ts hop
    split at he
    · rename_i x y ha
      exact good_min hN hw hop ha he
    · cases he
  · cases he
end
end Go.Proofs.Ytgmgdnifdejjlaa

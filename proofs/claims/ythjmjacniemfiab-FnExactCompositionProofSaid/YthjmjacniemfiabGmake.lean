/-
  Each effect of the abstract machine is sound: a slice made of zeroes; then all operations under one theorem. Conditions: none; this text proves nothing of the program.
-/
import Derived.Test.YthjmjacniemfiabGcal2
namespace Go.Proofs.Ythjmjacniemfiab
open Go Go.RowKit

section
variable {c : Ctx} {ops : Array Oper} {o : Oper} {S : St} {R : List Nat}

theorem zeroRow_spec {tab : Tab} (hT : TabOk c.P tab) {e n : Nat} {ei : TI} {r : RC} (hle : look e tab = some ei) (h : zeroRow e (some ei) n = some r) :
    ∃ i z, c.P.info? e = some i ∧ i.zero = some z ∧ i.size = r.sz ∧ i.bytes ≤ 1000 ∧ r.elem = e ∧ r.len = n ∧ r.wf ∧ (madeCells z.cells (n * i.size)).toList = r.cells := by
  have hTe := hT _ _ hle
  obtain ⟨i0, _, hi0, _, _, hb, hb2⟩ := tiB_info hTe
  unfold zeroRow at h
  split at h
  · rename_i hk
    simp only [Option.some.injEq] at hk h
    subst hk; subst h
    obtain ⟨_, rfl, i, hi, his, _, hz⟩ := tiB_int hTe
    have hii := Option.some.inj (hi0.symm.trans hi); rw [hii] at hb
    refine ⟨_, _, hi, hz, his, by rw [hb]; exact hb2, rfl, by simp [RC.len], trivial, ?_⟩
    apply List.ext_getElem?
    intro j
    simp only [madeCells, his, Value.cells, RC.cells, Array.toList_map, Array.toList_range, List.getElem?_map, List.map_replicate, List.getElem?_replicate]
    by_cases hj : j < n
    · simp [hj, Nat.mod_one]
    · simp [hj]
  · rename_i hk
    simp only [Option.some.injEq] at hk h
    subst hk; subst h
    obtain ⟨_, rfl, i, hi, his, _, hz⟩ := tiB_bool hTe
    have hii := Option.some.inj (hi0.symm.trans hi); rw [hii] at hb
    refine ⟨_, _, hi, hz, his, by rw [hb]; exact hb2, rfl, by simp [RC.len], trivial, ?_⟩
    apply List.ext_getElem?
    intro j
    simp only [madeCells, his, Value.cells, RC.cells, Array.toList_map, Array.toList_range, List.getElem?_map, List.map_replicate, List.getElem?_replicate]
    by_cases hj : j < n
    · simp [hj, Nat.mod_one]
    · simp [hj]
  · rename_i fs k _ hk
    simp only [Option.some.injEq] at hk
    subst hk
    cases hb0 : Nat.blt 0 k with
    | false => rw [hb0] at h; cases h
    | true =>
      rw [hb0] at h
      simp only [cond_true, Option.some.injEq] at h
      subst h
      have hk0 : 0 < k := by simpa [Nat.blt_eq] using hb0
      obtain ⟨F, i, _, hi, his, _, hz, _⟩ := tiB_struct hTe
      have hii := Option.some.inj (hi0.symm.trans hi); rw [hii] at hb
      refine ⟨_, _, hi, hz, his, by rw [hb]; exact hb2, rfl, by simp [RC.len], ⟨hk0, fun x hx => by rw [(List.mem_replicate.1 hx).2]; simp⟩, ?_⟩
      have hflat : ∀ m : Nat, (List.replicate m (List.replicate k (0 : Int))).flatMap (fun x => x.map vI) = List.replicate (m * k) (vI 0) := by
        intro m
        induction m with
        | zero => simp
        | succ m ih =>
          rw [List.replicate_succ, List.flatMap_cons, ih, List.map_replicate, List.replicate_append_replicate]
          congr 1
          rw [Nat.succ_mul]; omega
      simp only [RC.cells]
      rw [hflat]
      apply List.ext_getElem?
      intro j
      simp only [madeCells, his, Value.cells, Array.toList_map, Array.toList_range, List.getElem?_map, List.getElem?_replicate]
      by_cases hj : j < n * k
      · have : j % k < k := Nat.mod_lt _ hk0
        simp [hj, this]
      · simp [hj]
  · cases h

theorem good_makeSlice {tab : Tab} (hT : TabOk c.P tab) {t : Nat} {x y : Operand} {e : Eff} (hN : ∀ d, o.dst = some d → d < c.N) (hw : Wanted c ops o S) (hop : o.op = .makeSlice t x y)
    (he : effMakeSlice tab t o.dst (S.eval x) (S.eval y) = some e) (hp : e.pre) (hR : ∀ d, o.dst = some d → d ∉ R) : Good c ops o (den S) R e.val.norm (normWr e.wr) := by
  unfold effMakeSlice at he
  split at he
  case h_2 => cases he
  rename_i d el _ _ hd hti
  split at he
  case h_2 => cases he
  rename_i n m hx hy
  split at he
  case h_2 => cases he
  rename_i r hr
  simp only [Option.some.injEq] at he; subst he
  obtain ⟨h1, h2, h3⟩ : n = m ∧ 0 ≤ n ∧ n ≤ 1000000000 := hp
  subst h1
  have hu := tiB_slice (hT _ _ hti)
  cases hle : look el tab with
  | none => rw [hle] at hr; simp [zeroRow] at hr
  | some ei =>
  rw [hle] at hr
  obtain ⟨i, z, hi, hz, his, hby, hel, hln, hwf, hcells⟩ := zeroRow_spec hT hle hr
  refine good_newrow hN hw hd (hR d hd) fun ρ a w hxx => ?_
  have e1 := hxx x (by simp [hop, Op.operands])
  have e2 := hxx y (by simp [hop, Op.operands])
  rw [hx] at e1; rw [hy] at e2
  have e1' := rel_i e1
  have e2' := rel_i e2
  have hnn : n = ((n.toNat : Nat) : Int) := by omega
  have hmul : (i.bytes : Int) * n ≤ 281474976710656 := by
    have h4 : i.bytes * n.toNat ≤ 1000 * 1000000000 := Nat.mul_le_mul hby (by omega)
    have h5 : ((i.bytes * n.toNat : Nat) : Int) = (i.bytes : Int) * n := by rw [Int.natCast_mul]; rw [← hnn]
    omega
  have hrun := run_make (P := c.P) w t el i z hu hi hz .i64 .i64 n n h2 (Int.le_refl _) hmul (by omega)
  refine ⟨madeCells z.cells (n.toNat * i.size), ?_, hwf, by rw [hln]; unfold maxLen; omega, by rw [size_madeCells, hln, his], by rw [hcells]⟩
  rw [hel, hln]
  simp [execOp, hop, e1', e2', hrun]

/-- ALL OPERATIONS. -/
theorem good_eff {tab : Tab} (hT : TabOk c.P tab) {spec : Spec} (hspec : SpecOk c.P spec) {e : Eff} (hN : ∀ d, o.dst = some d → d < c.N) (hw : Wanted c ops o S)
    (he : eff tab spec o.dst o.op S = some e) (hp : e.pre) : Good c ops o (den S) (rdOf S o.op) e.val.norm (normWr e.wr) := by
  unfold eff at he
  split at he
  · rename_i x hop
    simp only [val1, Option.some.injEq] at he; subst he
    exact good_move hN hw (.inl hop)
  · rename_i x hop
    simp only [val1, Option.some.injEq] at he; subst he
    exact good_move hN hw (.inr hop)
  · rename_i t x hop
    rw [hop]
    exact good_box hN hw hop he (by simp [rdOf])
  · rename_i t hop
    rw [hop]
    exact good_alloc hT hN hw hop he (by simp [rdOf])
  · rename_i t x f hop
    exact good_field hT hN hw hop he hp (by rw [hop]; exact fun h hh => hh)
  · rename_i t x hop
    exact good_load hT hN hw hop he hp (by rw [hop]; exact fun h hh => hh)
  · rename_i t x y hop
    exact good_store hT hN hw hop he hp (by rw [hop]; exact fun h hh => hh)
  · rename_i t ps hop
    exact good_build hT hN hw hop he
  · rename_i t n ps hop
    rw [hop]
    exact good_buildSlice hT hN hw hop he (by simp [rdOf])
  · rename_i t x y hop
    rw [hop]
    exact good_makeSlice hT hN hw hop he hp (by simp [rdOf])
  · rename_i op t x y t' hop
    exact good_bins hT hN hw hop he hp
  · rename_i op t x hop
    exact good_un hN hw hop he
  · rename_i cc x y hop
    exact good_pick hN hw hop he
  · rename_i t j hop
    exact good_extract hN hw hop he
  · rename_i t x j hop
    exact good_index hT hN hw hop he hp (by rw [hop]; exact fun h hh => hh)
  · rename_i t x lo hi mx hop
    exact good_slice hT hN hw hop he hp (by rw [hop]; exact fun h hh => hh)
  · rename_i t x j hop
    exact good_indexV hT hN hw hop he hp
  · rename_i fx args ts hop
    split at he
    case h_2 => cases he
    rename_i f hfx
    have := good_call hspec hN hw hop hfx he hp
    rw [hop]
    simpa [rdOf, List.flatMap_map] using this
  · rename_i args ts hop
    split at he
    · rename_i x t ha hts
      cases hb : (elemSz tab t).isSome with
      | false => rw [hb] at he; cases he
      | true =>
        rw [hb] at he
        exact good_len hT hN hw hop ha hts hb he hp (by rw [hop]; simp [rdOf, ha])
    · cases he
  · rename_i args ts hop
    split at he
    · rename_i s x t t' ha hts
      cases hb : (t == t') with
      | false => rw [hb] at he; cases he
      | true =>
        rw [hb] at he
        have htt : t = t' := by simpa using hb
        subst htt
        have := good_append hT hN hw hop ha hts he hp
        rw [hop]
        simpa [rdOf, ha] using this
    · cases he
  · rename_i args ts hop
    split at he
    · rename_i x y ha
      exact good_max hN hw hop ha he
    · cases he
  · rename_i args ts hop
    split at he
    · rename_i x y ha
      exact good_min hN hw hop ha he
    · cases he
  · cases he
end
end Go.Proofs.Ythjmjacniemfiab

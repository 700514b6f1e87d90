/-
  Each operation of the abstract machine against the model's own: what it reads off the program's table of types, and that it takes a met state to the next. Conditions: none; this text proves nothing of the program.
-/
import Derived.Test.YtclpoenfcpefmaaSat
import Derived.Laws.StructEq
namespace Go.Proofs.Ytclpoenfcpefmaa
open Go Go.RowKit

/-! ### The table of types -/
def isI0 : Value → Bool
  | .int .i64 0 => true
  | _ => false
def isZ (n : Nat) : Option Value → Bool
  | some (.agg cs) => cs.size == n && cs.toList.all isI0
  | _ => false
def isI64 : Option TypeDesc → Bool
  | some (.int .i64) => true
  | _ => false
def fieldsB (P : Program) : List Field → List (Nat × Nat) → Bool
  | [], [] => true
  | f :: F, p :: fs => f.offset == p.1 && (((P.info? f.type).map (·.size)) == some p.2 && (Nat.blt 0 p.2 && (((p.2 != 1) || (isI64 (P.underlying f.type) && f.name != "_")) && fieldsB P F fs)))
  | _, _ => false
def isNilZ : Option Value → Bool
  | some (.slice none 0 0) => true
  | _ => false
def isTwoZ : Option Value → Bool
  | some (.agg cs) => cs.size == 2
  | _ => false
def sizeB (P : Program) (t : Nat) : Bool := ((P.info? t).map (·.size)) == some 1
def twoB (P : Program) (f g : Nat) : List Field → Bool
  | [a, b] => a.offset == 0 && (b.offset == 1 && (a.type == f && (b.type == g && (sizeB P f && sizeB P g))))
  | _ => false
def sz1 (P : Program) (e : Nat) : Bool := ((P.info? e).map (·.size)) == some 1
def tiB (P : Program) (t : Nat) (ti : TI) : Bool :=
  match P.info? t, P.underlying t with
  | some i, some d => i.size == ti.sz && (i.bytes == ti.bytes && (Nat.ble ti.bytes 1000 && (match ti.k, d with
    | .int, .int .i64 => ti.sz == 1 && (match i.zero with | some (.int .i64 0) => true | _ => false)
    | .bool, .bool => ti.sz == 1 && (match i.zero with | some (.bool false) => true | _ => false)
    | .struct fs, .struct F => isZ ti.sz i.zero && (fieldsB P F.toList fs && (!P.stoodInHeld t && !P.eqGuardType P.depth t))
    | .array n e, .array m e' => n == m && (e == e' && (isZ ti.sz i.zero && (n == ti.sz && sz1 P e)))
    | .slice e, .slice e' => e == e' && (ti.sz == 1 && isNilZ i.zero)
    | .mapT k e, .map k' e' => k == k' && (e == e' && ti.sz == 1)
    | .two f g, .struct F => ti.sz == 2 && (twoB P f g F.toList && isTwoZ i.zero)
    | _, _ => false)))
  | _, _ => false
def tabB (P : Program) (tab : Tab) : Bool := tab.all fun p => tiB P p.1 p.2

def TabOk (P : Program) (tab : Tab) : Prop := ∀ t ti, look t tab = some ti → tiB P t ti = true
theorem look_mem {α : Type} {d : Nat} {v : α} : ∀ {l : List (Nat × α)}, look d l = some v → (d, v) ∈ l
  | [], h => by simp [look] at h
  | p :: l, h => by
    simp only [look] at h
    by_cases hp : p.1 = d
    · have h1 : (p.1 == d) = true := by simpa using hp
      rw [h1] at h
      simp only [cond_true, Option.some.injEq] at h
      have : p = (d, v) := by cases p; simp_all
      rw [this]; exact List.mem_cons_self
    · have h1 : (p.1 == d) = false := by simpa using hp
      rw [h1] at h
      exact List.mem_cons_of_mem _ (look_mem h)
theorem TabOk.of {P : Program} {tab : Tab} (h : tabB P tab = true) : TabOk P tab := fun _ _ hl => List.all_eq_true.1 h _ (look_mem hl)

theorem isI0_spec {v : Value} (h : isI0 v = true) : v = vI 0 := by
  unfold isI0 at h; split at h
  · rfl
  · cases h
theorem isZ_spec {n : Nat} {z : Option Value} (h : isZ n z = true) : z = some (.agg (List.replicate n (vI 0)).toArray) := by
  unfold isZ at h
  split at h
  · rename_i cs
    simp only [Bool.and_eq_true, beq_iff_eq, List.all_eq_true] at h
    have : cs.toList = List.replicate n (vI 0) := by
      apply List.eq_replicate_iff.2
      exact ⟨by simpa using h.1, fun b hb => isI0_spec (h.2 b hb)⟩
    rw [← this]
  · cases h
theorem isI64_spec {d : Option TypeDesc} (h : isI64 d = true) : d = some (.int .i64) := by
  unfold isI64 at h; split at h
  · rfl
  · cases h

section
variable {P : Program} {t : Nat} {ti : TI}
theorem tiB_info (h : tiB P t ti = true) : ∃ i d, P.info? t = some i ∧ P.underlying t = some d ∧ i.size = ti.sz ∧ i.bytes = ti.bytes ∧ ti.bytes ≤ 1000 := by
  unfold tiB at h
  split at h
  · rename_i i d hi hd
    simp only [Bool.and_eq_true, beq_iff_eq, Nat.ble_eq] at h
    exact ⟨i, d, hi, hd, h.1, h.2.1, h.2.2.1⟩
  · cases h
theorem tiB_int {sz bytes : Nat} (h : tiB P t ⟨.int, sz, bytes⟩ = true) : P.underlying t = some (.int .i64) ∧ sz = 1 ∧ ∃ i, P.info? t = some i ∧ i.size = 1 ∧ i.bytes = bytes ∧ i.zero = some (vI 0) := by
  unfold tiB at h
  split at h
  · rename_i i d hi hd
    simp only [Bool.and_eq_true, beq_iff_eq] at h
    obtain ⟨h1, h2, h3, h4⟩ := h
    split at h4 <;> try cases h4
    all_goals (rename_i hk; first | cases hk | skip)
    simp only [Bool.and_eq_true, beq_iff_eq] at h4
    obtain ⟨h4, h5⟩ := h4
    split at h5
    · rename_i hz
      exact ⟨hd, h4, i, hi, h1.trans h4, h2, hz⟩
    · cases h5
  · cases h
theorem tiB_bool {sz bytes : Nat} (h : tiB P t ⟨.bool, sz, bytes⟩ = true) : P.underlying t = some .bool ∧ sz = 1 ∧ ∃ i, P.info? t = some i ∧ i.size = 1 ∧ i.bytes = bytes ∧ i.zero = some (.bool false) := by
  unfold tiB at h
  split at h
  · rename_i i d hi hd
    simp only [Bool.and_eq_true, beq_iff_eq] at h
    obtain ⟨h1, h2, h3, h4⟩ := h
    split at h4 <;> try cases h4
    all_goals (rename_i hk; first | cases hk | skip)
    simp only [Bool.and_eq_true, beq_iff_eq] at h4
    obtain ⟨h4, h5⟩ := h4
    split at h5
    · rename_i hz
      exact ⟨hd, h4, i, hi, h1.trans h4, h2, hz⟩
    · cases h5
  · cases h
theorem tiB_struct {fs : List (Nat × Nat)} {sz bytes : Nat} (h : tiB P t ⟨.struct fs, sz, bytes⟩ = true) :
    ∃ F i, P.underlying t = some (.struct F) ∧ P.info? t = some i ∧ i.size = sz ∧ i.bytes = bytes ∧ i.zero = some (.agg (List.replicate sz (vI 0)).toArray) ∧ fieldsB P F.toList fs = true ∧ P.stoodInHeld t = false ∧ P.eqGuardType P.depth t = false := by
  unfold tiB at h
  split at h
  · rename_i i d hi hd
    simp only [Bool.and_eq_true, beq_iff_eq] at h
    obtain ⟨h1, h2, h3, h4⟩ := h
    split at h4 <;> try cases h4
    all_goals (rename_i hk; first | cases hk | skip)
    simp only [Bool.and_eq_true, Bool.not_eq_true'] at h4
    exact ⟨_, i, hd, hi, h1, h2, isZ_spec h4.1, h4.2.1, h4.2.2.1, h4.2.2.2⟩
  · cases h
theorem tiB_array {n e sz bytes : Nat} (h : tiB P t ⟨.array n e, sz, bytes⟩ = true) :
    ∃ i ei, P.underlying t = some (.array n e) ∧ P.info? t = some i ∧ i.size = sz ∧ i.bytes = bytes ∧ i.zero = some (.agg (List.replicate sz (vI 0)).toArray) ∧ n = sz ∧ P.info? e = some ei ∧ ei.size = 1 := by
  unfold tiB at h
  split at h
  · rename_i i d hi hd
    simp only [Bool.and_eq_true, beq_iff_eq] at h
    obtain ⟨h1, h2, h3, h4⟩ := h
    split at h4 <;> try cases h4
    all_goals (rename_i hk; first | cases hk | skip)
    simp only [Bool.and_eq_true, beq_iff_eq, sz1, Option.map_eq_some_iff] at h4
    obtain ⟨h5, h6, h7, h8, ei, he, hs⟩ := h4
    subst h5; subst h6
    exact ⟨i, ei, hd, hi, h1, h2, isZ_spec h7, h8, he, hs⟩
  · cases h
theorem tiB_slice {e sz bytes : Nat} (h : tiB P t ⟨.slice e, sz, bytes⟩ = true) : P.underlying t = some (.slice e) := by
  unfold tiB at h
  split at h
  · rename_i i d hi hd
    simp only [Bool.and_eq_true, beq_iff_eq] at h
    obtain ⟨h1, h2, h3, h4⟩ := h
    split at h4 <;> try cases h4
    all_goals (rename_i hk; first | cases hk | skip)
    simp only [Bool.and_eq_true, beq_iff_eq] at h4
    rw [h4.1]; exact hd
  · cases h
theorem isNilZ_spec {z : Option Value} (h : isNilZ z = true) : z = some (.slice none 0 0) := by
  unfold isNilZ at h; split at h
  · rfl
  · cases h
theorem isTwoZ_spec {z : Option Value} (h : isTwoZ z = true) : ∃ cs, z = some (.agg cs) ∧ cs.size = 2 := by
  unfold isTwoZ at h; split at h
  · rename_i cs; exact ⟨cs, rfl, by simpa using h⟩
  · cases h
theorem sizeB_spec {t : Nat} (h : sizeB P t = true) : ∃ i, P.info? t = some i ∧ i.size = 1 := by
  simpa [sizeB] using h
theorem twoB_spec {f g : Nat} {F : List Field} (h : twoB P f g F = true) : ∃ a b, F = [a, b] ∧ a.offset = 0 ∧ b.offset = 1 ∧ a.type = f ∧ b.type = g ∧ (∃ i, P.info? f = some i ∧ i.size = 1) ∧ ∃ i, P.info? g = some i ∧ i.size = 1 := by
  unfold twoB at h; split at h
  · rename_i a b
    simp only [Bool.and_eq_true, beq_iff_eq] at h
    obtain ⟨h1, h2, h3, h4, h5, h6⟩ := h
    exact ⟨a, b, rfl, h1, h2, h3, h4, sizeB_spec h5, sizeB_spec h6⟩
  · cases h
theorem tiB_slice2 {e sz bytes : Nat} (h : tiB P t ⟨.slice e, sz, bytes⟩ = true) : ∃ i, P.underlying t = some (.slice e) ∧ P.info? t = some i ∧ i.size = 1 ∧ i.bytes = bytes ∧ bytes ≤ 1000 ∧ i.zero = some (.slice none 0 0) ∧ sz = 1 := by
  unfold tiB at h
  split at h
  · rename_i i d hi hd
    simp only [Bool.and_eq_true, beq_iff_eq, Nat.ble_eq] at h
    obtain ⟨h1, h2, h3, h4⟩ := h
    split at h4 <;> try cases h4
    all_goals (rename_i hk; first | cases hk | skip)
    simp only [Bool.and_eq_true, beq_iff_eq] at h4
    exact ⟨i, by rw [h4.1]; exact hd, hi, h1.trans h4.2.1, h2, h3, isNilZ_spec h4.2.2, h4.2.1⟩
  · cases h
theorem tiB_map {k e sz bytes : Nat} (h : tiB P t ⟨.mapT k e, sz, bytes⟩ = true) : P.underlying t = some (.map k e) := by
  unfold tiB at h
  split at h
  · rename_i i d hi hd
    simp only [Bool.and_eq_true, beq_iff_eq] at h
    obtain ⟨h1, h2, h3, h4⟩ := h
    split at h4 <;> try cases h4
    all_goals (rename_i hk; first | cases hk | skip)
    simp only [Bool.and_eq_true, beq_iff_eq] at h4
    rw [h4.1, h4.2.1]; exact hd
  · cases h
theorem tiB_two {f g sz bytes : Nat} (h : tiB P t ⟨.two f g, sz, bytes⟩ = true) : ∃ F i cs, P.underlying t = some (.struct F) ∧ P.info? t = some i ∧ i.size = 2 ∧ i.zero = some (.agg cs) ∧ cs.size = 2 ∧ twoB P f g F.toList = true := by
  unfold tiB at h
  split at h
  · rename_i i d hi hd
    simp only [Bool.and_eq_true, beq_iff_eq] at h
    obtain ⟨h1, h2, h3, h4⟩ := h
    split at h4 <;> try cases h4
    all_goals (rename_i hk; first | cases hk | skip)
    simp only [Bool.and_eq_true, beq_iff_eq] at h4
    obtain ⟨cs, h5, h6⟩ := isTwoZ_spec h4.2.2
    exact ⟨_, i, cs, hd, hi, h1.trans h4.1, h5, h6, h4.2.1⟩
  · cases h
theorem fieldsB_at : ∀ {F : List Field} {fs : List (Nat × Nat)}, fieldsB P F fs = true → F.length = fs.length ∧ ∀ (j : Nat) (p : Nat × Nat), fs[j]? = some p → ∃ (f : Field) (fi : TypeInfo), F[j]? = some f ∧ f.offset = p.1 ∧ P.info? f.type = some fi ∧ fi.size = p.2 ∧ 0 < p.2 ∧ (p.2 = 1 → P.underlying f.type = some (.int .i64) ∧ f.name ≠ "_")
  | [], [], _ => ⟨rfl, fun j p h => by simp at h⟩
  | [], _ :: _, h => by simp [fieldsB] at h
  | _ :: _, [], h => by simp [fieldsB] at h
  | f :: F, p :: fs, h => by
    simp only [fieldsB, Bool.and_eq_true, beq_iff_eq, Option.map_eq_some_iff, Nat.blt_eq, Bool.or_eq_true, bne_iff_ne] at h
    obtain ⟨h1, ⟨fi, h2, h3⟩, h4, h5, h6⟩ := h
    obtain ⟨hl, hj⟩ := fieldsB_at h6
    refine ⟨by simp [hl], fun j q hq => ?_⟩
    cases j with
    | zero =>
      simp only [List.getElem?_cons_zero, Option.some.injEq] at hq
      subst hq
      refine ⟨f, fi, rfl, h1, h2, h3, h4, fun hp => ?_⟩
      rcases h5 with h5 | h5
      · exact absurd hp h5
      · exact ⟨isI64_spec h5.1, h5.2⟩
    | succ j => simpa using hj j q (by simpa using hq)
end

/-! ### Runs -/
section
variable {P : Program} {w : World}
theorem run_info {t : TypeId} {i : TypeInfo} (h : P.info? t = some i) : (typeInfo t).run P w = .ok i w := by simp [typeInfo, h]
theorem run_size {t : TypeId} {i : TypeInfo} (h : P.info? t = some i) : (sizeOf t).run P w = .ok i.size w := by simp [sizeOf, typeInfo, h]
theorem run_zero {t : TypeId} {i : TypeInfo} {z : Value} (h : P.info? t = some i) (hz : i.zero = some z) : (zeroValue t).run P w = .ok z w := by simp [zeroValue, typeInfo, h, hz]
theorem run_isAgg_struct {t : TypeId} {F : Array Field} (h : P.underlying t = some (.struct F)) : (isAgg t).run P w = .ok true w := by simp [isAgg, run_underlying h]
theorem run_isAgg_array {t : TypeId} {n e : Nat} (h : P.underlying t = some (.array n e)) : (isAgg t).run P w = .ok true w := by simp [isAgg, run_underlying h]
theorem run_isAgg_int {t : TypeId} {k : IntKind} (h : P.underlying t = some (.int k)) : (isAgg t).run P w = .ok false w := by simp [isAgg, run_underlying h]
theorem run_isAgg_bool {t : TypeId} (h : P.underlying t = some .bool) : (isAgg t).run P w = .ok false w := by simp [isAgg, run_underlying h]
theorem run_load_cell {a : Addr} {v : Value} (h : w.cell? a = some v) : (load a).run P w = .ok v w := by simp [load, Sem.run, h]
theorem run_loadAt_int {t : TypeId} {a : Addr} {v : Value} (ht : P.underlying t = some (.int .i64)) (h : w.cell? a = some v) : (Instr.loadAt t (.pointer (some a))).run P w = .ok v w := by
  simp [Instr.loadAt, Instr.sureAddr, loadVar, run_isAgg_int ht, h]
theorem run_loadAt_bool {t : TypeId} {a : Addr} {v : Value} (ht : P.underlying t = some .bool) (h : w.cell? a = some v) : (Instr.loadAt t (.pointer (some a))).run P w = .ok v w := by
  simp [Instr.loadAt, Instr.sureAddr, loadVar, run_isAgg_bool ht, h]
theorem run_loadAt_slice {t e : TypeId} {a : Addr} {v : Value} (ht : P.underlying t = some (.slice e)) (h : w.cell? a = some v) : (Instr.loadAt t (.pointer (some a))).run P w = .ok v w := by
  have : (isAgg t).run P w = .ok false w := by simp [isAgg, run_underlying ht]
  simp [Instr.loadAt, Instr.sureAddr, loadVar, this, h]
theorem run_loadAt_map {t k e : TypeId} {a : Addr} {v : Value} (ht : P.underlying t = some (.map k e)) (h : w.cell? a = some v) : (Instr.loadAt t (.pointer (some a))).run P w = .ok v w := by
  have : (isAgg t).run P w = .ok false w := by simp [isAgg, run_underlying ht]
  simp [Instr.loadAt, Instr.sureAddr, loadVar, this, h]
theorem run_loadAt_agg {t : TypeId} {a : Addr} {i : TypeInfo} {cs : List Value} (ht : (isAgg t).run P w = .ok true w) (hi : P.info? t = some i) (hs : i.size = cs.length) (h : ∀ j v, cs[j]? = some v → w.cell? (a.add j) = some v) :
    (Instr.loadAt t (.pointer (some a))).run P w = .ok (.agg cs.toArray) w := by
  have := run_loadCells_list (P := P) w a cs h
  simp [Instr.loadAt, Instr.sureAddr, loadVar, ht, run_size hi, hs, this]
theorem add_lit (g j k : Nat) : (⟨g, j, none⟩ : Addr).add k = ⟨g, j + k, none⟩ := by unfold Addr.add; split <;> simp_all
theorem add0 (g k : Nat) : (⟨g, 0, none⟩ : Addr).add k = ⟨g, k, none⟩ := by rw [add_lit]; simp

/-- a store of cells into a block that is known -/
theorem run_storeAt {t : TypeId} {i : TypeInfo} {g o : Nat} {el : TypeId} {cur : Array Value} {v : Value} (hi : P.info? t = some i) (hs : v.cells.size = i.size) (hg : w.heap[g]? = some (.cells cur el (0, 0)))
    (hfit : o + v.cells.size ≤ cur.size) (h1 : ∀ u ∈ v.cells.toList, u.oneCell' = true) :
    (Instr.storeAt t (.pointer (some ⟨g, o, none⟩)) v).run P w = .ok () (w.setRow g (cur.toList.take o ++ v.cells.toList ++ cur.toList.drop (o + v.cells.size)).toArray) := by
  have := run_storeCells_at P g o el v.cells.toList 0 cur w hg (by simpa using hfit) h1
  simp only [Nat.add_zero, Array.length_toList] at this
  simp [Instr.storeAt, Instr.sureAddr, storeVar, run_size hi, hs, this]
theorem run_box {t : TypeId} {v : Value} : (Instr.box t v).run P w = .ok (.pointer (some ⟨w.heap.size, 0, none⟩)) (w.alloc (.cells v.cells t)) := by
  simp [Instr.box, newVar, newRow]
theorem run_alloc {t : TypeId} {i : TypeInfo} {z u : Value} (hi : P.info? t = some i) (hz : i.zero = some z) : (Instr.alloc t true u).run P w = .ok (.pointer (some ⟨w.heap.size, 0, none⟩)) (w.alloc (.cells z.cells t)) := by
  simp [Instr.alloc, run_zero hi hz, newVar, newRow]
theorem run_fieldAt {t : TypeId} {F : Array Field} {f : Nat} {fd : Field} {fi : TypeInfo} {a : Addr} (ht : P.underlying t = some (.struct F)) (hf : F[f]? = some fd) (hi : P.info? fd.type = some fi) (h0 : 0 < fi.size) :
    (Instr.fieldAt t (.pointer (some a)) f).run P w = .ok (.pointer (some (a.add fd.offset))) w := by
  have : fi.size ≠ 0 := by omega
  simp [Instr.fieldAt, run_underlying ht, hf, Instr.sureAddr, fieldPlace, run_size hi, this]
end

theorem cells_s (l : List Int) : (Value.agg (l.map vI).toArray).cells = (l.map vI).toArray := rfl
theorem one_vI {l : List Int} : ∀ u ∈ l.map vI, u.oneCell' = true := by
  intro u hu
  obtain ⟨n, _, rfl⟩ := List.mem_map.1 hu
  rfl

/-- what 'setAt' leaves -/
theorem setAt_eq {α : Type} : ∀ (m l : List α) (o : Nat), o + m.length ≤ l.length → setAt l o m = l.take o ++ m ++ l.drop (o + m.length)
  | [], l, o, _ => by simp [setAt]
  | x :: m, l, o, h => by
    simp only [List.length_cons] at h
    rw [setAt, setAt_eq m (l.set o x) (o + 1) (by simp; omega)]
    have hs : l.set o x = l.take o ++ x :: l.drop (o + 1) := by rw [List.set_eq_take_append_cons_drop, if_pos (by omega)]
    have hl : (l.take o).length = o := by simp; omega
    have h1 : (l.set o x).take (o + 1) = l.take o ++ [x] := by
      rw [hs, List.take_append, hl, List.take_of_length_le (by omega)]
      simp
    have h2 : (l.set o x).drop (o + 1 + m.length) = l.drop (o + (m.length + 1)) := by
      rw [List.drop_set, if_pos (by omega)]
      congr 1
      omega
    rw [h1, h2]
    simp
theorem setAt_length {α : Type} : ∀ (m l : List α) (o : Nat), (setAt l o m).length = l.length
  | [], _, _ => rfl
  | x :: m, l, o => by rw [setAt, setAt_length m]; simp

end Go.Proofs.Ytclpoenfcpefmaa

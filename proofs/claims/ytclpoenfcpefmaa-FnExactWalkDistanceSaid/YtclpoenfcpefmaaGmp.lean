/-
  Each effect of the abstract machine is sound: maps, and handles of several values. Conditions: none; this text proves nothing of the program.
-/
import Derived.Test.YtclpoenfcpefmaaGcal2
import Derived.MapKept
namespace Go.Proofs.Ytclpoenfcpefmaa
open Go Go.RowKit

section
variable {c : Ctx} {ops : Array Oper} {o : Oper} {S : St} {R : List Nat}

/-! #### keys -/
theorem int_fields {P : Program} {F : List Field} {fs : List (Nat × Nat)} {n : Nat} (hfs : fieldsB P F fs = true) (hfl : flatB n fs = true) : F.length = n ∧ ∀ (j : Nat) (f : Field), F[j]? = some f → f.offset = j ∧ f.name ≠ "_" ∧ P.underlying f.type = some (.int .i64) := by
  unfold flatB at hfl
  simp only [Bool.and_eq_true, beq_iff_eq] at hfl
  obtain ⟨h1, h2⟩ := hfl
  obtain ⟨hl, hat⟩ := fieldsB_at hfs
  refine ⟨by omega, fun j f hj => ?_⟩
  have hjl : j < n := by have := (List.getElem?_eq_some_iff.1 hj).1; omega
  have hfj : fs[j]? = some (j, 1) := by rw [h2]; simp [hjl]
  obtain ⟨f', fi, g1, g2, _, _, _, g3⟩ := hat j (j, 1) hfj
  rw [hj] at g1
  cases g1
  exact ⟨g2, (g3 rfl).2, (g3 rfl).1⟩

theorem run_checkKey_int {P : Program} {w : World} {em : Bool} {d t : Nat} {v : Int} (hu : P.underlying t = some (.int .i64)) : (Instr.checkKey em (d + 1) t (vI v)).run P w = .ok () w := by
  unfold Instr.checkKey
  simp only [Sem.run_bind, run_underlying hu, Result.andThen_ok]
  rfl
theorem run_checkKey_struct {P : Program} {w : World} {em : Bool} {t : Nat} {F : Array Field} {l : List Int} (hu : P.underlying t = some (.struct F)) (hl : F.toList.length = l.length) (hF : ∀ (j : Nat) (f : Field), F.toList[j]? = some f → f.offset = j ∧ f.name ≠ "_" ∧ P.underlying f.type = some (.int .i64)) :
    (Instr.checkKey em 10000 t (.agg (l.map vI).toArray)).run P w = .ok () w := by
  unfold Instr.checkKey
  simp only [Sem.run_bind, run_underlying hu, Result.andThen_ok]
  rw [← Array.forIn_toList]
  have go : ∀ (G : List Field), (∀ f ∈ G, ∃ j : Nat, j < l.length ∧ f.offset = j ∧ f.name ≠ "_" ∧ P.underlying f.type = some (.int .i64)) →
      (forIn G PUnit.unit fun f _ => (do
        if f.name ≠ "_" then do
            let v ← part f.type (l.map vI).toArray f.offset
            Instr.checkKey em 9999 f.type v
            pure (ForInStep.yield PUnit.unit)
          else pure (ForInStep.yield PUnit.unit) : Sem (ForInStep PUnit))).run P w = .ok PUnit.unit w := by
    intro G
    induction G with
    | nil => intro _; rfl
    | cons f G ih =>
      intro h
      obtain ⟨j, hj, h1, h2, h3⟩ := h f (by simp)
      have hp : (part f.type (l.map vI).toArray f.offset).run P w = .ok (vI l[j]) w := by
        simp [part, run_isAgg_int h3, h1, hj]
      rw [List.forIn_cons]
      simp only [h2, ne_eq, not_false_eq_true, if_true, Sem.run_bind, hp, Result.andThen_ok, run_checkKey_int (P := P) (w := w) (em := em) (d := 9998) (v := l[j]) h3, Sem.run_pure]
      exact ih fun g hg => h g (by simp [hg])
  exact (congrArg (fun r => Result.andThen r _) (go F.toList fun f hf => by
    obtain ⟨j, hj⟩ := List.getElem?_of_mem hf
    have hlt := (List.getElem?_eq_some_iff.1 hj).1
    exact ⟨j, by omega, hF j f hj⟩)).trans rfl

theorem eqI_beq : ∀ (a b : List Int), a.length = b.length → eqI a b = (a == b)
  | [], [], _ => rfl
  | [], _ :: _, h => by simp at h
  | _ :: _, [], h => by simp at h
  | x :: a, y :: b, h => by
    have ih := eqI_beq a b (by simpa using h)
    simp only [eqI, List.headD_cons, List.tail_cons, ih]
    by_cases hxy : x = y
    · subst hxy; simp
    · have : (x == y) = false := by simpa using hxy
      rw [this]
      simp [hxy]
/-- two keys compared -/
theorem run_equal_key {P : Program} {w : World} {t : Nat} {fs : List (Nat × Nat)} {n sz by_ : Nat} (hti : tiB P t ⟨.struct fs, sz, by_⟩ = true) (hfl : flatB n fs = true) {xs ys : List Int} (hx : xs.length = n) (hy : ys.length = n) :
    (Op.equal t (.agg (xs.map vI).toArray) (.agg (ys.map vI).toArray)).run P w = .ok (xs == ys) w := by
  obtain ⟨F, i, hu, hi, his, _, hz, hfs, hst, hgt⟩ := tiB_struct hti
  obtain ⟨hFl, _⟩ := fieldsB_at hfs
  have hfl0 := hfl
  unfold flatB at hfl
  simp only [Bool.and_eq_true, beq_iff_eq] at hfl
  obtain ⟨hfl1, hfl2⟩ := hfl
  have hflat : ∀ (j : Nat) (p : Nat × Nat), fs[j]? = some p → p = (0 + j, 1) := by
    intro j p hj
    rw [hfl2] at hj
    simp only [List.getElem?_map, Option.map_eq_some_iff] at hj
    obtain ⟨k, hk, rfl⟩ := hj
    have := (List.getElem?_eq_some_iff.1 hk).2
    simp at this
    simp [this]
  have hF' : P.fieldsOf t = F := by simp [Program.fieldsOf, hu]
  have h1 : (Op.equalIn 10000 t (.agg (xs.map vI).toArray) (.agg (ys.map vI).toArray)).run P w = .ok (eqI xs ys) w := by
    rw [run_equalIn_struct w 9999 t _ _ (by rw [hu, hF']) hst, hF']
    have := eqI_run (P := P) (w := w) (d := 9998) F.toList fs 0 xs ys hfs hflat (by rw [hFl, hfl1]; omega) (by omega)
    simpa using this
  rw [← eqI_beq xs ys (by omega)]
  exact h1

section
variable {P : Program} {w : World} {t n sz by_ : Nat} {fs : List (Nat × Nat)} {α : Type} {conv : α → Value}
def keyV (k : List Int) : Value := .agg (k.map vI).toArray
def encL (conv : α → Value) (kvs : List (List Int × α)) : List (Value × Value) := kvs.map fun p => (keyV p.1, conv p.2)
/-- what is found among a map's entries -/
theorem run_find (hti : tiB P t ⟨.struct fs, sz, by_⟩ = true) (hfl : flatB n fs = true) {k : List Int} (hk : k.length = n) (z : α) : ∀ (kvs : List (List Int × α)) (es : List MapEntry) (i : Nat), es.map (fun e => (e.key, e.val)) = encL conv kvs → (∀ p ∈ kvs, p.1.length = n) →
    (hasL k kvs = false ∧ (Instr.findAsking t (keyV k) es i).run P w = .ok none w ∧ getL z k kvs = z ∧ ∀ v, putL k v kvs = kvs ++ [(k, v)]) ∨
    (hasL k kvs = true ∧ ∃ j e, es[j]? = some e ∧ e.key = keyV k ∧ (Instr.findAsking t (keyV k) es i).run P w = .ok (some (i + j, e.val)) w ∧ e.val = conv (getL z k kvs) ∧ ∀ v, putL k v kvs = kvs.set j (k, v))
  | [], [], i, _, _ => .inl ⟨rfl, rfl, rfl, fun _ => rfl⟩
  | [], _ :: _, i, h, _ => by simp [encL] at h
  | _ :: _, [], i, h, _ => by simp [encL] at h
  | p :: kvs, e :: es, i, h, hn => by
    simp only [encL, List.map_cons, List.cons.injEq, Prod.mk.injEq] at h
    obtain ⟨⟨h1, h2⟩, h3⟩ := h
    have hpl := hn p (by simp)
    have heq := run_equal_key (w := w) hti hfl hk hpl
    have ih := run_find hti hfl hk z kvs es (i + 1) h3 fun q hq => hn q (by simp [hq])
    by_cases hkp : k = p.1
    · right
      have hb : (p.1 == k) = true := by simp [hkp]
      refine ⟨by simp [hasL, hb], 0, e, rfl, by rw [h1, hkp], ?_, by simp [getL, hb, h2], fun v => by simp [putL, hb]⟩
      have hb' : (k == p.1) = true := by simp [hkp]
      rw [hb'] at heq
      have heq' : (Op.equal t (keyV k) e.key).run P w = .ok true w := by rw [h1]; exact heq
      simp [Instr.findAsking, heq']
    · have hb : (p.1 == k) = false := by simpa using fun e => hkp e.symm
      have hb' : (k == p.1) = false := by simpa using hkp
      rw [hb'] at heq
      have heq' : (Op.equal t (keyV k) e.key).run P w = .ok false w := by rw [h1]; exact heq
      have hstep : (Instr.findAsking t (keyV k) (e :: es) i).run P w = (Instr.findAsking t (keyV k) es (i + 1)).run P w := by
        simp [Instr.findAsking, heq']
      rcases ih with ⟨g1, g2, g3, g4⟩ | ⟨g1, j, e', g2, g3, g4, g5, g6⟩
      · left
        refine ⟨by simp [hasL, hb, g1], by rw [hstep, g2], by simp [getL, hb, g3], fun v => by simp [putL, hb, g4]⟩
      · right
        refine ⟨by simp [hasL, hb, g1], j + 1, e', by simpa using g2, g3, ?_, by simp [getL, hb, g5], fun v => by simp [putL, hb, g6]⟩
        rw [hstep, g4, show i + 1 + j = i + (j + 1) by omega]
theorem run_findKey_eq {F : Array Field} (hu : P.underlying t = some (.struct F)) (k : Value) (es : List MapEntry) : (Instr.findKey t k es).run P w = (Instr.findAsking t k es 0).run P w := by
  cases es with
  | nil => simp [Instr.findKey, run_underlying hu, Instr.findNow, Instr.findAsking]
  | cons e es => simp [Instr.findKey, run_underlying hu, Instr.findNow, Instr.sameNow]
theorem sameBits_key {d : Nat} : ∀ (l : List Int), (Instr.sameBits (d + 2) (keyV l) (keyV l)) = true := by
  intro l
  unfold keyV Instr.sameBits
  simp only [beq_self_eq_true, Bool.true_and, List.all_eq_true]
  intro p hp
  obtain ⟨j, hj⟩ := List.getElem?_of_mem hp
  rw [List.getElem?_zip_eq_some] at hj
  obtain ⟨h1, h2⟩ := hj
  rw [h1] at h2
  simp only [Option.some.injEq] at h2
  obtain ⟨x, hx⟩ : ∃ x, p.1 = vI x := by
    simp only [List.getElem?_map, Option.map_eq_some_iff] at h1
    obtain ⟨x, _, hx⟩ := h1
    exact ⟨x, hx.symm⟩
  have : p = (vI x, vI x) := by cases p; simp_all
  rw [this]
  simp [Instr.sameBits]
theorem run_stays {k : List Int} : (Instr.keyThatStays (keyV k) (keyV k)).run P w = .ok (keyV k) w := by
  unfold Instr.keyThatStays
  rw [sameBits_key (d := 9998)]
  rfl
theorem run_lookup_map {mt kt et b clock : Nat} {es : Array MapEntry} {kvs : List (List Int × α)} {z : α} {ok : Bool} {k : List Int} (ht : P.underlying mt = some (.map kt et)) (hti : tiB P kt ⟨.struct fs, sz, by_⟩ = true) (hfl : flatB n fs = true)
    (hz : (zeroValue et).run P w = .ok (conv z) w) (hb : w.heap[b]? = some (.map es clock)) (hes : es.toList.map (fun e => (e.key, e.val)) = encL conv kvs) (hn : ∀ p ∈ kvs, p.1.length = n) (hk : k.length = n) :
    (Instr.lookup mt (.map (some b)) (keyV k) ok).run P w = .ok (if ok then .tuple #[conv (getL z k kvs), .bool (hasL k kvs)] else conv (getL z k kvs)) w := by
  obtain ⟨F, _, hu, _, _, _, _, hfs, _⟩ := tiB_struct hti
  obtain ⟨hFn, hF⟩ := int_fields hfs hfl
  have hck : ∀ em, (Instr.checkKey em 10000 kt (keyV k)).run P w = .ok () w := fun em => run_checkKey_struct hu (by omega) hF
  rcases run_find (w := w) (conv := conv) hti hfl hk z kvs es.toList 0 hes hn with ⟨g1, g2, g3, _⟩ | ⟨g1, j, e, g2, g3, g4, g5, _⟩
  · simp [Instr.lookup, run_underlying ht, MapKept.run_getObj_map hb, hck, run_findKey_eq hu, g2, hz, g1, g3]
  · simp [Instr.lookup, run_underlying ht, MapKept.run_getObj_map hb, hck, run_findKey_eq hu, g4, g1, g5]
def setObjW (w : World) (b : Nat) (o : Obj) : World := { w with heap := w.heap.setIfInBounds b o }
theorem setObjW_same {b : Nat} {o o' : Obj} (h : w.heap[b]? = some o) : (setObjW w b o').heap[b]? = some o' := by
  have := (Array.getElem?_eq_some_iff.1 h).1
  simp [setObjW, this]
theorem Chg.setObj (w : World) (b : Nat) (o : Obj) : Chg w (setObjW w b o) (fun k => k = b) := ⟨rfl, rfl, rfl, by simp [setObjW], fun k _ hd => by
  have : b ≠ k := fun e => hd e.symm
  simp [setObjW, Array.getElem?_setIfInBounds_ne this]⟩
theorem run_update_map {mt kt et b clock : Nat} {es : Array MapEntry} {kvs : List (List Int × α)} {k : List Int} {v : α} (z : α) (ht : P.underlying mt = some (.map kt et)) (hti : tiB P kt ⟨.struct fs, sz, by_⟩ = true) (hfl : flatB n fs = true)
    (hb : w.heap[b]? = some (.map es clock)) (hes : es.toList.map (fun e => (e.key, e.val)) = encL conv kvs) (hn : ∀ p ∈ kvs, p.1.length = n) (hk : k.length = n) :
    ∃ es' clock', (Instr.mapUpdate mt (.map (some b)) (keyV k) (conv v)).run P w = .ok () (setObjW w b (.map es' clock')) ∧ es'.toList.map (fun e => (e.key, e.val)) = encL conv (putL k v kvs) := by
  obtain ⟨F, _, hu, _, _, _, _, hfs, _⟩ := tiB_struct hti
  obtain ⟨hFn, hF⟩ := int_fields hfs hfl
  have hck : ∀ em, (Instr.checkKey em 10000 kt (keyV k)).run P w = .ok () w := fun em => run_checkKey_struct hu (by omega) hF
  rcases run_find (w := w) (conv := conv) hti hfl hk z kvs es.toList 0 hes hn with ⟨g1, g2, g3, g6⟩ | ⟨g1, j, e, g2, g3, g4, g5, g6⟩
  · refine ⟨es.push ⟨keyV k, conv v, clock⟩, clock + 1, ?_, ?_⟩
    · simp [Instr.mapUpdate, run_underlying ht, MapKept.run_getObj_map hb, hck, run_findKey_eq hu, g2, MapKept.run_setObj_map _ hb, setObjW]
    · rw [g6, Array.toList_push, List.map_append, hes]
      simp [encL]
  · have hst := run_stays (P := P) (w := w) (k := k)
    have hj : es[j]? = some e := by simpa using g2
    have hlt : j < es.size := (Array.getElem?_eq_some_iff.1 hj).1
    refine ⟨es.modify j fun x => { x with key := keyV k, val := conv v }, clock, ?_, ?_⟩
    · simp [Instr.mapUpdate, run_underlying ht, MapKept.run_getObj_map hb, hck, run_findKey_eq hu, g4, hj, g3, hst, MapKept.run_setObj_map _ hb, setObjW]
    · rw [g6]
      apply List.ext_getElem?
      intro i
      have h0 : (es.toList.map fun e => (e.key, e.val))[i]? = (encL conv kvs)[i]? := by rw [hes]
      simp only [List.getElem?_map, encL, Array.getElem?_toList] at h0 ⊢
      by_cases hij : j = i
      · subst hij
        have hkl : j < kvs.length := by
          have := congrArg List.length hes
          simp [encL] at this
          omega
        rw [List.getElem?_set_self hkl]
        simp [Array.getElem?_modify, hj]
      · rw [List.getElem?_set_ne hij, ← h0]
        simp [Array.getElem?_modify, hij]
end

/-! #### the operations -/
/-- a map, wherever it lies -/
theorem map_at {w : World} {in_ : Nat → Prop} {x : AV} {cr : RC} {V : Value} {n : Nat} {m : MC} (hm : mapIn x (some cr) = some (n, m)) (hc : CompRow w in_ cr V) : ∃ b es clock, in_ b ∧ Blk V b ∧ w.heap[b]? = some (.map es clock) ∧ MapIs n es m ∧
    (∀ ρ v, ρ (hOf1 x) = V → x.rel ρ v → v = .map (some b)) := by
  unfold mapIn at hm
  split at hm
  · rename_i h n' m' heq
    simp only [Option.some.injEq, Prod.mk.injEq] at heq hm
    subst heq
    obtain ⟨rfl, rfl⟩ := hm
    obtain ⟨b, es, clock, rfl, h1, h2, h3⟩ := hc
    refine ⟨b, es, clock, h1, rfl, h2, h3, fun ρ v hv hr => ?_⟩
    have h4 : v = hdV (ρ h) := hr
    have h5 : ρ h = .map (some b) := hv
    rw [h4, h5]; rfl
  · rename_i h e k fs n' m' heq
    simp only [Option.some.injEq, Prod.mk.injEq] at heq hm
    subst heq
    obtain ⟨rfl, rfl⟩ := hm
    obtain ⟨g, A, b, es, clock, t, rfl, h1, h2, h3, h4, h5, h6⟩ := hc
    refine ⟨b, es, clock, h4, ⟨2, _, rfl, rfl⟩, h5, h6, fun ρ v hv hr => ?_⟩
    have h7 : v = seg (ρ h) 2 := hr
    have h8 : ρ h = _ := hv
    rw [h7, h8]; rfl
  · cases hm
theorem mapIn_hs {x : AV} {r : Option RC} {p : Nat × MC} (h : mapIn x r = some p) : hOf1 x ∈ x.hs := by
  unfold mapIn at h
  split at h
  · simp [hOf1, AV.hs, A0.hs]
  · simp [hOf1, AV.hs, A0.hs]
  · cases h
theorem mapIn_ci {x : AV} {e k n : Nat} {fs : List (List Int)} {m : MC} {p : Nat × MC} (h : mapIn x (some (.grp e k fs n m)) = some p) : ∃ h, x = .one (.ci h 1) := by
  cases x with
  | tup l => simp [mapIn] at h
  | one a0 =>
    cases a0 with
    | ci h' q =>
      match q, h with
      | 0, h => simp [mapIn] at h
      | 1, h => exact ⟨h', rfl⟩
      | q + 2, h => simp [mapIn] at h
    | _ => simp [mapIn] at h

theorem keyTI_spec {tab : Tab} {kt n : Nat} (h : keyTI (look kt tab) n = true) : ∃ fs by_, look kt tab = some ⟨.struct fs, n, by_⟩ ∧ flatB n fs = true := by
  unfold keyTI at h
  split at h
  · rename_i fs m by_ hl
    simp only [Bool.and_eq_true, beq_iff_eq] at h
    obtain ⟨rfl, h2⟩ := h
    exact ⟨fs, by_, hl, h2⟩
  · cases h

theorem good_lookup {tab : Tab} (hT : TabOk c.P tab) {t : Nat} {x y : Operand} {ok : Bool} {e : Eff} (hN : ∀ d, o.dst = some d → d < c.N) (hw : Wanted c ops o S) (hop : o.op = .lookup t x y ok)
    (he : effLookup tab t S (S.eval x) (S.eval y) ok = some e) (hR : ∀ h ∈ (S.eval x).hs, h ∈ R) : Good c ops o (den S) R e.val.norm (normWr e.wr) := by
  unfold effLookup at he
  split at he
  case h_2 => cases he
  rename_i n m k hm hy
  split at he
  case h_2 => cases he
  rename_i kt et sz by_ hti
  cases hb : (k.length == n && (keyTI (look kt tab) n && mcTI (look et tab) m)) with
  | false => rw [hb] at he; cases he
  | true =>
  rw [hb] at he
  simp only [cond_true, val1, Option.some.injEq] at he; subst he
  simp only [Bool.and_eq_true, beq_iff_eq] at hb
  obtain ⟨hk, hkt, het⟩ := hb
  obtain ⟨fs, by2, hlk, hfl⟩ := keyTI_spec hkt
  have ht := tiB_map (hT _ _ hti)
  cases hcr : compOf (look (hOf1 (S.eval x)) S.mem) with
  | none => rw [hcr] at hm; unfold mapIn at hm; split at hm <;> simp_all
  | some cr =>
  rw [hcr] at hm
  refine good_of hN hw fun S' ρ a w hag _ hs hd => ?_
  obtain ⟨in_, hc⟩ := comp_of hag hs (hR _ (mapIn_hs hm)) hcr
  obtain ⟨b, es, clock, _, _, hbk, ⟨hes, hkeys⟩, hval⟩ := map_at hm hc
  have hxv := hval ρ _ rfl (eval_rel hag hs (x := x) (by simp [hop, Op.operands]))
  have hyv : a.eval y = keyV k := by
    have := eval_rel hag hs (x := y) (by simp [hop, Op.operands])
    rw [hy] at this
    exact rel_s this
  have fin : ∀ {α : Type} (conv : α → Value) (z : α) (kvs : List (List Int × α)), (zeroValue et).run c.P w = .ok (conv z) w → es.toList.map (fun e => (e.key, e.val)) = encL conv kvs → (∀ p ∈ kvs, p.1.length = n) →
      (A0.rel ρ (m.get k) (conv (getL z k kvs))) → m.has k = hasL k kvs → ∃ v w' ρ', ((execOp a.eval o).run c.P w = .ok (.value v) w' ∨ ((execOp a.eval o).run c.P w = .ok .skip w' ∧ v = undef)) ∧ SatR c (S'.apply o.dst (lookV k m ok).norm (normWr [])) ρ' (a.put o.dst v).tmps w' := by
    intro α conv z kvs hz h1 h2 h3 h4
    have hrun := run_lookup_map (P := c.P) (w := w) (conv := conv) (ok := ok) ht (hT _ _ hlk) hfl hz hbk h1 h2 hk
    refine ⟨_, w, ρ, .inl (by simp only [execOp, hop, hxv, hyv]; rw [Sem.run_bind, hrun]; rfl), hs.val hd ((AV.rel_norm ρ _ _).2 ?_)⟩
    cases ok with
    | false => exact h3
    | true =>
      refine ⟨[conv (getL z k kvs), .bool (hasL k kvs)], rfl, rfl, fun j a0 hj => ?_⟩
      match j, hj with
      | 0, hj => simp at hj; subst hj; exact ⟨_, rfl, h3⟩
      | 1, hj => simp at hj; subst hj; exact ⟨_, rfl, by rw [h4]; rfl⟩
      | j + 2, hj => simp at hj
  cases m with
  | ints l =>
    unfold mcTI at het
    simp only at het
    split at het
    case h_2 => cases het
    rename_i hle
    obtain ⟨_, _, i, hi, _, _, hz⟩ := tiB_int (hT _ _ hle)
    exact fin vI 0 l (run_zero hi hz) hes (fun p hp => hkeys _ (List.mem_map.2 ⟨p, hp, rfl⟩)) rfl rfl
  | bools l =>
    unfold mcTI at het
    simp only at het
    split at het
    case h_2 => cases het
    rename_i hle
    obtain ⟨_, _, i, hi, _, _, hz⟩ := tiB_bool (hT _ _ hle)
    exact fin Value.bool false l (run_zero hi hz) hes (fun p hp => hkeys _ (List.mem_map.2 ⟨p, hp, rfl⟩)) rfl rfl

theorem good_nil {x : Operand} {e : Eff} (hN : ∀ d, o.dst = some d → d < c.N) (hw : Wanted c ops o S) (hop : o.op = .nilCheck x) (he : effNil S (S.eval x) = some e) (hR : ∀ h ∈ (S.eval x).hs, h ∈ R) : Good c ops o (den S) R e.val.norm (normWr e.wr) := by
  unfold effNil at he
  split at he
  case h_2 => cases he
  rename_i h hx
  split at he
  case h_2 => cases he
  rename_i _ _ _ _ _ hcr
  simp only [val1, Option.some.injEq] at he; subst he
  refine good_of hN hw fun S' ρ a w hag _ hs hd => ?_
  obtain ⟨in_, g, A, b, es, clock, t', hv, _, hg, _⟩ := comp_of hag hs (hR h (by rw [hx]; simp [AV.hs, A0.hs])) hcr
  have h1 := eval_rel hag hs (x := x) (by simp [hop, Op.operands])
  rw [hx] at h1
  have h2 : a.eval x = hdV (ρ h) := h1
  have h3 : a.eval x = .pointer (some ⟨g, 0, none⟩) := by rw [h2, hv]; rfl
  exact ⟨a.eval x, w, ρ, .inl (by simp [execOp, hop, h3]), hs.val hd h2⟩

theorem putL_keys {α : Type} (k : List Int) (v : α) (n : Nat) (hk : k.length = n) : ∀ l : List (List Int × α), (∀ p ∈ l, p.1.length = n) → ∀ p ∈ putL k v l, p.1.length = n
  | [], _, p, hp => by simp [putL] at hp; subst hp; exact hk
  | q :: l, h, p, hp => by
    unfold putL at hp
    cases hb : (q.1 == k) with
    | true =>
      rw [hb] at hp
      simp only [cond_true, List.mem_cons] at hp
      rcases hp with rfl | hp
      · exact hk
      · exact h p (by simp [hp])
    | false =>
      rw [hb] at hp
      simp only [cond_false, List.mem_cons] at hp
      rcases hp with rfl | hp
      · exact h _ (by simp)
      · exact putL_keys k v n hk l (fun q hq => h q (by simp [hq])) p hp
theorem good_update {tab : Tab} (hT : TabOk c.P tab) {t : Nat} {x y z : Operand} {e : Eff} (hN : ∀ d, o.dst = some d → d < c.N) (hw : Wanted c ops o S) (hop : o.op = .mapUpdate t x y z ∨ o.op = .insert t x y z)
    (he : effUpdate tab t S (S.eval x) (S.eval y) (S.eval z) = some e) (hR : ∀ h ∈ (S.eval x).hs, h ∈ R) : Good c ops o (den S) R e.val.norm (normWr e.wr) := by
  unfold effUpdate at he
  split at he
  case h_2 => cases he
  rename_i n m k a0 hm hy hz
  split at he
  case h_2 => cases he
  rename_i kt et sz by_ hti
  cases hb : (k.length == n && (keyTI (look kt tab) n && mcTI (look et tab) m)) with
  | false => rw [hb] at he; cases he
  | true =>
  rw [hb] at he
  simp only [cond_true] at he
  split at he
  case h_2 => cases he
  rename_i m' hput
  split at he
  case h_2 => cases he
  rename_i en' hback
  simp only [Option.some.injEq] at he; subst he
  simp only [Bool.and_eq_true, beq_iff_eq] at hb
  obtain ⟨hk, hkt, het⟩ := hb
  obtain ⟨fs, by2, hlk, hfl⟩ := keyTI_spec hkt
  have ht := tiB_map (hT _ _ hti)
  generalize hH : hOf1 (S.eval x) = H at *
  cases hcr : compOf (look H S.mem) with
  | none => rw [hcr] at hm; unfold mapIn at hm; split at hm <;> simp_all
  | some cr =>
  rw [hcr] at hm
  have hHR : H ∈ R := hR H (by rw [← hH]; exact mapIn_hs hm)
  refine good_of hN hw fun S' ρ a w hag _ hs hd => ?_
  have hyv : a.eval y = keyV k := by
    have := eval_rel hag hs (x := y) (by rcases hop with hop | hop <;> simp [hop, Op.operands])
    rw [hy] at this
    exact rel_s this
  have hzr : a0.rel ρ (a.eval z) := by
    have := eval_rel hag hs (x := z) (by rcases hop with hop | hop <;> simp [hop, Op.operands])
    rw [hz] at this
    exact this
  -- the entry is one's own
  obtain ⟨r0, hl0, hr0, hen'⟩ : ∃ r0, look H S.mem = some (.row r0) ∧ compOf (some (.row r0)) = some cr ∧ (mapBack (some (.row r0)) m' = some en') := by
    unfold mapBack at hback
    split at hback
    · rename_i n' m0 hl
      rw [hl] at hcr
      exact ⟨_, hl, hcr, by rw [← hback]; rfl⟩
    · rename_i hl
      rw [hl] at hcr
      exact ⟨_, hl, hcr, by rw [← hback]; rfl⟩
    · cases hback
  have hfl0 : r0.flat = false := by
    cases hf : r0.flat with
    | false => rfl
    | true => simp [compOf, hf] at hr0
  have hrc : r0 = cr := by simpa [compOf, hfl0] using hr0
  subst hrc
  have hmem : S'.mem H = some (.row r0) := mem_at hag hHR hl0
  have hown : CompRow w c.own r0 (ρ H) := (OwnsRow.comp hfl0).1 (hs.mem H _ hmem)
  obtain ⟨b, es, clock, hin, hblk, hbk, ⟨hes, hkeys⟩, hval⟩ := map_at hm hown
  have hxv := hval ρ (a.eval x) (by rw [hH]) (eval_rel hag hs (x := x) (by rcases hop with hop | hop <;> simp [hop, Op.operands]))
  have fin : ∀ {α : Type} (conv : α → Value) (z0 v0 : α) (kvs : List (List Int × α)), a.eval z = conv v0 → es.toList.map (fun e => (e.key, e.val)) = encL conv kvs → (∀ p ∈ kvs, p.1.length = n) → m'.cells = encL conv (putL k v0 kvs) → m'.keys = (putL k v0 kvs).map (·.1) →
      ∃ v w' ρ', ((execOp a.eval o).run c.P w = .ok (.value v) w' ∨ ((execOp a.eval o).run c.P w = .ok .skip w' ∧ v = undef)) ∧ SatR c (S'.apply o.dst (AV.norm (.one .bot)) (normWr [(H, some en')])) ρ' (a.put o.dst v).tmps w' := by
    intro α conv z0 v0 kvs hzv h1 h2 h3 h3k
    obtain ⟨es', clock', hrun, h4⟩ := run_update_map (P := c.P) (w := w) (conv := conv) (v := v0) z0 ht (hT _ _ hlk) hfl hbk h1 h2 hk
    have hmi : MapIs n es' m' := ⟨by rw [h3]; exact h4, fun q hq => by
      rw [h3k] at hq
      obtain ⟨p, hp, rfl⟩ := List.mem_map.1 hq
      exact putL_keys k v0 n hk kvs h2 p hp⟩
    have hnew : (setObjW w b (.map es' clock')).heap[b]? = some (.map es' clock') := setObjW_same hbk
    have hoth : ∀ k, k ≠ b → (setObjW w b (.map es' clock')).heap[k]? = w.heap[k]? := fun k hk => by
      have : b ≠ k := fun e => hk e.symm
      simp [setObjW, Array.getElem?_setIfInBounds_ne this]
    refine ⟨undef, setObjW w b (.map es' clock'), ρ, .inr ⟨by rcases hop with hop | hop <;> (simp only [execOp, hop, hxv, hyv, hzv]; rw [Sem.run_bind, hrun]; rfl), rfl⟩, ?_⟩
    have hholds : en'.norm.holds c (setObjW w b (.map es' clock')) ρ H ∧ en'.norm.isOwn = true := by
      unfold mapBack at hen'
      split at hen'
      · rename_i n' m0 heq
        simp only [Option.some.injEq, Entry.row.injEq] at heq hen'; subst heq; subst hen'
        refine ⟨(OwnsRow.comp rfl).2 ?_, rfl⟩
        obtain ⟨b', es0, cl0, hv, hin', hb', _⟩ := hown
        have hbb : b' = b := by
          rw [hv] at hblk
          simpa [Blk, blkOf] using hblk
        have hnn : n' = n := by
          unfold mapIn at hm
          split at hm <;> simp_all
        subst hbb; subst hnn
        exact ⟨b', es', clock', hv, hin', hnew, hmi⟩
      · rename_i e0 k0 fs0 n' m0 heq
        simp only [Option.some.injEq, Entry.row.injEq] at heq hen'; subst heq; subst hen'
        refine ⟨(OwnsRow.comp rfl).2 ?_, rfl⟩
        obtain ⟨g, A, b', es0, cl0, t0, hv, hg1, hg2, hg3, hin', hb', _⟩ := hown
        have hbb : b' = b := by
          have h8 := hval (fun _ => ρ H) (.map (some b')) rfl (by
            obtain ⟨h9, hx9⟩ := mapIn_ci hm
            rw [hx9]
            show _ = seg (ρ H) 2
            rw [hv]; rfl)
          simpa using h8
        have hnn : n' = n := by
          unfold mapIn at hm
          split at hm <;> simp_all
        subst hbb; subst hnn
        have hgb : g ≠ b' := by intro e; subst e; rw [hg2] at hb'; cases hb'
        refine ⟨g, A, b', es', clock', t0, hv, hg1, (hoth g hgb).trans hg2, hg3.chg fun q hq => hoth q fun e => ?_, hin', hnew, hmi⟩
        subst e
        rcases hg3.2.1.2 with ⟨hA, _⟩ | ⟨g', cap, cur, hA, _, hh, _⟩
        · rw [hA] at hq; simp [blkOf] at hq
        · rw [hA] at hq; simp [blkOf] at hq; subst hq; rw [hh] at hb'; cases hb'
      · cases hen'
    refine hs.step (D := fun k => k = b) hd (Chg.setObj w b _) (fun k hk => by subst hk; exact hin) (fun x hne => absurd rfl hne) (fun x hx => rfl) (fun y e'' hy ho' hnot k hk hkg => ?_) (fun y e'' hy => ?_) (fun y e'' hy ho' k hk => ⟨fun y2 e3 hy2 ho3 hnot => ?_, fun y2 e3 hy2 ho3 hne => ?_⟩) (by simp [AV.norm, A0.norm, AV.rel, A0.rel])
    · subst hkg
      have hne : y ≠ H := by simpa [wrHs, normWr] using hnot
      exact hs.sep y H e'' _ hy hmem ho' rfl hne _ hk hblk
    · by_cases hyd : H = y
      · subst hyd
        simp [normWr, look] at hy
        subst hy
        exact hholds.1
      · have : (H == y) = false := by simpa using hyd
        simp [normWr, look, this] at hy
    · by_cases hyd : H = y
      · subst hyd
        have hne : y2 ≠ H := by simpa [wrHs, normWr] using hnot
        intro hk'
        exact hs.sep y2 H e3 _ hy2 hmem ho3 rfl hne k hk' hk
      · have : (H == y) = false := by simpa using hyd
        simp [normWr, look, this] at hy
    · by_cases hyd : H = y
      · subst hyd
        have : (H == y2) = false := by simpa using fun e => hne e.symm
        simp [normWr, look, this] at hy2
      · have : (H == y) = false := by simpa using hyd
        simp [normWr, look, this] at hy
  cases m with
  | ints l =>
    cases a0 with
    | i v0 =>
      simp only [MC.put, Option.some.injEq] at hput; subst hput
      exact fin vI 0 v0 l hzr hes (fun p hp => hkeys _ (List.mem_map.2 ⟨p, hp, rfl⟩)) rfl rfl
    | _ => simp [MC.put] at hput
  | bools l =>
    cases a0 with
    | b v0 =>
      simp only [MC.put, Option.some.injEq] at hput; subst hput
      exact fin Value.bool false v0 l hzr hes (fun p hp => hkeys _ (List.mem_map.2 ⟨p, hp, rfl⟩)) rfl rfl
    | tt =>
      simp only [MC.put, Option.some.injEq] at hput; subst hput
      exact fin Value.bool false true l hzr hes (fun p hp => hkeys _ (List.mem_map.2 ⟨p, hp, rfl⟩)) rfl rfl
    | ff =>
      simp only [MC.put, Option.some.injEq] at hput; subst hput
      exact fin Value.bool false false l hzr hes (fun p hp => hkeys _ (List.mem_map.2 ⟨p, hp, rfl⟩)) rfl rfl
    | _ => simp [MC.put] at hput
end
end Go.Proofs.Ytclpoenfcpefmaa

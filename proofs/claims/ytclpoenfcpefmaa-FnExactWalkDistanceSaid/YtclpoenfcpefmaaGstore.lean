/-
  Each effect of the abstract machine is sound: stores, structs made and compared. Conditions: none; this text proves nothing of the program.
-/
import Derived.Test.YtclpoenfcpefmaaGload
namespace Go.Proofs.Ytclpoenfcpefmaa
open Go Go.RowKit

section
variable {c : Ctx} {ops : Array Oper} {o : Oper} {S : St} {R : List Nat}

/-- A store into a block of one's own. -/
theorem good_store_of {t h : Nat} {x y : Operand} {e e' : Entry} (hN : ∀ d, o.dst = some d → d < c.N) (hw : Wanted c ops o S) (hop : o.op = .store t x y) (hm : look h S.mem = some e) (hh : h ∈ R) (ho : e.norm.isOwn = true)
    (hk : ∀ (S' : SS) (ρ : Nat → Value) (a : Act) (w : World), Agree ops o R (den S) S' → SatR c S' ρ a.tmps w → ∃ g cs, Blk (ρ h) g ∧ (Instr.storeAt t (a.eval x) (a.eval y)).run c.P w = .ok () (w.setRow g cs) ∧ e'.norm.holds c (w.setRow g cs) ρ h) :
    Good c ops o (den S) R (AV.norm (.one .bot)) (normWr [(h, some e')]) := by
  refine good_of hN hw fun S' ρ a w hag _ hs hd => ?_
  obtain ⟨g, cs, hb, hr, hh'⟩ := hk S' ρ a w hag hs
  refine ⟨undef, w.setRow g cs, ρ, .inr ⟨by simp [execOp, hop, hr], rfl⟩, ?_⟩
  exact hs.write (e := e.norm) hd (mem_at hag hh hm) ho hb hh' (by simp [AV.norm, A0.norm, AV.rel, A0.rel])

theorem set_eq_cut (l : List Int) (o : Nat) (n : Int) (h : o < l.length) : ((l.set o n).map vI).toArray = ((l.map vI).toArray.toList.take o ++ [vI n] ++ (l.map vI).toArray.toList.drop (o + 1)).toArray := by
  congr 1
  rw [List.set_eq_take_append_cons_drop, if_pos h]
  simp
theorem setAt_eq_cut (l m : List Int) (o : Nat) (h : o + m.length ≤ l.length) : ((setAt l o m).map vI).toArray = ((l.map vI).toArray.toList.take o ++ m.map vI ++ (l.map vI).toArray.toList.drop (o + m.length)).toArray := by
  congr 1
  rw [setAt_eq m l o h]
  simp

/-- what a stored value's cells are -/
theorem ibox_store {w : World} {ρ : Nat → Value} {g t t' o' h : Nat} {l : List Int} {v : Value} {m : List Int} {i : TypeInfo} (hρ : ρ h = .pointer (some ⟨g, 0, none⟩)) (hown : c.own g) (hg : w.heap[g]? = some (.cells (l.map vI).toArray t' (0, 0)))
    (hv : v.cells = (m.map vI).toArray) (hi : c.P.info? t = some i) (hs : i.size = m.length) (hfit : o' + m.length ≤ l.length) :
    (Instr.storeAt t (.pointer (some ⟨g, o', none⟩)) v).run c.P w = .ok () (w.setRow g ((setAt l o' m).map vI).toArray) ∧ (Entry.ibox t' (setAt l o' m)).holds c (w.setRow g ((setAt l o' m).map vI).toArray) ρ h := by
  constructor
  · rw [run_storeAt hi (by rw [hv]; simp [hs]) hg (by rw [hv]; simpa using hfit) (by rw [hv]; exact fun u hu => one_vI u (by simpa using hu))]
    rw [hv, setAt_eq_cut l m o' hfit]
    simp
  · exact ⟨g, hρ, hown, setRow_heap w g _ _ t' _ hg⟩


theorem setAt_one (l : List Int) (o : Nat) (n : Int) : setAt l o [n] = l.set o n := rfl

/-- A store into a row of one's own: the cells from k on. -/
theorem row_store {w : World} {V : Value} {p : Nat → Prop} {t k : Nat} {r r' : RC} {v : Value} {i : TypeInfo} (hh : FlatRow w p r V) (hi : c.P.info? t = some i) (hs : v.cells.size = i.size) (h1 : ∀ u ∈ v.cells.toList, u.oneCell' = true)
    (hfit : k + v.cells.size ≤ r.cells.length) (hwf' : r'.wf) (hlen : r'.len = r.len) (helem : r'.elem = r.elem) (hsz : r'.sz = r.sz) (hcells : r'.cells = r.cells.take k ++ v.cells.toList ++ r.cells.drop (k + v.cells.size)) (hpos : 0 < v.cells.size) :
    ∃ g cs, blkOf V = some g ∧ addTo V k = .pointer (some ⟨g, k, none⟩) ∧ (Instr.storeAt t (.pointer (some ⟨g, k, none⟩)) v).run c.P w = .ok () (w.setRow g cs) ∧ FlatRow (w.setRow g cs) p r' V := by
  obtain ⟨hwf, hown, hin⟩ := hh
  rcases hown.2 with ⟨hv, hn⟩ | ⟨g, cap, cur, hv, hb, hg, hnc, hcm, hcs, htake⟩
  · exfalso
    have : r.cells.length = 0 := by rw [hown.1, hn]; simp
    omega
  · have hrl : r.cells.length = r.len * r.sz := hown.1
    have hle : r.len * r.sz ≤ cap * r.sz := Nat.mul_le_mul_right _ hnc
    have hst := run_storeAt (o := k) hi hs hg (by omega) h1
    refine ⟨g, _, by rw [hv]; rfl, by rw [hv, addTo_slice, add0], hst, hwf', ?_, ?_⟩
    · rw [hlen, helem, hsz]
      refine ⟨?_, .inr ⟨g, cap, _, hv, hb, setRow_heap w g cur _ _ _ hg, hnc, hcm, ?_, ?_⟩⟩
      · rw [hcells]
        simp only [List.length_append, List.length_take, List.length_drop, Array.length_toList]
        omega
      · simp only [List.size_toArray, List.length_append, List.length_take, List.length_drop, Array.length_toList]
        omega
      · have e1 : r.cells.take k = cur.toList.take k := by
          rw [← htake, List.take_take]
          congr 1
          omega
        have e2 : r.cells.drop (k + v.cells.size) = (cur.toList.drop (k + v.cells.size)).take (r.len * r.sz - (k + v.cells.size)) := by
          rw [← htake, List.drop_take]
        rw [hcells, e1, e2]
        have hlk : (cur.toList.take k ++ v.cells.toList).length = k + v.cells.size := by simp; omega
        rw [show (cur.toList.take k ++ v.cells.toList ++ cur.toList.drop (k + v.cells.size)).toArray.toList = (cur.toList.take k ++ v.cells.toList) ++ cur.toList.drop (k + v.cells.size) from rfl]
        rw [List.take_append, hlk, List.take_of_length_le (by omega)]
    · intro b hb'
      exact hin b hb'

theorem ints_store (l : List Int) (q : Nat) (n : Int) (hq : q < l.length) : (l.set q n).map vI = (l.map vI).take q ++ [vI n] ++ (l.map vI).drop (q + 1) := by
  rw [List.set_eq_take_append_cons_drop, if_pos hq]
  simp
theorem bools_store (l : List Bool) (q : Nat) (n : Bool) (hq : q < l.length) : (l.set q n).map Value.bool = (l.map Value.bool).take q ++ [Value.bool n] ++ (l.map Value.bool).drop (q + 1) := by
  rw [List.set_eq_take_append_cons_drop, if_pos hq]
  simp
theorem flat_take {k : Nat} : ∀ (l : List (List Int)), (∀ x ∈ l, x.length = k) → ∀ q, (l.flatMap fun x => x.map vI).take (q * k) = (l.take q).flatMap fun x => x.map vI
  | [], _, q => by simp
  | x :: l, h, q => by
    cases q with
    | zero => simp
    | succ q =>
      have hx : x.length = k := h x (by simp)
      have ih := flat_take l (fun y hy => h y (by simp [hy])) q
      simp only [List.flatMap_cons, List.take_succ_cons]
      rw [List.take_append, List.take_of_length_le (by simp [hx, Nat.succ_mul]), ← ih]
      congr 2
      simp [hx, Nat.succ_mul]
theorem flat_drop {k : Nat} : ∀ (l : List (List Int)), (∀ x ∈ l, x.length = k) → ∀ q, (l.flatMap fun x => x.map vI).drop (q * k) = (l.drop q).flatMap fun x => x.map vI
  | [], _, q => by simp
  | x :: l, h, q => by
    cases q with
    | zero => simp
    | succ q =>
      have hx : x.length = k := h x (by simp)
      have ih := flat_drop l (fun y hy => h y (by simp [hy])) q
      simp only [List.flatMap_cons, List.drop_succ_cons]
      rw [List.drop_append, List.drop_of_length_le (by simp [hx, Nat.succ_mul]), ← ih]
      simp [hx, Nat.succ_mul]
/-- one struct of a row is written over -/
theorem recs_store {k : Nat} (l : List (List Int)) (h : ∀ x ∈ l, x.length = k) (q : Nat) (m : List Int) (hq : q < l.length) :
    ((l.set q m).flatMap fun x => x.map vI) = (l.flatMap fun x => x.map vI).take (q * k) ++ m.map vI ++ (l.flatMap fun x => x.map vI).drop (q * k + k) := by
  rw [List.set_eq_take_append_cons_drop, if_pos hq, flat_take l h q, show q * k + k = (q + 1) * k by rw [Nat.succ_mul], flat_drop l h (q + 1)]
  simp
/-- one field of a struct of a row is written over -/
theorem recs_store1 {k : Nat} (l : List (List Int)) (h : ∀ x ∈ l, x.length = k) (q f : Nat) (n : Int) (d : List Int) (hf : f < k) (hq : q < l.length) :
    ((l.set q ((l.getD q d).set f n)).flatMap fun x => x.map vI) = (l.flatMap fun x => x.map vI).take (q * k + f) ++ [vI n] ++ (l.flatMap fun x => x.map vI).drop (q * k + f + 1) := by
  have hgd : l.getD q d = l[q] := by simp [hq]
  have hx : (l[q]).length = k := h _ (List.getElem_mem hq)
  rw [recs_store l h q _ hq, hgd]
  have hfl : (l.flatMap fun x => x.map vI) = (l.take q).flatMap (fun x => x.map vI) ++ ((l[q]).map vI ++ (l.drop (q + 1)).flatMap fun x => x.map vI) := by
    conv => lhs; rw [← List.take_append_drop q l, List.flatMap_append, List.drop_eq_getElem_cons hq, List.flatMap_cons]
  have hlt : ((l.take q).flatMap fun x => x.map vI).length = q * k := by
    rw [flat_length _ (fun y hy => h y (List.mem_of_mem_take hy))]
    simp only [List.length_take]; rw [Nat.min_eq_left (by omega)]
  have e1 : (l.flatMap fun x => x.map vI).take (q * k) = (l.take q).flatMap fun x => x.map vI := flat_take l h q
  have e2 : (l.flatMap fun x => x.map vI).drop (q * k + k) = (l.drop (q + 1)).flatMap fun x => x.map vI := by
    rw [show q * k + k = (q + 1) * k by rw [Nat.succ_mul]]; exact flat_drop l h (q + 1)
  have e3 : (l.flatMap fun x => x.map vI).take (q * k + f) = (l.take q).flatMap (fun x => x.map vI) ++ ((l[q]).map vI).take f := by
    rw [hfl, List.take_append, hlt, List.take_of_length_le (by omega)]
    congr 1
    rw [show q * k + f - q * k = f by omega, List.take_append]
    simp [hx]; omega
  have e4 : (l.flatMap fun x => x.map vI).drop (q * k + f + 1) = ((l[q]).map vI).drop (f + 1) ++ (l.drop (q + 1)).flatMap fun x => x.map vI := by
    rw [hfl, List.drop_append, hlt, List.drop_of_length_le (by omega)]
    rw [show q * k + f + 1 - q * k = f + 1 by omega, List.drop_append]
    simp [hx, show f + 1 - k = 0 by omega]
  rw [e1, e2, e3, e4, ints_store _ _ _ (by omega)]
  simp

/-- One row within a row of rows is another one. -/
theorem RowsIs.set {w w' : World} {p : Nat → Prop} {e f : Nat} {ll : List (List Int)} {O : Value} {Is : List Value} (hr : RowsIs w p e f ll O Is) {q : Nat} {I : Value} {l' : List Int} (hI : Is[q]? = some I) (hw : ∀ k, k < w.heap.size → blkOf I ≠ some k → w'.heap[k]? = w.heap[k]?) (hl : FlatRow w' p (.ints f l') I) : RowsIs w' p e f (ll.set q l') O Is := by
  refine ⟨by simp [hr.len], ?_, hr.oin, fun j l hj => ?_, hr.apart, hr.oapart⟩
  · rw [List.length_set]
    exact ownsRow_chg hr.outer fun k hk => hw k (ownsRow_blk hr.outer hk) (fun e => hr.oapart q I hI k e hk)
  · by_cases hqj : q = j
    · subst hqj
      have hlt : q < ll.length := by have := (List.getElem?_eq_some_iff.1 hI).1; rw [hr.len] at this; exact this
      rw [List.getElem?_set_self hlt] at hj
      cases hj
      exact ⟨I, hI, hl⟩
    · rw [List.getElem?_set_ne hqj] at hj
      obtain ⟨J, hJ, hf⟩ := hr.inner j l hj
      exact ⟨J, hJ, hf.chg fun k hk => hw k (hf.blk hk).2 (fun e => hr.apart q j I J hqj hI hJ k e hk)⟩
theorem good_storeN {tab : Tab} (hT : TabOk c.P tab) {t h p sz q f : Nat} {n : Int} {x y : Operand} {e : Eff} {ti : TI} (hN : ∀ d, o.dst = some d → d < c.N) (hw : Wanted c ops o S) (hop : o.op = .store t x y) (hx : S.eval x = .one (.ie h p sz q f)) (hy : S.eval y = .one (.i n)) (hti : look t tab = some ti) (hsz : ti.sz = 1)
    (he : storeN S h p sz q f n = some e) (hp : e.pre) (hh : h ∈ R) : Good c ops o (den S) R e.val.norm (normWr e.wr) := by
  unfold storeN at he
  split at he
  case h_2 => cases he
  rename_i e0 g0 ll hm
  cases hb : (sz == 1 && f == 0) with
  | false => rw [hb] at he; cases he
  | true =>
  rw [hb] at he
  simp only [cond_true, Option.some.injEq] at he; subst he
  simp only [Bool.and_eq_true, beq_iff_eq] at hb
  obtain ⟨rfl, rfl⟩ := hb
  obtain ⟨hp1, hp2⟩ : p < ll.length ∧ q < (ll.getD p []).length := hp
  obtain ⟨i, _, hi, _, his, _⟩ := tiB_info (hT _ _ hti)
  refine good_store_of hN hw hop hm hh rfl fun S' ρ a w hag hs => ?_
  obtain ⟨O, Is, hv, hr⟩ : CompRow w c.own (.rows e0 g0 ll) (ρ h) := (OwnsRow.comp rfl).1 (hs.mem h _ (mem_at hag hh hm))
  obtain ⟨I, hI, hf⟩ := hr.inner p (ll.getD p []) (by simp [hp1])
  have hyv : a.eval y = vI n := by
    have := eval_rel hag hs (x := y) (by simp [hop, Op.operands])
    rw [hy] at this
    exact rel_i this
  have hxv : a.eval x = addTo I (q * 1 + 0) := by
    have := eval_rel hag hs (x := x) (by simp [hop, Op.operands])
    rw [hx] at this
    have h1 : a.eval x = addTo (seg (ρ h) (p + 1)) (q * 1 + 0) := this
    rw [h1, hv]
    have hlt := (List.getElem?_eq_some_iff.1 hI).1
    have heq := (List.getElem?_eq_some_iff.1 hI).2
    simp [seg, hlt, heq]
  obtain ⟨g, cs, h1, h2, h3, h4⟩ := row_store (t := t) (k := q * 1 + 0) (v := a.eval y) (r' := .ints g0 ((ll.getD p []).set q n)) hf hi (by rw [hyv, his, hsz]; rfl) (by rw [hyv]; simp [Value.cells, Value.oneCell']) (by rw [hyv]; simp [Value.cells, RC.cells]; have h9 := hp2; simp at h9; omega) trivial (by simp [RC.len]) rfl rfl
    (by rw [hyv]; simpa [RC.cells, Value.cells] using ints_store (ll.getD p []) q n hp2) (by rw [hyv]; simp [Value.cells])
  refine ⟨g, cs, by rw [hv]; exact Blk.of_tuple (j := p + 1) (by simpa using hI) h1, by rw [hxv, h2]; exact h3, ?_⟩
  exact (OwnsRow.comp rfl).2 ⟨O, Is, hv, hr.set hI (fun k _ hk => setRow_other w g k cs (fun e => hk (by rw [e]; exact h1))) h4⟩

/-- A row is put into a row of rows. -/
theorem RowsIs.put {w w' : World} {p : Nat → Prop} {e f q : Nat} {ll : List (List Int)} {O V : Value} {Is : List Value} {l : List Int} (hr : RowsIs w p e f ll O Is) (hq : q < ll.length)
    (ho : w'.ownsRow 0 e 1 O ll.length (Is.set q V)) (hw : ∀ k, k < w.heap.size → blkOf O ≠ some k → w'.heap[k]? = w.heap[k]?) (hV : FlatRow w p (.ints f l) V)
    (hap : ∀ k, blkOf V = some k → ¬ Blk (.tuple (O :: Is).toArray) k) : RowsIs w' p e f (ll.set q l) O (Is.set q V) := by
  have hlt : q < Is.length := by rw [hr.len]; exact hq
  have hcase : ∀ (j : Nat) (J : Value), (Is.set q V)[j]? = some J → (j = q ∧ J = V) ∨ (j ≠ q ∧ Is[j]? = some J) := by
    intro j J hJ
    by_cases hjq : q = j
    · subst hjq
      rw [List.getElem?_set_self hlt] at hJ
      exact .inl ⟨rfl, (Option.some.inj hJ).symm⟩
    · rw [List.getElem?_set_ne hjq] at hJ
      exact .inr ⟨fun e => hjq e.symm, hJ⟩
  have hVO : ∀ k, blkOf V = some k → blkOf O ≠ some k := fun k hk hO => hap k hk (Blk.of_tuple (j := 0) rfl hO)
  have hVI : ∀ (j : Nat) (J : Value), Is[j]? = some J → ∀ k, blkOf V = some k → blkOf J ≠ some k := fun j J hJ k hk hb => hap k hk (Blk.of_tuple (j := j + 1) (by simpa using hJ) hb)
  refine ⟨by simp [hr.len], by rw [List.length_set]; exact ho, hr.oin, fun j l' hj => ?_, fun i j I J hij hI hJ k hk hk2 => ?_, fun j I hI k hk => ?_⟩
  · by_cases hjq : q = j
    · subst hjq
      rw [List.getElem?_set_self hq] at hj
      cases hj
      exact ⟨V, List.getElem?_set_self hlt, hV.chg fun k hk => hw k (hV.blk hk).2 (hVO k hk)⟩
    · rw [List.getElem?_set_ne hjq] at hj
      obtain ⟨J, hJ, hf⟩ := hr.inner j l' hj
      exact ⟨J, by rw [List.getElem?_set_ne hjq]; exact hJ, hf.chg fun k hk => hw k (hf.blk hk).2 (hr.oapart j J hJ k hk)⟩
  · rcases hcase i I hI with ⟨rfl, rfl⟩ | ⟨_, hI'⟩ <;> rcases hcase j J hJ with ⟨rfl, rfl⟩ | ⟨_, hJ'⟩
    · exact hij rfl
    · exact hVI j J hJ' k hk hk2
    · exact hVI i I hI' k hk2 hk
    · exact hr.apart i j I J hij hI' hJ' k hk hk2
  · rcases hcase j I hI with ⟨rfl, rfl⟩ | ⟨_, hI'⟩
    · exact hVO k hk
    · exact hr.oapart j I hI' k hk
theorem nxtH_ne (h : Nat) : nxtH h ≠ h := by unfold nxtH; omega
theorem set_cut {α : Type} (L : List α) (n q : Nat) (v : α) (hq : q < L.length) : (L.take q ++ [v] ++ L.drop (q + 1)).take n = (L.take n).set q v := by
  have : L.take q ++ [v] ++ L.drop (q + 1) = L.set q v := by
    rw [List.set_eq_take_append_cons_drop, if_pos hq]; simp
  rw [this, List.take_set]
theorem good_storeRow {tab : Tab} (hT : TabOk c.P tab) {t h q h2 : Nat} {x y : Operand} {e : Eff} {ti : TI} (hN : ∀ d, o.dst = some d → d < c.N) (hw : Wanted c ops o S) (hop : o.op = .store t x y) (hx : S.eval x = .one (.oe h q)) (hy : S.eval y = .one (.row h2)) (hti : look t tab = some ti) (hsz : ti.sz = 1)
    (he : storeRow S h q h2 = some e) (hp : e.pre) (hR : R = [h] ++ [h2]) : Good c ops o (den S) R e.val.norm (normWr e.wr) := by
  unfold storeRow at he
  split at he
  case h_2 => cases he
  rename_i e0 f ll f' l m1 m2
  cases hb : (f == f' && (!(h == h2) && !(nxtH h == h2))) with
  | false => rw [hb] at he; cases he
  | true =>
  rw [hb] at he
  simp only [cond_true, Option.some.injEq] at he; subst he
  simp only [Bool.and_eq_true, beq_iff_eq, Bool.not_eq_true', beq_eq_false_iff_ne, ne_eq] at hb
  obtain ⟨rfl, hne, hD⟩ := hb
  have hq : q < ll.length := hp
  clear hp
  have hDh : nxtH h ≠ h := nxtH_ne h
  generalize nxtH h = D at *
  obtain ⟨i, _, hi, _, his, _⟩ := tiB_info (hT _ _ hti)
  refine good_of hN hw fun S' ρ a w hag hfr hs hdl => ?_
  have M1 := mem_at hag (by rw [hR]; simp) m1
  have M2 := mem_at hag (by rw [hR]; simp) m2
  obtain ⟨O, Is, hv, hr⟩ : CompRow w c.own (.rows e0 f ll) (ρ h) := (OwnsRow.comp rfl).1 (hs.mem h _ M1)
  have f2 : FlatRow w c.own (.ints f l) (ρ h2) := (OwnsRow.flat rfl).1 (hs.mem h2 _ M2)
  obtain ⟨_, A, n, cap2, hA, _⟩ := f2.at
  have hyv : a.eval y = ρ h2 := by
    have := eval_rel hag hs (x := y) (by simp [hop, Op.operands])
    rw [hy] at this
    exact this
  have hxv : a.eval x = addTo O q := by
    have := eval_rel hag hs (x := x) (by simp [hop, Op.operands])
    rw [hx] at this
    have h1 : a.eval x = addTo (seg (ρ h) 0) q := this
    rw [h1, hv]; rfl
  have hfD : S'.Fresh c D := hfr D (by simp [wrHs, normWr]) (by rw [hR]; simp; exact ⟨hDh, hD⟩)
  have hIl : Is.length = ll.length := hr.len
  rcases hr.outer.2 with ⟨_, hn⟩ | ⟨g, cap, cur, hO, hbg, hg, hnc, hcm, hcs, htake⟩
  · omega
  have hOb : ∀ k, blkOf O = some k ↔ k = g := fun k => by rw [hO]; simp [blkOf, eq_comm]
  have hcsz : cur.size = cap := by simpa using hcs
  have hst := run_storeAt (P := c.P) (t := t) (o := q) (v := ρ h2) hi (by rw [hA, his, hsz]; rfl) hg (by rw [hA]; simp [Value.cells]; omega) (by rw [hA]; simp [Value.cells, Value.oneCell'])
  have hcell : (ρ h2).cells.toList = [ρ h2] := by rw [hA]; rfl
  have hcsize : (ρ h2).cells.size = 1 := by rw [hA]; rfl
  rw [hcell, hcsize] at hst
  have hown : (w.setRow g (cur.toList.take q ++ [ρ h2] ++ cur.toList.drop (q + 1)).toArray).ownsRow 0 e0 1 O ll.length (Is.set q (ρ h2)) := by
    refine ⟨by simp [hIl], .inr ⟨g, cap, _, hO, hbg, setRow_heap w g cur _ _ _ hg, hnc, hcm, ?_, ?_⟩⟩
    · simp; omega
    · rw [← htake]
      exact set_cut cur.toList _ q (ρ h2) (by simp; omega)
  have hap : ∀ k, blkOf (ρ h2) = some k → ¬ Blk (.tuple (O :: Is).toArray) k := by
    intro k hk hk2
    rw [← hv] at hk2
    exact hs.sep h2 h _ _ M2 M1 rfl rfl (fun e => hne e.symm) k (f2.thin.2 hk) hk2
  have hput := hr.put (w' := w.setRow g (cur.toList.take q ++ [ρ h2] ++ cur.toList.drop (q + 1)).toArray) hq hown (fun k _ hk => setRow_other w g k _ (fun e => hk ((hOb k).2 e))) f2 hap
  have hup : ∀ z, z ≠ D → upd ρ D (.tuple (O :: Is.set q (ρ h2)).toArray) z = ρ z := fun z hz => upd_ne hz
  have hlook : ∀ z e'', look z (normWr [(h2, none), (h, some (.to D)), (D, some (.row (.rows e0 f (ll.set q l))))]) = some (some e'') → (z = h ∧ e'' = .to D) ∨ (z = D ∧ e'' = .row (.rows e0 f (ll.set q l))) := by
    intro z e'' hz
    simp only [normWr, List.map_cons, List.map_nil, look, Option.map_none, Option.map_some, Entry.norm] at hz
    by_cases z1 : h2 = z
    · simp [z1] at hz
    · have z1' : (h2 == z) = false := by simpa using z1
      rw [z1'] at hz
      simp only [cond_false] at hz
      by_cases z2 : h = z
      · simp only [z2, beq_self_eq_true, cond_true, Option.some.injEq] at hz
        exact .inl ⟨z2.symm, hz.symm⟩
      · have z2' : (h == z) = false := by simpa using z2
        rw [z2'] at hz
        simp only [cond_false] at hz
        by_cases z3 : D = z
        · simp only [z3, beq_self_eq_true, cond_true, Option.some.injEq] at hz
          exact .inr ⟨z3.symm, hz.symm⟩
        · have z3' : (D == z) = false := by simpa using z3
          rw [z3'] at hz
          cases hz
  refine ⟨undef, w.setRow g (cur.toList.take q ++ [ρ h2] ++ cur.toList.drop (q + 1)).toArray, upd ρ D (.tuple (O :: Is.set q (ρ h2)).toArray), .inr ⟨by
    have hxa : a.eval x = .pointer (some ⟨g, q, none⟩) := by rw [hxv, hO, addTo_slice, add0]
    simp [execOp, hop, hxa, hyv, hst], rfl⟩, ?_⟩
  refine hs.step hdl (Chg.setRow w g _) (fun k hk => by subst hk; exact hr.oin _ ((hOb _).2 rfl)) (fun z hz => ?_) (fun z hz => ?_) (fun z e'' hz ho hnot k hk hkg => ?_) (fun z e'' hz => ?_) (fun z e'' hz ho k hk => ⟨fun y' e3 hy' ho' hnot hk' => ?_, fun y' e3 hy' ho' hne' => ?_⟩) (by simp [AV.norm, A0.norm, AV.rel, A0.rel])
  · by_cases hzD : z = D
    · subst hzD; exact hfD
    · exact absurd (hup z hzD) hz
  · exact hup z (fun e => hz (by subst e; simp [wrHs, normWr]))
  · subst hkg
    have hzh : z ≠ h := fun e => hnot (by subst e; simp [wrHs, normWr])
    exact hs.sep z h _ _ hz M1 ho rfl hzh k hk (by rw [hv]; exact Blk.of_tuple (j := 0) rfl ((hOb _).2 rfl))
  · rcases hlook z e'' hz with ⟨rfl, rfl⟩ | ⟨rfl, rfl⟩
    · show hdV (upd ρ D _ z) = hdV (upd ρ D _ D)
      rw [hup z (fun e => hDh e.symm), upd_same, hv]; rfl
    · show OwnsRow _ _ _ (upd ρ z _ z)
      rw [upd_same]
      exact (OwnsRow.comp rfl).2 ⟨O, _, rfl, hput⟩
  · rcases hlook z e'' hz with ⟨rfl, rfl⟩ | ⟨rfl, rfl⟩
    · cases ho
    · rw [upd_same] at hk
      have hyh : y' ≠ h := fun e => hnot (by subst e; simp [wrHs, normWr])
      have hyh2 : y' ≠ h2 := fun e => hnot (by subst e; simp [wrHs, normWr])
      obtain ⟨j, J, hJ, hbJ⟩ := Blk.tuple.1 hk
      cases j with
      | zero =>
        simp at hJ; subst hJ
        exact hs.sep y' h _ _ hy' M1 ho' rfl hyh k hk' (by rw [hv]; exact Blk.of_tuple (j := 0) rfl hbJ)
      | succ j =>
        simp only [List.getElem?_cons_succ] at hJ
        by_cases hjq : q = j
        · subst hjq
          rw [List.getElem?_set_self (by omega)] at hJ
          cases hJ
          exact hs.sep y' h2 _ _ hy' M2 ho' rfl hyh2 k hk' (f2.thin.2 hbJ)
        · rw [List.getElem?_set_ne hjq] at hJ
          exact hs.sep y' h _ _ hy' M1 ho' rfl hyh k hk' (by rw [hv]; exact Blk.of_tuple (j := j + 1) (by simpa using hJ) hbJ)
  · rcases hlook z e'' hz with ⟨rfl, rfl⟩ | ⟨rfl, rfl⟩
    · cases ho
    · rcases hlook y' e3 hy' with ⟨rfl, rfl⟩ | ⟨rfl, rfl⟩
      · cases ho'
      · exact absurd rfl hne'

theorem good_store {tab : Tab} (hT : TabOk c.P tab) {t : Nat} {x y : Operand} {e : Eff} (hN : ∀ d, o.dst = some d → d < c.N) (hw : Wanted c ops o S) (hop : o.op = .store t x y)
    (he : effStore (look t tab) S (S.eval x) (S.eval y) = some e) (hp : e.pre) (hRR : R = (S.eval x).hs ++ (S.eval y).hs) : Good c ops o (den S) R e.val.norm (normWr e.wr) := by
  have hxin : x ∈ o.op.operands.toList := by simp [hop, Op.operands]
  have hyin : y ∈ o.op.operands.toList := by simp [hop, Op.operands]
  have hR : ∀ h ∈ (S.eval x).hs, h ∈ R := fun h hh => by rw [hRR]; exact List.mem_append_left _ hh
  unfold effStore at he
  split at he
  case h_2 => cases he
  rename_i a0 hy
  cases hsz : szOk (look t tab) a0 with
  | false => rw [hsz] at he; cases he
  | true =>
  rw [hsz] at he
  simp only [cond_true] at he
  unfold szOk at hsz
  split at hsz
  case h_2 => cases hsz
  rename_i ti hti
  obtain ⟨i, _, hi, _, his, _⟩ := tiB_info (hT _ _ hti)
  have hyrel : ∀ (S' : SS) (ρ : Nat → Value) (a : Act) (w : World), Agree ops o R (den S) S' → SatR c S' ρ a.tmps w → a0.rel ρ (a.eval y) := by
    intro S' ρ a w hag hs
    have := eval_rel hag hs hyin
    rw [hy] at this
    exact this
  unfold storeTo at he
  split at he
  · rename_i h q hx
    split at he
    case h_2 => cases he
    rename_i h2
    exact good_storeRow hT hN hw hop hx hy hti (by simpa using hsz) he hp (by rw [hRR, hx, hy]; rfl)
  · rename_i h off hx
    have hh : h ∈ R := hR h (by rw [hx]; simp [AV.hs, A0.hs])
    have hxa : ∀ (S' : SS) (ρ : Nat → Value) (a : Act) (w : World), Agree ops o R (den S) S' → SatR c S' ρ a.tmps w → a.eval x = addTo (ρ h) off := by
      intro S' ρ a w hag hs
      have := eval_rel hag hs hxin
      rw [hx] at this
      exact this
    split at he
    · rename_i t' l hm
      have go : ∀ (m : List Int), off + m.length ≤ l.length → ti.sz = m.length → (∀ (S' : SS) (ρ : Nat → Value) (a : Act) (w : World), Agree ops o R (den S) S' → SatR c S' ρ a.tmps w → (a.eval y).cells = (m.map vI).toArray) →
          Good c ops o (den S) R (AV.norm (.one .bot)) (normWr [(h, some (.ibox t' (setAt l off m)))]) := by
        intro m hfit hszm hc
        refine good_store_of hN hw hop hm hh rfl fun S' ρ a w hag hs => ?_
        obtain ⟨g, h1, hown, h2⟩ := hs.mem h _ (mem_at hag hh hm)
        obtain ⟨h3, h4⟩ := ibox_store (v := a.eval y) h1 hown h2 (hc S' ρ a w hag hs) hi (his.trans hszm) hfit
        refine ⟨g, _, by rw [h1]; rfl, ?_, h4⟩
        rw [hxa S' ρ a w hag hs, h1, addTo_ptr]
        exact h3
      unfold storeI at he
      split at he
      · rename_i n
        cases hb : Nat.blt off l.length with
        | false => rw [hb] at he; cases he
        | true =>
          rw [hb] at he
          simp only [cond_true, Option.some.injEq] at he; subst he
          have hlt : off < l.length := by simpa using hb
          refine go [n] (by simp; omega) (by simpa using hsz) fun S' ρ a w hag hs => ?_
          have := hyrel S' ρ a w hag hs
          rw [rel_i this]; rfl
      · rename_i m
        cases hb : Nat.ble (off + m.length) l.length with
        | false => rw [hb] at he; cases he
        | true =>
          rw [hb] at he
          simp only [cond_true, Option.some.injEq] at he; subst he
          refine go m (Nat.le_of_ble_eq_true hb) (by simpa using hsz) fun S' ρ a w hag hs => ?_
          have := hyrel S' ρ a w hag hs
          rw [rel_s this]; rfl
      · cases he
    · rename_i t' l hm
      unfold storeB at he
      cases hb : Nat.blt off l.length with
      | false => rw [hb] at he; cases he
      | true =>
      rw [hb] at he
      simp only [cond_true] at he
      have hlt : off < l.length := by simpa using hb
      have go : ∀ (a1 : A0), ti.sz = 1 → (∀ (S' : SS) (ρ : Nat → Value) (a : Act) (w : World), Agree ops o R (den S) S' → SatR c S' ρ a.tmps w → (a.eval y).cells = #[a.eval y] ∧ (a.eval y).oneCell' = true ∧ a1.rel ρ (a.eval y)) →
          Good c ops o (den S) R (AV.norm (.one .bot)) (normWr [(h, some (.box t' (l.set off a1)))]) := by
        intro a1 hsz1 hc
        refine good_store_of hN hw hop hm hh rfl fun S' ρ a w hag hs => ?_
        have hm' := mem_at hag hh hm
        obtain ⟨g, arr, h1, hown, h2, h3, h4⟩ := hs.mem h _ hm'
        simp only [List.length_map] at h3
        obtain ⟨hcl, hone, hrel⟩ := hc S' ρ a w hag hs
        have hst := run_storeAt (P := c.P) (t := t) (g := g) (o := off) (el := t') (cur := arr) (v := a.eval y) hi (by rw [hcl, his, hsz1]; rfl) h2 (by rw [hcl, h3]; exact hlt) (by rw [hcl]; simpa using hone)
        refine ⟨g, _, by rw [h1]; rfl, by rw [hxa S' ρ a w hag hs, h1, addTo_ptr]; exact hst, g, _, h1, hown, setRow_heap w g _ _ t' _ h2, ?_, ?_⟩
        · simp [hcl, h3]; omega
        · intro j b hb'
          simp only [List.getElem?_map, Option.map_eq_some_iff] at hb'
          obtain ⟨b', hb', rfl⟩ := hb'
          have hjl : j < l.length := by have := (List.getElem?_eq_some_iff.1 hb').1; simpa using this
          rw [hcl]
          by_cases hj : off = j
          · subst hj
            rw [List.getElem?_set_self hlt] at hb'
            simp only [Option.some.injEq] at hb'; subst hb'
            refine ⟨a.eval y, ?_, (A0.rel_norm ρ _ _).2 hrel⟩
            have : off ≤ arr.size := by omega
            simp [this]
          · rw [List.getElem?_set_ne hj] at hb'
            obtain ⟨v, hv, hr⟩ := h4 j b'.norm (by simp [hb'])
            refine ⟨v, ?_, hr⟩
            have hja : j < arr.size := by omega
            have hv' : arr[j]? = some v := hv
            have hval : arr.toList[j]? = some v := by simpa using hv'
            by_cases hlt2 : j < off
            · rw [show (#[a.eval y] : Array Value).toList = [a.eval y] from rfl]
              simp only [List.getElem?_toArray]
              rw [List.append_assoc, List.getElem?_append_left (by simp; omega)]
              rw [List.getElem?_take_of_lt hlt2]
              exact hval
            · rw [show (#[a.eval y] : Array Value).toList = [a.eval y] from rfl]
              simp only [List.getElem?_toArray]
              rw [List.getElem?_append_right (by simp; omega)]
              simp only [List.length_append, List.length_take, Array.length_toList, List.length_cons, List.length_nil, List.getElem?_drop]
              rw [show off + (#[a.eval y] : Array Value).size + (j - (min off arr.size + (0 + 1))) = j by simp; omega]
              exact hval
      split at he
      · cases he
        exact go _ (by simpa using hsz) fun S' ρ a w hag hs => by have := hyrel S' ρ a w hag hs; rw [rel_i this]; exact ⟨rfl, rfl, rfl⟩
      · cases he
        exact go _ (by simpa using hsz) fun S' ρ a w hag hs => by have := hyrel S' ρ a w hag hs; rw [rel_b this]; exact ⟨rfl, rfl, rfl⟩
      · cases he
        exact go _ (by simpa using hsz) fun S' ρ a w hag hs => by have h2 : a.eval y = .bool true := hyrel S' ρ a w hag hs; rw [h2]; exact ⟨rfl, rfl, rfl⟩
      · cases he
        exact go _ (by simpa using hsz) fun S' ρ a w hag hs => by have h2 : a.eval y = .bool false := hyrel S' ρ a w hag hs; rw [h2]; exact ⟨rfl, rfl, rfl⟩
      · cases he
        exact go _ (by simpa using hsz) fun S' ρ a w hag hs => by have h2 : a.eval y = .slice none 0 0 := hyrel S' ρ a w hag hs; rw [h2]; exact ⟨rfl, rfl, rfl⟩
      · cases he
    · cases he
  · rename_i h sz q f hx
    have hh : h ∈ R := hR h (by rw [hx]; simp [AV.hs, A0.hs])
    have hxa : ∀ (S' : SS) (ρ : Nat → Value) (a : Act) (w : World), Agree ops o R (den S) S' → SatR c S' ρ a.tmps w → a.eval x = addTo (ρ h) (q * sz + f) := by
      intro S' ρ a w hag hs
      have := eval_rel hag hs hxin
      rw [hx] at this
      exact this
    split at he
    · rename_i r hm
      have go : ∀ (r' : RC), r.flat = true → r'.flat = true → r'.len = r.len → r'.elem = r.elem → r'.sz = r.sz → (r.wf → r'.wf) →
          (∀ (S' : SS) (ρ : Nat → Value) (a : Act) (w : World), Agree ops o R (den S) S' → SatR c S' ρ a.tmps w → r.wf → (a.eval y).cells.size = ti.sz ∧ 0 < (a.eval y).cells.size ∧ (∀ u ∈ (a.eval y).cells.toList, u.oneCell' = true) ∧ q * sz + f + (a.eval y).cells.size ≤ r.cells.length ∧
            r'.cells = r.cells.take (q * sz + f) ++ (a.eval y).cells.toList ++ r.cells.drop (q * sz + f + (a.eval y).cells.size)) →
          Good c ops o (den S) R (AV.norm (.one .bot)) (normWr [(h, some (.row r'))]) := by
        intro r' hfl hfl' hlen helem hsz' hwf' hc
        refine good_store_of hN hw hop hm hh rfl fun S' ρ a w hag hs => ?_
        have hh' : FlatRow w c.own r (ρ h) := (OwnsRow.flat hfl).1 (hs.mem h _ (mem_at hag hh hm))
        obtain ⟨c1, c2, c3, c4, c5⟩ := hc S' ρ a w hag hs hh'.1
        obtain ⟨g, cs, h1, h2, h3, h4⟩ := row_store (t := t) (v := a.eval y) (r' := r') hh' hi (c1.trans his.symm) c3 c4 (hwf' hh'.1) hlen helem hsz' c5 c2
        exact ⟨g, cs, hh'.thin.2 h1, by rw [hxa S' ρ a w hag hs, h2]; exact h3, (OwnsRow.flat hfl').2 h4⟩
      unfold storeR at he
      split at he
      · rename_i e0 l n
        cases hb : (sz == 1 && f == 0) with
        | false => rw [hb] at he; cases he
        | true =>
          rw [hb] at he
          simp only [cond_true, Option.some.injEq] at he; subst he
          simp only [Bool.and_eq_true, beq_iff_eq] at hb
          obtain ⟨rfl, rfl⟩ := hb
          have hq : q < l.length := hp
          refine go _ rfl rfl (by simp [RC.len]) rfl rfl (fun _ => trivial) fun S' ρ a w hag hs _ => ?_
          have h1 := rel_i (hyrel S' ρ a w hag hs)
          rw [h1]
          refine ⟨by have := hsz; simp [Value.cells] at this ⊢; omega, by simp [Value.cells], by simp [Value.cells, Value.oneCell'], by simp [Value.cells, RC.cells]; omega, ?_⟩
          simpa [RC.cells, Value.cells] using ints_store l q n hq
      · rename_i e0 l n
        cases hb : (sz == 1 && f == 0) with
        | false => rw [hb] at he; cases he
        | true =>
          rw [hb] at he
          simp only [cond_true, Option.some.injEq] at he; subst he
          simp only [Bool.and_eq_true, beq_iff_eq] at hb
          obtain ⟨rfl, rfl⟩ := hb
          have hq : q < l.length := hp
          refine go _ rfl rfl (by simp [RC.len]) rfl rfl (fun _ => trivial) fun S' ρ a w hag hs _ => ?_
          have h1 := rel_b (hyrel S' ρ a w hag hs)
          rw [h1]
          refine ⟨by have := hsz; simp [Value.cells] at this ⊢; omega, by simp [Value.cells], by simp [Value.cells, Value.oneCell'], by simp [Value.cells, RC.cells]; omega, ?_⟩
          simpa [RC.cells, Value.cells] using bools_store l q n hq
      · rename_i e0 l
        cases hb : (sz == 1 && f == 0) with
        | false => rw [hb] at he; cases he
        | true =>
          rw [hb] at he
          simp only [cond_true, Option.some.injEq] at he; subst he
          simp only [Bool.and_eq_true, beq_iff_eq] at hb
          obtain ⟨rfl, rfl⟩ := hb
          have hq : q < l.length := hp
          refine go _ rfl rfl (by simp [RC.len]) rfl rfl (fun _ => trivial) fun S' ρ a w hag hs _ => ?_
          have h1 : a.eval y = .bool true := hyrel S' ρ a w hag hs
          rw [h1]
          refine ⟨by have := hsz; simp [Value.cells] at this ⊢; omega, by simp [Value.cells], by simp [Value.cells, Value.oneCell'], by simp [Value.cells, RC.cells]; omega, ?_⟩
          simpa [RC.cells, Value.cells] using bools_store l q true hq
      · rename_i e0 l
        cases hb : (sz == 1 && f == 0) with
        | false => rw [hb] at he; cases he
        | true =>
          rw [hb] at he
          simp only [cond_true, Option.some.injEq] at he; subst he
          simp only [Bool.and_eq_true, beq_iff_eq] at hb
          obtain ⟨rfl, rfl⟩ := hb
          have hq : q < l.length := hp
          refine go _ rfl rfl (by simp [RC.len]) rfl rfl (fun _ => trivial) fun S' ρ a w hag hs _ => ?_
          have h1 : a.eval y = .bool false := hyrel S' ρ a w hag hs
          rw [h1]
          refine ⟨by have := hsz; simp [Value.cells] at this ⊢; omega, by simp [Value.cells], by simp [Value.cells, Value.oneCell'], by simp [Value.cells, RC.cells]; omega, ?_⟩
          simpa [RC.cells, Value.cells] using bools_store l q false hq
      · rename_i e0 k l n
        cases hb : (sz == k && Nat.blt f k) with
        | false => rw [hb] at he; cases he
        | true =>
          rw [hb] at he
          simp only [cond_true, Option.some.injEq] at he; subst he
          simp only [Bool.and_eq_true, beq_iff_eq, Nat.blt_eq] at hb
          obtain ⟨rfl, hf⟩ := hb
          have hq : q < l.length := hp
          refine go _ rfl rfl (by simp [RC.len]) rfl rfl (fun hwf => ⟨hwf.1, fun z hz => ?_⟩) fun S' ρ a w hag hs hwf => ?_
          · rcases List.mem_or_eq_of_mem_set hz with hz | hz
            · exact hwf.2 z hz
            · subst hz
              have : l.getD q (List.replicate sz 0) = l[q] := by simp [hq]
              rw [List.length_set, this]
              exact hwf.2 _ (List.getElem_mem hq)
          · have h1 := rel_i (hyrel S' ρ a w hag hs)
            rw [h1]
            have hfl := flat_length l hwf.2
            have hmul : (q + 1) * sz ≤ l.length * sz := Nat.mul_le_mul_right _ hq
            rw [Nat.succ_mul] at hmul
            refine ⟨by have := hsz; simp [Value.cells] at this ⊢; omega, by simp [Value.cells], by simp [Value.cells, Value.oneCell'], by simp only [Value.cells, RC.cells, hfl]; simp; omega, ?_⟩
            simpa [RC.cells, Value.cells] using recs_store1 l hwf.2 q f n (List.replicate sz 0) hf hq
      · rename_i e0 k l m
        cases hb : (sz == k && (f == 0 && m.length == k)) with
        | false => rw [hb] at he; cases he
        | true =>
          rw [hb] at he
          simp only [cond_true, Option.some.injEq] at he; subst he
          simp only [Bool.and_eq_true, beq_iff_eq] at hb
          obtain ⟨rfl, rfl, hmk⟩ := hb
          have hq : q < l.length := hp
          refine go _ rfl rfl (by simp [RC.len]) rfl rfl (fun hwf => ⟨hwf.1, fun z hz => ?_⟩) fun S' ρ a w hag hs hwf => ?_
          · rcases List.mem_or_eq_of_mem_set hz with hz | hz
            · exact hwf.2 z hz
            · subst hz; exact hmk
          · have h1 := rel_s (hyrel S' ρ a w hag hs)
            rw [h1]
            have hfl := flat_length l hwf.2
            have hmul : (q + 1) * sz ≤ l.length * sz := Nat.mul_le_mul_right _ hq
            rw [Nat.succ_mul] at hmul
            have hpos := hwf.1
            refine ⟨by have := hsz; simp [Value.cells] at this ⊢; omega, by simp [Value.cells]; omega, ?_, by simp only [Value.cells, RC.cells, hfl]; simp; omega, ?_⟩
            · intro u hu; exact one_vI u (by simpa [Value.cells] using hu)
            · have := recs_store l hwf.2 q m hq
              simpa [RC.cells, Value.cells, hmk] using this
      · cases he
    · rename_i t' l hm
      split at he
      · rename_i n
        simp only [Option.some.injEq] at he; subst he
        have hq : q * sz + f < l.length := hp
        have hres : setAt l (q * sz + f) [n] = l.set (q * sz + f) n := rfl
        rw [← hres]
        refine good_store_of hN hw hop hm hh rfl fun S' ρ a w hag hs => ?_
        obtain ⟨g, h1, hown, h2⟩ := hs.mem h _ (mem_at hag hh hm)
        have h5 := rel_i (hyrel S' ρ a w hag hs)
        obtain ⟨h3, h4⟩ := ibox_store (t := t) (v := a.eval y) (m := [n]) (o' := q * sz + f) h1 hown h2 (by rw [h5]; rfl) hi (his.trans (by simpa using hsz)) (by simp; omega)
        refine ⟨g, _, by rw [h1]; rfl, ?_, h4⟩
        rw [hxa S' ρ a w hag hs, h1, addTo_ptr]
        exact h3
      · cases he
    · cases he
  · rename_i h p sz q f hx
    split at he
    case h_2 => cases he
    rename_i n
    exact good_storeN hT hN hw hop hx hy hti (by simpa using hsz) he hp (hR h (by rw [hx]; simp [AV.hs, A0.hs]))
  · cases he
end
end Go.Proofs.Ytclpoenfcpefmaa

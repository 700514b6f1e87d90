/-
  A function's contract out of the verification condition of its body. Conditions: none; this text proves nothing of the program.
-/
import Derived.Test.YtclpoenfcpefmaaVc
namespace Go.Proofs.Ytclpoenfcpefmaa
open Go Go.RowKit

/-! ### the start -/
def hA (j : Nat) : Nat := 1000000 + j
def initFr : Nat → List A0 → List (Nat × AV)
  | _, [] => []
  | j, .rw r :: l => (j, .one (bif r.flat then .row (hA j) else .co (hA j))) :: initFr (j + 1) l
  | j, a :: l => (j, .one a) :: initFr (j + 1) l
def initMem (outs : List (Nat × Option RC)) : Nat → List A0 → List (Nat × Entry)
  | _, [] => []
  | j, .rw r :: l => (hA j, bif outs.any (fun p => p.1 == j) then .row r else .ro r) :: initMem outs (j + 1) l
  | j, _ :: l => initMem outs (j + 1) l
def initSt (args : List A0) (outs : List (Nat × Option RC)) : St := ⟨initFr 0 args, initMem outs 0 args⟩

/-! ### the end -/
def resOf (tab : Tab) (S : St) : ResultVar → Option A0
  | .tmp t => match S.eval (.tmp t) with
    | .one a => some a
    | .tup _ => none
  | .cell a t => match S.eval (.tmp a) with
    | .one (.ref h 0) => match look h S.mem with
      | some (.ibox _ l) => match look t tab with
        | some ⟨.struct _, n, _⟩ => bif l.length == n then some (.s l) else none
        | some ⟨.array _ _, n, _⟩ => bif l.length == n then some (.s l) else none
        | _ => none
      | _ => none
    | _ => none
def resAll (tab : Tab) (S : St) : List ResultVar → Option (List A0)
  | [] => some []
  | r :: l => match resOf tab S r with
    | some a => (resAll tab S l).map (a :: ·)
    | none => none
def nilOk : RC → Prop
  | .ints _ l => l = []
  | .recs _ k l => l = [] ∧ 0 < k
  | .bools _ l => l = []
  | .rows _ _ ll => ll = []
  | _ => False
def compEq (S : St) (a w : A0) : Prop :=
  match w with
  | .rw r => match a with
    | .row h => match look h S.mem with
      | some (.row r') => r.flat = true ∧ r' = r
      | _ => False
    | .co h => match look h S.mem with
      | some (.row r') => r.flat = false ∧ r' = r
      | _ => False
    | .nil => nilOk r
    | _ => False
  | w => argOk w = true ∧ a.norm = w.norm
def compsEq (S : St) : List A0 → List A0 → Prop
  | [], [] => True
  | a :: l, w :: m => compEq S a w ∧ compsEq S l m
  | _, _ => False
def rowHs : List A0 → List Nat
  | [] => []
  | .row h :: l => h :: rowHs l
  | .co h :: l => h :: rowHs l
  | _ :: l => rowHs l
def outHds : List (Nat × Option RC) → List Nat
  | [] => []
  | (j, some _) :: l => hA j :: outHds l
  | _ :: l => outHds l
def outsEq (S : St) : List (Nat × Option RC) → Prop
  | [] => True
  | (j, some r) :: l => (match look (hA j) S.mem with
    | some (.row r') => r' = r
    | _ => False) ∧ outsEq S l
  | _ :: l => outsEq S l
def shapeOk (n : Nat) : AV → Bool
  | .one _ => n == 1
  | .tup l => n == l.length && n != 1
def finOk (tab : Tab) (rvs : List ResultVar) (ce : CEff) (S : St) : Prop :=
  match resAll tab S rvs with
  | some as => (shapeOk as.length ce.res && (nodupB (rowHs as) && disj (rowHs as) (outHds ce.outs))) = true ∧ compsEq S as (comps ce.res) ∧ outsEq S ce.outs
  | none => False

/-- the same, a part that is no longer read forgotten -/
def finD (pins : List Nat) (tab : Tab) (rvs : List ResultVar) (ce : CEff) (S : St) : Prop := finOk tab rvs ce (S.drop pins)

section
variable {P : Program} {w : World} {args : List A0} {vals : List Value} {ce : CEff} {tab : Tab}

theorem initFr_look : ∀ (args : List A0) (j s : Nat), look s (initFr j args) = if j ≤ s then (args[s - j]?).map (fun a => match a with | .rw r => .one (bif r.flat then .row (hA s) else .co (hA s)) | a => .one a) else none
  | [], j, s => by simp [initFr, look]
  | a :: l, j, s => by
    have ih := initFr_look l (j + 1) s
    have key : look s (initFr j (a :: l)) = if j = s then some (match a with | .rw r => AV.one (bif r.flat then .row (hA j) else .co (hA j)) | a => .one a) else look s (initFr (j + 1) l) := by
      have h1 : ∀ v : AV, look s ((j, v) :: initFr (j + 1) l) = if j = s then some v else look s (initFr (j + 1) l) := by
        intro v
        by_cases h : j = s
        · simp [look, h]
        · have : (j == s) = false := by simpa using h
          simp [look, h, this]
      cases a <;> exact h1 _
    rw [key, ih]
    by_cases h : j = s
    · subst h; simp
    · rw [if_neg h]
      by_cases hle : j ≤ s
      · rw [if_pos hle, if_pos (by omega), show s - j = (s - (j + 1)) + 1 by omega, List.getElem?_cons_succ]
      · rw [if_neg hle, if_neg (by omega)]
theorem initMem_look (outs : List (Nat × Option RC)) : ∀ (args : List A0) (j h : Nat) (e : Entry), look h (initMem outs j args) = some e → ∃ i r, h = hA (j + i) ∧ args[i]? = some (.rw r) ∧ e = (if (outs.any fun p => p.1 == j + i) then .row r else .ro r)
  | [], j, h, e, hl => by simp [initMem, look] at hl
  | a :: l, j, h, e, hl => by
    have rest : look h (initMem outs (j + 1) l) = some e → ∃ i r, h = hA (j + i) ∧ (a :: l)[i]? = some (.rw r) ∧ e = (if (outs.any fun p => p.1 == j + i) then .row r else .ro r) := by
      intro h1
      obtain ⟨i, r, h2, h3, h4⟩ := initMem_look outs l (j + 1) h e h1
      exact ⟨i + 1, r, by rw [h2]; unfold hA; omega, by simpa using h3, by rw [h4, show j + 1 + i = j + (i + 1) by omega]⟩
    cases a with
    | rw r =>
      simp only [initMem, look] at hl
      by_cases hh : hA j = h
      · have hb : (hA j == h) = true := by simpa using hh
        rw [hb] at hl
        simp only [cond_true, Option.some.injEq] at hl
        exact ⟨0, r, hh.symm, rfl, by rw [← hl]; cases (outs.any fun p => p.1 == j) <;> rfl⟩
      · have hb : (hA j == h) = false := by simpa using hh
        rw [hb] at hl
        exact rest hl
    | _ => exact rest hl

def ctxOf (P : Program) (w : World) (outs : List (Nat × Option RC)) (vals : List Value) (N : Nat) : Ctx := ⟨P, w, OutBlk outs vals, N, outs.map fun p => (hA p.1, vals.getD p.1 undef)⟩

theorem init_sat {N : Nat} (hN : args.length ≤ N) (ha : ArgsOk w ce.outs args vals) : Sat (ctxOf P w ce.outs vals N) (den (initSt args ce.outs)) { tmps := (vals.map hdV).toArray ++ Array.replicate (N - (vals.map hdV).toArray.size) undef, defers := [] } w := by
  have hlen := ha.len
  have hX : ∀ k, OutBlk ce.outs vals k → k < w.heap.size := by
    rintro k ⟨p, hp, v, hv, hk⟩
    obtain ⟨r, hr⟩ := ha.isRow p hp
    obtain ⟨v', hv', hrel⟩ := ha.rel p.1 _ hr
    rw [hv] at hv'; cases hv'
    have : (ce.outs.any fun q => q.1 == p.1) = true := List.any_eq_true.2 ⟨p, hp, by simp⟩
    unfold ArgRel at hrel
    simp only [this, if_true] at hrel
    exact (hrel.blk hk).2
  have hent : ∀ h e, (den (initSt args ce.outs)).mem h = some e → ∃ i r v, h = hA i ∧ args[i]? = some (.rw r) ∧ vals[i]? = some v ∧ ((e = .row r ∧ (∃ p ∈ ce.outs, p.1 = i) ∧ OwnsRow w (fun k => k < w.heap.size) r v) ∨ (e = .ro r ∧ ReadsRow w (fun k => k < w.heap.size ∧ ¬ OutBlk ce.outs vals k) r v)) := by
    intro h e he
    simp only [den, Option.map_eq_some_iff] at he
    obtain ⟨e0, hl, rfl⟩ := he
    obtain ⟨i, r, h1, h2, h3⟩ := initMem_look _ _ _ _ _ hl
    rw [Nat.zero_add] at h1 h3
    obtain ⟨v, hv, hr⟩ := ha.rel i _ h2
    refine ⟨i, r, v, h1, h2, hv, ?_⟩
    unfold ArgRel at hr
    cases hany : (ce.outs.any fun p => p.1 == i) with
    | true =>
      simp only [hany, if_true] at hr h3
      subst h3
      obtain ⟨p, hp, hpi⟩ := List.any_eq_true.1 hany
      exact .inl ⟨rfl, ⟨p, hp, by simpa using hpi⟩, hr⟩
    | false =>
      simp only [hany] at hr h3
      subst h3
      exact .inr ⟨rfl, hr⟩
  have hval : ∀ i v, vals[i]? = some v → vals.getD (hA i - 1000000) undef = v := by
    intro i v hv
    simp only [hA, Nat.add_sub_cancel_left]
    simp [List.getD, hv]
  refine ⟨rfl, by simp [ctxOf, hlen]; omega, fun h => vals.getD (h - 1000000) undef, fun s => ?_, fun h e he => ?_, fun h h' e e' he he' ho ho' hne k hk => ?_, ⟨rfl, rfl, rfl, Nat.le_refl _, fun _ _ _ => rfl⟩, fun p hp => ?_, hX⟩
  · simp only [den, initSt]
    rw [initFr_look, if_pos (Nat.zero_le _), Nat.sub_zero]
    cases hs : args[s]? with
    | none => simp [AV.norm, A0.norm, AV.rel, A0.rel]
    | some a =>
      obtain ⟨v, hv, hr⟩ := ha.rel s a hs
      have hlt : s < vals.length := (List.getElem?_eq_some_iff.1 hv).1
      have htm : ((vals.map hdV).toArray ++ Array.replicate (N - (vals.map hdV).toArray.size) undef).getD s undef = hdV v := by
        rw [Array.getD_eq_getD_getElem?, Array.getElem?_append_left (by simpa using hlt)]
        simp [hv]
      simp only [Option.map_some, Option.getD_some]
      rw [htm]
      refine (AV.rel_norm _ _ _).2 ?_
      unfold ArgRel at hr
      split at hr
      · rename_i r
        have hth : r.flat = true → hdV v = v := by
          intro hf
          split at hr
          · exact flat_thin ((OwnsRow.flat hf).1 hr)
          · obtain ⟨_, A, n, cap, hv', _⟩ := (ReadsRow.flat hf).1 hr
            rw [hv']; rfl
        simp only
        cases hf : r.flat with
        | true =>
          show hdV v = _
          rw [hth hf]
          exact (hval s v hv).symm
        | false =>
          show hdV v = hdV _
          exact congrArg hdV (hval s v hv).symm
      · rename_i a' hnr
        have hthin : hdV v = v := by rw [hr.2]; exact conc_thin hr.1 (fun r e => hnr r e)
        rw [hthin]
        have hvv : v = a.conc (fun h => vals.getD (h - 1000000) undef) := by rw [hr.2]; exact (conc_noρ hr.1 _).symm
        have hok := hr.1
        cases a <;> first | exact absurd rfl (hnr _) | exact hvv | (simp [argOk] at hok)
  · obtain ⟨i, r, v, rfl, _, hv, (⟨rfl, ⟨p, hp, hpi⟩, hr⟩ | ⟨rfl, hr⟩)⟩ := hent h e he
    · exact (show OwnsRow w (ctxOf P w ce.outs vals N).own r (vals.getD (hA i - 1000000) undef) from by
        rw [hval i v hv]
        exact hr.monoB fun k hk _ _ => .inr ⟨p, hp, v, by rw [hpi]; exact hv, hk⟩)
    · exact (show ReadsRow w (fun k => k < w.heap.size ∧ ¬ OutBlk ce.outs vals k) r (vals.getD (hA i - 1000000) undef) from by
        rw [hval i v hv]
        exact hr)
  · obtain ⟨i, r, v, rfl, _, hv, (⟨rfl, ⟨p, hp, hpi⟩, hr⟩ | ⟨rfl, hr⟩)⟩ := hent h e he
    · obtain ⟨i', r', v', rfl, _, hv', (⟨rfl, ⟨p', hp', hpi'⟩, hr'⟩ | ⟨rfl, hr'⟩)⟩ := hent h' e' he'
      · rw [hval i v hv] at hk
        rw [hval i' v' hv']
        exact ha.sep p hp p' hp' (by rw [hpi, hpi']; intro e; exact hne (by rw [e])) v v' k (by rw [hpi]; exact hv) (by rw [hpi']; exact hv') hk
      · cases ho'
    · cases ho
  · simp only [ctxOf, List.mem_map] at hp
    obtain ⟨q, _, rfl⟩ := hp
    simp [hA]

/-! ### the end is met -/
theorem run_cell {t : TypeId} {a : Addr} {i : TypeInfo} {cs : List Value} (ht : (isAgg t).run P w = .ok true w) (hi : P.info? t = some i) (hs : i.size = cs.length) (h : ∀ j v, cs[j]? = some v → w.cell? (a.add j) = some v) :
    (do loadVar t (← asAddr (.pointer (some a))) : Sem Value).run P w = .ok (.agg cs.toArray) w := by
  have := run_loadAt_agg ht hi hs h
  simp [Instr.loadAt, Instr.sureAddr] at this
  simpa [asAddr] using this

theorem resOf_run {c : Ctx} {S : St} {ρ : Nat → Value} {tmps : Array Value} (hT : TabOk c.P tab) (h : SatR c (den S) ρ tmps w) {rv : ResultVar} {a0 : A0} (hr : resOf tab S rv = some a0) :
    ∃ v, (match rv with | .tmp t => pure (tmps.getD t undef) | .cell a t => do loadVar t (← asAddr (tmps.getD a undef)) : Sem Value).run c.P w = .ok v w ∧ a0.rel ρ v := by
  have hfr : ∀ t, (S.eval (.tmp t)).rel ρ (tmps.getD t undef) := fun t => (AV.rel_norm ρ _ _).1 (h.fr t)
  cases rv with
  | tmp t =>
    unfold resOf at hr
    simp only at hr
    split at hr
    · rename_i a he
      simp only [Option.some.injEq] at hr
      subst hr
      have := hfr t
      rw [he] at this
      exact ⟨_, rfl, this⟩
    · cases hr
  | cell a t =>
    unfold resOf at hr
    simp only at hr
    split at hr
    case h_2 => cases hr
    rename_i hh he
    split at hr
    case h_2 => cases hr
    rename_i t' l hl
    have hm : (den S).mem hh = some (.ibox t' l) := by simp [den, hl, Entry.norm]
    obtain ⟨g, hv, _, hg⟩ := h.mem hh _ hm
    have hra := hfr a
    rw [he] at hra
    have hta : tmps.getD a undef = .pointer (some ⟨g, 0, none⟩) := by
      have h1 : tmps.getD a undef = addTo (ρ hh) 0 := hra
      rw [h1, hv]
      simp [addTo, add0]
    have hcell : ∀ j v, (l.map vI)[j]? = some v → w.cell? ((⟨g, 0, none⟩ : Addr).add j) = some v := by
      intro j v hj
      rw [add0]
      simp only [World.cell?, hg]
      simpa using hj
    have fin : ∀ n, (isAgg t).run c.P w = .ok true w → (∃ i, c.P.info? t = some i ∧ i.size = n) → (bif l.length == n then some (A0.s l) else none) = some a0 → ∃ v, (do loadVar t (← asAddr (tmps.getD a undef)) : Sem Value).run c.P w = .ok v w ∧ a0.rel ρ v := by
      rintro n hagg ⟨i, hi, his⟩ hb
      cases hbb : (l.length == n) with
      | false => rw [hbb] at hb; cases hb
      | true =>
        rw [hbb] at hb
        simp only [cond_true, Option.some.injEq] at hb
        subst hb
        have hln : l.length = n := by simpa using hbb
        rw [hta]
        exact ⟨_, run_cell hagg hi (by rw [his, ← hln]; simp) hcell, rfl⟩
    split at hr
    · rename_i fs n _ hti
      obtain ⟨F, i, hu, hi, his, _⟩ := tiB_struct (hT _ _ hti)
      exact fin n (run_isAgg_struct hu) ⟨i, hi, his⟩ hr
    · rename_i m el n _ hti
      obtain ⟨i, ei, hu, hi, his, _⟩ := tiB_array (hT _ _ hti)
      exact fin n (run_isAgg_array hu) ⟨i, hi, his⟩ hr
    · cases hr

theorem mapM_all {α : Type} {P : Program} {w : World} (f : α → Sem Value) : ∀ (l : List α) (vs : List Value), l.length = vs.length → (∀ (j : Nat) (x : α), l[j]? = some x → ∃ v, vs[j]? = some v ∧ (f x).run P w = .ok v w) → (l.mapM f).run P w = .ok vs w
  | [], [], _, _ => rfl
  | [], _ :: _, h, _ => by simp at h
  | _ :: _, [], h, _ => by simp at h
  | x :: l, v :: vs, hl, h => by
    obtain ⟨v', hv, hr⟩ := h 0 x rfl
    simp only [List.getElem?_cons_zero, Option.some.injEq] at hv
    subst hv
    have ih := mapM_all f l vs (by simpa using hl) (fun j y hy => by simpa using h (j + 1) y (by simpa using hy))
    simp [List.mapM_cons, hr, ih]

theorem resAll_run {c : Ctx} {S : St} {ρ : Nat → Value} {tmps : Array Value} (hT : TabOk c.P tab) (h : SatR c (den S) ρ tmps w) : ∀ {rvs : List ResultVar} {as : List A0}, resAll tab S rvs = some as →
    ∃ us : List Value, us.length = as.length ∧ (rvs.mapM fun | .tmp t => pure (tmps.getD t undef) | .cell a t => do loadVar t (← asAddr (tmps.getD a undef)) : Sem (List Value)).run c.P w = .ok us w ∧ ∀ (j : Nat) (a : A0), as[j]? = some a → ∃ u, us[j]? = some u ∧ a.rel ρ u
  | [], as, hr => by
    simp only [resAll, Option.some.injEq] at hr
    subst hr
    exact ⟨[], rfl, rfl, by simp⟩
  | rv :: rvs, as, hr => by
    unfold resAll at hr
    split at hr
    case h_2 => cases hr
    rename_i a0 ha
    simp only [Option.map_eq_some_iff] at hr
    obtain ⟨as', hr', rfl⟩ := hr
    obtain ⟨v, hv1, hv2⟩ := resOf_run hT h ha
    obtain ⟨us, hu1, hu2, hu3⟩ := resAll_run hT h hr'
    refine ⟨v :: us, by simp [hu1], ?_, fun j a hj => ?_⟩
    · rw [List.mapM_cons]
      simp only [Sem.run_bind]
      rw [hv1]
      simp only [Result.andThen_ok]
      rw [hu2]
      simp
    · cases j with
      | zero => simp at hj; subst hj; exact ⟨v, rfl, hv2⟩
      | succ j => simpa using hu3 j a (by simpa using hj)

theorem compsEq_at {S : St} : ∀ {l m : List A0}, compsEq S l m → l.length = m.length ∧ ∀ (j : Nat) (w : A0), m[j]? = some w → ∃ a, l[j]? = some a ∧ compEq S a w
  | [], [], _ => by simp
  | [], _ :: _, h => h.elim
  | _ :: _, [], h => h.elim
  | a :: l, w :: m, h => by
    obtain ⟨h1, h2⟩ := compsEq_at h.2
    refine ⟨by simp [h1], fun j w' hw => ?_⟩
    cases j with
    | zero => simp at hw; subst hw; exact ⟨a, rfl, h.1⟩
    | succ j => simpa using h2 j w' (by simpa using hw)
/-- a row's handle, of one value or of several -/
def isH (a : A0) (h : Nat) : Prop := a = .row h ∨ a = .co h
theorem mem_rowHs {h : Nat} : ∀ {l : List A0}, (∃ a ∈ l, isH a h) → h ∈ rowHs l
  | [], ⟨_, hm, _⟩ => by cases hm
  | a :: l, ⟨b, hm, hb⟩ => by
    simp only [List.mem_cons] at hm
    rcases hm with rfl | hm
    · rcases hb with rfl | rfl <;> simp [rowHs]
    · have := mem_rowHs ⟨b, hm, hb⟩
      cases a <;> simp [rowHs, this]
theorem rowHs_ne : ∀ {l : List A0}, nodupB (rowHs l) = true → ∀ (i j : Nat) (h h' : Nat), i < j → (∃ a, l[i]? = some a ∧ isH a h) → (∃ a, l[j]? = some a ∧ isH a h') → h ≠ h'
  | [], _, i, j, h, h', _, ⟨_, hi, _⟩, _ => by simp at hi
  | a :: l, hn, i, j, h, h', hij, ⟨b, hi, hb⟩, ⟨b', hj, hb'⟩ => by
    have hn' : nodupB (rowHs l) = true := by
      cases a <;> first
        | exact hn
        | (simp only [rowHs, nodupB, Bool.and_eq_true] at hn; exact hn.2)
    cases j with
    | zero => omega
    | succ j =>
      have hj' : l[j]? = some b' := by simpa using hj
      cases i with
      | zero =>
        simp only [List.getElem?_cons_zero, Option.some.injEq] at hi
        subst hi
        have hnn : nodupB (h :: rowHs l) = true := by rcases hb with rfl | rfl <;> exact hn
        simp only [nodupB, Bool.and_eq_true, Bool.not_eq_true', List.contains_eq_mem, decide_eq_false_iff_not] at hnn
        intro e
        exact hnn.1 (by rw [e]; exact mem_rowHs ⟨b', List.mem_of_getElem? hj', hb'⟩)
      | succ i => exact rowHs_ne hn' i j h h' (by omega) ⟨b, by simpa using hi, hb⟩ ⟨b', hj', hb'⟩
theorem mem_outHds {j : Nat} {r : RC} : ∀ {l : List (Nat × Option RC)}, (j, some r) ∈ l → hA j ∈ outHds l
  | [], h => by cases h
  | (i, some s) :: l, h => by
    simp only [List.mem_cons, Prod.mk.injEq, Option.some.injEq] at h
    rcases h with ⟨rfl, _⟩ | h
    · simp [outHds]
    · simp [outHds, mem_outHds h]
  | (i, none) :: l, h => by
    simp only [List.mem_cons, Prod.mk.injEq] at h
    rcases h with ⟨_, h⟩ | h
    · cases h
    · exact mem_outHds (l := l) h
theorem outsEq_at {S : St} {j : Nat} {r : RC} : ∀ {l : List (Nat × Option RC)}, outsEq S l → (j, some r) ∈ l → look (hA j) S.mem = some (.row r)
  | [], _, h => by cases h
  | (i, some s) :: l, he, h => by
    simp only [List.mem_cons, Prod.mk.injEq, Option.some.injEq] at h
    rcases h with ⟨rfl, rfl⟩ | h
    · have := he.1
      split at this
      · rename_i r' hl; rw [hl, this]
      · exact this.elim
    · exact outsEq_at he.2 h
  | (i, none) :: l, he, h => by
    simp only [List.mem_cons, Prod.mk.injEq] at h
    rcases h with ⟨_, h⟩ | h
    · cases h
    · exact outsEq_at (l := l) he h

theorem fat_list : ∀ {us : List Value} {P : Nat → Value → Prop}, (∀ j u, us[j]? = some u → ∃ u', hdV u' = u ∧ P j u') → ∃ us' : List Value, us'.map hdV = us ∧ ∀ (j : Nat) (u' : Value), us'[j]? = some u' → P j u'
  | [], _, _ => ⟨[], rfl, fun j u' h => by simp at h⟩
  | u :: us, P, h => by
    obtain ⟨u', h1, h2⟩ := h 0 u rfl
    obtain ⟨us', h3, h4⟩ := fat_list (us := us) (P := fun j u' => P (j + 1) u') fun j u hu => h (j + 1) u (by simpa using hu)
    refine ⟨u' :: us', by simp [h1, h3], fun j v hv => ?_⟩
    cases j with
    | zero => simp at hv; subst hv; exact h2
    | succ j => exact h4 j v (by simpa using hv)
theorem hdV_of_us {as : List A0} {us : List Value} {m : List A0} {ρ : Nat → Value} (_ : ∀ (j : Nat) (a : A0), as[j]? = some a → ∃ u, us[j]? = some u ∧ a.rel ρ u) (hlen : as.length = m.length) {j : Nat} {u : Value} (hul : us.length = as.length) (hc : m[j]? = none) (hu : us[j]? = some u) : hdV u = u := by
  have h1 := (List.getElem?_eq_some_iff.1 hu).1
  have h2 := List.getElem?_eq_none_iff.1 hc
  omega
theorem fin_ret {w0 : World} {N : Nat} {fn : Func} {S : St} {a : Act} (hT : TabOk P tab) (ha : ArgsOk w0 ce.outs args vals) (hf : finOk tab fn.results.toList ce S) (hs : Sat (ctxOf P w0 ce.outs vals N) (den S) a w) :
    a.defers = [] ∧ ∃ v, (results fn a.tmps).run P w = .ok v w ∧ RetOk w0 w vals ce v := by
  obtain ⟨hdef, _, ρ, hr⟩ := hs
  refine ⟨hdef, ?_⟩
  unfold finOk at hf
  split at hf
  case h_2 => exact hf.elim
  rename_i as has
  obtain ⟨hb, hcs, hos⟩ := hf
  simp only [Bool.and_eq_true] at hb
  obtain ⟨hshape, hnd, hdj⟩ := hb
  have hdj' := disj_spec hdj
  obtain ⟨us, hu1, hu2, hu3⟩ := resAll_run (c := ctxOf P w0 ce.outs vals N) hT hr has
  obtain ⟨hlen, hat⟩ := compsEq_at hcs
  have hmap : (fn.results.mapM fun | .tmp t => pure (a.tmps.getD t undef) | .cell ad t => do loadVar t (← asAddr (a.tmps.getD ad undef)) : Sem (Array Value)).run P w = .ok us.toArray w := by
    rw [Array.mapM_eq_mapM_toList]
    rw [Sem.run_map]
    have : (ctxOf P w0 ce.outs vals N).P = P := rfl
    rw [this] at hu2
    rw [hu2]
    rfl
  -- the parts, with all their values
  have hfat : ∃ us' : List Value, us'.map hdV = us ∧ ∀ (j : Nat) (u' : Value), us'[j]? = some u' → us[j]? = some (hdV u') ∧
      (∀ r, (comps ce.res)[j]? = some (.rw r) → (∃ h, (∃ a, as[j]? = some a ∧ isH a h) ∧ u' = ρ h ∧ (den S).mem h = some (.row r)) ∨ ((∀ k, ¬ Blk u' k) ∧ ∀ p, OwnsRow w p r u')) ∧
      (∀ a0, (comps ce.res)[j]? = some a0 → (∀ r, a0 ≠ .rw r) → us[j]? = some u') := by
    refine fat_list fun j u hu => ?_
    cases hc : (comps ce.res)[j]? with
    | none => exact ⟨u, hdV_of_us hu3 hlen hu1 hc hu, by rw [hdV_of_us hu3 hlen hu1 hc hu]; exact hu, fun r h => (by cases h), fun a0 h => (by cases h)⟩
    | some w0 =>
      obtain ⟨a0, h1, h2⟩ := hat j _ hc
      obtain ⟨u1, h3, h4⟩ := hu3 j a0 h1
      rw [hu] at h3; cases h3
      have plain : (∀ r, w0 ≠ .rw r) → hdV u = u := by
        intro hnr
        have h5 : argOk w0 = true ∧ a0.norm = w0.norm := by
          cases w0 <;> first | exact h2 | exact absurd rfl (hnr _)
        have h7 := (A0.rel_norm ρ a0 u).2 h4
        rw [h5.2] at h7
        have h8 := (A0.rel_norm ρ _ u).1 h7
        have h9 : u = w0.conc ρ := by
          have hok := h5.1
          cases w0 <;> first | exact h8 | (simp [argOk] at hok; done) | exact absurd rfl (hnr _)
        rw [h9, conc_noρ h5.1 ρ]
        exact conc_thin h5.1 hnr
      by_cases hrw : ∃ r, w0 = .rw r
      · obtain ⟨r, rfl⟩ := hrw
        simp only [compEq] at h2
        split at h2
        · rename_i h
          split at h2
          case h_2 => exact h2.elim
          rename_i r' hl
          obtain ⟨hf, rfl⟩ := h2
          have hm : (den S).mem h = some (.row r') := by simp [den, hl, Entry.norm]
          have hth : hdV (ρ h) = ρ h := flat_thin ((OwnsRow.flat hf).1 (hr.mem h _ hm))
          have huρ : u = ρ h := h4
          refine ⟨u, by rw [huρ]; exact hth, by rw [huρ, hth, ← huρ]; exact hu, fun r0 h0 => ?_, fun a1 h0 hn => ?_⟩
          · cases h0; exact .inl ⟨h, ⟨_, h1, .inl rfl⟩, huρ, hm⟩
          · cases h0; exact absurd rfl (hn _)
        · rename_i h
          split at h2
          case h_2 => exact h2.elim
          rename_i r' hl
          obtain ⟨hf, rfl⟩ := h2
          have hm : (den S).mem h = some (.row r') := by simp [den, hl, Entry.norm]
          have huρ : u = hdV (ρ h) := h4
          refine ⟨ρ h, huρ.symm, by rw [← huρ]; exact hu, fun r0 h0 => ?_, fun a1 h0 hn => ?_⟩
          · cases h0; exact .inl ⟨h, ⟨_, h1, .inr rfl⟩, rfl, hm⟩
          · cases h0; exact absurd rfl (hn _)
        · have hnil : u = .slice none 0 0 := h4
          cases hf : r.flat with
          | true =>
            refine ⟨u, by rw [hnil]; rfl, by rw [hnil]; rw [hnil] at hu; exact hu, fun r0 h0 => ?_, fun a1 h0 hn => ?_⟩
            · cases h0
              refine .inr ⟨fun k hk => by rw [hnil] at hk; simp [Blk, blkOf] at hk, fun p => (OwnsRow.flat hf).2 ?_⟩
              rw [hnil]
              refine ⟨?_, ?_, fun k hk => by simp [blkOf] at hk⟩
              · cases r <;> simp_all [nilOk, RC.wf, RC.flat]
              · have h1 : r.len = 0 ∧ r.cells = [] := by cases r <;> simp_all [nilOk, RC.len, RC.cells]
                rw [h1.1, h1.2]
                exact World.ownsRow_nil w 0 _ _
            · cases h0; exact absurd rfl (hn _)
          | false =>
            cases r with
            | rows e f ll =>
              have hll : ll = [] := h2
              subst hll
              refine ⟨.tuple (.slice none 0 0 :: []).toArray, by rw [hnil]; rfl, by rw [hnil] at hu; exact hu, fun r0 h0 => ?_, fun a1 h0 hn => ?_⟩
              · cases h0
                refine .inr ⟨fun k hk => ?_, fun p => (OwnsRow.comp hf).2 ⟨_, [], rfl, rfl, World.ownsRow_nil w 0 _ _, by simp [blkOf], by simp, by simp, by simp⟩⟩
                obtain ⟨j, v, hv, hb⟩ := Blk.tuple.1 hk
                cases j with
                | zero => simp at hv; subst hv; simp [blkOf] at hb
                | succ j => simp at hv
              · cases h0; exact absurd rfl (hn _)
            | _ => first | (simp [RC.flat] at hf; done) | exact h2.elim
        · exact h2.elim
      · have hnr : ∀ r, w0 ≠ .rw r := fun r e => hrw ⟨r, e⟩
        refine ⟨u, plain hnr, by rw [plain hnr]; exact hu, fun r0 h0 => ?_, fun a1 h0 hn => hu⟩
        cases h0; exact absurd rfl (hnr _)
  obtain ⟨us', hmapH, hP⟩ := hfat
  have hpart : ∀ (j : Nat) (r : RC), (comps ce.res)[j]? = some (.rw r) → ∃ u, us'[j]? = some u ∧ ((∃ h, (∃ a, as[j]? = some a ∧ isH a h) ∧ u = ρ h ∧ (den S).mem h = some (.row r)) ∨ ((∀ k, ¬ Blk u k) ∧ ∀ p, OwnsRow w p r u)) := by
    intro j r hj
    have hjl : j < us'.length := by
      have h1 := (List.getElem?_eq_some_iff.1 hj).1
      have h2 := congrArg List.length hmapH
      simp at h2
      omega
    have hu : us'[j]? = some us'[j] := by simp [hjl]
    exact ⟨_, hu, (hP j _ hu).2.1 r hj⟩
  have hown : ∀ k, (ctxOf P w0 ce.outs vals N).own k → NewBlk w0 (OutBlk ce.outs vals) k := fun k h => h
  have hrow : ∀ h r, (den S).mem h = some (.row r) → OwnsRow w (NewBlk w0 (OutBlk ce.outs vals)) r (ρ h) := fun h r hm => hr.mem h _ hm
  have hout : ∀ p ∈ ce.outs, ∀ r, p.2 = some r → ∃ u, vals[p.1]? = some u ∧ ρ (hA p.1) = u ∧ (den S).mem (hA p.1) = some (.row r) := by
    rintro ⟨j, oe⟩ hp r hpr
    simp only at hpr
    subst hpr
    obtain ⟨r0, hr0⟩ := ha.isRow _ hp
    obtain ⟨v, hv, _⟩ := ha.rel _ _ hr0
    have hl := outsEq_at hos hp
    have hpin := hr.pin (hA j, vals.getD j undef) (List.mem_map.2 ⟨(j, some r), hp, rfl⟩)
    refine ⟨v, hv, ?_, by simp [den, hl, Entry.norm]⟩
    have h5 : ρ (hA j) = vals.getD j undef := hpin
    rw [h5]
    simp only at hv
    simp [List.getD, hv]
  have hchg : Chg w0 w (OutBlk ce.outs vals) := ⟨hr.frame.os, hr.frame.tape, hr.frame.output, hr.frame.size, hr.frame.block⟩
  have hvv : ∃ v, (results fn a.tmps).run P w = .ok v w ∧ (match ce.res with | .one _ => ∃ u, us' = [u] ∧ v = hdV u | .tup _ => v = .tuple (us'.map hdV).toArray) := by
    have hrun : (results fn a.tmps).run P w = .ok (if h : us.toArray.size = 1 then us.toArray[0] else .tuple us.toArray) w := by
      unfold results
      simp only [Sem.run_bind]
      refine Eq.trans (congrArg (fun r => Result.andThen r _) hmap) ?_
      rfl
    refine ⟨_, hrun, ?_⟩
    cases hres : ce.res with
    | one b =>
      rw [hres] at hshape
      have h1 : us.length = 1 := by rw [hu1]; simpa [shapeOk] using hshape
      simp only
      rw [dif_pos (by simpa using h1)]
      obtain ⟨u, hu1'⟩ := List.length_eq_one_iff.1 (show us'.length = 1 by have := congrArg List.length hmapH; simp at this; omega)
      refine ⟨u, hu1', ?_⟩
      subst hu1'
      simp only [List.map_cons, List.map_nil] at hmapH
      subst hmapH
      rfl
    | tup l =>
      rw [hres] at hshape
      have h1 : us.length ≠ 1 := by
        simp only [shapeOk, Bool.and_eq_true, bne_iff_ne] at hshape
        rw [hu1]; exact hshape.2
      simp only
      rw [dif_neg (by simpa using h1), hmapH]
  obtain ⟨v, hv1, hv2⟩ := hvv
  have hlen' : us'.length = as.length := by have := congrArg List.length hmapH; simp at this; omega
  refine ⟨v, hv1, hchg, ⟨us', hv2, by rw [hlen', hlen], fun j a0 hj => ?_, fun i j r s u v' hij hi hj hui huj k hk hk2 => ?_, fun j r u hj huj p hp s hps v' hv' k hk hk2 => ?_⟩, fun p hp r hpr => ?_⟩
  · cases a0 with
    | rw r =>
      obtain ⟨u, hu, h⟩ := hpart j r hj
      refine ⟨u, hu, ?_⟩
      rcases h with ⟨h, _, rfl, hm⟩ | ⟨_, hn⟩
      · exact hrow h r hm
      · exact hn _
    | _ =>
      obtain ⟨a1, h1, h2⟩ := hat j _ hj
      obtain ⟨u, h3, h4⟩ := hu3 j a1 h1
      have hjl : j < us'.length := by rw [hlen']; exact (List.getElem?_eq_some_iff.1 h1).1
      have hu' : us'[j]? = some us'[j] := by simp [hjl]
      have h9 := (hP j _ hu').2.2 _ hj (fun r e => by cases e)
      rw [h3] at h9; cases h9
      refine ⟨_, hu', ?_⟩
      obtain ⟨h5, h6⟩ := h2
      refine ⟨h5, ?_⟩
      have h7 := (A0.rel_norm ρ a1 _).2 h4
      rw [h6] at h7
      have h8 := (A0.rel_norm ρ _ _).1 h7
      rw [← conc_noρ h5 ρ]
      first | exact h8 | (simp [argOk] at h5)
  · obtain ⟨u0, hu0, hA⟩ := hpart i r hi
    obtain ⟨u1, hu1', hB⟩ := hpart j s hj
    rw [hui] at hu0; cases hu0
    rw [huj] at hu1'; cases hu1'
    rcases hA with ⟨h, ha1, rfl, hm⟩ | ⟨hn, _⟩
    · rcases hB with ⟨h', ha2, rfl, hm'⟩ | ⟨hn, _⟩
      · have hne : h ≠ h' := by
          rcases Nat.lt_or_gt_of_ne hij with hlt | hgt
          · exact rowHs_ne hnd i j h h' hlt ha1 ha2
          · exact (rowHs_ne hnd j i h' h hgt ha2 ha1).symm
        exact hr.sep h h' _ _ hm hm' rfl rfl hne k hk hk2
      · exact hn k hk2
    · exact hn k hk
  · obtain ⟨u0, hu0, hA'⟩ := hpart j r hj
    rw [huj] at hu0; cases hu0
    obtain ⟨u1, hu1', hρ, hm'⟩ := hout p hp s hps
    rw [hv'] at hu1'; cases hu1'
    rcases hA' with ⟨h, ha1, rfl, hm⟩ | ⟨hn, _⟩
    · have hne : h ≠ hA p.1 := by
        intro e
        obtain ⟨b, hb1, hb2⟩ := ha1
        have h1 := hdj' h (mem_rowHs ⟨b, List.mem_of_getElem? hb1, hb2⟩)
        obtain ⟨q1, q2⟩ := p
        simp only at hps
        subst hps
        exact h1 (by rw [e]; exact mem_outHds hp)
      rw [← hρ] at hk
      exact hr.sep (hA p.1) h _ _ hm' hm rfl rfl (fun e => hne e.symm) k hk hk2
    · exact hn k hk2
  · obtain ⟨u, h1, h2, h3⟩ := hout p hp r hpr
    refine ⟨u, h1, ?_⟩
    rw [← h2]
    exact hrow _ r h3

/-- A CONTRACT OUT OF A BODY's VERIFICATION CONDITION. -/
theorem fn_ok {f : Nat} {fn : Func} {code : Code} {spec : Spec} (hm : P.follows .mixedOrders = true) (hT : TabOk P tab) (hspec : SpecOk P spec) (hf : P.funcs[f]? = some fn) (hb : fn.body = some code) (hd : dstB fn.ntmps code = true) (hl : Nat.ble args.length fn.ntmps = true)
    (h : ce.pre → ∃ d n, vc (ce.outs.map fun p => hA p.1) tab spec (finD (ce.outs.map fun p => hA p.1) tab fn.results.toList ce) (lpN (ce.outs.map fun p => hA p.1) tab spec (finD (ce.outs.map fun p => hA p.1) tab fn.results.toList ce) d) n [.code code] (initSt args ce.outs)) : FnOk P f args ce := by
  intro hpre w0 vals ha
  obtain ⟨d, n, hv⟩ := h hpre
  have hpins : (ce.outs.map fun p => hA p.1) = (ctxOf P w0 ce.outs vals fn.ntmps).pins.map (·.1) := by simp [ctxOf]
  have hfin : ∀ (S : St) (a : Act) (w : World), finD (ce.outs.map fun p => hA p.1) tab fn.results.toList ce S → Sat (ctxOf P w0 ce.outs vals fn.ntmps) (den S) a w →
      bodyPost P fn (fun e w' => ∃ v, e = .returned v ∧ RetOk w0 w' vals ce v) .normal a w ∧ bodyPost P fn (fun e w' => ∃ v, e = .returned v ∧ RetOk w0 w' vals ce v) .ret a w := by
    intro S a w hS hs
    obtain ⟨h1, v, h2, h3⟩ := fin_ret hT ha hS (sat_drop hpins hs)
    exact ⟨⟨h1, v, h2, v, rfl, h3⟩, ⟨h1, v, h2, v, rfl, h3⟩⟩
  have h1 := vc_sound (c := ctxOf P w0 ce.outs vals fn.ntmps) (Q0 := bodyPost P fn (fun e w' => ∃ v, e = .returned v ∧ RetOk w0 w' vals ce v)) hT hspec hpins hm hfin
    (lpN_sound (c := ctxOf P w0 ce.outs vals fn.ntmps) hT hspec hpins hm hfin d) n _ _ hv (ok_cons hd rfl) _ w0 (init_sat (N := fn.ntmps) (Nat.le_of_ble_eq_true hl) ha)
  exact calls_of_wp hf hb h1.kont
end
end Go.Proofs.Ytclpoenfcpefmaa

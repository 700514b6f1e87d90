/-
  A call of a function with a contract takes a met state to the next. Conditions: none; this text proves nothing of the program.
-/
import Derived.Test.YtclpoenfcpefmaaGcall
namespace Go.Proofs.Ytclpoenfcpefmaa
open Go Go.RowKit

theorem resL_length (d : Nat) : ∀ (l : List A0) (j : Nat), (resL d j l).1.length = l.length
  | [], _ => rfl
  | a :: l, j => by simp [resL, resL_length d l (j + 1)]

/-- the handle of an argument -/
def hOf (args : List AV) (j : Nat) : Nat :=
  match args[j]? with
  | some (.one (.row h)) => h
  | some (.one (.co h)) => h
  | _ => 0
theorem hOf_hA0 {args : List AV} {j h : Nat} {r : RC} (ha : args[j]? = some (.one (hA0 r h))) : hOf args j = h := by
  unfold hA0 at ha
  cases hf : r.flat with
  | true => rw [hf] at ha; simp only [cond_true] at ha; simp only [hOf, ha]
  | false => rw [hf] at ha; simp only [cond_false] at ha; simp only [hOf, ha]
theorem outWr_hs {S : St} {args : List AV} : ∀ {outs : List (Nat × Option RC)} {wr : Wr}, outWr S args outs = some wr → wrHs wr = outs.map fun p => hOf args p.1
  | [], wr, h => by simp only [outWr, Option.some.injEq] at h; subst h; rfl
  | p :: l, wr, h => by
    have go : ∀ (hh : Nat), hOf args p.1 = hh → (outWr S args l).map ((hh, p.2.map .row) :: ·) = some wr → wrHs wr = (p :: l).map fun p => hOf args p.1 := by
      intro hh ha h
      simp only [Option.map_eq_some_iff] at h
      obtain ⟨wr', hw, rfl⟩ := h
      have ih := outWr_hs hw
      simp only [wrHs, List.map_cons] at ih ⊢
      rw [ih, ha]
    unfold outWr at h
    split at h
    · rename_i hh ha
      split at h
      case h_2 => cases h
      rename_i r hr
      cases hf : r.flat with
      | false => rw [hf] at h; cases h
      | true => rw [hf] at h; exact go hh (by simp only [hOf, ha]) h
    · rename_i hh ha
      split at h
      case h_2 => cases h
      rename_i r hr
      cases hf : r.flat with
      | true => rw [hf] at h; cases h
      | false => rw [hf] at h; exact go hh (by simp only [hOf, ha]) h
    · cases h
theorem nodupB_map {α : Type} {g : α → Nat} : ∀ {l : List α}, nodupB (l.map g) = true → ∀ p ∈ l, ∀ q ∈ l, p ≠ q → g p ≠ g q
  | [], _, p, hp, _, _, _ => by cases hp
  | x :: l, h, p, hp, q, hq, hne => by
    simp only [List.map_cons, nodupB, Bool.and_eq_true, Bool.not_eq_true', List.contains_eq_mem, decide_eq_false_iff_not] at h
    simp only [List.mem_cons] at hp hq
    rcases hp with rfl | hp <;> rcases hq with rfl | hq
    · exact absurd rfl hne
    · exact fun e => h.1 (by rw [e]; exact List.mem_map.2 ⟨q, hq, rfl⟩)
    · exact fun e => h.1 (by rw [← e]; exact List.mem_map.2 ⟨p, hp, rfl⟩)
    · exact nodupB_map h.2 p hp q hq hne

/-- where the elements of a row lie -/
theorem row_blk {c : Ctx} {S' : SS} {ρ : Nat → Value} {tmps : Array Value} {w : World} (hs : SatR c S' ρ tmps w) {h : Nat} {r : RC} {en : Entry} (hm : S'.mem h = some en) (hr : entryRow (some en) = some r) {ad : Addr} {n cap : Nat} (hv : ρ h = .slice (some ad) n cap) (hn : 0 < n) :
    ad.block < w.heap.size ∧ ((c.own ad.block ∧ en.isOwn = true) ∨ ¬ c.own ad.block) := by
  have hh := hs.mem h _ hm
  cases en with
  | ibox t l => cases hr
  | to d => cases hr
  | t1 d => cases hr
  | box t l => cases hr
  | ro r' =>
    obtain ⟨_, A, n', cap', h1, h2, _, _, h5⟩ := (ReadsRow.flat (by cases hf : r'.flat with
      | true => rfl
      | false => simp [entryRow, hf] at hr)).1 hh
    rw [hv] at h1
    simp only [Value.slice.injEq] at h1
    obtain ⟨rfl, rfl, rfl⟩ := h1
    obtain ⟨a', h6, h7, _⟩ := h5 hn
    simp only [Option.some.injEq] at h6; subst h6
    refine ⟨Nat.lt_of_lt_of_le h7.1 hs.frame.size, .inr fun ho => ?_⟩
    rcases ho with ho | ho
    · omega
    · exact h7.2 ho
  | row r' =>
    have h1 := OwnsRow.blk hh (k := ad.block) (by rw [hv]; rfl)
    exact ⟨h1.2, .inl ⟨h1.1, rfl⟩⟩

/-- what stands for an argument in a contract: all values of its handle -/
def fatV (ρ : Nat → Value) : AV → Value → Value
  | .one (.co h), _ => ρ h
  | _, v => v
theorem conc_thin {a : A0} (h : argOk a = true) (hn : ∀ r, a ≠ .rw r) : hdV (a.conc noρ) = a.conc noρ := by
  cases a <;> first | rfl | (simp [argOk] at h) | exact absurd rfl (hn _)
theorem flat_thin {w : World} {p : Nat → Prop} {r : RC} {v : Value} (h : FlatRow w p r v) : hdV v = v := by
  obtain ⟨_, A, n, cap, hv, _⟩ := h.at
  rw [hv]; rfl

section
variable {c : Ctx} {ops : Array Oper} {o : Oper} {S : St} {R : List Nat}
theorem fat_head {S' : SS} {ρ : Nat → Value} {a : Act} {w : World} {x : AV} {v : Value} (hag : Agree ops o R (den S) S') (hs : SatR c S' ρ a.tmps w) (hR : ∀ h ∈ x.hs, h ∈ R) (hok : argOk (argOf S x) = true) (hp : subPre S x) (hv : x.rel ρ v) : hdV (fatV ρ x v) = v := by
  rcases argOf_rel hok hv with ⟨r, hra0, hk⟩ | ⟨_, _, hne, ht⟩
  · cases hk with
    | flat hf hr =>
      obtain ⟨_, A, n, cap, hvv, _⟩ := read_at hag hs hR hr hp hv
      have : fatV ρ x v = v := by
        cases x with
        | tup l => rfl
        | one a0 => cases a0 <;> first | rfl | (simp [readOf] at hr)
      rw [this, hvv]; rfl
    | inner hi =>
      rename_i h p
      have hp' : innerPre (compOf (look h S.mem)) p := hp
      cases hcr : compOf (look h S.mem) with
      | none => rw [hcr] at hi; simp [innerOf] at hi
      | some cr =>
        rw [hcr] at hi hp'
        obtain ⟨in_, hc⟩ := comp_of hag hs (hR h (by simp [AV.hs, A0.hs])) hcr
        have h1 := (inner_at hc hi hp').thin
        have h2 : v = seg (ρ h) (p + 1) := hv
        show hdV v = v
        rw [h2]; exact h1
    | comp hc =>
      have h2 : v = hdV (ρ _) := hv
      rw [h2]; rfl
  · have : fatV ρ x v = v := by
      cases x with
      | tup l => rfl
      | one a0 => cases a0 <;> first | rfl | exact absurd rfl (hne _)
    rw [this]; exact ht
end

theorem good_callA {c : Ctx} {ops : Array Oper} {o : Oper} {S : St} {spec : Spec} (hspec : SpecOk c.P spec) {f : Nat} {args : Array Operand} {ts : Array Nat} {e : Eff} (hN : ∀ d, o.dst = some d → d < c.N) (hw : Wanted c ops o S) {fx : Operand} (hop : o.op = .call ⟨.value fx, args, ts⟩) (hfx : S.eval fx = .one (.fn f))
    (he : effCall spec S o.dst f (args.toList.map S.eval) = some e) (hp : e.pre)
    (hnin : ¬ ∃ h p rest, args.toList.map S.eval = .one (.ci h p) :: rest ∧ ∃ ce, spec f ((args.toList.map S.eval).map (argOf S)) = some ce ∧ outsEmpty ce.outs = false) : Good c ops o (den S) ((args.toList.map S.eval).flatMap AV.hs) e.val.norm (normWr e.wr) := by
  unfold effCall at he
  split at he
  case h_2 => cases he
  rename_i d hd
  cases hall : ((args.toList.map S.eval).map (argOf S)).all argOk with
  | false => rw [hall] at he; cases he
  | true =>
  rw [hall] at he
  simp only [cond_true] at he
  split at he
  case h_2 => cases he
  rename_i ce hce
  obtain ⟨hfn, fn, hfs, hbody, hname⟩ := hspec f _ ce hce
  have he : callWr S (args.toList.map S.eval) d ce = some e := by
    unfold callGo at he
    split at he
    · rename_i h p rest heq
      cases hoe : outsEmpty ce.outs with
      | true => rw [hoe] at he; exact he
      | false => exact absurd ⟨h, p, rest, heq, ce, hce, hoe⟩ hnin
    · exact he
  -- what 'callWr' has looked at
  have hcw : ∃ wr, outWr S (args.toList.map S.eval) ce.outs = some wr ∧ e = ⟨ce.pre ∧ argsPre S (args.toList.map S.eval), (resV d ce.res).1, wr ++ (resV d ce.res).2⟩ ∧ disj (wrHs (resV d ce.res).2) ((args.toList.map S.eval).flatMap AV.hs) = true ∧ nodupB (wrHs wr) = true ∧ restOk (wrHs wr) ce.outs 0 (args.toList.map S.eval) = true := by
    unfold callWr at he
    split at he
    · rename_i hnil
      cases hb : disj (wrHs (resV d ce.res).2) ((args.toList.map S.eval).flatMap AV.hs) with
      | false => rw [hb] at he; cases he
      | true =>
        rw [hb] at he
        simp only [cond_true, Option.some.injEq] at he
        refine ⟨[], by rw [hnil]; rfl, by rw [← he]; rfl, rfl, rfl, ?_⟩
        have : ∀ (l : List AV) (j : Nat), restOk [] ce.outs j l = true := by
          intro l
          induction l with
          | nil => intro j; rfl
          | cons x l ih => intro j; simp [restOk, ih, disj]
        exact this _ _
    · split at he
      case h_2 => cases he
      rename_i wr hwr
      cases hb : (disj (wrHs (resV d ce.res).2) ((args.toList.map S.eval).flatMap AV.hs) && (nodupB (wrHs wr) && restOk (wrHs wr) ce.outs 0 (args.toList.map S.eval))) with
      | false => rw [hb] at he; cases he
      | true =>
        rw [hb] at he
        simp only [cond_true, Option.some.injEq] at he
        simp only [Bool.and_eq_true] at hb
        exact ⟨wr, hwr, he.symm, hb.1, hb.2.1, hb.2.2⟩
  obtain ⟨wr, hwr, hee, hdisj, hnd, hrest⟩ := hcw
  subst hee
  obtain ⟨hpre, hap⟩ : ce.pre ∧ argsPre S (args.toList.map S.eval) := hp
  obtain ⟨hout1, hout2⟩ := outWr_spec hwr
  have hdj := disj_spec hdisj
  -- the values that are handed over
  have hlookwr : ∀ x oe, look x (wr ++ (resV d ce.res).2) = some oe → (x, oe) ∈ wr ∨ (x, oe) ∈ (resV d ce.res).2 := fun x oe h => by
    have := look_some_mem h
    simpa using this
  have outHsR : ∀ x, x ∈ wrHs wr → x ∈ (args.toList.map S.eval).flatMap AV.hs := by
    intro x hx
    obtain ⟨oe, hxo⟩ := mem_wrHs.1 hx
    obtain ⟨p, _, r, ha, _⟩ := hout2 x oe hxo
    exact List.mem_flatMap.2 ⟨_, List.mem_of_getElem? ha, by simp [AV.hs, hA0_hs]⟩
  refine good_call_of hN hw fun S' ρ a w hag hfr hs hdl => ?_
  have hin : ∀ z ∈ args.toList, z ∈ o.op.operands.toList := fun z hz => by simp [hop, Op.operands, Call.operands]; right; simpa using hz
  have hVs : ∃ Vs, Vs = args.toList.map fun z => fatV ρ (S.eval z) (a.eval z) := ⟨_, rfl⟩
  obtain ⟨Vs, hVs⟩ := hVs
  have hrel : ∀ (j : Nat) (x : AV), (args.toList.map S.eval)[j]? = some x → ∃ v, Vs[j]? = some (fatV ρ x v) ∧ x.rel ρ v := by
    intro j x hx
    simp only [List.getElem?_map, Option.map_eq_some_iff] at hx
    obtain ⟨z, hz, rfl⟩ := hx
    exact ⟨a.eval z, by rw [hVs]; simp [hz], eval_rel hag hs (hin z (List.mem_of_getElem? hz))⟩
  have hheads : Vs.map hdV = args.toList.map a.eval := by
    rw [hVs, List.map_map]
    refine List.map_congr_left fun z hz => ?_
    have hmem : S.eval z ∈ args.toList.map S.eval := List.mem_map.2 ⟨z, hz, rfl⟩
    exact fat_head hag hs (fun h hh => List.mem_flatMap.2 ⟨_, hmem, hh⟩) (List.all_eq_true.1 hall _ (List.mem_map.2 ⟨_, hmem, rfl⟩)) (argsPre_at hap _ hmem) (eval_rel hag hs (hin z hz))
  -- a handed-over argument's value owns its row
  have houtv : ∀ p ∈ ce.outs, ∃ h r, (args.toList.map S.eval)[p.1]? = some (.one (hA0 r h)) ∧ S'.mem h = some (.row r) ∧ look h S.mem = some (.row r) ∧ Vs[p.1]? = some (ρ h) ∧ (h, p.2.map .row) ∈ wr := by
    intro p hp
    obtain ⟨h, r, h1, h2, h3⟩ := hout1 p hp
    have hm := mem_at hag (h := h) (List.mem_flatMap.2 ⟨_, List.mem_of_getElem? h1, by simp [AV.hs, hA0_hs]⟩) h2
    obtain ⟨v, hv, hr⟩ := hrel p.1 _ h1
    refine ⟨h, r, h1, hm, h2, ?_, h3⟩
    rw [hv]
    unfold hA0 at hr ⊢
    cases hf : r.flat with
    | true => rw [hf] at hr; exact congrArg some (show v = ρ h from hr)
    | false => rfl
  have hX : ∀ k, OutBlk ce.outs Vs k → ∃ p ∈ ce.outs, ∃ h r, S'.mem h = some (.row r) ∧ Blk (ρ h) k ∧ (h, p.2.map .row) ∈ wr := by
    rintro k ⟨p, hp, v, hv, hk⟩
    obtain ⟨h, r, _, h2, _, h4, h5⟩ := houtv p hp
    rw [h4] at hv; cases hv
    exact ⟨p, hp, h, r, h2, hk, h5⟩
  have hown : ∀ k, OutBlk ce.outs Vs k → c.own k := by
    intro k hk
    obtain ⟨p, _, h, r, h2, h3, _⟩ := hX k hk
    exact (holds_own (hs.mem h _ h2) rfl k h3).1
  -- an entry that is not handed over lies elsewhere
  have hoth : ∀ y en, S'.mem y = some en → en.isOwn = true → y ∉ wrHs wr → ∀ k, Blk (ρ y) k → ¬ OutBlk ce.outs Vs k := by
    intro y en hy ho hnot k hk hX'
    obtain ⟨p, _, h, r, h2, h3, h4⟩ := hX k hX'
    have hne : y ≠ h := fun e => hnot (by rw [e]; exact mem_wrHs.2 ⟨_, h4⟩)
    exact hs.sep y h en _ hy h2 ho rfl hne k hk h3
  have hargs : ArgsOk w ce.outs ((args.toList.map S.eval).map (argOf S)) Vs := by
    refine ⟨by rw [hVs]; simp, fun j b hb => ?_, fun p hp q hq hne u v k hu hv hk => ?_, fun p hp => ?_⟩
    · simp only [List.getElem?_map, Option.map_eq_some_iff] at hb
      obtain ⟨x, ⟨z, hz, rfl⟩, rfl⟩ := hb
      have hx : (args.toList.map S.eval)[j]? = some (S.eval z) := by simp [hz]
      obtain ⟨v, hv, hr⟩ := hrel j _ hx
      refine ⟨_, hv, ?_⟩
      have hok : argOk (argOf S (S.eval z)) = true := List.all_eq_true.1 hall _ (List.mem_map.2 ⟨_, List.mem_of_getElem? hx, rfl⟩)
      have hsp := argsPre_at hap _ (List.mem_of_getElem? hx)
      have hRz : ∀ h ∈ (S.eval z).hs, h ∈ (args.toList.map S.eval).flatMap AV.hs := fun h hh => List.mem_flatMap.2 ⟨_, List.mem_of_getElem? hx, hh⟩
      -- blocks that are not handed over
      have keyB : ∀ h en, h ∈ (S.eval z).hs → (∀ h ∈ (S.eval z).hs, h ∉ wrHs wr) → look h S.mem = some en → en.norm = en → ∀ k, Blk (ρ h) k → ((en.isOwn = true) ∨ (k < w.heap.size ∧ ¬ c.own k)) → k < w.heap.size ∧ ¬ OutBlk ce.outs Vs k := by
        intro h en hh hrs hl hnm k hk hc
        have hm := mem_at hag (hRz h hh) hl
        rw [hnm] at hm
        rcases hc with ho | ⟨h1, h2⟩
        · exact ⟨hs.blk_lt hm ho hk, hoth h en hm ho (hrs h hh) k hk⟩
        · exact ⟨h1, fun hX' => h2 (hown _ hX')⟩
      -- a handle of several values
      have compB : ∀ h r, h ∈ (S.eval z).hs → (∀ h ∈ (S.eval z).hs, h ∉ wrHs wr) → compOf (look h S.mem) = some r → CompRow w (fun k => k < w.heap.size ∧ ¬ OutBlk ce.outs Vs k) r (ρ h) := by
        intro h r hh hrs hcr
        obtain ⟨en, e1, e2, e3⟩ := compOf_look hcr
        have hm := mem_at hag (hRz h hh) e1
        rw [e3] at hm
        have hhold := hs.mem h _ hm
        cases en with
        | ibox t l => cases e2
        | to d => cases e2
        | t1 d => cases e2
        | box t l => cases e2
        | row r' =>
          cases hf : r'.flat with
          | true => simp [compOf, hf] at e2
          | false =>
            simp only [compOf, hf, cond_false, Option.some.injEq] at e2; subst e2
            exact ((OwnsRow.comp hf).1 hhold).mono fun k _ hb _ => keyB h _ hh hrs e1 e3 k hb (.inl rfl)
        | ro r' =>
          cases hf : r'.flat with
          | true => simp [compOf, hf] at e2
          | false =>
            simp only [compOf, hf, cond_false, Option.some.injEq] at e2; subst e2
            refine ((ReadsRow.comp hf).1 hhold).mono fun k hlt hb hq => keyB h _ hh hrs e1 e3 k hb (.inr ⟨hlt, fun ho => ?_⟩)
            rcases ho with ho | ho
            · have := hq.1; omega
            · exact hq.2 ho
      rcases argOf_rel hok hr with ⟨r, hra, hk⟩ | ⟨hnr, hvv, hnc, _⟩
      · rw [hra]
        show if _ then _ else _
        cases hany : (ce.outs.any fun p => p.1 == j) with
        | true =>
          rw [if_pos rfl]
          obtain ⟨p, hp, hpj⟩ := List.any_eq_true.1 hany
          have hpj' : p.1 = j := by simpa using hpj
          obtain ⟨h, r0, h1, h2, h3, h4, _⟩ := houtv p hp
          rw [hpj'] at h4
          rw [hv] at h4
          simp only [Option.some.injEq] at h4
          rw [h4]
          rw [hpj', hx] at h1
          simp only [Option.some.injEq] at h1
          have hrr : r0 = r := by
            rw [h1] at hra
            unfold hA0 at hra
            cases hf : r0.flat with
            | true => rw [hf] at hra; simp [argOf, h3, entryRow, hf] at hra; exact hra
            | false => rw [hf] at hra; simp [argOf, h3, compOf, hf] at hra; exact hra
          subst hrr
          have hh : OwnsRow w c.own r0 (ρ h) := hs.mem h _ h2
          exact hh.mono fun k hk _ => hk
        | false =>
          rw [if_neg (by simp)]
          have hrs : ∀ h ∈ (S.eval z).hs, h ∉ wrHs wr := by
            rcases restOk_at hrest j _ hx with h | h
            · rw [Nat.zero_add] at h; rw [hany] at h; cases h
            · exact h
          generalize hxe : S.eval z = xe at *
          cases hk with
          | comp hcr =>
            rename_i h
            exact (ReadsRow.comp (compOf_comp hcr)).2 (compB h r (by simp [AV.hs, A0.hs]) hrs hcr)
          | inner hir =>
            rename_i h p
            have hp' : innerPre (compOf (look h S.mem)) p := hsp
            cases hcr : compOf (look h S.mem) with
            | none => rw [hcr] at hir; simp [innerOf] at hir
            | some cr =>
              rw [hcr] at hir hp'
              have hcomp := compB h cr (by simp [AV.hs, A0.hs]) hrs hcr
              have hfr := inner_at hcomp hir hp'
              have hvv : v = seg (ρ h) (p + 1) := hr
              have hff : r.flat = true := RC.wf_flat hfr.1
              refine (ReadsRow.flat hff).2 ?_
              show FlatReads w _ r v
              rw [hvv]
              exact hfr
          | flat hff hrr =>
          have hfe : fatV ρ xe v = v := by
            cases xe with
            | tup l => rfl
            | one a0 => cases a0 <;> first | rfl | (simp [readOf] at hrr)
          rw [hfe]
          refine (ReadsRow.flat hff).2 ?_
          have hrd := read_at hag hs hRz hrr hsp hr
          obtain ⟨hwf, A, n, cap, e1, e2, e3, e4, e5, e6⟩ := hrd
          refine ⟨hwf, A, n, cap, e1, e2, e3, e4, fun h0 => ?_⟩
          cases A with
          | none => exact absurd (e5 rfl) (by omega)
          | some ad =>
            refine ⟨ad, rfl, ?_, e6 ad rfl⟩
            -- the handle behind it, and its block
            have key : ∀ h en rc ad' n' cap', h ∈ xe.hs → look h S.mem = some en → entryRow (some en) = some rc → ρ h = .slice (some ad') n' cap' → 0 < n' → ad'.block = ad.block → ad.block < w.heap.size ∧ ¬ OutBlk ce.outs Vs ad.block := by
              intro h en rc ad' n' cap' hh hl hen hv' hn' hab
              have hm := mem_at hag (hRz h hh) hl
              rw [en_norm hen] at hm
              obtain ⟨b1, b2⟩ := row_blk hs hm hen hv' hn'
              rw [hab] at b1 b2
              refine ⟨b1, ?_⟩
              rcases b2 with ⟨_, b3⟩ | b3
              · exact hoth h en hm b3 (hrs h hh) _ (by rw [hv', ← hab]; rfl)
              · exact fun hX' => b3 (hown _ hX')
            cases xe with
            | tup l => simp [readOf] at hrr
            | one a0 =>
              cases a0 with
              | row h =>
                obtain ⟨en, hen, hen2⟩ := entryRow_look hrr
                have hvv : v = ρ h := hr
                exact key h en r ad n cap (by simp [AV.hs, A0.hs]) hen hen2 (by rw [← hvv]; exact e1) h0 rfl
              | sub h sz l k =>
                simp only [readOf] at hrr
                cases hrc : entryRow (look h S.mem) with
                | none => rw [hrc] at hrr; cases hrr
                | some rc =>
                  obtain ⟨en, hen, hen2⟩ := entryRow_look hrc
                  have hm := mem_at hag (hRz h (by simp [AV.hs, A0.hs])) hen
                  rw [en_norm hen2] at hm
                  obtain ⟨_, A', n', cap', f1, f2, f3, f4, f5⟩ := row_at hs hm hen2
                  have hvv : v = subOf (ρ h) sz l k := hr
                  rw [f1] at hvv
                  have hsub : v = .slice (if cap' = l then A' else A'.map (·.add (l * sz))) (k - l) (cap' - l) := hvv
                  rw [e1] at hsub
                  simp only [Value.slice.injEq] at hsub
                  obtain ⟨g1, g2, g3⟩ := hsub
                  have hp' : l ≤ k ∧ k ≤ rc.len := by simpa [subPre, hrc] using hsp
                  obtain ⟨ad', hA', _⟩ := f5 (by omega)
                  rw [hA', if_neg (by omega)] at g1
                  simp only [Option.map_some, Option.some.injEq] at g1
                  exact key h en rc ad' n' cap' (by simp [AV.hs, A0.hs]) hen hen2 (by rw [f1, hA']) (by omega) (by rw [g1]; unfold Addr.add; split <;> rfl)
              | cut h e n => simp [argOf, argOk] at hok
              | _ => simp [readOf] at hrr
      · unfold ArgRel
        have hfe : fatV ρ (S.eval z) v = v := by
          cases hxe : S.eval z with
          | tup l => rfl
          | one a0 => cases a0 <;> first | rfl | exact absurd hxe (hnc _)
        rw [hfe]
        split
        · rename_i r hr'; exact absurd hr' (hnr r)
        · exact ⟨hok, hvv⟩
    · obtain ⟨h, r, h1, h2, _, h4, _⟩ := houtv p hp
      obtain ⟨h', r', h1', h2', _, h4', _⟩ := houtv q hq
      rw [h4] at hu; cases hu
      rw [h4'] at hv; cases hv
      have hpq : p ≠ q := fun e => hne (by rw [e])
      rw [outWr_hs hwr] at hnd
      have := nodupB_map hnd p hp q hq hpq
      have hh : hOf (args.toList.map S.eval) p.1 = h := hOf_hA0 h1
      have hh' : hOf (args.toList.map S.eval) q.1 = h' := hOf_hA0 h1'
      rw [hh, hh'] at this
      exact hs.sep h h' _ _ h2 h2' rfl rfl this k hk
    · obtain ⟨h, r, h1, _, h3, _⟩ := houtv p hp
      refine ⟨r, ?_⟩
      rw [List.getElem?_map, h1]
      unfold hA0
      cases hf : r.flat with
      | true => simp [argOf, h3, entryRow, hf]
      | false => simp [argOf, h3, compOf, hf]
  have hrun : (execOp a.eval o).run c.P w = .ok (.enter f (args.toList.map a.eval).toArray) w := by
    have hb : fn.body ≠ none := fun e => by rw [e] at hbody; cases hbody
    have hn : fn.name ≠ "runtime.NumGoroutine" := fun e => by rw [e] at hname; simp at hname
    have hfe : (S.eval fx).rel ρ (a.eval fx) := eval_rel hag hs (by simp [hop, Op.operands, Call.operands])
    rw [hfx] at hfe
    have hev : a.eval fx = .func (.func f) #[] #[] := hfe
    simp [execOp, hop, resolve, hev, Deferred.ofValue, invoke, callFunc, hfs, hn, hb]
    rw [← Array.toList_map]
  rw [← hheads] at hrun
  refine ⟨f, _, hrun, (hfn hpre w _ hargs).mono fun e' w' ⟨v, hev, hret⟩ => ⟨v, hev, ?_⟩⟩
  obtain ⟨us, hus1, hus2, hus3, hus4, hus5⟩ := hret.res
  -- the handles of the result's rows
  have hresb : ∀ x oe, (x, oe) ∈ (resV d ce.res).2 → ∃ i r u, (comps ce.res)[i]? = some (.rw r) ∧ x = d + 1000 * i ∧ oe = some (.row r) ∧ us[i]? = some u ∧ OwnsRow w' (NewBlk w (OutBlk ce.outs Vs)) r u := by
    intro x oe hx
    obtain ⟨i, r, h1, h2, h3⟩ := (resV_wr d ce.res x oe).1 hx
    obtain ⟨u, hu, hr⟩ := hus3 i _ h1
    exact ⟨i, r, u, h1, h2, h3, hu, hr⟩
  refine ⟨fun x => if x ∈ wrHs (resV d ce.res).2 then us.getD ((x - d) / 1000) undef else ρ x, ?_⟩
  have hρres : ∀ i r u, (comps ce.res)[i]? = some (.rw r) → us[i]? = some u → (if d + 1000 * i ∈ wrHs (resV d ce.res).2 then us.getD ((d + 1000 * i - d) / 1000) undef else ρ (d + 1000 * i)) = u := by
    intro i r u h1 h2
    rw [if_pos (mem_wrHs.2 ⟨_, (resV_wr d ce.res _ _).2 ⟨i, r, h1, rfl, rfl⟩⟩)]
    have : (d + 1000 * i - d) / 1000 = i := by omega
    rw [this]
    simp [List.getD, h2]
  have hnewOwn : ∀ k, NewBlk w (OutBlk ce.outs Vs) k → c.own k := by
    rintro k (h | h)
    · exact .inl (Nat.le_trans hs.frame.size h)
    · exact hown k h
  have hwrn : wrHs (normWr (wr ++ (resV d ce.res).2)) = wrHs wr ++ wrHs (resV d ce.res).2 := by rw [wrHs_normWr]; simp [wrHs]
  have hlk : ∀ x e0, look x (normWr (wr ++ (resV d ce.res).2)) = some (some e0) → ∃ e1, e0 = e1.norm ∧ ((x, some e1) ∈ wr ∨ (x, some e1) ∈ (resV d ce.res).2) := by
    intro x e0 h
    rw [look_normWr, Option.map_eq_some_iff] at h
    obtain ⟨oe, h1, h2⟩ := h
    cases oe with
    | none => cases h2
    | some e1 =>
      simp only [Option.map_some, Option.some.injEq] at h2
      exact ⟨e1, h2.symm, hlookwr x _ h1⟩
  -- what is new: a row, its value, its block
  have hnewrow : ∀ x e0, look x (normWr (wr ++ (resV d ce.res).2)) = some (some e0) → ∃ r, e0 = .row r ∧ OwnsRow w' (NewBlk w (OutBlk ce.outs Vs)) r (if x ∈ wrHs (resV d ce.res).2 then us.getD ((x - d) / 1000) undef else ρ x) ∧
      ((∃ p ∈ ce.outs, p.2 = some r ∧ x ∉ wrHs (resV d ce.res).2 ∧ S'.mem x ≠ none ∧ Vs[p.1]? = some (ρ x) ∧ (∃ r0, (args.toList.map S.eval)[p.1]? = some (.one (hA0 r0 x)))) ∨ ∃ i u, (comps ce.res)[i]? = some (.rw r) ∧ x = d + 1000 * i ∧ us[i]? = some u ∧ (if x ∈ wrHs (resV d ce.res).2 then us.getD ((x - d) / 1000) undef else ρ x) = u) := by
    intro x e0 h
    obtain ⟨e1, rfl, h1 | h1⟩ := hlk x e0 h
    · obtain ⟨p, hp, r9, ha, hoe, _⟩ := hout2 x _ h1
      cases hp2 : p.2 with
      | none => rw [hp2] at hoe; cases hoe
      | some r =>
        rw [hp2] at hoe
        simp only [Option.map_some, Option.some.injEq] at hoe
        subst hoe
        obtain ⟨u, hu, how⟩ := hret.outs p hp r hp2
        obtain ⟨h', r', b1, b2, _, b4, _⟩ := houtv p hp
        have b1' : x = h' := (hOf_hA0 ha).symm.trans (hOf_hA0 b1)
        subst b1'
        rw [b4] at hu; cases hu
        have hnot : x ∉ wrHs (resV d ce.res).2 := fun hx => hdj x hx (outHsR x (mem_wrHs.2 ⟨_, h1⟩))
        refine ⟨r, rfl, by rw [if_neg hnot]; exact how, .inl ⟨p, hp, hp2, hnot, by rw [b2]; simp, b4, r9, ha⟩⟩
    · obtain ⟨i, r, u, g1, g2, g3, g4, g5⟩ := hresb x _ h1
      cases g3
      subst g2
      have := hρres i r u g1 g4
      exact ⟨r, rfl, by rw [this]; exact g5, .inr ⟨i, u, g1, rfl, g4, this⟩⟩
  rw [hd]
  refine hs.step (D := OutBlk ce.outs Vs) (fun y hy => by cases hy; exact hdl d hd) hret.chg hown (fun x hne => ?_) (fun x hx => ?_) (fun y en hy ho hnot k hk => ?_) (fun x e0 hx => ?_) (fun x e0 hx _ k hk => ⟨fun y en hy ho hnot hk2 => ?_, fun y en hy ho hne hk2 => ?_⟩) ?_
  · by_cases hx : x ∈ wrHs (resV d ce.res).2
    · exact hfr x (by rw [hwrn]; exact List.mem_append_right _ hx) (hdj x hx)
    · simp only [hx, if_false, ne_eq, not_true_eq_false] at hne
  · rw [hwrn, List.mem_append, not_or] at hx
    simp only [hx.2, if_false]
  · rw [hwrn, List.mem_append, not_or] at hnot
    exact hoth y en hy ho hnot.1 k hk
  · obtain ⟨r, rfl, how, _⟩ := hnewrow x e0 hx
    exact how.mono fun k _ hk => hnewOwn k hk
  · obtain ⟨r, rfl, how, _⟩ := hnewrow x e0 hx
    rw [hwrn, List.mem_append, not_or] at hnot
    rcases (how.blk hk).1 with h | h
    · have := hs.blk_lt hy ho hk2; omega
    · exact hoth y en hy ho hnot.1 k hk2 h
  · obtain ⟨r, rfl, how, h1⟩ := hnewrow x e0 hx
    obtain ⟨r', rfl, how', h2⟩ := hnewrow y en hy
    rcases h1 with ⟨p, hp, hp2, hnx, hmx, hvx, hax⟩ | ⟨i, u, g1, g2, g3, g4⟩
    · rcases h2 with ⟨q, hq, hq2, hny, hmy, hvy, hay⟩ | ⟨i', u', g1', g2', g3', g4'⟩
      · -- two handed-over rows
        rw [if_neg hnx] at hk
        rw [if_neg hny] at hk2
        have hpq : p.1 ≠ q.1 := by
          intro e
          obtain ⟨r1, hax⟩ := hax
          obtain ⟨r2, hay⟩ := hay
          exact hne ((hOf_hA0 hay).symm.trans ((congrArg _ e.symm).trans (hOf_hA0 hax)))
        exact hargs.sep p hp q hq hpq _ _ k hvx hvy hk hk2
      · rw [if_neg hnx] at hk
        rw [g4'] at hk2
        exact hus5 i' r' u' g1' g3' p hp r hp2 _ hvx k hk hk2
    · rcases h2 with ⟨q, hq, hq2, hny, hmy, hvy, hay⟩ | ⟨i', u', g1', g2', g3', g4'⟩
      · rw [g4] at hk
        rw [if_neg hny] at hk2
        exact hus5 i r u g1 g3 q hq r' hq2 _ hvy k hk2 hk
      · rw [g4] at hk
        rw [g4'] at hk2
        have hii : i ≠ i' := by intro e; subst e; exact hne (g2'.trans g2.symm)
        exact hus4 i i' r r' u u' hii g1 g1' g3 g3' k hk hk2
  · -- the result's value
    have hcomp : ∀ (i : Nat) (a0 : A0), (comps ce.res)[i]? = some a0 → ∃ u, us[i]? = some u ∧ ((resA (d + 1000 * i) a0).1).norm.rel (fun x => if x ∈ wrHs (resV d ce.res).2 then us.getD ((x - d) / 1000) undef else ρ x) (hdV u) := by
      intro i a0 ha
      obtain ⟨u, hu, hr⟩ := hus3 i a0 ha
      refine ⟨u, hu, ?_⟩
      cases a0 with
      | rw r =>
        have hru := hρres i r u ha hu
        cases hf : r.flat with
        | true =>
          simp only [resA, hf, cond_true]
          have h1 : FlatRow _ _ r u := (OwnsRow.flat hf).1 hr
          show hdV u = _
          rw [flat_thin h1]
          exact hru.symm
        | false =>
          simp only [resA, hf, cond_false]
          show hdV u = hdV _
          exact congrArg hdV hru.symm
      | _ => first
        | (have h1 : argOk _ = true := hr.1
           simp only [argOk, Bool.false_eq_true] at h1
           done)
        | (refine (A0.rel_norm _ _ _).2 ?_
           have h2 := hr.2
           rw [h2]
           rfl)
    cases hres : ce.res with
    | one a0 =>
      rw [hres] at hus1 hcomp
      simp only at hus1
      obtain ⟨u0, rfl, rfl⟩ := hus1
      obtain ⟨u, hu, hr⟩ := hcomp 0 a0 rfl
      simp only [List.getElem?_cons_zero, Option.some.injEq] at hu
      subst hu
      exact hr
    | tup l =>
      rw [hres] at hus1 hcomp hus2
      simp only at hus1
      refine ⟨us.map hdV, hus1, ?_, fun i b hb => ?_⟩
      · simp only [comps] at hus2
        simp only [List.length_map, resL_length, hus2]
      · simp only [List.getElem?_map, Option.map_eq_some_iff, resL_fst] at hb
        obtain ⟨b', ⟨a0, ha0, rfl⟩, rfl⟩ := hb
        rw [Nat.zero_add]
        obtain ⟨u, hu, hr⟩ := hcomp i a0 ha0
        exact ⟨hdV u, by simp [hu], hr⟩
end Go.Proofs.Ytclpoenfcpefmaa

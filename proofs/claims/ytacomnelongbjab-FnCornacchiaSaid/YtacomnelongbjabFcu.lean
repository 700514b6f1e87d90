/-
  A contract of a cursor's method out of the verification condition of its body. Conditions: none; this text proves nothing of the program.
-/
import Derived.Test.YtacomnelongbjabFn
namespace Go.Proofs.Ytacomnelongbjab
open Go Go.RowKit

def initC (l : List Int) (a s : Int) (rest : List A0) : St := ⟨(0, .one (.co (hA 0))) :: initFr 1 rest, (hA 0, .cu l a s) :: initMem [] 1 rest⟩
def eqPl : List A0 → List A0 → Prop
  | [], [] => True
  | a :: l, w :: m => a.norm = w.norm ∧ eqPl l m
  | _, _ => False
def curIs (l : List Int) (a s : Int) : Option Entry → Prop
  | some (.cu l' a' s') => l' = l ∧ (a' = a ∧ s' = s)
  | _ => False
def finC (tab : Tab) (rvs : List ResultVar) (l : List Int) (res : AV) (a s : Int) (S : St) : Prop :=
  match resAll tab S rvs with
  | some as => (shapeOk as.length res && plainV res) = true ∧ (eqPl as (comps res) ∧ curIs l a s (look (hA 0) S.mem))
  | none => False
theorem eqPl_at : ∀ {l m : List A0}, eqPl l m → l.length = m.length ∧ ∀ (j : Nat) (w : A0), m[j]? = some w → ∃ a, l[j]? = some a ∧ a.norm = w.norm
  | [], [], _ => by simp
  | [], _ :: _, h => h.elim
  | _ :: _, [], h => h.elim
  | a :: l, w :: m, h => by
    obtain ⟨h1, h2⟩ := eqPl_at h.2
    refine ⟨by simp [h1], fun j w' hw => ?_⟩
    cases j with
    | zero => simp at hw; subst hw; exact ⟨a, rfl, h.1⟩
    | succ j => simpa using h2 j w' (by simpa using hw)

section
variable {P : Program} {tab : Tab}
def ctxC (P : Program) (w : World) (g : Nat) (C : Value) (N : Nat) : Ctx := ⟨P, w, fun k => k = g, N, [(hA 0, .tuple #[.pointer (some ⟨g, 0, none⟩), .agg #[C]])]⟩

theorem init_satC {w : World} {g : Nat} {C : Value} {l : List Int} {a0 s0 : Int} {rest : List A0} {vals : List Value} {N : Nat} (hN : rest.length + 1 ≤ N) (hr : rest.all cuArg = true) (hcat : CurAt w g C a0 s0) (hcode : CodeAt w (fun k => k < w.heap.size ∧ k ≠ g) l C) (hlen : vals.length = rest.length)
    (hrel : ∀ (j : Nat) (a : A0), rest[j]? = some a → ∃ v, vals[j]? = some v ∧ hdV v = v ∧ ArgRel w (fun k => k = g) false a v) :
    Sat (ctxC P w g C N) (den (initC l a0 s0 rest)) { tmps := (.pointer (some ⟨g, 0, none⟩) :: vals).toArray ++ Array.replicate (N - (.pointer (some ⟨g, 0, none⟩) :: vals).toArray.size) undef, defers := [] } w := by
  have hgl : g < w.heap.size := by obtain ⟨t, hg⟩ := hcat; exact heap_lt hg
  have hall : ∀ a ∈ rest, cuArg a = true := List.all_eq_true.1 hr
  let V0 : Value := .tuple #[.pointer (some ⟨g, 0, none⟩), .agg #[C]]
  have hρ : ∀ i v, vals[i]? = some v → (fun h => if h = hA 0 then V0 else vals.getD (h - 1000001) undef) (hA (1 + i)) = v := by
    intro i v hv
    have h1 : hA (1 + i) ≠ hA 0 := by unfold hA; omega
    have h2 : hA (1 + i) - 1000001 = i := by unfold hA; omega
    simp only [h1, if_false, h2]
    simp [List.getD, hv]
  have hent : ∀ h e, (den (initC l a0 s0 rest)).mem h = some e → (h = hA 0 ∧ e = .cu l a0 s0) ∨ ∃ i r v, h = hA (1 + i) ∧ vals[i]? = some v ∧ e = .ro r ∧ ReadsRow w (fun k => k < w.heap.size ∧ ¬ k = g) r v := by
    intro h e he
    simp only [den, initC, Option.map_eq_some_iff, look] at he
    obtain ⟨e0, hl, rfl⟩ := he
    by_cases hh : hA 0 = h
    · left
      simp only [hh, beq_self_eq_true, cond_true, Option.some.injEq] at hl
      exact ⟨hh.symm, by rw [← hl]; rfl⟩
    · right
      have hb : (hA 0 == h) = false := by simpa using hh
      rw [hb] at hl
      rcases initMem_look _ _ _ _ _ hl with ⟨i, r, h1, h2, h3⟩ | ⟨i, b, h1, h2, h3⟩
      · obtain ⟨v, hv, _, hrl⟩ := hrel i _ h2
        simp only [List.any_nil, Bool.false_eq_true, if_false] at h3
        unfold ArgRel at hrl
        simp only [Bool.false_eq_true, if_false] at hrl
        exact ⟨i, r, v, h1, hv, by rw [h3]; rfl, hrl⟩
      · have := hall _ (List.mem_of_getElem? h2)
        simp [cuArg] at this
  refine ⟨rfl, by simp [ctxC]; omega, fun h => if h = hA 0 then V0 else vals.getD (h - 1000001) undef, fun s => ?_, fun h e he => ?_, fun h h' e e' he he' ho ho' hne k hk => ?_, ⟨rfl, rfl, rfl, Nat.le_refl _, fun _ _ _ => rfl⟩, fun p hp => ?_, fun k hk => by rw [show k = g from hk]; exact hgl⟩
  · simp only [den, initC]
    cases s with
    | zero =>
      simp only [look, beq_self_eq_true, cond_true, Option.getD_some]
      refine (AV.rel_norm _ _ _).2 ?_
      have h1 : ((.pointer (some ⟨g, 0, none⟩) :: vals).toArray ++ Array.replicate (N - (.pointer (some ⟨g, 0, none⟩) :: vals).toArray.size) undef).getD 0 undef = .pointer (some ⟨g, 0, none⟩) := by
        rw [Array.getD_eq_getD_getElem?, Array.getElem?_append_left (by simp)]
        simp
      rw [h1]
      show _ = hdV (if hA 0 = hA 0 then V0 else vals.getD (hA 0 - 1000001) undef)
      rw [if_pos rfl]
      rfl
    | succ s =>
      have h0 : (0 == s + 1) = false := by simp
      simp only [look, h0, cond_false]
      rw [initFr_look, if_pos (by omega), show s + 1 - 1 = s by omega]
      cases hs : rest[s]? with
      | none => simp [AV.norm, A0.norm, AV.rel, A0.rel]
      | some a =>
        obtain ⟨v, hv, hth, hrl⟩ := hrel s a hs
        have hlt : s < vals.length := (List.getElem?_eq_some_iff.1 hv).1
        have htm : ((.pointer (some ⟨g, 0, none⟩) :: vals).toArray ++ Array.replicate (N - (.pointer (some ⟨g, 0, none⟩) :: vals).toArray.size) undef).getD (s + 1) undef = v := by
          rw [Array.getD_eq_getD_getElem?, Array.getElem?_append_left (by simpa using hlt)]
          simp [hv]
        simp only [Option.map_some, Option.getD_some]
        rw [htm]
        refine (AV.rel_norm _ _ _).2 ?_
        have hcu := hall _ (List.mem_of_getElem? hs)
        have hs1 : 1 + s = s + 1 := by omega
        unfold ArgRel at hrl
        cases a with
        | rw r =>
          have hf : r.flat = true := hcu
          simp only [hf, cond_true]
          have := hρ s v hv
          rw [hs1] at this
          exact this.symm
        | i n => exact hrl.2
        | b n => exact hrl.2
        | s n => exact hrl.2
        | _ => simp [cuArg] at hcu
  · rcases hent h e he with ⟨rfl, rfl⟩ | ⟨i, r, v, rfl, hv, rfl, hrd⟩
    · exact ⟨g, C, by simp only [if_true]; rfl, .inr rfl, hcat, hcode⟩
    · exact (show ReadsRow w (fun k => k < w.heap.size ∧ ¬ k = g) r _ from by
        rw [hρ i v hv]
        exact hrd)
  · rcases hent h e he with ⟨rfl, rfl⟩ | ⟨i, r, v, rfl, hv, rfl, hrd⟩
    · rcases hent h' e' he' with ⟨rfl, rfl⟩ | ⟨i, r, v, rfl, hv, rfl, hrd⟩
      · exact absurd rfl hne
      · cases ho'
    · cases ho
  · simp only [ctxC, List.mem_singleton] at hp
    subst hp
    simp [V0]

/-- A CONTRACT OF A CURSOR's METHOD OUT OF ITS BODY's VERIFICATION CONDITION. -/
theorem fn_cu {f : Nat} {fn : Func} {code : Code} {spec : Spec} {l : List Int} {a0 s0 a1 s1 : Int} {rest : List A0} {ce : CEff} (hm : P.follows .mixedOrders = true) (hT : TabOk P tab) (hspec : SpecOk P spec) (hf : P.funcs[f]? = some fn) (hb : fn.body = some code) (hd : dstB fn.ntmps code = true) (hl : (Nat.ble (rest.length + 1) fn.ntmps && rest.all cuArg) = true)
    (h : ce.pre → ∃ d n, vc [hA 0] tab spec (finC tab fn.results.toList l ce.res a1 s1) (lpN [hA 0] tab spec (finC tab fn.results.toList l ce.res a1 s1) d) n [.code code] (initC l a0 s0 rest)) : FnCu P f l a0 s0 rest ce a1 s1 := by
  rw [Bool.and_eq_true] at hl
  intro hpre w0 g C vals hcat hcode hlen hrel
  obtain ⟨d, n, hv⟩ := h hpre
  have hpins : [hA 0] = (ctxC P w0 g C fn.ntmps).pins.map (·.1) := by simp [ctxC]
  have hfin : ∀ (S : St) (a : Act) (w : World), finC tab fn.results.toList l ce.res a1 s1 S → Sat (ctxC P w0 g C fn.ntmps) (den S) a w →
      bodyPost P fn (fun e w' => ∃ v, e = .returned v ∧ Chg w0 w' (fun k => k = g) ∧ CurAt w' g C a1 s1 ∧ ce.res.rel noρ v) .normal a w ∧ bodyPost P fn (fun e w' => ∃ v, e = .returned v ∧ Chg w0 w' (fun k => k = g) ∧ CurAt w' g C a1 s1 ∧ ce.res.rel noρ v) .ret a w := by
    intro S a w hS hs
    obtain ⟨hdef, hsz, ρ, hr⟩ := hs
    unfold finC at hS
    split at hS
    case h_2 => exact hS.elim
    rename_i as has
    obtain ⟨hsh, heq, hcur⟩ := hS
    rw [Bool.and_eq_true] at hsh
    obtain ⟨hshape, hpv⟩ := hsh
    obtain ⟨us, hu1, hu2, hu3⟩ := resAll_run hT hr has
    have hmap : (fn.results.mapM fun | .tmp t => pure (a.tmps.getD t undef) | .cell ad t => do loadVar t (← asAddr (a.tmps.getD ad undef)) : Sem (Array Value)).run P w = .ok us.toArray w := by
      rw [Array.mapM_eq_mapM_toList]
      rw [Sem.run_map]
      have hP : (ctxC P w0 g C fn.ntmps).P = P := rfl
      rw [hP] at hu2
      refine Eq.trans (congrArg (fun r => Result.andThen r _) hu2) ?_
      rfl
    obtain ⟨hlen2, hat⟩ := eqPl_at heq
    have hchg : Chg w0 w (fun k => k = g) := ⟨hr.frame.os, hr.frame.tape, hr.frame.output, hr.frame.size, hr.frame.block⟩
    have hcat' : CurAt w g C a1 s1 := by
      unfold curIs at hcur
      split at hcur
      · rename_i l' a' s' hlk
        obtain ⟨rfl, rfl, rfl⟩ := hcur
        have hm0 : (den S).mem (hA 0) = some (.cu l' a' s') := by simp [den, hlk, Entry.norm]
        obtain ⟨g', C', hv', _, hc', _⟩ := hr.mem _ _ hm0
        have hpin := hr.pin (hA 0, .tuple #[.pointer (some ⟨g, 0, none⟩), .agg #[C]]) (by simp [ctxC])
        rw [hv'] at hpin
        simp at hpin
        obtain ⟨rfl, rfl⟩ := hpin
        exact hc'
      · exact hcur.elim
    have hrun : (results fn a.tmps).run P w = .ok (if h : us.toArray.size = 1 then us.toArray[0] else .tuple us.toArray) w := by
      unfold results
      simp only [Sem.run_bind]
      refine Eq.trans (congrArg (fun r => Result.andThen r _) hmap) ?_
      rfl
    have hrelp : ∀ (j : Nat) (b : A0), (comps ce.res)[j]? = some b → ∃ u, us[j]? = some u ∧ b.rel noρ u := by
      intro j b hb
      obtain ⟨b1, h1, h2⟩ := hat j b hb
      obtain ⟨u, h3, h4⟩ := hu3 j b1 h1
      refine ⟨u, h3, ?_⟩
      have h5 := (A0.rel_norm ρ b1 u).2 h4
      rw [h2] at h5
      have h6 := (A0.rel_norm ρ b u).1 h5
      have hpb : plainS b = true := by
        cases hres : ce.res with
        | one b0 =>
          rw [hres] at hb hpv
          cases j with
          | zero => simp [comps] at hb; subst hb; exact hpv
          | succ j => simp [comps] at hb
        | tup bl =>
          rw [hres] at hb hpv
          exact List.all_eq_true.1 hpv _ (List.mem_of_getElem? hb)
      exact (A0.rel_norm noρ b u).1 (plainS_rel hpb ρ noρ u h6)
    have hval : ∃ v, (results fn a.tmps).run P w = .ok v w ∧ ce.res.rel noρ v := by
      refine ⟨_, hrun, ?_⟩
      cases hres : ce.res with
      | one b =>
        rw [hres] at hshape hrelp
        have h1 : us.length = 1 := by rw [hu1]; simpa [shapeOk] using hshape
        rw [dif_pos (by simpa using h1)]
        obtain ⟨u, hu1'⟩ := List.length_eq_one_iff.1 h1
        subst hu1'
        obtain ⟨u', hu', hr'⟩ := hrelp 0 b rfl
        simp at hu'
        subst hu'
        exact hr'
      | tup bl =>
        rw [hres] at hshape hrelp hlen2
        have h1 : us.length ≠ 1 := by
          simp only [shapeOk, Bool.and_eq_true, bne_iff_ne] at hshape
          rw [hu1]; exact hshape.2
        rw [dif_neg (by simpa using h1)]
        exact ⟨us, rfl, by rw [hu1, hlen2]; rfl, fun j b hb => hrelp j b hb⟩
    obtain ⟨v, hv1, hv2⟩ := hval
    exact ⟨⟨hdef, v, hv1, v, rfl, hchg, hcat', hv2⟩, ⟨hdef, v, hv1, v, rfl, hchg, hcat', hv2⟩⟩
  have h1 := vc_sound (c := ctxC P w0 g C fn.ntmps) (Q0 := bodyPost P fn (fun e w' => ∃ v, e = .returned v ∧ Chg w0 w' (fun k => k = g) ∧ CurAt w' g C a1 s1 ∧ ce.res.rel noρ v)) hT hspec hpins hm hfin
    (lpN_sound (c := ctxC P w0 g C fn.ntmps) hT hspec hpins hm hfin d) n _ _ hv (ok_cons hd rfl) _ w0 (init_satC (N := fn.ntmps) (Nat.le_of_ble_eq_true hl.1) hl.2 hcat hcode hlen hrel)
  exact calls_of_wp hf hb h1.kont
theorem fn_cu0 {f : Nat} {l : List Int} {a0 s0 : Int} {rest : List A0} {ce : CEff} : FnOk0 P f (.cur l a0 s0 :: rest) ce := by
  intro _ w vals ha
  obtain ⟨v, _, hr⟩ := ha.rel 0 _ rfl
  exact absurd hr.1 (by simp [argOk])
end
end Go.Proofs.Ytacomnelongbjab

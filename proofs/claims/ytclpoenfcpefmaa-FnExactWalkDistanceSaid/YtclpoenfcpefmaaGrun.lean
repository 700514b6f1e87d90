/-
  The machine's verification condition is sound: where it holds of a stack of code, the code runs as the model says and ends as the condition says. Conditions: none; this text proves nothing of the program.
-/
import Derived.Test.YtclpoenfcpefmaaGmake
import Derived.Deep.LoopGhost
namespace Go.Proofs.Ytclpoenfcpefmaa
open Go Go.RowKit

section
variable {c : Ctx} {S : St}

/-! ### guards -/
theorem yielded_at {S' : SS} {ops : Array Oper} {a : Act} {w : World} (hs : Sat c S' a w) {g s : Nat} (hg : (ops[g]?).bind (·.dst) = some s) {b : Bool} (h : S'.fr s = .one (.b b)) : yielded ops a.tmps g = some b := by
  obtain ⟨_, _, ρ, hr⟩ := hs
  have h1 := hr.fr s
  rw [h] at h1
  have h2 : a.tmps.getD s undef = .bool b := h1
  have h3 : a.tmps[s]? = some (.bool b) := by
    rw [Array.getD_eq_getD_getElem?] at h2
    cases h4 : a.tmps[s]? with
    | none => rw [h4] at h2; cases h2
    | some v => rw [h4] at h2; simp at h2; rw [h2]
  simp [yielded, hg, h3]
theorem yielded_un {S' : SS} {ops : Array Oper} {a : Act} {w : World} (hs : Sat c S' a w) {g s : Nat} (hg : (ops[g]?).bind (·.dst) = some s) (h : S'.fr s = .one .un) : yielded ops a.tmps g = none := by
  obtain ⟨_, _, ρ, hr⟩ := hs
  have h1 := hr.fr s
  rw [h] at h1
  have h2 : a.tmps.getD s undef = undef := h1
  simp only [yielded, hg, Option.bind_some]
  cases h4 : a.tmps[s]? with
  | none => rfl
  | some v =>
    rw [Array.getD_eq_getD_getElem?, h4] at h2
    simp at h2
    rw [h2]; rfl
theorem slotOf_arr {all : List Oper} {j s : Nat} (h : slotOf all j = some s) : (all.toArray[j]?).bind (·.dst) = some s := by simpa [slotOf] using h
theorem guard_look {ops : Array Oper} {o : Oper} {g s : Nat} {b : Bool} (hgd : o.guard = some (g, b)) (hg : (ops[g]?).bind (·.dst) = some s) : s ∈ o.looksAt ops := by
  unfold Oper.looksAt
  rw [hgd]
  simp [hg]
theorem den_slot {s : Nat} {v : AV} (h : look s S.fr = some v) : (den S).fr s = v.norm := by simp [den, h]

theorem wanted_none {ops : Array Oper} {o : Oper} (h : o.guard = none) : Wanted c ops o S := fun S' a w _ _ => by simp [Region.wanted, h]
theorem wanted_lit {all : List Oper} {o : Oper} {g s : Nat} {b : Bool} {v : AV} (h : o.guard = some (g, b)) (hs : slotOf all g = some s) (hl : look s S.fr = some v) (hv : v.norm = .one (.b b)) : Wanted c all.toArray o S := fun S' a w hag hsat => by
  have h1 := hag.fr s (guard_look h (slotOf_arr hs))
  rw [den_slot hl, hv] at h1
  simp [Region.wanted, h, yielded_at hsat (slotOf_arr hs) h1]
theorem good_skip {all : List Oper} {o : Oper} {g s : Nat} {b : Bool} {v : AV} (hN : ∀ d, o.dst = some d → d < c.N) (h : o.guard = some (g, b)) (hs : slotOf all g = some s) (hl : look s S.fr = some v) (hv : v.norm = .one (.b (!b)) ∨ v.norm = .one .un) : Good c all.toArray o (den S) [] (.one .un) [] := by
  intro S' hag _ a w hsat K Q hK
  have h1 := hag.fr s (guard_look h (slotOf_arr hs))
  rw [den_slot hl] at h1
  have hnw : Region.wanted o (yielded all.toArray a.tmps) = false := by
    rcases hv with hv | hv
    · rw [hv] at h1
      simp [Region.wanted, h, yielded_at hsat (slotOf_arr hs) h1]
    · rw [hv] at h1
      simp [Region.wanted, h, yielded_un hsat (slotOf_arr hs) h1]
  unfold opAt
  rw [hnw, if_neg (by simp)]
  obtain ⟨hdef, hsz, ρ, hr⟩ := hsat
  exact hK _ _ ⟨(put_defs a o.dst undef).trans hdef, (put_size a o.dst undef).trans hsz, ρ, hr.val (fun d hd => by rw [hsz]; exact hN d hd) rfl⟩

/-! ### one operation of a region -/
theorem allHs_fresh {pins : List Nat} (hp : pins = c.pins.map (·.1)) {h : Nat} (hh : h ∉ pins ++ allHs S) : (den S).Fresh c h := by
  simp only [allHs, List.mem_append, List.mem_map, List.mem_flatMap, not_or, not_exists, not_and] at hh
  obtain ⟨h1, h2, h3, h4⟩ := hh
  refine ⟨?_, fun s => ?_, fun h' e he => ?_, fun p hpp he => ?_⟩
  · have : look h S.mem = none := (look_none_iff h S.mem).2 (fun hx => by
      obtain ⟨p, hp1, hp2⟩ := List.mem_map.1 hx
      exact h2 p hp1 hp2)
    simp [den, this]
  · simp only [den]
    cases hl : look s S.fr with
    | none => simp [AV.norm, A0.norm, AV.hs, A0.hs]
    | some v =>
      rw [Option.getD_some, AV.hs_norm]
      exact h3 _ (look_mem hl)
  · simp only [den, Option.map_eq_some_iff] at he
    obtain ⟨e', hl, rfl⟩ := he
    rw [Entry.hs_norm]
    exact h4 _ (look_mem hl)
  · exact h1 (by rw [hp]; exact List.mem_map.2 ⟨p, hpp, he⟩)

def Reg.push (fp : FP) : Reg → Reg
  | .s => .s
  | .d acc hs => .d (acc ++ [fp]) hs
def fpOf (e : Ev) : FP := ⟨e.R, e.W, e.O⟩

/-- What one step of a region says: the same again after a case, or the operation's own effect. -/
def OneStep (c : Ctx) (pins : List Nat) (all : List Oper) (o : Oper) (r : List Oper) (k : List Item) (g : Reg) (S : St) (f : List Item → St → Prop) : Prop :=
  (∃ S1, den S1 = den S ∧ f (g.item all (o :: r) :: k) S1) ∨
  ∃ R val wr S2, Good c all.toArray o (den S) R val wr ∧ den S2 = (den S).apply o.dst val wr ∧ f ((g.push (fpOf ⟨0, o, R, val, wr⟩)).item all r :: k) S2 ∧ (∀ h ∈ wrHs wr, h ∉ R → h ∉ pins ++ allHs S)

theorem Ev_O (o : Oper) (i : Nat) (R : List Nat) (e : Eff) : (Ev.O ⟨i, o, R, e.val.norm, normWr e.wr⟩) = outHs e := by
  simp only [Ev.O, Ev.W, outHs, wrHs_normWr, AV.hs_norm]
  congr 2
  rw [normWr, List.flatMap_map]
  congr 1
  funext p
  cases p.2 <;> simp [Entry.hs_norm]

variable {pins : List Nat} {all : List Oper} {o : Oper} {r : List Oper} {k : List Item} {g : Reg} {f : List Item → St → Prop} {fin : St → Prop} {lp : Code → List Item → St → Prop} {tab : Tab} {spec : Spec}

theorem stepE_one (hT : TabOk c.P tab) (hspec : SpecOk c.P spec) (hN : ∀ d, o.dst = some d → d < c.N) (hw : Wanted c all.toArray o S) (h : out f fin lp (stepE pins all r k g o S (eff tab spec o.dst o.op S))) : OneStep c pins all o r k g S f := by
  unfold stepE at h
  split at h
  · rename_i e he
    cases hok : okNew pins S o.op e with
    | false => rw [hok] at h; exact h.elim
    | true =>
      rw [hok] at h
      obtain ⟨hp, hf⟩ : e.pre ∧ f ((g.next S o.op e).item all r :: k) (S.after o.dst e) := h
      refine .inr ⟨_, _, _, _, good_eff hT hspec hN hw he hp, den_after S o.dst e, ?_, ?_⟩
      · have : g.push (fpOf ⟨0, o, rdOf S o.op, e.val.norm, normWr e.wr⟩) = g.next S o.op e := by
          cases g with
          | s => rfl
          | d acc hs => simp only [Reg.push, Reg.next, fpOf, Ev_O]; simp [Ev.W, wrHs_normWr]
        rw [this]; exact hf
      · intro x hx hR
        rw [wrHs_normWr] at hx
        unfold okNew at hok
        split at hok
        · rename_i h0; rw [h0] at hx; cases hx
        · exact disj_spec hok x (by simp [newHs, hx, hR])
  · exact h.elim

theorem two_lit {s : Nat} {b : Bool} (hl : look s S.fr = some (.one (.b b))) {it : Item} (h : out f fin lp (.two b (it :: k) (S.put (some s) (.one .tt)) (it :: k) (S.put (some s) (.one .ff)))) : ∃ S1, den S1 = den S ∧ f (it :: k) S1 := by
  cases b with
  | true => exact ⟨_, den_lit S s true hl, h⟩
  | false => exact ⟨_, den_lit S s false hl, h⟩

theorem stepPick_one (hT : TabOk c.P tab) (hspec : SpecOk c.P spec) (hN : ∀ d, o.dst = some d → d < c.N) (hw : Wanted c all.toArray o S) (h : out f fin lp (stepPick pins all o r k g S (eff tab spec o.dst o.op S) o.op)) : OneStep c pins all o r k g S f := by
  unfold stepPick at h
  split at h
  · split at h
    · rename_i b hl
      exact .inl (two_lit hl h)
    · exact stepE_one hT hspec hN hw h
  · exact stepE_one hT hspec hN hw h

theorem stepO_one (hT : TabOk c.P tab) (hspec : SpecOk c.P spec) (hN : ∀ d, o.dst = some d → d < c.N) (h : out f fin lp (stepO pins all o r k g S (eff tab spec o.dst o.op S))) : OneStep c pins all o r k g S f := by
  unfold stepO at h
  split at h
  · rename_i hg
    exact stepPick_one hT hspec hN (wanted_none hg) h
  · rename_i gd hg
    split at h
    · exact h.elim
    · rename_i s hs
      obtain ⟨gj, want⟩ := gd
      have skip : ∀ v, look s S.fr = some v → (v.norm = .one (.b (!want)) ∨ v.norm = .one .un) → out f fin lp (.go True (g.skip.item all r :: k) (S.put o.dst (.one .un))) → OneStep c pins all o r k g S f := by
        intro v hl hv hh
        refine .inr ⟨[], .one .un, [], _, good_skip hN hg hs hl hv, den_put S o.dst (.one .un), ?_, by simp [wrHs]⟩
        have : g.push (fpOf ⟨0, o, [], .one .un, []⟩) = g.skip := by cases g <;> rfl
        rw [this]; exact hh.2
      unfold stepG at h
      split at h
      · rename_i hl
        cases want with
        | true => exact stepPick_one hT hspec hN (wanted_lit hg hs hl rfl) h
        | false => exact skip _ hl (.inl rfl) h
      · rename_i hl
        cases want with
        | true => exact skip _ hl (.inl rfl) h
        | false => exact stepPick_one hT hspec hN (wanted_lit hg hs hl rfl) h
      · rename_i b hl
        exact .inl (two_lit hl h)
      · rename_i hl
        exact skip _ hl (.inr rfl) h
      · exact h.elim

/-! ### drawn regions -/
theorem RunOk.append {ops : Array Oper} : ∀ {l m : List Ev} {S : SS}, RunOk c ops l S → RunOk c ops m (runEv l S) → RunOk c ops (l ++ m) S
  | [], _, _, _, h => h
  | _ :: _, _, _, h, h' => ⟨h.1, RunOk.append h.2 h'⟩
theorem runEv_append : ∀ (l m : List Ev) (S : SS), runEv (l ++ m) S = runEv m (runEv l S)
  | [], _, _ => rfl
  | e :: l, m, S => runEv_append l m (S.ev e)

theorem drawn_run (hT : TabOk c.P tab) (hspec : SpecOk c.P spec) {hs : List Nat} {S0 : SS} (hN : ∀ o ∈ all, ∀ d, o.dst = some d → d < c.N) : ∀ (n : Nat) (evs : List Ev) (rest : List Oper) (S : St),
    all = evs.map (·.o) ++ rest → (∀ (i : Nat) (e : Ev), evs[i]? = some e → e.i = i) → RunOk c all.toArray evs S0 → den S = runEv evs S0 →
    vc pins tab spec fin lp n (.dops all rest (evs.map fpOf) hs :: k) S →
    ∃ evs' n' S', evs'.map (·.o) = all ∧ (∀ (i : Nat) (e : Ev), evs'[i]? = some e → e.i = i) ∧ RunOk c all.toArray evs' S0 ∧ den S' = runEv evs' S0 ∧ regOk all (evs'.map fpOf) hs = true ∧ n' < n ∧ vc pins tab spec fin lp n' k S'.res
  | 0, _, _, _, _, _, _, _, h => h.elim
  | n + 1, evs, [], S, hall, hi, hrun, hden, h => by
    obtain ⟨h1, h2⟩ : regOk all (evs.map fpOf) hs = true ∧ vc pins tab spec fin lp n k S.res := h
    exact ⟨evs, n, S, by simpa using hall.symm, hi, hrun, hden, h1, by omega, h2⟩
  | n + 1, evs, o :: r, S, hall, hi, hrun, hden, h => by
    have h' : out (vc pins tab spec fin lp n) fin lp (stepO pins all o r k (.d (evs.map fpOf) hs) S (eff tab spec o.dst o.op S)) := h
    rcases stepO_one hT hspec (hN o (by rw [hall]; simp)) h' with ⟨S1, hd, hv⟩ | ⟨R, val, wr, S2, hg, hd, hv, _⟩
    · obtain ⟨e1, n1, S', a1, a2, a3, a4, a5, a6, a7⟩ := drawn_run hT hspec hN n evs (o :: r) S1 hall hi hrun (hd.trans hden) hv
      exact ⟨e1, n1, S', a1, a2, a3, a4, a5, by omega, a7⟩
    · have hv' : vc pins tab spec fin lp n (.dops all r ((evs ++ [(⟨evs.length, o, R, val, wr⟩ : Ev)]).map fpOf) hs :: k) S2 := by
        rw [List.map_append]; exact hv
      obtain ⟨e1, n1, S', a1, a2, a3, a4, a5, a6, a7⟩ := drawn_run hT hspec hN n (evs ++ [(⟨evs.length, o, R, val, wr⟩ : Ev)]) r S2 (by rw [hall]; simp) (fun i e he => by
          rcases Nat.lt_or_ge i evs.length with hlt | hge
          · rw [List.getElem?_append_left hlt] at he; exact hi i e he
          · rw [List.getElem?_append_right hge] at he
            have : i - evs.length = 0 := by
              rcases Nat.eq_zero_or_pos (i - evs.length) with h0 | h0
              · exact h0
              · rw [List.getElem?_eq_none (by simp; omega)] at he; cases he
            rw [this] at he
            simp at he
            rw [← he]
            show evs.length = i
            omega) (RunOk.append hrun (show RunOk c all.toArray [(⟨evs.length, o, R, val, wr⟩ : Ev)] _ from ⟨by rw [← hden]; exact hg, trivial⟩)) (by rw [runEv_append, hd, hden]; rfl) hv'
      exact ⟨e1, n1, S', a1, a2, a3, a4, a5, by omega, a7⟩

theorem rowOk_spec {ops : Array Oper} {i : Nat} {x : Oper} {fx : FP} : ∀ {ys : List Ev} {j : Nat}, rowOk ops i x fx j (ys.map (·.o)) (ys.map fpOf) = true → ∀ (q : Nat) (y : Ev), ys[q]? = some y → pairOk ops i x fx (j + q) y.o (fpOf y) = true
  | [], _, _, q, y, h => by simp at h
  | z :: ys, j, h, q, y, hy => by
    simp only [List.map_cons, rowOk, Bool.and_eq_true] at h
    cases q with
    | zero => simp at hy; subst hy; exact h.1
    | succ q =>
      have := rowOk_spec h.2 q y (by simpa using hy)
      rw [show j + (q + 1) = j + 1 + q by omega]; exact this
theorem pairsOk_spec {ops : Array Oper} {hs : List Nat} : ∀ {xs : List Ev} {i : Nat}, pairsOk ops hs i (xs.map (·.o)) (xs.map fpOf) = true →
    (∀ (q : Nat) (x : Ev), xs[q]? = some x → (∀ d ∈ x.o.after, Region.binds .any d = true → d.on < i + q) ∧ ∀ h ∈ x.Nw, h ∉ hs) ∧
    ∀ (p q : Nat) (x y : Ev), p < q → xs[p]? = some x → xs[q]? = some y → pairOk ops (i + p) x.o (fpOf x) (i + q) y.o (fpOf y) = true
  | [], _, _ => by simp
  | z :: xs, i, h => by
    simp only [List.map_cons, pairsOk, Bool.and_eq_true] at h
    obtain ⟨h1, h2, h3, h4⟩ := h
    obtain ⟨i1, i2⟩ := pairsOk_spec h4
    constructor
    · intro q x hx
      cases q with
      | zero =>
        simp at hx; subst hx
        refine ⟨fun d hd hb => ?_, fun x hx => disj_spec h2 x hx⟩
        have := Array.all_eq_true'.1 h1 d hd
        rw [hb] at this
        simpa [Nat.blt_eq] using this
      | succ q =>
        obtain ⟨j1, j2⟩ := i1 q x (by simpa using hx)
        exact ⟨fun d hd hb => by have := j1 d hd hb; omega, j2⟩
    · intro p q x y hpq hx hy
      cases q with
      | zero => omega
      | succ q =>
        cases p with
        | zero =>
          simp at hx; subst hx
          have := rowOk_spec h3 q y (by simpa using hy)
          rw [show i + (q + 1) = i + 1 + q by omega]; exact this
        | succ p =>
          have := i2 p q x y (by omega) (by simpa using hx) (by simpa using hy)
          rw [show i + (p + 1) = i + 1 + p by omega, show i + (q + 1) = i + 1 + q by omega]; exact this

theorem waitsB_F {ops : Array Oper} {y : Oper} {i n : Nat} (h : waitsB y i = true) : waitsF ops (n + 1) y i = true := by
  obtain ⟨e, he, hb⟩ := Array.any_eq_true'.1 h
  simp only [Bool.and_eq_true, beq_iff_eq] at hb
  simp only [waitsF]
  exact Array.any_eq_true'.2 ⟨e, he, by simp [hb.1, hb.2]⟩
theorem anyInv_of {hs : List Nat} {S0 : St} (hp : pins = c.pins.map (·.1)) (hhs : hs = pins ++ allHs S0) {evs : List Ev} (hall : evs.map (·.o) = all) (hi : ∀ (i : Nat) (e : Ev), evs[i]? = some e → e.i = i) (hrun : RunOk c all.toArray evs (den S0)) (hreg : regOk all (evs.map fpOf) hs = true) :
    AnyInv c all.toArray evs (Array.replicate all.length false) (den S0) := by
  unfold regOk at hreg
  rw [← hall] at hreg
  obtain ⟨h1, h2⟩ := pairsOk_spec hreg
  have hat : ∀ e ∈ evs, evs[e.i]? = some e ∧ e.i < all.length := by
    intro e he
    obtain ⟨i, hi'⟩ := List.getElem?_of_mem he
    have := hi i e hi'
    rw [this]
    exact ⟨hi', by rw [← hall, List.length_map]; exact (List.getElem?_eq_some_iff.1 hi').1⟩
  have pw : ∀ {Rr : Ev → Ev → Prop}, (∀ (p q : Nat) (x y : Ev), p < q → evs[p]? = some x → evs[q]? = some y → Rr x y) → evs.Pairwise Rr := by
    intro Rr hR
    rw [List.pairwise_iff_getElem]
    intro p q hp hq hpq
    exact hR p q _ _ hpq (by simp [hp]) (by simp [hq])
  refine ⟨fun i oi ho hl => ?_, fun e he => ?_, fun e he => ?_, ?_, by simp, fun e he d hd hb => ?_, ?_, fun x hx y hy hxy => ?_, fun j oj hj hl d hd hb => ?_, fun e he h hh => ?_, hrun⟩
  · have ho' : all[i]? = some oi := by simpa using ho
    rw [← hall, List.getElem?_map, Option.map_eq_some_iff] at ho'
    obtain ⟨e, he, _⟩ := ho'
    exact ⟨e, List.mem_of_getElem? he, hi i e he⟩
  · simp [(hat e he).2]
  · have := (hat e he).1
    rw [← hall]; simp [this]
  · exact pw fun p q x y hpq hx hy => by rw [hi p x hx, hi q y hy]; exact hpq
  · have := (h1 e.i e (hat e he).1).1 d hd hb
    omega
  · refine pw fun p q x y hpq hx hy => ?_
    have := h2 p q x y hpq hx hy
    simp only [pairOk, Bool.and_eq_true, Bool.or_eq_true] at this
    rcases this.1 with hw | ⟨a1, a2, a3, a4⟩ | hw
    · left
      have hpx : p = x.i := (hi p x hx).symm
      rw [Nat.zero_add, hpx] at hw
      exact waitsB_F hw
    · right
      rw [hall] at a1
      exact ⟨a1, fun h hh => ⟨disj_spec a2 h hh, disj_spec a3 h hh⟩, fun h hh => disj_spec a4 h hh⟩
    · left
      have hpx : p = x.i := (hi p x hx).symm
      rw [Nat.zero_add, hpx, hall] at hw
      exact hw
  · obtain ⟨hx1, _⟩ := hat x hx
    obtain ⟨hy1, _⟩ := hat y hy
    rcases Nat.lt_or_ge x.i y.i with hlt | hge
    · have := h2 x.i y.i x y hlt hx1 hy1
      simp only [pairOk, Bool.and_eq_true, Bool.or_eq_true] at this
      rcases this.2.1 with hd | hw
      · right; exact fun h hh => disj_spec hd h hh
      · left; rw [Nat.zero_add, hall] at hw; exact hw
    · have := h2 y.i x.i y x (by omega) hy1 hx1
      simp only [pairOk, Bool.and_eq_true, Bool.or_eq_true] at this
      rcases this.2.2 with hd | hw
      · right; exact fun h hh => disj_spec hd h hh
      · left; rw [Nat.zero_add, hall] at hw; exact hw
  · exfalso
    simp only [Array.getD_eq_getD_getElem?, Array.getElem?_replicate] at hl
    split at hl <;> simp at hl
  · have := (h1 e.i e (hat e he).1).2 h hh
    rw [hhs] at this
    exact allHs_fresh hp this
end
end Go.Proofs.Ytclpoenfcpefmaa

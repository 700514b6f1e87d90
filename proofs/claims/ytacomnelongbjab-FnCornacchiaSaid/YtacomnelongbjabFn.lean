/-
The machine's verification condition is sound: where it holds of a stack of code, the code runs as the model says and ends as the condition says. Conditions: none; this text proves nothing of the program. The verification condition of a function's body gives its contract; loops by invariants. Conditions: none; this text proves nothing of the program. A function's contract out of the verification condition of its body. Conditions: none; this text proves nothing of the program.
-/
import Derived.Test.YtacomnelongbjabGmake
import Derived.Deep.LoopGhost
namespace Go.Proofs.Ytacomnelongbjab
open Go Go.RowKit

section
variable {c : Ctx} {S : St}

/-! ### guards -/
theorem yielded_at {S' : SS} {ops : Array Oper} {a : Act} {w : World} (hs : Sat c S' a w) {g s : Nat} (hg : (ops[g]?).bind (·.dst) = some s) {b : Bool} (h : S'.fr s = .one (.b b)) : yielded ops a.tmps g = some b := by
  obtain ⟨_, _, ρ, hr⟩ := hs
  have h1 := hr.fr s
  rw [h] at h1
  have h2 : a.tmps.getD s undef = .bool b := h1
  have h3 : a.tmps[s]? = some (.bool b) := by
    rw [Array.getD_eq_getD_getElem?] at h2
    cases h4 : a.tmps[s]? with
    | none => rw [h4] at h2; cases h2
    | some v => rw [h4] at h2; simp at h2; rw [h2]
  simp [yielded, hg, h3]
theorem yielded_un {S' : SS} {ops : Array Oper} {a : Act} {w : World} (hs : Sat c S' a w) {g s : Nat} (hg : (ops[g]?).bind (·.dst) = some s) (h : S'.fr s = .one .un) : yielded ops a.tmps g = none := by
  obtain ⟨_, _, ρ, hr⟩ := hs
  have h1 := hr.fr s
  rw [h] at h1
  have h2 : a.tmps.getD s undef = undef := h1
  simp only [yielded, hg, Option.bind_some]
  cases h4 : a.tmps[s]? with
  | none => rfl
  | some v =>
    rw [Array.getD_eq_getD_getElem?, h4] at h2
    simp at h2
    rw [h2]; rfl
theorem slotOf_arr {all : List Oper} {j s : Nat} (h : slotOf all j = some s) : (all.toArray[j]?).bind (·.dst) = some s := by simpa [slotOf] using h
theorem guard_look {ops : Array Oper} {o : Oper} {g s : Nat} {b : Bool} (hgd : o.guard = some (g, b)) (hg : (ops[g]?).bind (·.dst) = some s) : s ∈ o.looksAt ops := by
  unfold Oper.looksAt
  rw [hgd]
  simp [hg]
theorem den_slot {s : Nat} {v : AV} (h : look s S.fr = some v) : (den S).fr s = v.norm := by simp [den, h]

theorem wanted_none {ops : Array Oper} {o : Oper} (h : o.guard = none) : Wanted c ops o S := fun S' a w _ _ => by simp [Region.wanted, h]
theorem wanted_lit {all : List Oper} {o : Oper} {g s : Nat} {b : Bool} {v : AV} (h : o.guard = some (g, b)) (hs : slotOf all g = some s) (hl : look s S.fr = some v) (hv : v.norm = .one (.b b)) : Wanted c all.toArray o S := fun S' a w hag hsat => by
  have h1 := hag.fr s (guard_look h (slotOf_arr hs))
  rw [den_slot hl, hv] at h1
  simp [Region.wanted, h, yielded_at hsat (slotOf_arr hs) h1]
theorem good_skip {all : List Oper} {o : Oper} {g s : Nat} {b : Bool} {v : AV} (hN : ∀ d, o.dst = some d → d < c.N) (h : o.guard = some (g, b)) (hs : slotOf all g = some s) (hl : look s S.fr = some v) (hv : v.norm = .one (.b (!b)) ∨ v.norm = .one .un) : Good c all.toArray o (den S) [] (.one .un) [] := by
  intro S' hag _ a w hsat K Q hK
  have h1 := hag.fr s (guard_look h (slotOf_arr hs))
  rw [den_slot hl] at h1
  have hnw : Region.wanted o (yielded all.toArray a.tmps) = false := by
    rcases hv with hv | hv
    · rw [hv] at h1
      simp [Region.wanted, h, yielded_at hsat (slotOf_arr hs) h1]
    · rw [hv] at h1
      simp [Region.wanted, h, yielded_un hsat (slotOf_arr hs) h1]
  unfold opAt
  rw [hnw, if_neg (by simp)]
  obtain ⟨hdef, hsz, ρ, hr⟩ := hsat
  exact hK _ _ ⟨(put_defs a o.dst undef).trans hdef, (put_size a o.dst undef).trans hsz, ρ, hr.val (fun d hd => by rw [hsz]; exact hN d hd) rfl⟩

/-! ### one operation of a region -/
theorem allHs_fresh {pins : List Nat} (hp : pins = c.pins.map (·.1)) {h : Nat} (hh : h ∉ pins ++ allHs S) : (den S).Fresh c h := by
  simp only [allHs, List.mem_append, List.mem_map, List.mem_flatMap, not_or, not_exists, not_and] at hh
  obtain ⟨h1, h2, h3, h4⟩ := hh
  refine ⟨?_, fun s => ?_, fun h' e he => ?_, fun p hpp he => ?_⟩
  · have : look h S.mem = none := (look_none_iff h S.mem).2 (fun hx => by
      obtain ⟨p, hp1, hp2⟩ := List.mem_map.1 hx
      exact h2 p hp1 hp2)
    simp [den, this]
  · simp only [den]
    cases hl : look s S.fr with
    | none => simp [AV.norm, A0.norm, AV.hs, A0.hs]
    | some v =>
      rw [Option.getD_some, AV.hs_norm]
      exact h3 _ (look_mem hl)
  · simp only [den, Option.map_eq_some_iff] at he
    obtain ⟨e', hl, rfl⟩ := he
    rw [Entry.hs_norm]
    exact h4 _ (look_mem hl)
  · exact h1 (by rw [hp]; exact List.mem_map.2 ⟨p, hpp, he⟩)

def Reg.push (fp : FP) : Reg → Reg
  | .s => .s
  | .d acc hs => .d (acc ++ [fp]) hs
def fpOf (e : Ev) : FP := ⟨e.R, e.W, e.O⟩

/-- What one step of a region says: the same again after a case, or the operation's own effect. -/
def OneStep (c : Ctx) (pins : List Nat) (all : List Oper) (o : Oper) (r : List Oper) (k : List Item) (g : Reg) (S : St) (f : List Item → St → Prop) : Prop :=
  (∃ S1, den S1 = den S ∧ f (g.item all (o :: r) :: k) S1) ∨
  ∃ R val wr S2, Good c all.toArray o (den S) R val wr ∧ den S2 = (den S).apply o.dst val wr ∧ f ((g.push (fpOf ⟨0, o, R, val, wr⟩)).item all r :: k) S2 ∧ (∀ h ∈ wrHs wr, h ∉ R → h ∉ pins ++ allHs S)

theorem Ev_O (o : Oper) (i : Nat) (R : List Nat) (e : Eff) : (Ev.O ⟨i, o, R, e.val.norm, normWr e.wr⟩) = outHs e := by
  simp only [Ev.O, Ev.W, outHs, wrHs_normWr, AV.hs_norm]
  congr 2
  rw [normWr, List.flatMap_map]
  congr 1
  funext p
  cases p.2 <;> simp [Entry.hs_norm]

variable {pins : List Nat} {all : List Oper} {o : Oper} {r : List Oper} {k : List Item} {g : Reg} {f : List Item → St → Prop} {fin : St → Prop} {lp : Code → List Item → St → Prop} {tab : Tab} {spec : Spec}

theorem stepE_one (hT : TabOk c.P tab) (hspec : SpecOk c.P spec) (hN : ∀ d, o.dst = some d → d < c.N) (hw : Wanted c all.toArray o S) (h : out f fin lp (stepE pins all r k g o S (eff tab spec o.dst o.op S))) : OneStep c pins all o r k g S f := by
  unfold stepE at h
  split at h
  · rename_i e he
    cases hok : okNew pins S o.op e with
    | false => rw [hok] at h; exact h.elim
    | true =>
      rw [hok] at h
      obtain ⟨hp, hf⟩ : e.pre ∧ f ((g.next S o.op e).item all r :: k) (S.after o.dst e) := h
      refine .inr ⟨_, _, _, _, good_eff hT hspec hN hw he hp, den_after S o.dst e, ?_, ?_⟩
      · have : g.push (fpOf ⟨0, o, rdOf S o.op, e.val.norm, normWr e.wr⟩) = g.next S o.op e := by
          cases g with
          | s => rfl
          | d acc hs => simp only [Reg.push, Reg.next, fpOf, Ev_O]; simp [Ev.W, wrHs_normWr]
        rw [this]; exact hf
      · intro x hx hR
        rw [wrHs_normWr] at hx
        unfold okNew at hok
        split at hok
        · rename_i h0; rw [h0] at hx; cases hx
        · exact disj_spec hok x (by simp [newHs, hx, hR])
  · exact h.elim

theorem two_lit {s : Nat} {b : Bool} (hl : look s S.fr = some (.one (.b b))) {it : Item} (h : out f fin lp (.two b (it :: k) (S.put (some s) (.one .tt)) (it :: k) (S.put (some s) (.one .ff)))) : ∃ S1, den S1 = den S ∧ f (it :: k) S1 := by
  cases b with
  | true => exact ⟨_, den_lit S s true hl, h⟩
  | false => exact ⟨_, den_lit S s false hl, h⟩

theorem stepPick_one (hT : TabOk c.P tab) (hspec : SpecOk c.P spec) (hN : ∀ d, o.dst = some d → d < c.N) (hw : Wanted c all.toArray o S) (h : out f fin lp (stepPick pins all o r k g S (eff tab spec o.dst o.op S) o.op)) : OneStep c pins all o r k g S f := by
  unfold stepPick at h
  split at h
  · split at h
    · rename_i b hl
      exact .inl (two_lit hl h)
    · exact stepE_one hT hspec hN hw h
  · exact stepE_one hT hspec hN hw h

theorem stepO_one (hT : TabOk c.P tab) (hspec : SpecOk c.P spec) (hN : ∀ d, o.dst = some d → d < c.N) (h : out f fin lp (stepO pins all o r k g S (eff tab spec o.dst o.op S))) : OneStep c pins all o r k g S f := by
  unfold stepO at h
  split at h
  · rename_i hg
    exact stepPick_one hT hspec hN (wanted_none hg) h
  · rename_i gd hg
    split at h
    · exact h.elim
    · rename_i s hs
      obtain ⟨gj, want⟩ := gd
      have skip : ∀ v, look s S.fr = some v → (v.norm = .one (.b (!want)) ∨ v.norm = .one .un) → out f fin lp (.go True (g.skip.item all r :: k) (S.put o.dst (.one .un))) → OneStep c pins all o r k g S f := by
        intro v hl hv hh
        refine .inr ⟨[], .one .un, [], _, good_skip hN hg hs hl hv, den_put S o.dst (.one .un), ?_, by simp [wrHs]⟩
        have : g.push (fpOf ⟨0, o, [], .one .un, []⟩) = g.skip := by cases g <;> rfl
        rw [this]; exact hh.2
      unfold stepG at h
      split at h
      · rename_i hl
        cases want with
        | true => exact stepPick_one hT hspec hN (wanted_lit hg hs hl rfl) h
        | false => exact skip _ hl (.inl rfl) h
      · rename_i hl
        cases want with
        | true => exact skip _ hl (.inl rfl) h
        | false => exact stepPick_one hT hspec hN (wanted_lit hg hs hl rfl) h
      · rename_i b hl
        exact .inl (two_lit hl h)
      · rename_i hl
        exact skip _ hl (.inr rfl) h
      · exact h.elim

/-! ### drawn regions -/
theorem RunOk.append {ops : Array Oper} : ∀ {l m : List Ev} {S : SS}, RunOk c ops l S → RunOk c ops m (runEv l S) → RunOk c ops (l ++ m) S
  | [], _, _, _, h => h
  | _ :: _, _, _, h, h' => ⟨h.1, RunOk.append h.2 h'⟩
theorem runEv_append : ∀ (l m : List Ev) (S : SS), runEv (l ++ m) S = runEv m (runEv l S)
  | [], _, _ => rfl
  | e :: l, m, S => runEv_append l m (S.ev e)

theorem drawn_run (hT : TabOk c.P tab) (hspec : SpecOk c.P spec) {hs : List Nat} {S0 : SS} (hN : ∀ o ∈ all, ∀ d, o.dst = some d → d < c.N) : ∀ (n : Nat) (evs : List Ev) (rest : List Oper) (S : St),
    all = evs.map (·.o) ++ rest → (∀ (i : Nat) (e : Ev), evs[i]? = some e → e.i = i) → RunOk c all.toArray evs S0 → den S = runEv evs S0 →
    vc pins tab spec fin lp n (.dops all rest (evs.map fpOf) hs :: k) S →
    ∃ evs' n' S', evs'.map (·.o) = all ∧ (∀ (i : Nat) (e : Ev), evs'[i]? = some e → e.i = i) ∧ RunOk c all.toArray evs' S0 ∧ den S' = runEv evs' S0 ∧ regOk all (evs'.map fpOf) hs = true ∧ n' < n ∧ vc pins tab spec fin lp n' k S'.res
  | 0, _, _, _, _, _, _, _, h => h.elim
  | n + 1, evs, [], S, hall, hi, hrun, hden, h => by
    obtain ⟨h1, h2⟩ : regOk all (evs.map fpOf) hs = true ∧ vc pins tab spec fin lp n k S.res := h
    exact ⟨evs, n, S, by simpa using hall.symm, hi, hrun, hden, h1, by omega, h2⟩
  | n + 1, evs, o :: r, S, hall, hi, hrun, hden, h => by
    have h' : out (vc pins tab spec fin lp n) fin lp (stepO pins all o r k (.d (evs.map fpOf) hs) S (eff tab spec o.dst o.op S)) := h
    rcases stepO_one hT hspec (hN o (by rw [hall]; simp)) h' with ⟨S1, hd, hv⟩ | ⟨R, val, wr, S2, hg, hd, hv, _⟩
    · obtain ⟨e1, n1, S', a1, a2, a3, a4, a5, a6, a7⟩ := drawn_run hT hspec hN n evs (o :: r) S1 hall hi hrun (hd.trans hden) hv
      exact ⟨e1, n1, S', a1, a2, a3, a4, a5, by omega, a7⟩
    · have hv' : vc pins tab spec fin lp n (.dops all r ((evs ++ [(⟨evs.length, o, R, val, wr⟩ : Ev)]).map fpOf) hs :: k) S2 := by
        rw [List.map_append]; exact hv
      obtain ⟨e1, n1, S', a1, a2, a3, a4, a5, a6, a7⟩ := drawn_run hT hspec hN n (evs ++ [(⟨evs.length, o, R, val, wr⟩ : Ev)]) r S2 (by rw [hall]; simp) (fun i e he => by
          rcases Nat.lt_or_ge i evs.length with hlt | hge
          · rw [List.getElem?_append_left hlt] at he; exact hi i e he
          · rw [List.getElem?_append_right hge] at he
            have : i - evs.length = 0 := by
              rcases Nat.eq_zero_or_pos (i - evs.length) with h0 | h0
              · exact h0
              · rw [List.getElem?_eq_none (by simp; omega)] at he; cases he
            rw [this] at he
            simp at he
            rw [← he]
            show evs.length = i
            omega) (RunOk.append hrun (show RunOk c all.toArray [(⟨evs.length, o, R, val, wr⟩ : Ev)] _ from ⟨by rw [← hden]; exact hg, trivial⟩)) (by rw [runEv_append, hd, hden]; rfl) hv'
      exact ⟨e1, n1, S', a1, a2, a3, a4, a5, by omega, a7⟩

theorem rowOk_spec {ops : Array Oper} {i : Nat} {x : Oper} {fx : FP} : ∀ {ys : List Ev} {j : Nat}, rowOk ops i x fx j (ys.map (·.o)) (ys.map fpOf) = true → ∀ (q : Nat) (y : Ev), ys[q]? = some y → pairOk ops i x fx (j + q) y.o (fpOf y) = true
  | [], _, _, q, y, h => by simp at h
  | z :: ys, j, h, q, y, hy => by
    simp only [List.map_cons, rowOk, Bool.and_eq_true] at h
    cases q with
    | zero => simp at hy; subst hy; exact h.1
    | succ q =>
      have := rowOk_spec h.2 q y (by simpa using hy)
      rw [show j + (q + 1) = j + 1 + q by omega]; exact this
theorem pairsOk_spec {ops : Array Oper} {hs : List Nat} : ∀ {xs : List Ev} {i : Nat}, pairsOk ops hs i (xs.map (·.o)) (xs.map fpOf) = true →
    (∀ (q : Nat) (x : Ev), xs[q]? = some x → (∀ d ∈ x.o.after, Region.binds .any d = true → d.on < i + q) ∧ ∀ h ∈ x.Nw, h ∉ hs) ∧
    ∀ (p q : Nat) (x y : Ev), p < q → xs[p]? = some x → xs[q]? = some y → pairOk ops (i + p) x.o (fpOf x) (i + q) y.o (fpOf y) = true
  | [], _, _ => by simp
  | z :: xs, i, h => by
    simp only [List.map_cons, pairsOk, Bool.and_eq_true] at h
    obtain ⟨h1, h2, h3, h4⟩ := h
    obtain ⟨i1, i2⟩ := pairsOk_spec h4
    constructor
    · intro q x hx
      cases q with
      | zero =>
        simp at hx; subst hx
        refine ⟨fun d hd hb => ?_, fun x hx => disj_spec h2 x hx⟩
        have := Array.all_eq_true'.1 h1 d hd
        rw [hb] at this
        simpa [Nat.blt_eq] using this
      | succ q =>
        obtain ⟨j1, j2⟩ := i1 q x (by simpa using hx)
        exact ⟨fun d hd hb => by have := j1 d hd hb; omega, j2⟩
    · intro p q x y hpq hx hy
      cases q with
      | zero => omega
      | succ q =>
        cases p with
        | zero =>
          simp at hx; subst hx
          have := rowOk_spec h3 q y (by simpa using hy)
          rw [show i + (q + 1) = i + 1 + q by omega]; exact this
        | succ p =>
          have := i2 p q x y (by omega) (by simpa using hx) (by simpa using hy)
          rw [show i + (p + 1) = i + 1 + p by omega, show i + (q + 1) = i + 1 + q by omega]; exact this

theorem waitsB_F {ops : Array Oper} {y : Oper} {i n : Nat} (h : waitsB y i = true) : waitsF ops (n + 1) y i = true := by
  obtain ⟨e, he, hb⟩ := Array.any_eq_true'.1 h
  simp only [Bool.and_eq_true, beq_iff_eq] at hb
  simp only [waitsF]
  exact Array.any_eq_true'.2 ⟨e, he, by simp [hb.1, hb.2]⟩
theorem anyInv_of {hs : List Nat} {S0 : St} (hp : pins = c.pins.map (·.1)) (hhs : hs = pins ++ allHs S0) {evs : List Ev} (hall : evs.map (·.o) = all) (hi : ∀ (i : Nat) (e : Ev), evs[i]? = some e → e.i = i) (hrun : RunOk c all.toArray evs (den S0)) (hreg : regOk all (evs.map fpOf) hs = true) :
    AnyInv c all.toArray evs (Array.replicate all.length false) (den S0) := by
  unfold regOk at hreg
  rw [← hall] at hreg
  obtain ⟨h1, h2⟩ := pairsOk_spec hreg
  have hat : ∀ e ∈ evs, evs[e.i]? = some e ∧ e.i < all.length := by
    intro e he
    obtain ⟨i, hi'⟩ := List.getElem?_of_mem he
    have := hi i e hi'
    rw [this]
    exact ⟨hi', by rw [← hall, List.length_map]; exact (List.getElem?_eq_some_iff.1 hi').1⟩
  have pw : ∀ {Rr : Ev → Ev → Prop}, (∀ (p q : Nat) (x y : Ev), p < q → evs[p]? = some x → evs[q]? = some y → Rr x y) → evs.Pairwise Rr := by
    intro Rr hR
    rw [List.pairwise_iff_getElem]
    intro p q hp hq hpq
    exact hR p q _ _ hpq (by simp [hp]) (by simp [hq])
  refine ⟨fun i oi ho hl => ?_, fun e he => ?_, fun e he => ?_, ?_, by simp, fun e he d hd hb => ?_, ?_, fun x hx y hy hxy => ?_, fun j oj hj hl d hd hb => ?_, fun e he h hh => ?_, hrun⟩
  · have ho' : all[i]? = some oi := by simpa using ho
    rw [← hall, List.getElem?_map, Option.map_eq_some_iff] at ho'
    obtain ⟨e, he, _⟩ := ho'
    exact ⟨e, List.mem_of_getElem? he, hi i e he⟩
  · simp [(hat e he).2]
  · have := (hat e he).1
    rw [← hall]; simp [this]
  · exact pw fun p q x y hpq hx hy => by rw [hi p x hx, hi q y hy]; exact hpq
  · have := (h1 e.i e (hat e he).1).1 d hd hb
    omega
  · refine pw fun p q x y hpq hx hy => ?_
    have := h2 p q x y hpq hx hy
    simp only [pairOk, Bool.and_eq_true, Bool.or_eq_true] at this
    rcases this.1 with hw | ⟨a1, a2, a3, a4⟩ | hw
    · left
      have hpx : p = x.i := (hi p x hx).symm
      rw [Nat.zero_add, hpx] at hw
      exact waitsB_F hw
    · right
      rw [hall] at a1
      exact ⟨a1, fun h hh => ⟨disj_spec a2 h hh, disj_spec a3 h hh⟩, fun h hh => disj_spec a4 h hh⟩
    · left
      have hpx : p = x.i := (hi p x hx).symm
      rw [Nat.zero_add, hpx, hall] at hw
      exact hw
  · obtain ⟨hx1, _⟩ := hat x hx
    obtain ⟨hy1, _⟩ := hat y hy
    rcases Nat.lt_or_ge x.i y.i with hlt | hge
    · have := h2 x.i y.i x y hlt hx1 hy1
      simp only [pairOk, Bool.and_eq_true, Bool.or_eq_true] at this
      rcases this.2.1 with hd | hw
      · right; exact fun h hh => disj_spec hd h hh
      · left; rw [Nat.zero_add, hall] at hw; exact hw
    · have := h2 y.i x.i y x (by omega) hy1 hx1
      simp only [pairOk, Bool.and_eq_true, Bool.or_eq_true] at this
      rcases this.2.2 with hd | hw
      · right; exact fun h hh => disj_spec hd h hh
      · left; rw [Nat.zero_add, hall] at hw; exact hw
  · exfalso
    simp only [Array.getD_eq_getD_getElem?, Array.getElem?_replicate] at hl
    split at hl <;> simp at hl
  · have := (h1 e.i e (hat e he).1).2 h hh
    rw [hhs] at this
    exact allHs_fresh hp this
end
end Go.Proofs.Ytacomnelongbjab
namespace Go.Proofs.Ytacomnelongbjab
open Go Go.RowKit

def dstOk (N : Nat) (o : Oper) : Bool :=
  match o.dst with
  | none => true
  | some d => Nat.blt d N
def dstB (N : Nat) : Code → Bool
  | .region _ ops _ => ops.all (dstOk N)
  | .seq a b => dstB N a && dstB N b
  | .cond _ a b => dstB N a && dstB N b
  | .block _ b => dstB N b
  | .loop b => dstB N b
  | _ => true
theorem dstOk_spec {N : Nat} {o : Oper} (h : dstOk N o = true) : ∀ d, o.dst = some d → d < N := by
  intro d hd
  unfold dstOk at h
  rw [hd] at h
  simpa [Nat.blt_eq] using h

section
variable {c : Ctx} {Q0 : Exit → Act → World → Prop}

def Item.okB (N : Nat) : Item → Bool
  | .code x => dstB N x
  | .ops _ rest => rest.all (dstOk N)
  | .dops _ _ _ _ => false
  | .blk _ => true
  | .back _ => true
def Kont (c : Ctx) (Q0 : Exit → Act → World → Prop) : List Item → Exit → Act → World → Prop
  | [] => Q0
  | .code x :: k => Exit.then (x.wp c.P (Kont c Q0 k)) (Kont c Q0 k)
  | .ops all rest :: k => Exit.then (wpList c.P all.toArray (Kont c Q0 k) rest) (Kont c Q0 k)
  | .dops _ _ _ _ :: _ => fun _ _ _ => False
  | .blk id :: k => Exit.inBlock id (Kont c Q0 k)
  | .back J :: k => Exit.then (fun a w => ∃ S, J S ∧ Sat c (den S) a w) (Kont c Q0 k)
/-- what a stack means: an exit on top of it is on its way -/
def Mean (c : Ctx) (Q0 : Exit → Act → World → Prop) : List Item → Act → World → Prop
  | .code (.exit id) :: k => Kont c Q0 k (.exit id)
  | k => Kont c Q0 k .normal
theorem Mean.kont {k : List Item} {a : Act} {w : World} (h : Mean c Q0 k a w) : Kont c Q0 k .normal a w := by
  unfold Mean at h
  split at h
  · exact wp_exit h
  · exact h
theorem ok_cons {N : Nat} {it : Item} {k : List Item} (h : it.okB N = true) (hk : k.all (Item.okB N) = true) : (it :: k).all (Item.okB N) = true := by
  rw [List.all_cons, h, hk]; rfl
theorem kont_ret : ∀ {k : List Item} {a : Act} {w : World}, (k.all (Item.okB c.N)) = true → Q0 .ret a w → Kont c Q0 k .ret a w
  | [], _, _, _, h => h
  | .code x :: k, a, w, ho, h => kont_ret (k := k) (by simp at ho; simpa using ho.2) h
  | .ops all rest :: k, a, w, ho, h => kont_ret (k := k) (by simp at ho; simpa using ho.2) h
  | .dops _ _ _ _ :: k, a, w, ho, h => by simp [Item.okB] at ho
  | .blk id :: k, a, w, ho, h => kont_ret (k := k) (by simp at ho; simpa using ho.2) h
  | .back J :: k, a, w, ho, h => kont_ret (k := k) (by simp at ho; simpa using ho.2) h

theorem eval_sat {S : St} {ρ : Nat → Value} {a : Act} {w : World} (h : SatR c (den S) ρ a.tmps w) (x : Operand) : (S.eval x).rel ρ (a.eval x) := by
  cases x with
  | tmp t => exact (AV.rel_norm ρ _ _).1 (h.fr t)
  | const v => exact cst_rel ρ v
  | global g => simp [St.eval, AV.rel, A0.rel]
  | func f => simp [St.eval, AV.rel, A0.rel, A0.conc, Act.eval]

theorem Sat.drew {S : SS} {a : Act} {w : World} (h : Sat c S a w) : Sat c S a { w with drawn := w.drawn + 1 } := by
  obtain ⟨h1, h2, ρ, h3⟩ := h
  refine ⟨h1, h2, ρ, h3.fr, fun x e he => ?_, h3.sep, ⟨h3.frame.os, h3.frame.tape, h3.frame.output, h3.frame.size, h3.frame.block⟩, h3.pin, h3.inX⟩
  exact holds_keep (h3.mem x e he) h3.frame (Chg.drew w fun _ => False) (fun _ h => h.elim) (fun _ _ _ h => h) rfl (fun _ _ => rfl)

theorem toO_spec {e : Entry} {b : Bool} {d : Nat} (h : e.toO = some (b, d)) : e = if b = true then .to d else .t1 d := by
  cases e <;> simp [Entry.toO] at h
  · obtain ⟨rfl, rfl⟩ := h; rfl
  · obtain ⟨rfl, rfl⟩ := h; rfl
theorem A0.mv_rel {ρ : Nat → Value} {h d : Nat} (hd : hdV (ρ h) = hdV (ρ d)) (a : A0) (v : Value) (hr : a.rel ρ v) : (a.mv h d).rel ρ v := by
  cases a with
  | co x =>
    by_cases hx : x = h
    · subst hx
      simp only [A0.mv, beq_self_eq_true, cond_true]
      have h1 : v = hdV (ρ x) := hr
      show v = hdV (ρ d)
      rw [h1, hd]
    · have : (x == h) = false := by simpa using hx
      simp only [A0.mv, this, cond_false]
      exact hr
  | _ => exact hr
theorem A0.mv_norm (h d : Nat) (a : A0) : (a.mv h d).norm = a.norm.mv h d := by
  cases a with
  | co x => simp only [A0.mv, A0.norm]; cases (x == h) <;> rfl
  | _ => rfl
theorem AV.mv_rel {ρ : Nat → Value} {h d : Nat} (hd : hdV (ρ h) = hdV (ρ d)) (a : AV) (v : Value) (hr : a.rel ρ v) : (a.mv h d).rel ρ v := by
  cases a with
  | one a => exact A0.mv_rel hd a v hr
  | tup l =>
    obtain ⟨vs, hv, hl, hj⟩ := hr
    refine ⟨vs, hv, by simpa using hl, fun j a ha => ?_⟩
    simp only [List.getElem?_map, Option.map_eq_some_iff] at ha
    obtain ⟨b, hb, rfl⟩ := ha
    obtain ⟨u, hu, hr⟩ := hj j b hb
    exact ⟨u, hu, A0.mv_rel hd b u hr⟩
theorem A0.mv1_rel {ρ : Nat → Value} {h d : Nat} (hd : seg (ρ h) 1 = seg (ρ d) 1) (a : A0) (v : Value) (hr : a.rel ρ v) : (a.mv1 h d).rel ρ v := by
  cases a with
  | ci x q =>
    cases q with
    | succ q => exact hr
    | zero =>
      by_cases hx : x = h
      · subst hx
        simp only [A0.mv1, beq_self_eq_true, cond_true]
        have h1 : v = seg (ρ x) 1 := hr
        show v = seg (ρ d) 1
        rw [h1, hd]
      · have : (x == h) = false := by simpa using hx
        simp only [A0.mv1, this, cond_false]
        exact hr
  | ie x p z q f =>
    cases p with
    | succ p => exact hr
    | zero =>
      by_cases hx : x = h
      · subst hx
        simp only [A0.mv1, beq_self_eq_true, cond_true]
        have h1 : v = addTo (seg (ρ x) 1) (q * z + f) := hr
        show v = addTo (seg (ρ d) 1) (q * z + f)
        rw [h1, hd]
      · have : (x == h) = false := by simpa using hx
        simp only [A0.mv1, this, cond_false]
        exact hr
  | _ => exact hr
theorem AV.mv1_rel {ρ : Nat → Value} {h d : Nat} (hd : seg (ρ h) 1 = seg (ρ d) 1) (a : AV) (v : Value) (hr : a.rel ρ v) : (a.mv1 h d).rel ρ v := by
  cases a with
  | one a => exact A0.mv1_rel hd a v hr
  | tup l =>
    obtain ⟨vs, hv, hl, hj⟩ := hr
    refine ⟨vs, hv, by simpa using hl, fun j a ha => ?_⟩
    simp only [List.getElem?_map, Option.map_eq_some_iff] at ha
    obtain ⟨b, hb, rfl⟩ := ha
    obtain ⟨u, hu, hr⟩ := hj j b hb
    exact ⟨u, hu, A0.mv1_rel hd b u hr⟩
theorem look_map {α β : Type} (f : α → β) (s : Nat) : ∀ l : List (Nat × α), look s (l.map fun p => (p.1, f p.2)) = (look s l).map f
  | [] => rfl
  | p :: l => by
    simp only [List.map_cons, look, look_map f s l]
    cases (p.1 == s) <;> rfl
theorem sat_mv {S : St} {a : Act} {w : World} {h : Nat} {f : AV → AV} (hf : ∀ ρ : Nat → Value, (∀ e, look h S.mem = some e → ∀ c w, e.holds c w ρ h → ∀ v u, AV.rel ρ v u → AV.rel ρ (f v) u)) (hs : Sat c (den S) a w) (hne : ∃ e, look h S.mem = some e ∧ e.norm = e) : Sat c (den ⟨S.fr.map fun p => (p.1, f p.2), rem h S.mem⟩) a w := by
  obtain ⟨h1, h2, ρ, hr⟩ := hs
  obtain ⟨e, he, hen⟩ := hne
  have hm : (den S).mem h = some e := by simp [den, he, hen]
  have hhold := hr.mem h _ hm
  have hmem : ∀ x e', (den ⟨S.fr.map fun p => (p.1, f p.2), rem h S.mem⟩).mem x = some e' → (den S).mem x = some e' := by
    intro x e' hx
    simp only [den] at hx ⊢
    rw [look_rem] at hx
    by_cases hxp : x = h
    · simp [hxp] at hx
    · rwa [if_neg hxp] at hx
  refine ⟨h1, h2, ρ, fun s => ?_, fun x e' hx => hr.mem x e' (hmem x e' hx), fun x y e1 e2 hx hy => hr.sep x y e1 e2 (hmem x e1 hx) (hmem y e2 hy), hr.frame, hr.pin, hr.inX⟩
  simp only [den]
  rw [look_map f]
  have h3 := hr.fr s
  simp only [den] at h3
  cases hls : look s S.fr with
  | none => rw [hls] at h3; exact h3
  | some v =>
    rw [hls] at h3
    exact (AV.rel_norm ρ _ _).2 (hf ρ e he c w hhold v _ ((AV.rel_norm ρ _ _).1 h3))
theorem sat_res {S : St} {a : Act} {w : World} (hs : Sat c (den S) a w) : Sat c (den S.res) a w := by
  unfold St.res
  cases ht : toOf S.mem with
  | none => exact hs
  | some h =>
    simp only
    cases hl : (look h S.mem).bind Entry.toO with
    | none => exact hs
    | some p =>
      obtain ⟨b, d⟩ := p
      obtain ⟨e, he, hed⟩ := Option.bind_eq_some_iff.1 hl
      have hto := toO_spec hed
      cases b with
      | true =>
        simp only [if_true] at hto
        subst hto
        exact sat_mv (fun ρ e' he' c w hh v u hv => by
          rw [he] at he'; cases he'
          exact AV.mv_rel hh v u hv) hs ⟨_, he, rfl⟩
      | false =>
        simp only [Bool.false_eq_true, if_false] at hto
        subst hto
        exact sat_mv (fun ρ e' he' c w hh v u hv => by
          rw [he] at he'; cases he'
          exact AV.mv1_rel hh v u hv) hs ⟨_, he, rfl⟩

variable {pins : List Nat} {tab : Tab} {spec : Spec} {fin : St → Prop} {lp : Code → List Item → St → Prop}

theorem vc_sound (hT : TabOk c.P tab) (hspec : SpecOk c.P spec) (hp : pins = c.pins.map (·.1)) (hm : c.P.follows .mixedOrders = true)
    (hfin : ∀ S a w, fin S → Sat c (den S) a w → Q0 .normal a w ∧ Q0 .ret a w)
    (hlp : ∀ x k S a w, lp x k S → dstB c.N x = true → k.all (Item.okB c.N) = true → Sat c (den S) a w → Mean c Q0 (.code x :: k) a w) :
    ∀ (n : Nat) (k : List Item) (S : St), vc pins tab spec fin lp n k S → k.all (Item.okB c.N) = true → ∀ a w, Sat c (den S) a w → Mean c Q0 k a w := by
  intro n
  induction n using Nat.strongRecOn with
  | _ n ih =>
  cases n with
  | zero => intro k S h; exact h.elim
  | succ n =>
  intro k S h hok a w hs
  have ih' : ∀ {k : List Item} {S : St}, vc pins tab spec fin lp n k S → k.all (Item.okB c.N) = true → ∀ {a w}, Sat c (den S) a w → Mean c Q0 k a w := fun {k S} h1 h2 {a w} h3 => ih n (by omega) k S h1 h2 a w h3
  have h' : out (vc pins tab spec fin lp n) fin lp (step pins tab spec k S) := h
  cases k with
  | nil => exact (hfin S a w h' hs).1
  | cons it k =>
  have hok2 : k.all (Item.okB c.N) = true := by simp at hok; simpa using hok.2
  have hok1 : it.okB c.N = true := by simp at hok; exact hok.1
  cases it with
  | back J => exact ⟨S, h', hs⟩
  | blk id =>
    have h2 := (ih' h'.2 hok2 hs).kont
    exact h2
  | dops => simp [Item.okB] at hok1
  | ops all rest =>
    cases rest with
    | nil =>
      have h2 := (ih' h'.2 hok2 (sat_res hs)).kont
      exact h2
    | cons o r =>
      have hr : dstOk c.N o = true ∧ r.all (dstOk c.N) = true := by simpa [Item.okB] using hok1
      have h'' : out (vc pins tab spec fin lp n) fin lp (stepO pins all o r k .s S (eff tab spec o.dst o.op S)) := h'
      rcases stepO_one hT hspec (dstOk_spec hr.1) h'' with ⟨S1, hd, hv⟩ | ⟨R, val, wr, S2, hg, hd, hv, hfr⟩
      · have h2 := ih' (a := a) (w := w) hv (by simpa [Reg.item] using hok) (by rw [hd]; exact hs)
        exact h2.kont
      · refine wpList_step fun K hK => ?_
        refine hg (den S) ⟨fun _ _ => rfl, fun _ _ => rfl⟩ (fun x hx hR => allHs_fresh hp (hfr x hx hR)) a w hs K _ fun a' w' hs' => hK a' w' ?_
        rw [← hd] at hs'
        have h2 := ih' hv (by simpa [Reg.item, Reg.push, Item.okB, hok2] using hr.2) hs'
        exact h2.kont
  | code x =>
    cases x with
    | exit id =>
      cases k with
      | nil => exact hlp _ _ _ _ _ h' rfl rfl hs
      | cons it2 k =>
        have hok3 : k.all (Item.okB c.N) = true := by simp at hok2; simpa using hok2.2
        have pass : vc pins tab spec fin lp n (.code (.exit id) :: k) S → Kont c Q0 k (.exit id) a w := fun hv =>
          ih' hv (by simp only [List.all_cons, hok3, Bool.and_true]; rfl) hs
        cases it2 with
        | blk id' =>
          have h'' : out (vc pins tab spec fin lp n) fin lp (bif id == id' then .go True k S else .go True (.code (.exit id) :: k) S) := h'
          show (if id = id' then Kont c Q0 k .normal a w else Kont c Q0 k (.exit id) a w)
          by_cases hid : id = id'
          · have hb : (id == id') = true := by simpa using hid
            rw [hb] at h''
            rw [if_pos hid]
            have h2 := (ih' h''.2 hok3 hs).kont
            exact h2
          · have hb : (id == id') = false := by simpa using hid
            rw [hb] at h''
            rw [if_neg hid]
            exact pass h''.2
        | code y => exact pass h'.2
        | ops all rest => exact pass h'.2
        | dops => simp [Item.okB] at hok2
        | back J => exact pass h'.2
    | skip =>
      have h2 := (ih' h'.2 hok2 hs).kont
      exact wp_skip h2
    | region id ops draw =>
      have hd : ∀ o ∈ ops, dstOk c.N o = true := fun o ho => Array.all_eq_true'.1 hok1 o ho
      cases draw with
      | false =>
        have h2 := (ih' (k := .ops ops.toList ops.toList :: k) h'.2 (ok_cons (List.all_eq_true.2 fun o ho => hd o (by simpa using ho)) hok2) hs).kont
        exact wp_region_list h2
      | true =>
        have hv : vc pins tab spec fin lp n (.dops ops.toList ops.toList ([].map fpOf) (pins ++ allHs S) :: k) S := h'.2
        obtain ⟨evs, n', S', e1, e2, e3, e4, e5, e6, e7⟩ := drawn_run (all := ops.toList) (S0 := den S) hT hspec (fun o ho => dstOk_spec (hd o (by simpa using ho))) n [] ops.toList S rfl (by simp) trivial rfl hv
        have inv := anyInv_of hp rfl e1 e2 e3 e5
        have hlen : evs.length = ops.size := by rw [← Array.length_toList, ← e1, List.length_map]
        refine wp_region_any hm ?_
        refine any_order ops.size evs _ (den S) hlen (by simpa using inv) a _ hs.drew fun a' w' hs' => ?_
        rw [← e4] at hs'
        have h2 := (ih n' (by omega) k S'.res e7 hok2 a' w' (sat_res hs')).kont
        exact h2
    | seq x y =>
      have hb : dstB c.N x = true ∧ dstB c.N y = true := by simpa [Item.okB, dstB] using hok1
      have h2 := (ih' (k := .code x :: .code y :: k) h'.2 (ok_cons hb.1 (ok_cons hb.2 hok2)) hs).kont
      exact wp_seq h2
    | cond cc x y =>
      have hb : dstB c.N x = true ∧ dstB c.N y = true := by simpa [Item.okB, dstB] using hok1
      have h'' : out (vc pins tab spec fin lp n) fin lp (stepC x y k S (S.eval cc)) := h'
      have gx : vc pins tab spec fin lp n (.code x :: k) S → x.wp c.P (Kont c Q0 k) a w := fun hv => (ih' hv (ok_cons hb.1 hok2) hs).kont
      have gy : vc pins tab spec fin lp n (.code y :: k) S → y.wp c.P (Kont c Q0 k) a w := fun hv => (ih' hv (ok_cons hb.2 hok2) hs).kont
      obtain ⟨_, _, ρ, hr⟩ := hs
      have hrel := eval_sat hr cc
      unfold stepC at h''
      split at h''
      · rename_i he
        rw [he] at hrel
        exact wp_cond_true hrel (gx h''.2)
      · rename_i he
        rw [he] at hrel
        exact wp_cond_false hrel (gy h''.2)
      · rename_i b he
        rw [he] at hrel
        have hev : a.eval cc = .bool b := hrel
        cases b with
        | true => exact wp_cond_true hev (gx h'')
        | false => exact wp_cond_false hev (gy h'')
      · exact h''.elim
    | block id x =>
      have h2 := (ih' (k := .code x :: .blk id :: k) h'.2 (ok_cons hok1 (ok_cons rfl hok2)) hs).kont
      exact wp_block h2
    | ret => exact wp_ret (kont_ret hok2 (hfin S a w h' hs).2)
    | loop x => exact hlp _ _ _ _ _ h' hok1 hok2 hs
    | rangeFunc f p x y => exact hlp _ _ _ _ _ h' hok1 hok2 hs
    | scope x => exact hlp _ _ _ _ _ h' hok1 hok2 hs
    | label l => exact hlp _ _ _ _ _ h' hok1 hok2 hs
    | goto l => exact hlp _ _ _ _ _ h' hok1 hok2 hs
    | refuse y => exact hlp _ _ _ _ _ h' hok1 hok2 hs

/-! ### covering: a state is weakened to a form of another, handles renamed -/
def rn (π : List (Nat × Nat)) (h : Nat) : Nat := (look h π).getD h
def A0.ren (π : List (Nat × Nat)) : A0 → A0
  | .ref h o => .ref (rn π h) o
  | .el h z q f => .el (rn π h) z q f
  | .row h => .row (rn π h)
  | .sub h z l q => .sub (rn π h) z l q
  | .cut h e n => .cut (rn π h) e n
  | .hd h n => .hd (rn π h) n
  | .co h => .co (rn π h)
  | .ci h q => .ci (rn π h) q
  | .oe h q => .oe (rn π h) q
  | .ie h p z q f => .ie (rn π h) p z q f
  | .ag h1 h2 => .ag (rn π h1) (rn π h2)
  | .cl f h1 h2 => .cl f (rn π h1) (rn π h2)
  | .cz h => .cz (rn π h)
  | .cs h => .cs (rn π h)
  | .ce h q => .ce (rn π h) q
  | a => a
def AV.ren (π : List (Nat × Nat)) : AV → AV
  | .one a => .one (a.ren π)
  | .tup l => .tup (l.map (A0.ren π))
def Entry.ren (π : List (Nat × Nat)) : Entry → Entry
  | .box t cs => .box t (cs.map (A0.ren π))
  | .to d => .to (rn π d)
  | .t1 d => .t1 (rn π d)
  | e => e
def covFr (π : List (Nat × Nat)) (S : St) : List (Nat × AV) → Prop
  | [] => True
  | p :: l => (S.eval (.tmp p.1)).norm = (p.2.ren π).norm ∧ covFr π S l
def entEq : Option Entry → Entry → Prop
  | some e', e => e'.norm = e.norm
  | none, _ => False
def covMem (π : List (Nat × Nat)) (S : St) : List (Nat × Entry) → Prop
  | [] => True
  | p :: l => entEq (look (rn π p.1) S.mem) (p.2.ren π) ∧ covMem π S l
def covOk (pins : List Nat) (π : List (Nat × Nat)) (T : St) : Bool := nodupB (T.mem.map fun p => rn π p.1) && pins.all fun p => rn π p == p
/-- S is an instance of T: T's slots and entries are S's, its handles renamed. -/
def Cov (pins : List Nat) (π : List (Nat × Nat)) (S T : St) : Prop := covOk pins π T = true ∧ covFr π S T.fr ∧ covMem π S T.mem

theorem A0.norm_ren (π : List (Nat × Nat)) (a : A0) : (a.ren π).norm = a.norm.ren π := by cases a <;> rfl
theorem A0.conc_ren (π : List (Nat × Nat)) (ρ : Nat → Value) (a : A0) : (a.ren π).conc ρ = a.conc (fun h => ρ (rn π h)) := by cases a <;> rfl
theorem A0.rel_ren (π : List (Nat × Nat)) (ρ : Nat → Value) (a : A0) (v : Value) : (a.ren π).rel ρ v ↔ a.rel (fun h => ρ (rn π h)) v := by
  cases a <;> simp [A0.ren, A0.rel, A0.conc]
theorem AV.rel_ren (π : List (Nat × Nat)) (ρ : Nat → Value) (a : AV) (v : Value) (h : (a.ren π).rel ρ v) : a.rel (fun h => ρ (rn π h)) v := by
  cases a with
  | one a => exact (A0.rel_ren π ρ a v).1 h
  | tup l =>
    obtain ⟨vs, hv, hl, hj⟩ := h
    refine ⟨vs, hv, by simpa using hl, fun j a ha => ?_⟩
    obtain ⟨u, hu, hr⟩ := hj j (a.ren π) (by simp [ha])
    exact ⟨u, hu, (A0.rel_ren π ρ a u).1 hr⟩
theorem holds_ren {w : World} {ρ : Nat → Value} (π : List (Nat × Nat)) {e : Entry} {h : Nat} (he : (e.ren π).norm.holds c w ρ (rn π h)) : e.norm.holds c w (fun h => ρ (rn π h)) h := by
  cases e with
  | box t cs =>
    obtain ⟨g, arr, hv, hg, hh, hs, hj⟩ := he
    refine ⟨g, arr, hv, hg, hh, by simpa using hs, fun j a ha => ?_⟩
    simp only [List.getElem?_map, Option.map_eq_some_iff] at ha
    obtain ⟨b, hb, rfl⟩ := ha
    obtain ⟨v, h1, h2⟩ := hj j (b.ren π).norm (by simp [hb])
    refine ⟨v, h1, ?_⟩
    exact (A0.rel_norm _ _ _).2 ((A0.rel_ren π ρ b v).1 ((A0.rel_norm _ _ _).1 h2))
  | ibox t l => exact he
  | row r => exact he
  | ro r => exact he
  | to d => exact he
  | t1 d => exact he
  | st l => exact he
  | cu l a s => exact he

theorem covFr_at {π : List (Nat × Nat)} {S : St} : ∀ {l : List (Nat × AV)}, covFr π S l → ∀ p ∈ l, (S.eval (.tmp p.1)).norm = (p.2.ren π).norm
  | [], _, p, hp => by cases hp
  | q :: l, h, p, hp => by
    simp only [List.mem_cons] at hp
    rcases hp with rfl | hp
    · exact h.1
    · exact covFr_at h.2 p hp
theorem covMem_at {π : List (Nat × Nat)} {S : St} : ∀ {l : List (Nat × Entry)}, covMem π S l → ∀ p ∈ l, ∃ e', look (rn π p.1) S.mem = some e' ∧ e'.norm = (p.2.ren π).norm
  | [], _, p, hp => by cases hp
  | q :: l, h, p, hp => by
    simp only [List.mem_cons] at hp
    rcases hp with rfl | hp
    · have := h.1
      unfold entEq at this
      split at this
      · rename_i e' he; exact ⟨e', he, this⟩
      · exact this.elim
    · exact covMem_at h.2 p hp
theorem isOwn_norm (e : Entry) : e.norm.isOwn = e.isOwn := by cases e <;> rfl
theorem isOwn_ren (π : List (Nat × Nat)) (e : Entry) : (e.ren π).isOwn = e.isOwn := by cases e <;> rfl

theorem sat_cov {S T : St} {π : List (Nat × Nat)} (hp : pins = c.pins.map (·.1)) (h : Cov pins π S T) {a : Act} {w : World} (hs : Sat c (den S) a w) : Sat c (den T) a w := by
  obtain ⟨hok, hf, hm⟩ := h
  obtain ⟨h1, h2, ρ, hr⟩ := hs
  simp only [covOk, Bool.and_eq_true] at hok
  obtain ⟨hnd, hpin⟩ := hok
  have hmem : ∀ h e, (den T).mem h = some e → ∃ e0, (h, e0) ∈ T.mem ∧ e = e0.norm ∧ (den S).mem (rn π h) = some (e0.ren π).norm := by
    intro h e he
    simp only [den, Option.map_eq_some_iff] at he
    obtain ⟨e0, hl, rfl⟩ := he
    have hmm := look_mem hl
    obtain ⟨e', h3, h4⟩ := covMem_at hm _ hmm
    exact ⟨e0, hmm, rfl, by simp [den, h3, h4]⟩
  refine ⟨h1, h2, fun h => ρ (rn π h), fun s => ?_, fun h e he => ?_, fun h h' e e' he he' ho ho' hne k hk => ?_, hr.frame, fun p hpp => ?_, hr.inX⟩
  · simp only [den]
    cases hl : look s T.fr with
    | none => simp [AV.norm, A0.norm, AV.rel, A0.rel]
    | some v =>
      rw [Option.getD_some]
      have h3 := covFr_at hf _ (look_mem hl)
      have h4 := hr.fr s
      have h5 : (den S).fr s = (S.eval (.tmp s)).norm := rfl
      rw [h5, h3] at h4
      exact (AV.rel_norm _ _ _).2 (AV.rel_ren π ρ v _ ((AV.rel_norm _ _ _).1 h4))
  · obtain ⟨e0, _, rfl, h3⟩ := hmem h e he
    exact holds_ren π (hr.mem _ _ h3)
  · obtain ⟨e0, m0, rfl, h3⟩ := hmem h e he
    obtain ⟨e1, m1, rfl, h4⟩ := hmem h' e' he'
    have hne' := nodupB_map (g := fun p : Nat × Entry => rn π p.1) hnd _ m0 _ m1 (fun e => hne (congrArg Prod.fst e))
    rw [isOwn_norm] at ho ho'
    exact hr.sep _ _ _ _ h3 h4 (by rw [isOwn_norm, isOwn_ren]; exact ho) (by rw [isOwn_norm, isOwn_ren]; exact ho') hne' k hk
  · have := List.all_eq_true.1 hpin p.1 (by rw [hp]; exact List.mem_map.2 ⟨p, hpp, rfl⟩)
    have h3 : rn π p.1 = p.1 := by simpa using this
    show ρ (rn π p.1) = p.2
    rw [h3]; exact hr.pin p hpp

/-! ### empty rows: a slot that holds nil is read as a row of no elements, under a new handle -/
def seed1 (S : St) (p : Nat × Nat × RC) : St := ⟨(p.1, .one (bif p.2.2.flat then .row p.2.1 else .co p.2.1)) :: rem p.1 S.fr, (p.2.1, .row p.2.2) :: S.mem⟩
def emptyRow : RC → Bool
  | .ints _ l => l.isEmpty
  | .recs _ k l => l.isEmpty && Nat.blt 0 k
  | .bools _ l => l.isEmpty
  | .rows _ _ ll => ll.isEmpty
  | _ => false
def isNil : AV → Bool
  | .one .nil => true
  | _ => false
def seed1Ok (pins : List Nat) (S : St) (p : Nat × Nat × RC) : Bool := isNil (S.eval (.tmp p.1)) && (emptyRow p.2.2 && !(pins ++ allHs S).contains p.2.1)
def seeds : St → List (Nat × Nat × RC) → St
  | S, [] => S
  | S, p :: l => seeds (seed1 S p) l
def seedsOk (pins : List Nat) : St → List (Nat × Nat × RC) → Bool
  | _, [] => true
  | S, p :: l => seed1Ok pins S p && seedsOk pins (seed1 S p) l
theorem sat_seed1 {S : St} {p : Nat × Nat × RC} (hp : pins = c.pins.map (·.1)) (h : seed1Ok pins S p = true) {a : Act} {w : World} (hs : Sat c (den S) a w) : Sat c (den (seed1 S p)) a w := by
  obtain ⟨s, hd, r⟩ := p
  simp only [seed1Ok, Bool.and_eq_true, Bool.not_eq_true', List.contains_eq_mem, decide_eq_false_iff_not] at h
  obtain ⟨hn, he, hf⟩ := h
  have hfr := allHs_fresh (c := c) hp hf
  obtain ⟨h1, h2, ρ, hr⟩ := hs
  have hnil : (S.eval (.tmp s)) = .one .nil := by
    unfold isNil at hn
    split at hn
    · rename_i h; exact h
    · cases hn
  obtain ⟨V, hVh, hVb, hVr, hVf⟩ : ∃ V : Value, hdV V = .slice none 0 0 ∧ (∀ k, ¬ Blk V k) ∧ OwnsRow w c.own r V ∧ (r.flat = true → V = .slice none 0 0) := by
    cases hf : r.flat with
    | true =>
      refine ⟨.slice none 0 0, rfl, fun k hk => by simp [Blk, blkOf] at hk, (OwnsRow.flat hf).2 ⟨?_, ?_, fun k hk => by simp [blkOf] at hk⟩, fun _ => rfl⟩
      · cases r <;> simp_all [emptyRow, RC.wf, Nat.blt_eq, RC.flat]
      · have h1 : r.len = 0 ∧ r.cells = [] := by cases r <;> simp_all [emptyRow, RC.len, RC.cells]
        rw [h1.1, h1.2]
        exact World.ownsRow_nil w 0 _ _
    | false =>
      cases r with
      | rows e f ll =>
        have hll : ll = [] := by simpa [emptyRow] using he
        subst hll
        refine ⟨.tuple (.slice none 0 0 :: []).toArray, rfl, fun k hk => ?_, (OwnsRow.comp hf).2 ⟨_, [], rfl, rfl, World.ownsRow_nil w 0 _ _, by simp [blkOf], by simp, by simp, by simp⟩, fun h => by cases h⟩
        obtain ⟨j, v, hv, hb⟩ := Blk.tuple.1 hk
        cases j with
        | zero => simp at hv; subst hv; simp [blkOf] at hb
        | succ j => simp at hv
      | _ => first | (simp [RC.flat] at hf; done) | (simp [emptyRow] at he; done)
  have hup : ∀ x, x ≠ hd → upd ρ hd V x = ρ x := fun x hx => upd_ne hx
  have hfs : ∀ x, (den (seed1 S (s, hd, r))).fr x = if s = x then .one (bif r.flat then .row hd else .co hd) else (den S).fr x := by
    intro x
    simp only [den, seed1, look]
    by_cases hx : s = x
    · subst hx; cases r.flat <;> simp [AV.norm, A0.norm]
    · have hb : (s == x) = false := by simpa using hx
      rw [hb, if_neg hx]
      simp only [cond_false]
      rw [look_rem, if_neg (fun e => hx e.symm)]
  have hms : ∀ x, (den (seed1 S (s, hd, r))).mem x = if hd = x then some (.row r) else (den S).mem x := by
    intro x
    simp only [den, seed1, look]
    by_cases hx : hd = x
    · subst hx; simp [Entry.norm]
    · have hb : (hd == x) = false := by simpa using hx
      rw [hb, if_neg hx]
      simp only [cond_false]
  have hold : ∀ x e, (den S).mem x = some e → e.holds c w (upd ρ hd V) x := by
    intro x e hx
    have hne : x ≠ hd := by intro e'; subst e'; rw [hfr.mem] at hx; cases hx
    have hh := hr.mem x e hx
    have hhs := hfr.ent x e hx
    cases e with
    | ibox t l => simpa [Entry.holds, hup x hne] using hh
    | box t cs =>
      obtain ⟨g, arr, hv, hg, hw, hsz, hj⟩ := hh
      refine ⟨g, arr, by rw [hup x hne]; exact hv, hg, hw, hsz, fun j a ha => ?_⟩
      obtain ⟨v, hv1, hv2⟩ := hj j a ha
      refine ⟨v, hv1, A0.rel_congr (fun y hy => hup y ?_) hv2⟩
      intro e'
      subst e'
      exact hhs (List.mem_flatMap.2 ⟨a, List.mem_of_getElem? ha, hy⟩)
    | st l => simpa [Entry.holds, hup x hne] using hh
    | cu l a s => simpa [Entry.holds, hup x hne] using hh
    | row q => simpa [Entry.holds, hup x hne] using hh
    | ro q => simpa [Entry.holds, hup x hne] using hh
    | to d =>
      show hdV (upd ρ hd V x) = hdV (upd ρ hd V d)
      rw [hup x hne, hup d (fun e' => hhs (by rw [e']; simp [Entry.hs]))]
      exact hh
    | t1 d =>
      show seg (upd ρ hd V x) 1 = seg (upd ρ hd V d) 1
      rw [hup x hne, hup d (fun e' => hhs (by rw [e']; simp [Entry.hs]))]
      exact hh
  have hnr : OwnsRow w c.own r (upd ρ hd V hd) := by
    rw [upd_same]
    exact hVr
  refine ⟨h1, h2, upd ρ hd V, fun x => ?_, fun x e hx => ?_, fun x x' e e' hx hx' ho ho' hne k hk => ?_, hr.frame, fun q hq => ?_, hr.inX⟩
  · rw [hfs]
    by_cases hx : s = x
    · subst hx
      rw [if_pos rfl]
      have := (AV.rel_norm ρ _ _).1 (hr.fr s)
      have h3 : (S.eval (.tmp s)).rel ρ (a.tmps.getD s undef) := this
      rw [hnil] at h3
      have h4 : a.tmps.getD s undef = .slice none 0 0 := h3
      cases hf : r.flat with
      | true =>
        show a.tmps.getD s undef = upd ρ hd V hd
        rw [upd_same, h4, hVf hf]
      | false =>
        show a.tmps.getD s undef = hdV (upd ρ hd V hd)
        rw [upd_same, h4, hVh]
    · rw [if_neg hx]
      exact AV.rel_congr (fun y hy => hup y (fun e' => by subst e'; exact hfr.fr x hy)) (hr.fr x)
  · rw [hms] at hx
    by_cases hh : hd = x
    · subst hh
      rw [if_pos rfl] at hx
      cases hx
      exact hnr
    · rw [if_neg hh] at hx
      exact hold x e hx
  · have blk0 : ∀ y, y = hd → ∀ k, Blk (upd ρ hd V y) k → False := by
      intro y hy k hk
      subst hy
      rw [upd_same] at hk
      exact hVb k hk
    rw [hms] at hx hx'
    by_cases hh : hd = x
    · exact (blk0 x hh.symm k hk).elim
    · by_cases hh' : hd = x'
      · intro hk'
        exact blk0 x' hh'.symm k hk'
      · rw [if_neg hh] at hx
        rw [if_neg hh'] at hx'
        rw [hup x (fun e' => hh e'.symm)] at hk
        rw [hup x' (fun e' => hh' e'.symm)]
        exact hr.sep x x' e e' hx hx' ho ho' hne k hk
  · rw [hup _ (hfr.pin q hq)]
    exact hr.pin q hq
theorem sat_seeds (hp : pins = c.pins.map (·.1)) : ∀ {l : List (Nat × Nat × RC)} {S : St}, seedsOk pins S l = true → ∀ {a : Act} {w : World}, Sat c (den S) a w → Sat c (den (seeds S l)) a w
  | [], _, _, _, _, hs => hs
  | p :: l, S, h, _, _, hs => by
    simp only [seedsOk, Bool.and_eq_true] at h
    exact sat_seeds hp h.2 (sat_seed1 hp h.1 hs)

/-! ### a row and a part of it -/
theorem noneNames_at {h : Nat} : ∀ {l : List (Nat × Entry)}, noneNames h l = true → ∀ p ∈ l, h ∉ p.2.hs
  | [], _, p, hp => by cases hp
  | q :: l, hn, p, hp => by
    simp only [noneNames, Bool.and_eq_true, Bool.not_eq_true', List.contains_eq_mem, decide_eq_false_iff_not] at hn
    rcases List.mem_cons.1 hp with rfl | hp
    · exact hn.1
    · exact noneNames_at hn.2 p hp
theorem view_row {w : World} {p : Nat → Prop} {e k l r sz : Nat} {R : List (List Int)} {V W : Value} (hV : FlatRow w p (.recs e k R) V) (hlr : l ≤ r) (hr : r ≤ R.length) (hc : (W = subOf V sz l r ∧ (l = 0 ∨ sz = k)) ∨ (W = headOf V r ∧ l = 0)) :
    ViewIs w p (.recs e k ((R.take r).drop l)) W ∧ ViewAt V W (((R.take r).drop l).length * k) (R.length * k) ∧ (∀ q, blkOf W = some q → blkOf V = some q) ∧ hdV W = W := by
  have hBl : ((R.take r).drop l).length = r - l := by simp; omega
  have hwfB : (RC.recs e k ((R.take r).drop l)).wf := ⟨hV.1.1, fun x hx => hV.1.2 x (List.mem_of_mem_take (List.mem_of_mem_drop hx))⟩
  have hcellsB : (RC.recs e k ((R.take r).drop l)).cells = ((RC.recs e k R).cells.take (r * k)).drop (l * k) := RC.slice_cells (r := .recs e k R) (l := l) (k := r) hV.1
  rcases hV.2.1.2 with ⟨rfl, hn⟩ | ⟨g, cap, cur, rfl, hbg, hg, hnc, hcm, hcs, htake⟩
  · have hR0 : R.length = 0 := hn
    have hW : W = .slice none 0 0 := by
      have h1 : r = 0 := by omega
      have h2 : l = 0 := by omega
      subst h1; subst h2
      rcases hc with ⟨hc, _⟩ | ⟨hc, _⟩ <;> rw [hc] <;> rfl
    subst hW
    refine ⟨⟨⟨hwfB, none, 0, 0, rfl, by rw [show (RC.recs e k ((R.take r).drop l)).len = r - l from hBl]; omega, Nat.le_refl _, Nat.zero_le _, fun h => absurd h (by omega)⟩, fun q hq => (by simp [blkOf] at hq)⟩, fun a n cap h => (by cases h), fun q hq => (by simp [blkOf] at hq), rfl⟩
  · have hnc' : R.length ≤ cap := hnc
    have hW : ∃ off cap', W = .slice (some ⟨g, off, none⟩) (r - l) cap' ∧ r - l ≤ cap' ∧ cap' ≤ maxLen ∧ (l < r → off = l * k) ∧ off + (r - l) * k ≤ R.length * k := by
      rcases hc with ⟨rfl, hsz⟩ | ⟨rfl, rfl⟩
      · by_cases hcl : cap = l
        · refine ⟨0, cap - l, by simp [subOf, hcl], by omega, by omega, fun h => by omega, ?_⟩
          have : r - l = 0 := by omega
          rw [this]; omega
        · refine ⟨l * sz, cap - l, by simp [subOf, hcl, add_lit], by omega, by omega, fun _ => ?_, ?_⟩
          · rcases hsz with rfl | rfl
            · simp
            · rfl
          · rcases hsz with rfl | rfl
            · simp only [Nat.zero_mul, Nat.zero_add, Nat.sub_zero]; exact Nat.mul_le_mul_right _ hr
            · rw [← Nat.add_mul]; exact Nat.mul_le_mul_right _ (by omega)
      · refine ⟨0, r, by simp [headOf], by omega, by omega, fun _ => by simp, ?_⟩
        simp only [Nat.zero_add, Nat.sub_zero]; exact Nat.mul_le_mul_right _ hr
    obtain ⟨off, cap', rfl, h1, h2, h3, h4⟩ := hW
    have hown : p g := hV.2.2 g rfl
    refine ⟨⟨⟨hwfB, some ⟨g, off, none⟩, r - l, cap', rfl, hBl.symm, h1, h2, fun h0 => ⟨_, rfl, hown, fun j u hu => ?_⟩⟩, fun q hq => ?_⟩, fun a n cp ha q hq hb => ?_, fun q hq => ?_, rfl⟩
    · rw [hcellsB, List.getElem?_drop] at hu
      have hu' : (RC.recs e k R).cells[l * k + j]? = some u := by
        rw [List.getElem?_take] at hu
        split at hu
        · exact hu
        · cases hu
      have h5 := hV.2.1.cells (g := g) rfl _ _ hu'
      rw [add_lit] at h5 ⊢
      rw [h3 (by omega)]
      simpa using h5
    · simp [blkOf] at hq; subst hq; exact ⟨hown, heap_lt hg⟩
    · simp only [Value.slice.injEq, Option.some.injEq] at ha
      obtain ⟨rfl, _, _⟩ := ha
      simp only at hb
      subst hb
      exact ⟨off, rfl, by rw [hBl]; exact h4⟩
    · exact hq
theorem vwT_rel {ρ : Nat → Value} {h d : Nat} {V' : Value} (hV : seg V' 2 = ρ h) (a : A0) (v : Value) (hd : d ∉ a.hs) (hr : a.rel ρ v) : (a.vwT h d).rel (upd ρ d V') v := by
  have keep : ∀ b : A0, d ∉ b.hs → b.rel ρ v → b.rel (upd ρ d V') v := fun b hb hrb => A0.rel_congr (fun x hx => upd_ne (fun e => hb (by rw [← e]; exact hx))) hrb
  have other : (bif a.hs.contains h then A0.bot else a).rel (upd ρ d V') v := by
    cases a.hs.contains h with
    | true => trivial
    | false => exact keep a hd hr
  cases a with
  | row x =>
    by_cases hx : x = h
    · subst hx
      simp only [A0.vwT, beq_self_eq_true, cond_true]
      show v = seg (upd ρ d V' d) 2
      rw [upd_same, hV]; exact hr
    · have : (x == h) = false := by simpa using hx
      simp only [A0.vwT, this, cond_false]
      exact keep _ hd hr
  | _ => exact other
theorem vwT_relV {ρ : Nat → Value} {h d : Nat} {V' : Value} (hV : seg V' 2 = ρ h) (a : AV) (v : Value) (hd : d ∉ a.hs) (hr : a.rel ρ v) : (a.vwT h d).rel (upd ρ d V') v := by
  cases a with
  | one a => exact vwT_rel hV a v hd hr
  | tup l =>
    obtain ⟨vs, hv, hl, hj⟩ := hr
    refine ⟨vs, hv, by simpa using hl, fun j a ha => ?_⟩
    simp only [List.getElem?_map, Option.map_eq_some_iff] at ha
    obtain ⟨b, hb, rfl⟩ := ha
    obtain ⟨u, hu, hr⟩ := hj j b hb
    exact ⟨u, hu, vwT_rel hV b u (fun hm => hd (List.mem_flatMap.2 ⟨b, List.mem_of_getElem? hb, hm⟩)) hr⟩
theorem holds_congr {w : World} {ρ ρ' : Nat → Value} {x : Nat} {e : Entry} (hf : Frame0 c w) (hx : ρ' x = ρ x) (hm : ∀ y ∈ e.hs, ρ' y = ρ y) (he : e.holds c w ρ x) : e.holds c w ρ' x :=
  holds_keep he hf (Chg.refl w (fun _ => False)) (fun _ h => h.elim) (fun _ _ _ h => h) hx hm
theorem sat_view {S : St} {p : Nat × Nat} (hp : pins = c.pins.map (·.1)) (h : viewOk pins S p) {a : Act} {w : World} (hs : Sat c (den S) a w) : Sat c (den (viewS S p)) a w := by
  obtain ⟨s, d⟩ := p
  unfold viewOk at h
  unfold viewS
  simp only at h ⊢
  cases hv : viewV (S.eval (.tmp s)) with
  | none => rw [hv] at h; exact h.elim
  | some q =>
  obtain ⟨h0, sz, l, r⟩ := q
  rw [hv] at h
  simp only at h ⊢
  unfold viewEn at h
  split at h
  case h_2 => exact h.elim
  rename_i e k R hlk
  rw [hlk]
  simp only [viewTo]
  obtain ⟨⟨h1, h2⟩, hb⟩ := h
  simp only [Bool.and_eq_true, Bool.or_eq_true, beq_iff_eq, Bool.not_eq_true', List.contains_eq_mem, decide_eq_false_iff_not] at hb h1 h2
  obtain ⟨hsz, hf, hnn⟩ := hb
  have hfr := allHs_fresh (c := c) hp hf
  have hnm := noneNames_at hnn
  obtain ⟨ha1, ha2, ρ, hr⟩ := hs
  have hm : (den S).mem h0 = some (.row (.recs e k R)) := by simp [den, hlk, Entry.norm]
  have hV : FlatRow w c.own (.recs e k R) (ρ h0) := (OwnsRow.flat rfl).1 (hr.mem h0 _ hm)
  have hslot : (S.eval (.tmp s)).rel ρ (a.tmps.getD s undef) := (AV.rel_norm ρ _ _).1 (hr.fr s)
  have hW : (a.tmps.getD s undef = subOf (ρ h0) sz l r ∧ (l = 0 ∨ sz = k)) ∨ (a.tmps.getD s undef = headOf (ρ h0) r ∧ l = 0) := by
    unfold viewV at hv
    split at hv
    · rename_i heq
      simp only [Option.some.injEq, Prod.mk.injEq] at hv
      obtain ⟨rfl, rfl, rfl, rfl⟩ := hv
      rw [heq] at hslot
      exact .inl ⟨hslot, hsz⟩
    · rename_i heq
      simp only [Option.some.injEq, Prod.mk.injEq] at hv
      obtain ⟨rfl, rfl, rfl, rfl⟩ := hv
      rw [heq] at hslot
      exact .inr ⟨hslot, rfl⟩
    · cases hv
  obtain ⟨v1, v2, v3, v4⟩ := view_row hV h1 h2 hW
  generalize hWe : a.tmps.getD s undef = W at *
  have hdh : d ≠ h0 := fun e' => by rw [e'] at hfr; rw [hfr.mem] at hm; cases hm
  have hup : ∀ x, x ≠ d → upd ρ d (.tuple #[undef, W, ρ h0]) x = ρ x := fun x hx => upd_ne hx
  have hfs : ∀ x, (den (⟨(s, .one (.ci d 0)) :: (rem s S.fr).map fun p => (p.1, p.2.vwT h0 d), (d, .row (.vwp e k R ((R.take r).drop l))) :: rem h0 S.mem⟩ : St)).fr x = if s = x then .one (.ci d 0) else ((look x S.fr).map (AV.vwT h0 d)).getD (.one .bot) |>.norm := by
    intro x
    simp only [den, look]
    by_cases hx : s = x
    · subst hx; simp [AV.norm, A0.norm]
    · have hb : (s == x) = false := by simpa using hx
      rw [hb, if_neg hx]
      simp only [cond_false]
      rw [look_map (AV.vwT h0 d), look_rem, if_neg (fun e => hx e.symm)]
  have hms : ∀ x e', (den (⟨(s, .one (.ci d 0)) :: (rem s S.fr).map fun p => (p.1, p.2.vwT h0 d), (d, .row (.vwp e k R ((R.take r).drop l))) :: rem h0 S.mem⟩ : St)).mem x = some e' → (x = d ∧ e' = .row (.vwp e k R ((R.take r).drop l))) ∨ (x ≠ d ∧ x ≠ h0 ∧ (den S).mem x = some e') := by
    intro x e' hx
    simp only [den, look] at hx ⊢
    by_cases hxd : d = x
    · subst hxd
      simp [Entry.norm] at hx
      exact .inl ⟨rfl, hx.symm⟩
    · have hb : (d == x) = false := by simpa using hxd
      rw [hb] at hx
      simp only [cond_false] at hx
      rw [look_rem] at hx
      by_cases hxh : x = h0
      · simp [hxh] at hx
      · rw [if_neg hxh] at hx
        exact .inr ⟨fun e => hxd e.symm, hxh, hx⟩
  have hblk : ∀ k', Blk (.tuple #[undef, W, ρ h0]) k' → Blk (ρ h0) k' := by
    rintro k' ⟨j, J, hJ, hbJ⟩
    match j, hJ with
    | 0, hJ => simp at hJ; subst hJ; simp [blkOf, undef] at hbJ
    | 1, hJ => simp at hJ; subst hJ; exact hV.thin.2 (v3 _ hbJ)
    | 2, hJ => simp at hJ; subst hJ; exact hV.thin.2 hbJ
    | j + 3, hJ => simp at hJ
  refine ⟨ha1, ha2, upd ρ d (.tuple #[undef, W, ρ h0]), fun x => ?_, fun x e' hx => ?_, fun x y e1 e2 hx hy ho ho' hne k' hk => ?_, hr.frame, fun q hq => ?_, hr.inX⟩
  · rw [hfs]
    by_cases hx : s = x
    · subst hx
      rw [if_pos rfl, hWe]
      show W = seg (upd ρ d _ d) 1
      rw [upd_same]; rfl
    · rw [if_neg hx]
      have h3 := (AV.rel_norm ρ _ _).1 (hr.fr x)
      have hdx := hfr.fr x
      simp only [den] at hdx
      refine (AV.rel_norm _ _ _).2 ?_
      cases hlx : look x S.fr with
      | none => simp [AV.rel, A0.rel]
      | some v =>
        rw [hlx] at h3 hdx
        rw [Option.getD_some, AV.hs_norm] at hdx
        exact vwT_relV (by rfl) v _ hdx h3
  · rcases hms x e' hx with ⟨rfl, rfl⟩ | ⟨hxd, hxh, hx'⟩
    · show OwnsRow _ _ _ (upd ρ x _ x)
      rw [upd_same]
      exact (OwnsRow.comp rfl).2 ⟨W, ρ h0, rfl, v1, hV, v2⟩
    · exact holds_congr hr.frame (hup x hxd) (fun y hy => hup y (fun e => hfr.ent x e' hx' (by rw [← e]; exact hy))) (hr.mem x e' hx')
  · rcases hms x e1 hx with ⟨rfl, rfl⟩ | ⟨hxd, hxh, hx'⟩
    · rw [upd_same] at hk
      rcases hms y e2 hy with ⟨rfl, rfl⟩ | ⟨hyd, hyh, hy'⟩
      · exact absurd rfl hne
      · rw [hup y hyd]
        exact fun hk2 => hr.sep y h0 _ _ hy' hm ho' rfl hyh k' hk2 (hblk k' hk)
    · rw [hup x hxd] at hk
      rcases hms y e2 hy with ⟨rfl, rfl⟩ | ⟨hyd, hyh, hy'⟩
      · rw [upd_same]
        exact fun hk2 => hr.sep x h0 _ _ hx' hm ho rfl hxh k' hk (hblk k' hk2)
      · rw [hup y hyd]
        exact hr.sep x y _ _ hx' hy' ho ho' hne k' hk
  · rw [hup _ (hfr.pin q hq)]
    exact hr.pin q hq

theorem vwO_spec {e : Entry} {r : RC} (h : e.vwO = some r) : ∃ e0 k R B, e = .row (.vwp e0 k R B) ∧ r = .recs e0 k R := by
  cases e with
  | row q =>
    cases q <;> simp [Entry.vwO, RC.vwO] at h
    exact ⟨_, _, _, _, rfl, h.symm⟩
  | _ => simp [Entry.vwO] at h
theorem dr_rel {ρ : Nat → Value} {h : Nat} (a : A0) (v : Value) (hr : a.rel ρ v) : (a.dr h).rel (upd ρ h (seg (ρ h) 2)) v := by
  have keep : ∀ b : A0, h ∉ b.hs → b.rel ρ v → b.rel (upd ρ h (seg (ρ h) 2)) v := fun b hb hrb => A0.rel_congr (fun x hx => upd_ne (fun e => hb (by rw [← e]; exact hx))) hrb
  have other : (bif a.hs.contains h then A0.bot else a).rel (upd ρ h (seg (ρ h) 2)) v := by
    cases hc : a.hs.contains h with
    | true => trivial
    | false => exact keep a (by simpa using hc) hr
  cases a with
  | ci x q =>
    match q with
    | 0 => exact other
    | 1 =>
      by_cases hx : x = h
      · subst hx
        simp only [A0.dr, beq_self_eq_true, cond_true]
        show v = upd ρ x (seg (ρ x) 2) x
        rw [upd_same]; exact hr
      · have : (x == h) = false := by simpa using hx
        simp only [A0.dr, this, cond_false]
        exact keep _ (by simpa [A0.hs] using fun e : h = x => hx e.symm) hr
    | q + 2 => exact other
  | _ => exact other
theorem dr_relV {ρ : Nat → Value} {h : Nat} (a : AV) (v : Value) (hr : a.rel ρ v) : (a.dr h).rel (upd ρ h (seg (ρ h) 2)) v := by
  cases a with
  | one a => exact dr_rel a v hr
  | tup l =>
    obtain ⟨vs, hv, hl, hj⟩ := hr
    refine ⟨vs, hv, by simpa using hl, fun j a ha => ?_⟩
    simp only [List.getElem?_map, Option.map_eq_some_iff] at ha
    obtain ⟨b, hb, rfl⟩ := ha
    obtain ⟨u, hu, hr⟩ := hj j b hb
    exact ⟨u, hu, dr_rel b u hr⟩
theorem sat_drop {S : St} (hp : pins = c.pins.map (·.1)) {a : Act} {w : World} (hs : Sat c (den S) a w) : Sat c (den (S.drop pins)) a w := by
  unfold St.drop
  cases hva : vwAt S.mem with
  | none => exact hs
  | some h =>
  simp only
  cases hl : (look h S.mem).bind Entry.vwO with
  | none => exact hs
  | some r =>
  simp only [dropAt]
  cases hb : (pins.contains h || !noneNames h S.mem) with
  | true => exact hs
  | false =>
  simp only [cond_false]
  simp only [Bool.or_eq_false_iff, List.contains_eq_mem, decide_eq_false_iff_not, Bool.not_eq_false'] at hb
  obtain ⟨hpin, hnn⟩ := hb
  have hnm := noneNames_at hnn
  obtain ⟨e, he, hev⟩ := Option.bind_eq_some_iff.1 hl
  obtain ⟨e0, k, R, B, rfl, rfl⟩ := vwO_spec hev
  obtain ⟨ha1, ha2, ρ, hr⟩ := hs
  have hm : (den S).mem h = some (.row (.vwp e0 k R B)) := by simp [den, he, Entry.norm]
  obtain ⟨W, V, hv, hW, hV, hVW⟩ : CompRow w c.own (.vwp e0 k R B) (ρ h) := (OwnsRow.comp rfl).1 (hr.mem h _ hm)
  have hsV : seg (ρ h) 2 = V := by rw [hv]; rfl
  have hup : ∀ x, x ≠ h → upd ρ h (seg (ρ h) 2) x = ρ x := fun x hx => upd_ne hx
  have hms : ∀ x e', (den (⟨S.fr.map fun p => (p.1, p.2.dr h), (h, .row (.recs e0 k R)) :: rem h S.mem⟩ : St)).mem x = some e' → (x = h ∧ e' = .row (.recs e0 k R)) ∨ (x ≠ h ∧ (den S).mem x = some e' ∧ h ∉ e'.hs) := by
    intro x e' hx
    simp only [den, look] at hx ⊢
    by_cases hxd : h = x
    · subst hxd
      simp [Entry.norm] at hx
      exact .inl ⟨rfl, hx.symm⟩
    · have hb : (h == x) = false := by simpa using hxd
      rw [hb] at hx
      simp only [cond_false] at hx
      rw [look_rem, if_neg (fun e => hxd e.symm)] at hx
      refine .inr ⟨fun e => hxd e.symm, hx, ?_⟩
      obtain ⟨e2, he2, rfl⟩ := Option.map_eq_some_iff.1 hx
      rw [Entry.hs_norm]
      exact hnm _ (look_mem he2)
  refine ⟨ha1, ha2, upd ρ h (seg (ρ h) 2), fun x => ?_, fun x e' hx => ?_, fun x y e1 e2 hx hy ho ho' hne k' hk => ?_, hr.frame, fun q hq => ?_, hr.inX⟩
  · simp only [den]
    rw [look_map (AV.dr h)]
    have h3 := (AV.rel_norm ρ _ _).1 (hr.fr x)
    refine (AV.rel_norm _ _ _).2 ?_
    cases hlx : look x S.fr with
    | none => simp [AV.rel, A0.rel]
    | some v =>
      rw [hlx] at h3
      exact dr_relV v _ h3
  · rcases hms x e' hx with ⟨rfl, rfl⟩ | ⟨hxd, hx', hns⟩
    · show OwnsRow _ _ _ (upd ρ x _ x)
      rw [upd_same, hsV]
      exact (OwnsRow.flat rfl).2 hV
    · exact holds_congr hr.frame (hup x hxd) (fun y hy => hup y (fun e => hns (by rw [← e]; exact hy))) (hr.mem x e' hx')
  · have hbl : ∀ q, Blk V q → Blk (ρ h) q := fun q hq => by rw [hv]; exact ⟨2, _, rfl, hV.thin.1 hq⟩
    rcases hms x e1 hx with ⟨rfl, rfl⟩ | ⟨hxd, hx', _⟩
    · rw [upd_same, hsV] at hk
      rcases hms y e2 hy with ⟨rfl, rfl⟩ | ⟨hyd, hy', _⟩
      · exact absurd rfl hne
      · rw [hup y hyd]
        exact hr.sep x y _ _ hm hy' rfl ho' hne k' (hbl k' hk)
    · rw [hup x hxd] at hk
      rcases hms y e2 hy with ⟨rfl, rfl⟩ | ⟨hyd, hy', _⟩
      · rw [upd_same, hsV]
        exact fun hk2 => hr.sep x y _ _ hx' hm ho rfl hne k' hk (hbl k' hk2)
      · rw [hup y hyd]
        exact hr.sep x y _ _ hx' hy' ho ho' hne k' hk
  · rw [hup _ (fun e => hpin (by rw [hp, ← e]; exact List.mem_map.2 ⟨q, hq, rfl⟩))]
    exact hr.pin q hq
theorem sat_views {S : St} (hp : pins = c.pins.map (·.1)) {vs : Option (Nat × Nat)} (h : viewsOk pins S vs) {a : Act} {w : World} (hs : Sat c (den S) a w) : Sat c (den (viewsS S vs)) a w := by
  cases vs with
  | none => exact hs
  | some p => exact sat_view hp h hs

/-! ### loops -/
/-- A loop met in the state S: some family of states with a measure covers S, and a round from any of them ends in one of a smaller measure, or goes on behind the loop. 'd': how many further loops may be met. -/
def lpN (pins : List Nat) (tab : Tab) (spec : Spec) (fin : St → Prop) : Nat → Code → List Item → St → Prop
  | 0, _, _, _ => False
  | d + 1, .loop b, k, S => ∃ (α : Type) (mk : α → St) (I : α → Prop) (μ : α → Nat), (∃ x π sd vs, I x ∧ viewsOk pins S vs ∧ seedsOk pins (viewsS S vs) sd = true ∧ Cov pins π (seeds (viewsS S vs) sd) (mk x)) ∧
      ∀ x, I x → ∀ J : St → Prop, (∀ S' y π, I y → μ y < μ x → (Cov pins π S' (mk y) ∨ Cov pins π (S'.drop pins) (mk y)) → J S') → ∃ n, vc pins tab spec fin (lpN pins tab spec fin d) n (.code b :: .back J :: k) (mk x)
  | _ + 1, _, _, _ => False

theorem lpN_sound (hT : TabOk c.P tab) (hspec : SpecOk c.P spec) (hp : pins = c.pins.map (·.1)) (hm : c.P.follows .mixedOrders = true)
    (hfin : ∀ S a w, fin S → Sat c (den S) a w → Q0 .normal a w ∧ Q0 .ret a w) : ∀ (d : Nat) (x : Code) (k : List Item) (S : St) (a : Act) (w : World), lpN pins tab spec fin d x k S → dstB c.N x = true → k.all (Item.okB c.N) = true → Sat c (den S) a w → Mean c Q0 (.code x :: k) a w
  | 0, _, _, _, _, _, h, _, _, _ => by unfold lpN at h; exact h.elim
  | d + 1, x, k, S, a, w, h, hb, hk, hs => by
    unfold lpN at h
    split at h
    case h_1 hh => cases hh
    case h_3 => exact h.elim
    rename_i d' b k' S'' hd'
    cases hd'
    obtain ⟨α, mk, I, μ, ⟨x0, π0, sd, vs, hI0, hvs, hsd, hc0⟩, hround⟩ := h
    refine wp_loop_ghost (fun n a w => ∃ x, I x ∧ μ x = n ∧ Sat c (den (mk x)) a w) (μ x0) ⟨x0, hI0, rfl, sat_cov hp hc0 (sat_seeds hp hsd (sat_views hp hvs hs))⟩ ?_
    rintro n a1 w1 ⟨x, hI, rfl, hs1⟩
    obtain ⟨m, hv⟩ := hround x hI (fun S' => ∃ y π, I y ∧ μ y < μ x ∧ (Cov pins π S' (mk y) ∨ Cov pins π (S'.drop pins) (mk y))) fun S' y π h1 h2 h3 => ⟨y, π, h1, h2, h3⟩
    have h2 := (vc_sound hT hspec hp hm hfin (lpN_sound hT hspec hp hm hfin d) m _ _ hv (ok_cons hb (ok_cons rfl hk)) a1 w1 hs1).kont
    refine wp_mono h2 fun e a' w' hq => ?_
    cases e with
    | normal =>
      obtain ⟨S', ⟨y, π, h3, h4, h5⟩, hs'⟩ := hq
      refine ⟨μ y, h4, y, h3, rfl, ?_⟩
      rcases h5 with h5 | h5
      · exact sat_cov hp h5 hs'
      · exact sat_cov hp h5 (sat_drop hp hs')
    | exit id => exact hq
    | goto l => exact hq
    | ret => exact hq
    | panic ch => exact hq
    | outgrown => exact hq
end
end Go.Proofs.Ytacomnelongbjab
namespace Go.Proofs.Ytacomnelongbjab
open Go Go.RowKit

/-! ### the start -/
def hA (j : Nat) : Nat := 1000000 + j
def initFr : Nat → List A0 → List (Nat × AV)
  | _, [] => []
  | j, .rw r :: l => (j, .one (bif r.flat then .row (hA j) else .co (hA j))) :: initFr (j + 1) l
  | j, .byt _ :: l => (j, .one (.co (hA j))) :: initFr (j + 1) l
  | j, a :: l => (j, .one a) :: initFr (j + 1) l
def initMem (outs : List (Nat × Option RC)) : Nat → List A0 → List (Nat × Entry)
  | _, [] => []
  | j, .rw r :: l => (hA j, bif outs.any (fun p => p.1 == j) then .row r else .ro r) :: initMem outs (j + 1) l
  | j, .byt b :: l => (hA j, .st b) :: initMem outs (j + 1) l
  | j, _ :: l => initMem outs (j + 1) l
def initSt (args : List A0) (outs : List (Nat × Option RC)) : St := ⟨initFr 0 args, initMem outs 0 args⟩

/-! ### the end -/
def resWd (n : Int) (h : Nat) : Option RC → Option A0
  | some (.wd _ m _) => bif n == m then some (.co h) else none
  | _ => none
def resOf (tab : Tab) (S : St) : ResultVar → Option A0
  | .tmp t => match S.eval (.tmp t) with
    | .one a => some a
    | .tup _ => none
  | .cell a t => match S.eval (.tmp a) with
    | .one (.ref h 0) => match look h S.mem with
      | some (.ibox _ l) => match look t tab with
        | some ⟨.struct _, n, _⟩ => bif l.length == n then some (.s l) else none
        | some ⟨.array _ _, n, _⟩ => bif l.length == n then some (.s l) else none
        | _ => none
      | some (.box _ [.i n, .ci h2 0]) => match look t tab with
        | some ⟨.word _, _, _⟩ => resWd n h2 (compOf (look h2 S.mem))
        | _ => none
      | _ => none
    | _ => none
def resAll (tab : Tab) (S : St) : List ResultVar → Option (List A0)
  | [] => some []
  | r :: l => match resOf tab S r with
    | some a => (resAll tab S l).map (a :: ·)
    | none => none
def nilOk : RC → Prop
  | .ints _ l => l = []
  | .recs _ k l => l = [] ∧ 0 < k
  | .bools _ l => l = []
  | .rows _ _ ll => ll = []
  | _ => False
def compEq (S : St) (a w : A0) : Prop :=
  match w with
  | .rw r => match a with
    | .row h => match look h S.mem with
      | some (.row r') => r.flat = true ∧ r' = r
      | _ => False
    | .co h => match look h S.mem with
      | some (.row r') => r.flat = false ∧ r' = r
      | _ => False
    | .nil => nilOk r
    | _ => False
  | w => argOk w = true ∧ a.norm = w.norm
def compsEq (S : St) : List A0 → List A0 → Prop
  | [], [] => True
  | a :: l, w :: m => compEq S a w ∧ compsEq S l m
  | _, _ => False
def rowHs : List A0 → List Nat
  | [] => []
  | .row h :: l => h :: rowHs l
  | .co h :: l => h :: rowHs l
  | _ :: l => rowHs l
def outHds : List (Nat × Option RC) → List Nat
  | [] => []
  | (j, some _) :: l => hA j :: outHds l
  | _ :: l => outHds l
def outsEq (S : St) : List (Nat × Option RC) → Prop
  | [] => True
  | (j, some r) :: l => (match look (hA j) S.mem with
    | some (.row r') => r' = r
    | _ => False) ∧ outsEq S l
  | _ :: l => outsEq S l
def shapeOk (n : Nat) : AV → Bool
  | .one _ => n == 1
  | .tup l => n == l.length && n != 1
def finOk (tab : Tab) (rvs : List ResultVar) (ce : CEff) (S : St) : Prop :=
  match resAll tab S rvs with
  | some as => (shapeOk as.length ce.res && (nodupB (rowHs as) && disj (rowHs as) (outHds ce.outs))) = true ∧ compsEq S as (comps ce.res) ∧ outsEq S ce.outs
  | none => False

/-- the same, a part that is no longer read forgotten -/
def finD (pins : List Nat) (tab : Tab) (rvs : List ResultVar) (ce : CEff) (S : St) : Prop := finOk tab rvs ce (S.drop pins)

section
variable {P : Program} {w : World} {args : List A0} {vals : List Value} {ce : CEff} {tab : Tab}

theorem initFr_look : ∀ (args : List A0) (j s : Nat), look s (initFr j args) = if j ≤ s then (args[s - j]?).map (fun a => match a with | .rw r => .one (bif r.flat then .row (hA s) else .co (hA s)) | .byt _ => .one (.co (hA s)) | a => .one a) else none
  | [], j, s => by simp [initFr, look]
  | a :: l, j, s => by
    have ih := initFr_look l (j + 1) s
    have key : look s (initFr j (a :: l)) = if j = s then some (match a with | .rw r => AV.one (bif r.flat then .row (hA j) else .co (hA j)) | .byt _ => .one (.co (hA j)) | a => .one a) else look s (initFr (j + 1) l) := by
      have h1 : ∀ v : AV, look s ((j, v) :: initFr (j + 1) l) = if j = s then some v else look s (initFr (j + 1) l) := by
        intro v
        by_cases h : j = s
        · simp [look, h]
        · have : (j == s) = false := by simpa using h
          simp [look, h, this]
      cases a <;> exact h1 _
    rw [key, ih]
    by_cases h : j = s
    · subst h; simp
    · rw [if_neg h]
      by_cases hle : j ≤ s
      · rw [if_pos hle, if_pos (by omega), show s - j = (s - (j + 1)) + 1 by omega, List.getElem?_cons_succ]
      · rw [if_neg hle, if_neg (by omega)]
theorem initMem_look (outs : List (Nat × Option RC)) : ∀ (args : List A0) (j h : Nat) (e : Entry), look h (initMem outs j args) = some e → (∃ i r, h = hA (j + i) ∧ args[i]? = some (.rw r) ∧ e = (if (outs.any fun p => p.1 == j + i) then .row r else .ro r)) ∨ ∃ i b, h = hA (j + i) ∧ args[i]? = some (.byt b) ∧ e = .st b
  | [], j, h, e, hl => by simp [initMem, look] at hl
  | a :: l, j, h, e, hl => by
    have rest : look h (initMem outs (j + 1) l) = some e → (∃ i r, h = hA (j + i) ∧ (a :: l)[i]? = some (.rw r) ∧ e = (if (outs.any fun p => p.1 == j + i) then .row r else .ro r)) ∨ ∃ i b, h = hA (j + i) ∧ (a :: l)[i]? = some (.byt b) ∧ e = .st b := by
      intro h1
      rcases initMem_look outs l (j + 1) h e h1 with ⟨i, r, h2, h3, h4⟩ | ⟨i, b, h2, h3, h4⟩
      · exact .inl ⟨i + 1, r, by rw [h2]; unfold hA; omega, by simpa using h3, by rw [h4, show j + 1 + i = j + (i + 1) by omega]⟩
      · exact .inr ⟨i + 1, b, by rw [h2]; unfold hA; omega, by simpa using h3, h4⟩
    cases a with
    | rw r =>
      simp only [initMem, look] at hl
      by_cases hh : hA j = h
      · have hb : (hA j == h) = true := by simpa using hh
        rw [hb] at hl
        simp only [cond_true, Option.some.injEq] at hl
        exact .inl ⟨0, r, hh.symm, rfl, by rw [← hl]; cases (outs.any fun p => p.1 == j) <;> rfl⟩
      · have hb : (hA j == h) = false := by simpa using hh
        rw [hb] at hl
        exact rest hl
    | byt b =>
      simp only [initMem, look] at hl
      by_cases hh : hA j = h
      · have hb : (hA j == h) = true := by simpa using hh
        rw [hb] at hl
        simp only [cond_true, Option.some.injEq] at hl
        exact .inr ⟨0, b, hh.symm, rfl, hl.symm⟩
      · have hb : (hA j == h) = false := by simpa using hh
        rw [hb] at hl
        exact rest hl
    | _ => exact rest hl

def ctxOf (P : Program) (w : World) (outs : List (Nat × Option RC)) (vals : List Value) (N : Nat) : Ctx := ⟨P, w, OutBlk outs vals, N, outs.map fun p => (hA p.1, vals.getD p.1 undef)⟩

theorem init_sat {N : Nat} (hN : args.length ≤ N) (ha : ArgsOk w ce.outs args vals) : Sat (ctxOf P w ce.outs vals N) (den (initSt args ce.outs)) { tmps := (vals.map hdV).toArray ++ Array.replicate (N - (vals.map hdV).toArray.size) undef, defers := [] } w := by
  have hlen := ha.len
  have hX : ∀ k, OutBlk ce.outs vals k → k < w.heap.size := by
    rintro k ⟨p, hp, v, hv, hk⟩
    obtain ⟨r, hr⟩ := ha.isRow p hp
    obtain ⟨v', hv', hrel⟩ := ha.rel p.1 _ hr
    rw [hv] at hv'; cases hv'
    have : (ce.outs.any fun q => q.1 == p.1) = true := List.any_eq_true.2 ⟨p, hp, by simp⟩
    unfold ArgRel at hrel
    simp only [this, if_true] at hrel
    exact (hrel.blk hk).2
  have hent : ∀ h e, (den (initSt args ce.outs)).mem h = some e → (∃ i r v, h = hA i ∧ args[i]? = some (.rw r) ∧ vals[i]? = some v ∧ ((e = .row r ∧ (∃ p ∈ ce.outs, p.1 = i) ∧ OwnsRow w (fun k => k < w.heap.size) r v) ∨ (e = .ro r ∧ ReadsRow w (fun k => k < w.heap.size ∧ ¬ OutBlk ce.outs vals k) r v))) ∨
      ∃ i b v, h = hA i ∧ vals[i]? = some v ∧ e = .st b ∧ CodeAt w (fun k => k < w.heap.size ∧ ¬ OutBlk ce.outs vals k) b v := by
    intro h e he
    simp only [den, Option.map_eq_some_iff] at he
    obtain ⟨e0, hl, rfl⟩ := he
    rcases initMem_look _ _ _ _ _ hl with ⟨i, r, h1, h2, h3⟩ | ⟨i, b, h1, h2, h3⟩
    · left
      rw [Nat.zero_add] at h1 h3
      obtain ⟨v, hv, hr⟩ := ha.rel i _ h2
      refine ⟨i, r, v, h1, h2, hv, ?_⟩
      unfold ArgRel at hr
      cases hany : (ce.outs.any fun p => p.1 == i) with
      | true =>
        simp only [hany, if_true] at hr h3
        subst h3
        obtain ⟨p, hp, hpi⟩ := List.any_eq_true.1 hany
        exact .inl ⟨rfl, ⟨p, hp, by simpa using hpi⟩, hr⟩
      | false =>
        simp only [hany] at hr h3
        subst h3
        exact .inr ⟨rfl, hr⟩
    · right
      rw [Nat.zero_add] at h1
      obtain ⟨v, hv, hr⟩ := ha.rel i _ h2
      exact ⟨i, b, v, h1, hv, by rw [h3]; rfl, hr⟩
  have hval : ∀ i v, vals[i]? = some v → vals.getD (hA i - 1000000) undef = v := by
    intro i v hv
    simp only [hA, Nat.add_sub_cancel_left]
    simp [List.getD, hv]
  refine ⟨rfl, by simp [ctxOf, hlen]; omega, fun h => vals.getD (h - 1000000) undef, fun s => ?_, fun h e he => ?_, fun h h' e e' he he' ho ho' hne k hk => ?_, ⟨rfl, rfl, rfl, Nat.le_refl _, fun _ _ _ => rfl⟩, fun p hp => ?_, hX⟩
  · simp only [den, initSt]
    rw [initFr_look, if_pos (Nat.zero_le _), Nat.sub_zero]
    cases hs : args[s]? with
    | none => simp [AV.norm, A0.norm, AV.rel, A0.rel]
    | some a =>
      obtain ⟨v, hv, hr⟩ := ha.rel s a hs
      have hlt : s < vals.length := (List.getElem?_eq_some_iff.1 hv).1
      have htm : ((vals.map hdV).toArray ++ Array.replicate (N - (vals.map hdV).toArray.size) undef).getD s undef = hdV v := by
        rw [Array.getD_eq_getD_getElem?, Array.getElem?_append_left (by simpa using hlt)]
        simp [hv]
      simp only [Option.map_some, Option.getD_some]
      rw [htm]
      refine (AV.rel_norm _ _ _).2 ?_
      unfold ArgRel at hr
      split at hr
      · rename_i r
        have hth : r.flat = true → hdV v = v := by
          intro hf
          split at hr
          · exact flat_thin ((OwnsRow.flat hf).1 hr)
          · obtain ⟨_, A, n, cap, hv', _⟩ := (ReadsRow.flat hf).1 hr
            rw [hv']; rfl
        simp only
        cases hf : r.flat with
        | true =>
          show hdV v = _
          rw [hth hf]
          exact (hval s v hv).symm
        | false =>
          show hdV v = hdV _
          exact congrArg hdV (hval s v hv).symm
      · show hdV v = hdV _
        exact congrArg hdV (hval s v hv).symm
      · rename_i a' hnr hnb
        have hthin : hdV v = v := by rw [hr.2]; exact conc_thin hr.1 (fun r e => hnr r e)
        rw [hthin]
        have hvv : v = a.conc (fun h => vals.getD (h - 1000000) undef) := by rw [hr.2]; exact (conc_noρ hr.1 _).symm
        have hok := hr.1
        cases a <;> first | exact absurd rfl (hnr _) | exact absurd rfl (hnb _) | exact hvv | (simp [argOk] at hok)
  · obtain ⟨i, r, v, rfl, _, hv, (⟨rfl, ⟨p, hp, hpi⟩, hr⟩ | ⟨rfl, hr⟩)⟩ | ⟨i, b, v, rfl, hv, rfl, hr⟩ := hent h e he
    rotate_right
    · exact (show CodeAt w (fun k => k < w.heap.size ∧ ¬ OutBlk ce.outs vals k) b (vals.getD (hA i - 1000000) undef) from by
        rw [hval i v hv]
        exact hr)
    · exact (show OwnsRow w (ctxOf P w ce.outs vals N).own r (vals.getD (hA i - 1000000) undef) from by
        rw [hval i v hv]
        exact hr.monoB fun k hk _ _ => .inr ⟨p, hp, v, by rw [hpi]; exact hv, hk⟩)
    · exact (show ReadsRow w (fun k => k < w.heap.size ∧ ¬ OutBlk ce.outs vals k) r (vals.getD (hA i - 1000000) undef) from by
        rw [hval i v hv]
        exact hr)
  · obtain ⟨i, r, v, rfl, _, hv, (⟨rfl, ⟨p, hp, hpi⟩, hr⟩ | ⟨rfl, hr⟩)⟩ | ⟨i, b, v, rfl, hv, rfl, hr⟩ := hent h e he
    rotate_right
    · cases ho
    · obtain ⟨i', r', v', rfl, _, hv', (⟨rfl, ⟨p', hp', hpi'⟩, hr'⟩ | ⟨rfl, hr'⟩)⟩ | ⟨i', b', v', rfl, hv', rfl, hr'⟩ := hent h' e' he'
      rotate_right
      · cases ho'
      · rw [hval i v hv] at hk
        rw [hval i' v' hv']
        exact ha.sep p hp p' hp' (by rw [hpi, hpi']; intro e; exact hne (by rw [e])) v v' k (by rw [hpi]; exact hv) (by rw [hpi']; exact hv') hk
      · cases ho'
    · cases ho
  · simp only [ctxOf, List.mem_map] at hp
    obtain ⟨q, _, rfl⟩ := hp
    simp [hA]

/-! ### the end is met -/
theorem run_cell {t : TypeId} {a : Addr} {i : TypeInfo} {cs : List Value} (ht : (isAgg t).run P w = .ok true w) (hi : P.info? t = some i) (hs : i.size = cs.length) (h : ∀ j v, cs[j]? = some v → w.cell? (a.add j) = some v) :
    (do loadVar t (← asAddr (.pointer (some a))) : Sem Value).run P w = .ok (.agg cs.toArray) w := by
  have := run_loadAt_agg ht hi hs h
  simp [Instr.loadAt, Instr.sureAddr] at this
  simpa [asAddr] using this

theorem resOf_run {c : Ctx} {S : St} {ρ : Nat → Value} {tmps : Array Value} (hT : TabOk c.P tab) (h : SatR c (den S) ρ tmps w) {rv : ResultVar} {a0 : A0} (hr : resOf tab S rv = some a0) :
    ∃ v, (match rv with | .tmp t => pure (tmps.getD t undef) | .cell a t => do loadVar t (← asAddr (tmps.getD a undef)) : Sem Value).run c.P w = .ok v w ∧ a0.rel ρ v := by
  have hfr : ∀ t, (S.eval (.tmp t)).rel ρ (tmps.getD t undef) := fun t => (AV.rel_norm ρ _ _).1 (h.fr t)
  cases rv with
  | tmp t =>
    unfold resOf at hr
    simp only at hr
    split at hr
    · rename_i a he
      simp only [Option.some.injEq] at hr
      subst hr
      have := hfr t
      rw [he] at this
      exact ⟨_, rfl, this⟩
    · cases hr
  | cell a t =>
    unfold resOf at hr
    simp only at hr
    split at hr
    case h_2 => cases hr
    rename_i hh he
    split at hr
    case h_3 => cases hr
    case h_2 =>
      rename_i t' n h2 hl
      split at hr
      case h_2 => cases hr
      rename_i e0 sz by_ hti
      unfold resWd at hr
      split at hr
      case h_2 => cases hr
      rename_i e9 m l hcr
      cases hb : n == m with
      | false => rw [hb] at hr; cases hr
      | true =>
      rw [hb] at hr
      simp only [cond_true, Option.some.injEq] at hr; subst hr
      have hnm : n = m := by simpa using hb
      subst hnm
      obtain ⟨F, i, hu, hi, his, hz, hF⟩ := tiB_word (hT _ _ hti)
      have hm : (den S).mem hh = some (.box t' [.i n, .ci h2 0]) := by simp [den, hl, Entry.norm, A0.norm]
      obtain ⟨g, arr, hv, _, hg, ha2, hat⟩ := h.mem hh _ hm
      obtain ⟨en, k1, k2, k3⟩ := compOf_look hcr
      have hm2 : (den S).mem h2 = some en := by simp [den, k1, k3]
      obtain ⟨in_, ⟨A, hA, _⟩, _⟩ := comp_at h hm2 k2
      have hra := hfr a
      rw [he] at hra
      have hta : tmps.getD a undef = .pointer (some ⟨g, 0, none⟩) := by
        have h1 : tmps.getD a undef = addTo (ρ hh) 0 := hra
        rw [h1, hv]
        simp [addTo, add0]
      obtain ⟨v0, q1, q2⟩ := hat 0 (.i n) rfl
      obtain ⟨v1, q3, q4⟩ := hat 1 (.ci h2 0) rfl
      have q2' : v0 = vI n := q2
      have q4' : v1 = A := by
        have h7 : v1 = seg (ρ h2) 1 := q4
        rw [h7, hA]; rfl
      show ∃ v, (do loadVar t (← asAddr (tmps.getD a undef)) : Sem Value).run c.P w = .ok v w ∧ _
      rw [hta]
      refine ⟨.agg #[vI n, A], ?_, ?_⟩
      · refine run_cell (cs := [vI n, A]) (run_isAgg_struct hu) hi (by rw [his]; rfl) fun j v hj => ?_
        rw [add0, cell_of_row w g j arr t' (0, 0) hg]
        match j, hj with
        | 0, hj => simp at hj; subst hj; rw [q1, q2']
        | 1, hj => simp at hj; subst hj; rw [q3, q4']
        | j + 2, hj => simp at hj
      · show _ = hdV (ρ h2)
        rw [hA]; rfl
    rename_i t' l hl
    have hm : (den S).mem hh = some (.ibox t' l) := by simp [den, hl, Entry.norm]
    obtain ⟨g, hv, _, hg⟩ := h.mem hh _ hm
    have hra := hfr a
    rw [he] at hra
    have hta : tmps.getD a undef = .pointer (some ⟨g, 0, none⟩) := by
      have h1 : tmps.getD a undef = addTo (ρ hh) 0 := hra
      rw [h1, hv]
      simp [addTo, add0]
    have hcell : ∀ j v, (l.map vI)[j]? = some v → w.cell? ((⟨g, 0, none⟩ : Addr).add j) = some v := by
      intro j v hj
      rw [add0]
      simp only [World.cell?, hg]
      simpa using hj
    have fin : ∀ n, (isAgg t).run c.P w = .ok true w → (∃ i, c.P.info? t = some i ∧ i.size = n) → (bif l.length == n then some (A0.s l) else none) = some a0 → ∃ v, (do loadVar t (← asAddr (tmps.getD a undef)) : Sem Value).run c.P w = .ok v w ∧ a0.rel ρ v := by
      rintro n hagg ⟨i, hi, his⟩ hb
      cases hbb : (l.length == n) with
      | false => rw [hbb] at hb; cases hb
      | true =>
        rw [hbb] at hb
        simp only [cond_true, Option.some.injEq] at hb
        subst hb
        have hln : l.length = n := by simpa using hbb
        rw [hta]
        exact ⟨_, run_cell hagg hi (by rw [his, ← hln]; simp) hcell, rfl⟩
    split at hr
    · rename_i fs n _ hti
      obtain ⟨F, i, hu, hi, his, _⟩ := tiB_struct (hT _ _ hti)
      exact fin n (run_isAgg_struct hu) ⟨i, hi, his⟩ hr
    · rename_i m el n _ hti
      obtain ⟨i, ei, hu, hi, his, _⟩ := tiB_array (hT _ _ hti)
      exact fin n (run_isAgg_array hu) ⟨i, hi, his⟩ hr
    · cases hr

theorem mapM_all {α : Type} {P : Program} {w : World} (f : α → Sem Value) : ∀ (l : List α) (vs : List Value), l.length = vs.length → (∀ (j : Nat) (x : α), l[j]? = some x → ∃ v, vs[j]? = some v ∧ (f x).run P w = .ok v w) → (l.mapM f).run P w = .ok vs w
  | [], [], _, _ => rfl
  | [], _ :: _, h, _ => by simp at h
  | _ :: _, [], h, _ => by simp at h
  | x :: l, v :: vs, hl, h => by
    obtain ⟨v', hv, hr⟩ := h 0 x rfl
    simp only [List.getElem?_cons_zero, Option.some.injEq] at hv
    subst hv
    have ih := mapM_all f l vs (by simpa using hl) (fun j y hy => by simpa using h (j + 1) y (by simpa using hy))
    simp [List.mapM_cons, hr, ih]

theorem resAll_run {c : Ctx} {S : St} {ρ : Nat → Value} {tmps : Array Value} (hT : TabOk c.P tab) (h : SatR c (den S) ρ tmps w) : ∀ {rvs : List ResultVar} {as : List A0}, resAll tab S rvs = some as →
    ∃ us : List Value, us.length = as.length ∧ (rvs.mapM fun | .tmp t => pure (tmps.getD t undef) | .cell a t => do loadVar t (← asAddr (tmps.getD a undef)) : Sem (List Value)).run c.P w = .ok us w ∧ ∀ (j : Nat) (a : A0), as[j]? = some a → ∃ u, us[j]? = some u ∧ a.rel ρ u
  | [], as, hr => by
    simp only [resAll, Option.some.injEq] at hr
    subst hr
    exact ⟨[], rfl, rfl, by simp⟩
  | rv :: rvs, as, hr => by
    unfold resAll at hr
    split at hr
    case h_2 => cases hr
    rename_i a0 ha
    simp only [Option.map_eq_some_iff] at hr
    obtain ⟨as', hr', rfl⟩ := hr
    obtain ⟨v, hv1, hv2⟩ := resOf_run hT h ha
    obtain ⟨us, hu1, hu2, hu3⟩ := resAll_run hT h hr'
    refine ⟨v :: us, by simp [hu1], ?_, fun j a hj => ?_⟩
    · rw [List.mapM_cons]
      simp only [Sem.run_bind]
      rw [hv1]
      simp only [Result.andThen_ok]
      rw [hu2]
      simp
    · cases j with
      | zero => simp at hj; subst hj; exact ⟨v, rfl, hv2⟩
      | succ j => simpa using hu3 j a (by simpa using hj)

theorem compsEq_at {S : St} : ∀ {l m : List A0}, compsEq S l m → l.length = m.length ∧ ∀ (j : Nat) (w : A0), m[j]? = some w → ∃ a, l[j]? = some a ∧ compEq S a w
  | [], [], _ => by simp
  | [], _ :: _, h => h.elim
  | _ :: _, [], h => h.elim
  | a :: l, w :: m, h => by
    obtain ⟨h1, h2⟩ := compsEq_at h.2
    refine ⟨by simp [h1], fun j w' hw => ?_⟩
    cases j with
    | zero => simp at hw; subst hw; exact ⟨a, rfl, h.1⟩
    | succ j => simpa using h2 j w' (by simpa using hw)
/-- a row's handle, of one value or of several -/
def isH (a : A0) (h : Nat) : Prop := a = .row h ∨ a = .co h
theorem mem_rowHs {h : Nat} : ∀ {l : List A0}, (∃ a ∈ l, isH a h) → h ∈ rowHs l
  | [], ⟨_, hm, _⟩ => by cases hm
  | a :: l, ⟨b, hm, hb⟩ => by
    simp only [List.mem_cons] at hm
    rcases hm with rfl | hm
    · rcases hb with rfl | rfl <;> simp [rowHs]
    · have := mem_rowHs ⟨b, hm, hb⟩
      cases a <;> simp [rowHs, this]
theorem rowHs_ne : ∀ {l : List A0}, nodupB (rowHs l) = true → ∀ (i j : Nat) (h h' : Nat), i < j → (∃ a, l[i]? = some a ∧ isH a h) → (∃ a, l[j]? = some a ∧ isH a h') → h ≠ h'
  | [], _, i, j, h, h', _, ⟨_, hi, _⟩, _ => by simp at hi
  | a :: l, hn, i, j, h, h', hij, ⟨b, hi, hb⟩, ⟨b', hj, hb'⟩ => by
    have hn' : nodupB (rowHs l) = true := by
      cases a <;> first
        | exact hn
        | (simp only [rowHs, nodupB, Bool.and_eq_true] at hn; exact hn.2)
    cases j with
    | zero => omega
    | succ j =>
      have hj' : l[j]? = some b' := by simpa using hj
      cases i with
      | zero =>
        simp only [List.getElem?_cons_zero, Option.some.injEq] at hi
        subst hi
        have hnn : nodupB (h :: rowHs l) = true := by rcases hb with rfl | rfl <;> exact hn
        simp only [nodupB, Bool.and_eq_true, Bool.not_eq_true', List.contains_eq_mem, decide_eq_false_iff_not] at hnn
        intro e
        exact hnn.1 (by rw [e]; exact mem_rowHs ⟨b', List.mem_of_getElem? hj', hb'⟩)
      | succ i => exact rowHs_ne hn' i j h h' (by omega) ⟨b, by simpa using hi, hb⟩ ⟨b', hj', hb'⟩
theorem mem_outHds {j : Nat} {r : RC} : ∀ {l : List (Nat × Option RC)}, (j, some r) ∈ l → hA j ∈ outHds l
  | [], h => by cases h
  | (i, some s) :: l, h => by
    simp only [List.mem_cons, Prod.mk.injEq, Option.some.injEq] at h
    rcases h with ⟨rfl, _⟩ | h
    · simp [outHds]
    · simp [outHds, mem_outHds h]
  | (i, none) :: l, h => by
    simp only [List.mem_cons, Prod.mk.injEq] at h
    rcases h with ⟨_, h⟩ | h
    · cases h
    · exact mem_outHds (l := l) h
theorem outsEq_at {S : St} {j : Nat} {r : RC} : ∀ {l : List (Nat × Option RC)}, outsEq S l → (j, some r) ∈ l → look (hA j) S.mem = some (.row r)
  | [], _, h => by cases h
  | (i, some s) :: l, he, h => by
    simp only [List.mem_cons, Prod.mk.injEq, Option.some.injEq] at h
    rcases h with ⟨rfl, rfl⟩ | h
    · have := he.1
      split at this
      · rename_i r' hl; rw [hl, this]
      · exact this.elim
    · exact outsEq_at he.2 h
  | (i, none) :: l, he, h => by
    simp only [List.mem_cons, Prod.mk.injEq] at h
    rcases h with ⟨_, h⟩ | h
    · cases h
    · exact outsEq_at (l := l) he h

theorem fat_list : ∀ {us : List Value} {P : Nat → Value → Prop}, (∀ j u, us[j]? = some u → ∃ u', hdV u' = u ∧ P j u') → ∃ us' : List Value, us'.map hdV = us ∧ ∀ (j : Nat) (u' : Value), us'[j]? = some u' → P j u'
  | [], _, _ => ⟨[], rfl, fun j u' h => by simp at h⟩
  | u :: us, P, h => by
    obtain ⟨u', h1, h2⟩ := h 0 u rfl
    obtain ⟨us', h3, h4⟩ := fat_list (us := us) (P := fun j u' => P (j + 1) u') fun j u hu => h (j + 1) u (by simpa using hu)
    refine ⟨u' :: us', by simp [h1, h3], fun j v hv => ?_⟩
    cases j with
    | zero => simp at hv; subst hv; exact h2
    | succ j => exact h4 j v (by simpa using hv)
theorem hdV_of_us {as : List A0} {us : List Value} {m : List A0} {ρ : Nat → Value} (_ : ∀ (j : Nat) (a : A0), as[j]? = some a → ∃ u, us[j]? = some u ∧ a.rel ρ u) (hlen : as.length = m.length) {j : Nat} {u : Value} (hul : us.length = as.length) (hc : m[j]? = none) (hu : us[j]? = some u) : hdV u = u := by
  have h1 := (List.getElem?_eq_some_iff.1 hu).1
  have h2 := List.getElem?_eq_none_iff.1 hc
  omega
theorem fin_ret {w0 : World} {N : Nat} {fn : Func} {S : St} {a : Act} (hT : TabOk P tab) (ha : ArgsOk w0 ce.outs args vals) (hf : finOk tab fn.results.toList ce S) (hs : Sat (ctxOf P w0 ce.outs vals N) (den S) a w) :
    a.defers = [] ∧ ∃ v, (results fn a.tmps).run P w = .ok v w ∧ RetOk w0 w vals ce v := by
  obtain ⟨hdef, _, ρ, hr⟩ := hs
  refine ⟨hdef, ?_⟩
  unfold finOk at hf
  split at hf
  case h_2 => exact hf.elim
  rename_i as has
  obtain ⟨hb, hcs, hos⟩ := hf
  simp only [Bool.and_eq_true] at hb
  obtain ⟨hshape, hnd, hdj⟩ := hb
  have hdj' := disj_spec hdj
  obtain ⟨us, hu1, hu2, hu3⟩ := resAll_run (c := ctxOf P w0 ce.outs vals N) hT hr has
  obtain ⟨hlen, hat⟩ := compsEq_at hcs
  have hmap : (fn.results.mapM fun | .tmp t => pure (a.tmps.getD t undef) | .cell ad t => do loadVar t (← asAddr (a.tmps.getD ad undef)) : Sem (Array Value)).run P w = .ok us.toArray w := by
    rw [Array.mapM_eq_mapM_toList]
    rw [Sem.run_map]
    have : (ctxOf P w0 ce.outs vals N).P = P := rfl
    rw [this] at hu2
    rw [hu2]
    rfl
  -- the parts, with all their values
  have hfat : ∃ us' : List Value, us'.map hdV = us ∧ ∀ (j : Nat) (u' : Value), us'[j]? = some u' → us[j]? = some (hdV u') ∧
      (∀ r, (comps ce.res)[j]? = some (.rw r) → (∃ h, (∃ a, as[j]? = some a ∧ isH a h) ∧ u' = ρ h ∧ (den S).mem h = some (.row r)) ∨ ((∀ k, ¬ Blk u' k) ∧ ∀ p, OwnsRow w p r u')) ∧
      (∀ a0, (comps ce.res)[j]? = some a0 → (∀ r, a0 ≠ .rw r) → us[j]? = some u') := by
    refine fat_list fun j u hu => ?_
    cases hc : (comps ce.res)[j]? with
    | none => exact ⟨u, hdV_of_us hu3 hlen hu1 hc hu, by rw [hdV_of_us hu3 hlen hu1 hc hu]; exact hu, fun r h => (by cases h), fun a0 h => (by cases h)⟩
    | some w0 =>
      obtain ⟨a0, h1, h2⟩ := hat j _ hc
      obtain ⟨u1, h3, h4⟩ := hu3 j a0 h1
      rw [hu] at h3; cases h3
      have plain : (∀ r, w0 ≠ .rw r) → hdV u = u := by
        intro hnr
        have h5 : argOk w0 = true ∧ a0.norm = w0.norm := by
          cases w0 <;> first | exact h2 | exact absurd rfl (hnr _)
        have h7 := (A0.rel_norm ρ a0 u).2 h4
        rw [h5.2] at h7
        have h8 := (A0.rel_norm ρ _ u).1 h7
        have h9 : u = w0.conc ρ := by
          have hok := h5.1
          cases w0 <;> first | exact h8 | (simp [argOk] at hok; done) | exact absurd rfl (hnr _) | exact (show False from h8).elim
        rw [h9, conc_noρ h5.1 ρ]
        exact conc_thin h5.1 hnr
      by_cases hrw : ∃ r, w0 = .rw r
      · obtain ⟨r, rfl⟩ := hrw
        simp only [compEq] at h2
        split at h2
        · rename_i h
          split at h2
          case h_2 => exact h2.elim
          rename_i r' hl
          obtain ⟨hf, rfl⟩ := h2
          have hm : (den S).mem h = some (.row r') := by simp [den, hl, Entry.norm]
          have hth : hdV (ρ h) = ρ h := flat_thin ((OwnsRow.flat hf).1 (hr.mem h _ hm))
          have huρ : u = ρ h := h4
          refine ⟨u, by rw [huρ]; exact hth, by rw [huρ, hth, ← huρ]; exact hu, fun r0 h0 => ?_, fun a1 h0 hn => ?_⟩
          · cases h0; exact .inl ⟨h, ⟨_, h1, .inl rfl⟩, huρ, hm⟩
          · cases h0; exact absurd rfl (hn _)
        · rename_i h
          split at h2
          case h_2 => exact h2.elim
          rename_i r' hl
          obtain ⟨hf, rfl⟩ := h2
          have hm : (den S).mem h = some (.row r') := by simp [den, hl, Entry.norm]
          have huρ : u = hdV (ρ h) := h4
          refine ⟨ρ h, huρ.symm, by rw [← huρ]; exact hu, fun r0 h0 => ?_, fun a1 h0 hn => ?_⟩
          · cases h0; exact .inl ⟨h, ⟨_, h1, .inr rfl⟩, rfl, hm⟩
          · cases h0; exact absurd rfl (hn _)
        · have hnil : u = .slice none 0 0 := h4
          cases hf : r.flat with
          | true =>
            refine ⟨u, by rw [hnil]; rfl, by rw [hnil]; rw [hnil] at hu; exact hu, fun r0 h0 => ?_, fun a1 h0 hn => ?_⟩
            · cases h0
              refine .inr ⟨fun k hk => by rw [hnil] at hk; simp [Blk, blkOf] at hk, fun p => (OwnsRow.flat hf).2 ?_⟩
              rw [hnil]
              refine ⟨?_, ?_, fun k hk => by simp [blkOf] at hk⟩
              · cases r <;> simp_all [nilOk, RC.wf, RC.flat]
              · have h1 : r.len = 0 ∧ r.cells = [] := by cases r <;> simp_all [nilOk, RC.len, RC.cells]
                rw [h1.1, h1.2]
                exact World.ownsRow_nil w 0 _ _
            · cases h0; exact absurd rfl (hn _)
          | false =>
            cases r with
            | rows e f ll =>
              have hll : ll = [] := h2
              subst hll
              refine ⟨.tuple (.slice none 0 0 :: []).toArray, by rw [hnil]; rfl, by rw [hnil] at hu; exact hu, fun r0 h0 => ?_, fun a1 h0 hn => ?_⟩
              · cases h0
                refine .inr ⟨fun k hk => ?_, fun p => (OwnsRow.comp hf).2 ⟨_, [], rfl, rfl, World.ownsRow_nil w 0 _ _, by simp [blkOf], by simp, by simp, by simp⟩⟩
                obtain ⟨j, v, hv, hb⟩ := Blk.tuple.1 hk
                cases j with
                | zero => simp at hv; subst hv; simp [blkOf] at hb
                | succ j => simp at hv
              · cases h0; exact absurd rfl (hn _)
            | _ => first | (simp [RC.flat] at hf; done) | exact h2.elim
        · exact h2.elim
      · have hnr : ∀ r, w0 ≠ .rw r := fun r e => hrw ⟨r, e⟩
        refine ⟨u, plain hnr, by rw [plain hnr]; exact hu, fun r0 h0 => ?_, fun a1 h0 hn => hu⟩
        cases h0; exact absurd rfl (hnr _)
  obtain ⟨us', hmapH, hP⟩ := hfat
  have hpart : ∀ (j : Nat) (r : RC), (comps ce.res)[j]? = some (.rw r) → ∃ u, us'[j]? = some u ∧ ((∃ h, (∃ a, as[j]? = some a ∧ isH a h) ∧ u = ρ h ∧ (den S).mem h = some (.row r)) ∨ ((∀ k, ¬ Blk u k) ∧ ∀ p, OwnsRow w p r u)) := by
    intro j r hj
    have hjl : j < us'.length := by
      have h1 := (List.getElem?_eq_some_iff.1 hj).1
      have h2 := congrArg List.length hmapH
      simp at h2
      omega
    have hu : us'[j]? = some us'[j] := by simp [hjl]
    exact ⟨_, hu, (hP j _ hu).2.1 r hj⟩
  have hown : ∀ k, (ctxOf P w0 ce.outs vals N).own k → NewBlk w0 (OutBlk ce.outs vals) k := fun k h => h
  have hrow : ∀ h r, (den S).mem h = some (.row r) → OwnsRow w (NewBlk w0 (OutBlk ce.outs vals)) r (ρ h) := fun h r hm => hr.mem h _ hm
  have hout : ∀ p ∈ ce.outs, ∀ r, p.2 = some r → ∃ u, vals[p.1]? = some u ∧ ρ (hA p.1) = u ∧ (den S).mem (hA p.1) = some (.row r) := by
    rintro ⟨j, oe⟩ hp r hpr
    simp only at hpr
    subst hpr
    obtain ⟨r0, hr0⟩ := ha.isRow _ hp
    obtain ⟨v, hv, _⟩ := ha.rel _ _ hr0
    have hl := outsEq_at hos hp
    have hpin := hr.pin (hA j, vals.getD j undef) (List.mem_map.2 ⟨(j, some r), hp, rfl⟩)
    refine ⟨v, hv, ?_, by simp [den, hl, Entry.norm]⟩
    have h5 : ρ (hA j) = vals.getD j undef := hpin
    rw [h5]
    simp only at hv
    simp [List.getD, hv]
  have hchg : Chg w0 w (OutBlk ce.outs vals) := ⟨hr.frame.os, hr.frame.tape, hr.frame.output, hr.frame.size, hr.frame.block⟩
  have hvv : ∃ v, (results fn a.tmps).run P w = .ok v w ∧ (match ce.res with | .one _ => ∃ u, us' = [u] ∧ v = hdV u | .tup _ => v = .tuple (us'.map hdV).toArray) := by
    have hrun : (results fn a.tmps).run P w = .ok (if h : us.toArray.size = 1 then us.toArray[0] else .tuple us.toArray) w := by
      unfold results
      simp only [Sem.run_bind]
      refine Eq.trans (congrArg (fun r => Result.andThen r _) hmap) ?_
      rfl
    refine ⟨_, hrun, ?_⟩
    cases hres : ce.res with
    | one b =>
      rw [hres] at hshape
      have h1 : us.length = 1 := by rw [hu1]; simpa [shapeOk] using hshape
      simp only
      rw [dif_pos (by simpa using h1)]
      obtain ⟨u, hu1'⟩ := List.length_eq_one_iff.1 (show us'.length = 1 by have := congrArg List.length hmapH; simp at this; omega)
      refine ⟨u, hu1', ?_⟩
      subst hu1'
      simp only [List.map_cons, List.map_nil] at hmapH
      subst hmapH
      rfl
    | tup l =>
      rw [hres] at hshape
      have h1 : us.length ≠ 1 := by
        simp only [shapeOk, Bool.and_eq_true, bne_iff_ne] at hshape
        rw [hu1]; exact hshape.2
      simp only
      rw [dif_neg (by simpa using h1), hmapH]
  obtain ⟨v, hv1, hv2⟩ := hvv
  have hlen' : us'.length = as.length := by have := congrArg List.length hmapH; simp at this; omega
  refine ⟨v, hv1, hchg, ⟨us', hv2, by rw [hlen', hlen], fun j a0 hj => ?_, fun i j r s u v' hij hi hj hui huj k hk hk2 => ?_, fun j r u hj huj p hp s hps v' hv' k hk hk2 => ?_⟩, fun p hp r hpr => ?_⟩
  · cases a0 with
    | rw r =>
      obtain ⟨u, hu, h⟩ := hpart j r hj
      refine ⟨u, hu, ?_⟩
      rcases h with ⟨h, _, rfl, hm⟩ | ⟨_, hn⟩
      · exact hrow h r hm
      · exact hn _
    | byt b =>
      obtain ⟨a1, h1, h2⟩ := hat j _ hj
      obtain ⟨u, h3, h4⟩ := hu3 j a1 h1
      have h7 := (A0.rel_norm ρ a1 _).2 h4
      rw [show a1.norm = _ from h2.2] at h7
      exact (show False from (A0.rel_norm ρ _ _).1 h7).elim
    | _ =>
      obtain ⟨a1, h1, h2⟩ := hat j _ hj
      obtain ⟨u, h3, h4⟩ := hu3 j a1 h1
      have hjl : j < us'.length := by rw [hlen']; exact (List.getElem?_eq_some_iff.1 h1).1
      have hu' : us'[j]? = some us'[j] := by simp [hjl]
      have h9 := (hP j _ hu').2.2 _ hj (fun r e => by cases e)
      rw [h3] at h9; cases h9
      refine ⟨_, hu', ?_⟩
      obtain ⟨h5, h6⟩ := h2
      refine ⟨h5, ?_⟩
      have h7 := (A0.rel_norm ρ a1 _).2 h4
      rw [h6] at h7
      have h8 := (A0.rel_norm ρ _ _).1 h7
      rw [← conc_noρ h5 ρ]
      first | exact h8 | (simp [argOk] at h5)
  · obtain ⟨u0, hu0, hA⟩ := hpart i r hi
    obtain ⟨u1, hu1', hB⟩ := hpart j s hj
    rw [hui] at hu0; cases hu0
    rw [huj] at hu1'; cases hu1'
    rcases hA with ⟨h, ha1, rfl, hm⟩ | ⟨hn, _⟩
    · rcases hB with ⟨h', ha2, rfl, hm'⟩ | ⟨hn, _⟩
      · have hne : h ≠ h' := by
          rcases Nat.lt_or_gt_of_ne hij with hlt | hgt
          · exact rowHs_ne hnd i j h h' hlt ha1 ha2
          · exact (rowHs_ne hnd j i h' h hgt ha2 ha1).symm
        exact hr.sep h h' _ _ hm hm' rfl rfl hne k hk hk2
      · exact hn k hk2
    · exact hn k hk
  · obtain ⟨u0, hu0, hA'⟩ := hpart j r hj
    rw [huj] at hu0; cases hu0
    obtain ⟨u1, hu1', hρ, hm'⟩ := hout p hp s hps
    rw [hv'] at hu1'; cases hu1'
    rcases hA' with ⟨h, ha1, rfl, hm⟩ | ⟨hn, _⟩
    · have hne : h ≠ hA p.1 := by
        intro e
        obtain ⟨b, hb1, hb2⟩ := ha1
        have h1 := hdj' h (mem_rowHs ⟨b, List.mem_of_getElem? hb1, hb2⟩)
        obtain ⟨q1, q2⟩ := p
        simp only at hps
        subst hps
        exact h1 (by rw [e]; exact mem_outHds hp)
      rw [← hρ] at hk
      exact hr.sep (hA p.1) h _ _ hm' hm rfl rfl (fun e => hne e.symm) k hk hk2
    · exact hn k hk2
  · obtain ⟨u, h1, h2, h3⟩ := hout p hp r hpr
    refine ⟨u, h1, ?_⟩
    rw [← h2]
    exact hrow _ r h3

/-- A CONTRACT OUT OF A BODY's VERIFICATION CONDITION. -/
theorem fn_ok {f : Nat} {fn : Func} {code : Code} {spec : Spec} (hm : P.follows .mixedOrders = true) (hT : TabOk P tab) (hspec : SpecOk P spec) (hf : P.funcs[f]? = some fn) (hb : fn.body = some code) (hd : dstB fn.ntmps code = true) (hl : (Nat.ble args.length fn.ntmps && noCur args) = true)
    (h : ce.pre → ∃ d n, vc (ce.outs.map fun p => hA p.1) tab spec (finD (ce.outs.map fun p => hA p.1) tab fn.results.toList ce) (lpN (ce.outs.map fun p => hA p.1) tab spec (finD (ce.outs.map fun p => hA p.1) tab fn.results.toList ce) d) n [.code code] (initSt args ce.outs)) : FnOk P f args ce := by
  rw [Bool.and_eq_true] at hl
  refine FnOk.of0 ?_ hl.2
  intro hpre w0 vals ha
  obtain ⟨d, n, hv⟩ := h hpre
  have hpins : (ce.outs.map fun p => hA p.1) = (ctxOf P w0 ce.outs vals fn.ntmps).pins.map (·.1) := by simp [ctxOf]
  have hfin : ∀ (S : St) (a : Act) (w : World), finD (ce.outs.map fun p => hA p.1) tab fn.results.toList ce S → Sat (ctxOf P w0 ce.outs vals fn.ntmps) (den S) a w →
      bodyPost P fn (fun e w' => ∃ v, e = .returned v ∧ RetOk w0 w' vals ce v) .normal a w ∧ bodyPost P fn (fun e w' => ∃ v, e = .returned v ∧ RetOk w0 w' vals ce v) .ret a w := by
    intro S a w hS hs
    obtain ⟨h1, v, h2, h3⟩ := fin_ret hT ha hS (sat_drop hpins hs)
    exact ⟨⟨h1, v, h2, v, rfl, h3⟩, ⟨h1, v, h2, v, rfl, h3⟩⟩
  have h1 := vc_sound (c := ctxOf P w0 ce.outs vals fn.ntmps) (Q0 := bodyPost P fn (fun e w' => ∃ v, e = .returned v ∧ RetOk w0 w' vals ce v)) hT hspec hpins hm hfin
    (lpN_sound (c := ctxOf P w0 ce.outs vals fn.ntmps) hT hspec hpins hm hfin d) n _ _ hv (ok_cons hd rfl) _ w0 (init_sat (N := fn.ntmps) (Nat.le_of_ble_eq_true hl.1) ha)
  exact calls_of_wp hf hb h1.kont
end
end Go.Proofs.Ytacomnelongbjab

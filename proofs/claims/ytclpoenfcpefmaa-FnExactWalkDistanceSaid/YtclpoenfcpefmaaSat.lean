/-
  How a met state goes on being met: a value put into a slot, a new block, a store into a block of the call's own. Conditions: none; this text proves nothing of the program.
-/
import Derived.Test.YtclpoenfcpefmaaMach
namespace Go.Proofs.Ytclpoenfcpefmaa
open Go Go.RowKit

def normWr (wr : Wr) : Wr := wr.map fun p => (p.1, p.2.map Entry.norm)
def den (S : St) : SS := ⟨fun s => ((look s S.fr).getD (.one .bot)).norm, fun h => (look h S.mem).map Entry.norm⟩

theorem look_normWr (h : Nat) : ∀ wr : Wr, look h (normWr wr) = (look h wr).map fun oe => oe.map Entry.norm
  | [] => rfl
  | p :: l => by
    simp only [normWr, List.map_cons, look]
    by_cases hp : (p.1 == h) = true
    · simp [hp]
    · simp only [Bool.not_eq_true] at hp
      have := look_normWr h l
      simp only [normWr] at this
      simp [hp, this]
theorem wrHs_normWr (wr : Wr) : wrHs (normWr wr) = wrHs wr := by simp [wrHs, normWr]

theorem look_setMem (S : St) (h k : Nat) (e : Option Entry) : look k (S.setMem h e).mem = if h = k then e else look k S.mem := by
  cases e with
  | none =>
    simp only [St.setMem, look_rem]
    by_cases hk : k = h
    · simp [hk]
    · have : h ≠ k := fun e => hk e.symm
      simp [hk, this]
  | some e =>
    simp only [St.setMem, look, look_rem]
    by_cases hk : h = k
    · simp [hk]
    · have h1 : (h == k) = false := by simpa using hk
      have h2 : k ≠ h := fun e => hk e.symm
      simp [h1, hk, h2]
theorem look_setMems (S : St) (k : Nat) : ∀ wr : Wr, look k (setMems S wr).mem = match look k wr with | some oe => oe | none => look k S.mem
  | [] => rfl
  | p :: l => by
    simp only [setMems, look_setMem, look, look_setMems S k l]
    by_cases hp : p.1 = k
    · simp [hp]
    · have h1 : (p.1 == k) = false := by simpa using hp
      simp [hp, h1]
theorem setMem_fr (S : St) (h : Nat) (e : Option Entry) : (S.setMem h e).fr = S.fr := by cases e <;> rfl
theorem setMems_fr (S : St) : ∀ wr : Wr, (setMems S wr).fr = S.fr
  | [] => rfl
  | p :: l => by rw [setMems, setMem_fr, setMems_fr S l]
theorem look_put (S : St) (d : Option Nat) (v : AV) (s : Nat) : look s (S.put d v).fr = if d = some s then some v else look s S.fr := by
  cases d with
  | none => simp [St.put]
  | some d =>
    simp only [St.put, look, look_rem]
    by_cases hd : d = s
    · simp [hd]
    · have h1 : (d == s) = false := by simpa using hd
      have h2 : s ≠ d := fun e => hd e.symm
      simp [hd, h1, h2]
theorem put_mem (S : St) (d : Option Nat) (v : AV) : (S.put d v).mem = S.mem := by cases d <;> rfl

theorem den_after (S : St) (d : Option Nat) (e : Eff) : den (S.after d e) = (den S).apply d e.val.norm (normWr e.wr) := by
  simp only [den, St.after, SS.apply, SS.mk.injEq]
  constructor
  · funext s
    rw [look_put, setMems_fr]
    by_cases h : d = some s <;> simp [h]
  · funext h
    rw [put_mem, look_setMems, look_normWr]
    cases look h e.wr <;> simp
theorem den_put (S : St) (d : Option Nat) (v : AV) : den (S.put d v) = (den S).apply d v.norm [] := by
  simp only [den, SS.apply, look, SS.mk.injEq]
  constructor
  · funext s
    rw [look_put]
    by_cases h : d = some s <;> simp [h]
  · funext h
    rw [put_mem]
/-- A slot that holds the bool b may be given the literal. -/
theorem den_lit (S : St) (s : Nat) (b : Bool) (h : look s S.fr = some (.one (.b b))) : den (S.put (some s) (.one (if b then .tt else .ff))) = den S := by
  rw [den_put]
  simp only [den, SS.apply, look, SS.mk.injEq, and_true]
  funext t
  by_cases ht : s = t
  · subst ht
    cases b <;> simp [h, AV.norm, A0.norm]
  · have : ¬ some s = some t := by simpa using ht
    simp [this]

theorem look_one {α : Type} (d x : Nat) (v : α) : look x [(d, v)] = if d = x then some v else none := by
  by_cases h : d = x <;> simp [look, h]
  have : (d == x) = false := by simpa using h
  simp [this]

/-! ### the world goes on -/
structure Chg (w w' : World) (D : Nat → Prop) : Prop where
  os : w'.os = w.os
  tape : w'.tape = w.tape
  output : w'.output = w.output
  size : w.heap.size ≤ w'.heap.size
  block : ∀ k, k < w.heap.size → ¬ D k → w'.heap[k]? = w.heap[k]?
theorem Chg.refl (w : World) (D : Nat → Prop) : Chg w w D := ⟨rfl, rfl, rfl, Nat.le_refl _, fun _ _ _ => rfl⟩
theorem Chg.alloc (w : World) (o : Obj) : Chg w (w.alloc o) (fun _ => False) := ⟨rfl, rfl, rfl, by simp, fun k hk _ => Below.heap_alloc w o k hk⟩
theorem Chg.setRow (w : World) (g : Nat) (cs : Array Value) : Chg w (w.setRow g cs) (fun k => k = g) := ⟨rfl, rfl, rfl, by simp, fun k _ hd => setRow_other w g k cs hd⟩
theorem Chg.drew (w : World) (D : Nat → Prop) : Chg w { w with drawn := w.drawn + 1 } D := ⟨rfl, rfl, rfl, Nat.le_refl _, fun _ _ _ => rfl⟩
theorem Chg.grown {w w' : World} {row : Option Nat} (h : w.grownBy w' row) : Chg w w' (fun k => some k = row) := ⟨h.os, h.tape, h.output, h.size, fun k hk hd => h.block k hk hd⟩
theorem Chg.mono {w w' : World} {D E : Nat → Prop} (h : Chg w w' D) (hd : ∀ k, D k → E k) : Chg w w' E := ⟨h.os, h.tape, h.output, h.size, fun k hk he => h.block k hk (fun x => he (hd k x))⟩

section
variable {c : Ctx} {S : SS} {ρ ρ' : Nat → Value} {tmps : Array Value} {w w' : World} {D : Nat → Prop}

theorem Frame0.chg (h : Frame0 c w) (ch : Chg w w' D) (hD : ∀ k, D k → c.own k) : Frame0 c w' :=
  ⟨ch.os.trans h.os, ch.tape.trans h.tape, ch.output.trans h.output, Nat.le_trans h.size ch.size, fun k hk hx => by
    refine (ch.block k (Nat.lt_of_lt_of_le hk h.size) (fun hd => ?_)).trans (h.block k hk hx)
    rcases hD k hd with h1 | h1
    · omega
    · exact hx h1⟩

theorem heap_lt {w : World} {k : Nat} {o : Obj} (h : w.heap[k]? = some o) : k < w.heap.size := (Array.getElem?_eq_some_iff.1 h).1

theorem FlatRow.blk {in_ : Nat → Prop} {r : RC} {v : Value} (h : FlatRow w in_ r v) {k : Nat} (hk : blkOf v = some k) : in_ k ∧ k < w.heap.size := by
  refine ⟨h.2.2 k hk, ?_⟩
  rcases h.2.1.2 with ⟨rfl, _⟩ | ⟨g, cap, cur, rfl, _, hg, _⟩
  · simp [blkOf] at hk
  · simp [blkOf] at hk; subst hk; exact heap_lt hg
theorem FlatRow.thin {in_ : Nat → Prop} {r : RC} {v : Value} (h : FlatRow w in_ r v) {k : Nat} : Blk v k ↔ blkOf v = some k := by
  rcases h.2.1.2 with ⟨rfl, _⟩ | ⟨g, cap, cur, rfl, _, hg, _⟩ <;> exact Iff.rfl
theorem FlatRow.chg {in_ : Nat → Prop} {r : RC} {v : Value} (h : FlatRow w in_ r v) (hk : ∀ k, blkOf v = some k → w'.heap[k]? = w.heap[k]?) : FlatRow w' in_ r v := by
  refine ⟨h.1, ⟨h.2.1.1, ?_⟩, h.2.2⟩
  rcases h.2.1.2 with hn | ⟨g, cap, cur, hv, hb, hg, rest⟩
  · exact .inl hn
  · exact .inr ⟨g, cap, cur, hv, hb, (hk g (by simp [hv, blkOf])).trans hg, rest⟩
theorem ownsRow_chg {e sz n : Nat} {v : Value} {xs : List Value} (h : w.ownsRow 0 e sz v n xs) (hk : ∀ k, blkOf v = some k → w'.heap[k]? = w.heap[k]?) : w'.ownsRow 0 e sz v n xs := by
  refine ⟨h.1, ?_⟩
  rcases h.2 with hn | ⟨g, cap, cur, hv, hb, hg, rest⟩
  · exact .inl hn
  · exact .inr ⟨g, cap, cur, hv, hb, (hk g (by simp [hv, blkOf])).trans hg, rest⟩
theorem ownsRow_blk {e sz n : Nat} {v : Value} {xs : List Value} (h : w.ownsRow 0 e sz v n xs) {k : Nat} (hk : blkOf v = some k) : k < w.heap.size := by
  rcases h.2 with ⟨rfl, _⟩ | ⟨g, cap, cur, rfl, _, hg, _⟩
  · simp [blkOf] at hk
  · simp [blkOf] at hk; subst hk; exact heap_lt hg
theorem Blk.of_tuple {vs : List Value} {j k : Nat} {v : Value} (h : vs[j]? = some v) (hk : blkOf v = some k) : Blk (.tuple vs.toArray) k := ⟨j, v, by simpa using h, hk⟩
theorem Blk.tuple {vs : List Value} {k : Nat} : Blk (.tuple vs.toArray) k ↔ ∃ (j : Nat) (v : Value), vs[j]? = some v ∧ blkOf v = some k := by
  simp [Blk]
theorem CompRow.blk {in_ : Nat → Prop} {r : RC} {v : Value} (h : CompRow w in_ r v) {k : Nat} (hk : Blk v k) : in_ k ∧ k < w.heap.size := by
  cases r with
  | mp n m =>
    obtain ⟨b, es, clock, rfl, h1, h2, _⟩ := h
    simp [Blk, blkOf] at hk; subst hk; exact ⟨h1, heap_lt h2⟩
  | grp e q fs n m =>
    obtain ⟨g, A, b, es, clock, t, rfl, h1, h2, h3, h4, h5, _⟩ := h
    obtain ⟨j, v, hv, hb⟩ := hk
    match j, hv with
    | 0, hv => simp at hv; subst hv; simp [blkOf] at hb; subst hb; exact ⟨h1, heap_lt h2⟩
    | 1, hv => simp at hv; subst hv; exact h3.blk hb
    | 2, hv => simp at hv; subst hv; simp [blkOf] at hb; subst hb; exact ⟨h4, heap_lt h5⟩
    | j + 3, hv => simp at hv
  | rows e f ll =>
    obtain ⟨O, Is, rfl, hr⟩ := h
    obtain ⟨j, v, hv, hb⟩ := Blk.tuple.1 hk
    cases j with
    | zero => simp at hv; subst hv; exact ⟨hr.oin k hb, ownsRow_blk hr.outer hb⟩
    | succ j =>
      simp only [List.getElem?_cons_succ] at hv
      have hj : j < ll.length := by rw [← hr.len]; exact (List.getElem?_eq_some_iff.1 hv).1
      obtain ⟨I, hI, hf⟩ := hr.inner j ll[j] (by simp [hj])
      rw [hv] at hI; cases hI
      exact hf.blk hb
  | vwp e q R B =>
    obtain ⟨W, V, rfl, h1, h2, h3⟩ := h
    obtain ⟨j, v, hv, hb⟩ := hk
    match j, hv with
    | 0, hv => simp at hv; subst hv; simp [blkOf, undef] at hb
    | 1, hv => simp at hv; subst hv; exact h1.2 k hb
    | 2, hv => simp at hv; subst hv; exact h2.blk hb
    | j + 3, hv => simp at hv
  | _ => exact h.elim
theorem RowsIs.chg {in_ : Nat → Prop} {e f : Nat} {ll : List (List Int)} {O : Value} {Is : List Value} (hr : RowsIs w in_ e f ll O Is) (hk : ∀ k, Blk (.tuple (O :: Is).toArray) k → w'.heap[k]? = w.heap[k]?) : RowsIs w' in_ e f ll O Is :=
  ⟨hr.len, ownsRow_chg hr.outer fun k hb => hk k (Blk.of_tuple (j := 0) rfl hb), hr.oin, fun j l hj => by
    obtain ⟨I, hI, hf⟩ := hr.inner j l hj
    exact ⟨I, hI, hf.chg fun k hb => hk k (Blk.of_tuple (j := j + 1) (by simpa using hI) hb)⟩, hr.apart, hr.oapart⟩
theorem FlatReads.chg {in_ : Nat → Prop} {r : RC} {v : Value} (h : FlatReads w in_ r v) (hk : ∀ k, blkOf v = some k → w'.heap[k]? = w.heap[k]?) : FlatReads w' in_ r v := by
  obtain ⟨hwf, A, n, cap, hv, hn, hc, hm', hr⟩ := h
  refine ⟨hwf, A, n, cap, hv, hn, hc, hm', fun h0 => ?_⟩
  obtain ⟨a, hA, hin, hcell⟩ := hr h0
  refine ⟨a, hA, hin, fun j u hu => ?_⟩
  have hb : (a.add j).block = a.block := by unfold Addr.add; split <;> rfl
  rw [World.cell?_of_block (w := w) (by rw [hb]; exact hk _ (by rw [hv, hA]; rfl))]
  exact hcell j u hu
theorem ViewIs.chg {in_ : Nat → Prop} {r : RC} {v : Value} (h : ViewIs w in_ r v) (hk : ∀ k, blkOf v = some k → w'.heap[k]? = w.heap[k]?) : ViewIs w' in_ r v := by
  refine ⟨h.1.chg hk, fun k hb => ⟨(h.2 k hb).1, ?_⟩⟩
  have h1 := (h.2 k hb).2
  have h2 := hk k hb
  rw [Array.getElem?_eq_getElem h1] at h2
  exact heap_lt h2
theorem FlatReads.mono {p q : Nat → Prop} {r : RC} {v : Value} (h : FlatReads w p r v) (hpq : ∀ k, blkOf v = some k → p k → q k) : FlatReads w q r v := by
  obtain ⟨hwf, A, n, cap, hv, hn, hc, hm', hr⟩ := h
  refine ⟨hwf, A, n, cap, hv, hn, hc, hm', fun h0 => ?_⟩
  obtain ⟨a, hA, hin, hcell⟩ := hr h0
  exact ⟨a, hA, hpq _ (by rw [hv, hA]; rfl) hin, hcell⟩
theorem CompRow.chg {in_ : Nat → Prop} {r : RC} {v : Value} (h : CompRow w in_ r v) (hk : ∀ k, Blk v k → w'.heap[k]? = w.heap[k]?) : CompRow w' in_ r v := by
  cases r with
  | mp n m =>
    obtain ⟨b, es, clock, rfl, h1, h2, h3⟩ := h
    exact ⟨b, es, clock, rfl, h1, (hk b rfl).trans h2, h3⟩
  | grp e q fs n m =>
    obtain ⟨g, A, b, es, clock, t, rfl, h1, h2, h3, h4, h5, h6⟩ := h
    exact ⟨g, A, b, es, clock, t, rfl, h1, (hk g ⟨0, _, rfl, rfl⟩).trans h2, h3.chg (fun k hb => hk k ⟨1, _, rfl, hb⟩), h4, (hk b ⟨2, _, rfl, rfl⟩).trans h5, h6⟩
  | rows e f ll =>
    obtain ⟨O, Is, rfl, hr⟩ := h
    exact ⟨O, Is, rfl, hr.chg hk⟩
  | vwp e q R B =>
    obtain ⟨W, V, rfl, h1, h2, h3⟩ := h
    exact ⟨W, V, rfl, h1.chg (fun k hb => hk k ⟨1, _, rfl, hb⟩), h2.chg (fun k hb => hk k ⟨2, _, rfl, hb⟩), h3⟩
  | _ => exact h.elim
theorem FlatRow.mono {p q : Nat → Prop} {r : RC} {v : Value} (h : FlatRow w p r v) (hpq : ∀ k, k < w.heap.size → blkOf v = some k → p k → q k) : FlatRow w q r v :=
  ⟨h.1, h.2.1, fun k hk => hpq k (h.blk hk).2 hk (h.2.2 k hk)⟩
theorem CompRow.mono {p q : Nat → Prop} {r : RC} {v : Value} (h : CompRow w p r v) (hpq : ∀ k, k < w.heap.size → Blk v k → p k → q k) : CompRow w q r v := by
  cases r with
  | mp n m =>
    obtain ⟨b, es, clock, rfl, h1, h2, h3⟩ := h
    exact ⟨b, es, clock, rfl, hpq b (heap_lt h2) rfl h1, h2, h3⟩
  | grp e m' fs n m =>
    obtain ⟨g, A, b, es, clock, t, rfl, h1, h2, h3, h4, h5, h6⟩ := h
    exact ⟨g, A, b, es, clock, t, rfl, hpq g (heap_lt h2) ⟨0, _, rfl, rfl⟩ h1, h2, h3.mono (fun k hlt hb hp => hpq k hlt ⟨1, _, rfl, hb⟩ hp), hpq b (heap_lt h5) ⟨2, _, rfl, rfl⟩ h4, h5, h6⟩
  | rows e f ll =>
    obtain ⟨O, Is, rfl, hr⟩ := h
    exact ⟨O, Is, rfl, hr.len, hr.outer, fun k hb => hpq k (ownsRow_blk hr.outer hb) (Blk.of_tuple (j := 0) rfl hb) (hr.oin k hb), fun j l hj => by
      obtain ⟨I, hI, hf⟩ := hr.inner j l hj
      exact ⟨I, hI, hf.mono fun k hlt hb hp => hpq k hlt (Blk.of_tuple (j := j + 1) (by simpa using hI) hb) hp⟩, hr.apart, hr.oapart⟩
  | vwp e m' R B =>
    obtain ⟨W, V, rfl, h1, h2, h3⟩ := h
    exact ⟨W, V, rfl, ⟨h1.1.mono fun k hb hp => hpq k (h1.2 k hb).2 ⟨1, _, rfl, hb⟩ hp, fun k hb => ⟨hpq k (h1.2 k hb).2 ⟨1, _, rfl, hb⟩ (h1.2 k hb).1, (h1.2 k hb).2⟩⟩, h2.mono (fun k hlt hb hp => hpq k hlt ⟨2, _, rfl, hb⟩ hp), h3⟩
  | _ => exact h.elim
theorem OwnsRow.blk {in_ : Nat → Prop} {r : RC} {v : Value} (h : OwnsRow w in_ r v) {k : Nat} (hk : Blk v k) : in_ k ∧ k < w.heap.size := by
  cases hf : r.flat with
  | true => have h' := (OwnsRow.flat hf).1 h; exact h'.blk (h'.thin.1 hk)
  | false => exact ((OwnsRow.comp hf).1 h).blk hk
theorem OwnsRow.chg {in_ : Nat → Prop} {r : RC} {v : Value} (h : OwnsRow w in_ r v) (hk : ∀ k, Blk v k → w'.heap[k]? = w.heap[k]?) : OwnsRow w' in_ r v := by
  cases hf : r.flat with
  | true => have h' := (OwnsRow.flat hf).1 h; exact (OwnsRow.flat hf).2 (h'.chg fun k hb => hk k (h'.thin.2 hb))
  | false => exact (OwnsRow.comp hf).2 (((OwnsRow.comp hf).1 h).chg hk)

/-- The block of an entry of one's own: it is one's own, and it is there. -/
theorem holds_own {h : Nat} {e : Entry} (he : e.holds c w ρ h) (ho : e.isOwn = true) : ∀ k, Blk (ρ h) k → c.own k ∧ k < w.heap.size := by
  intro k hk
  cases e with
  | ro r => cases ho
  | to d => cases ho
  | t1 d => cases ho
  | row r => exact OwnsRow.blk he hk
  | ibox t l =>
    obtain ⟨g, hv, hg, hh⟩ := he
    rw [hv] at hk; simp [Blk, blkOf] at hk; subst hk
    exact ⟨hg, heap_lt hh⟩
  | box t cs =>
    obtain ⟨g, arr, hv, hg, hh, _⟩ := he
    rw [hv] at hk; simp [Blk, blkOf] at hk; subst hk
    exact ⟨hg, heap_lt hh⟩

/-- An entry goes on to hold where its block has not changed and what it names reads as it did. -/
theorem holds_keep {h : Nat} {e : Entry} (he : e.holds c w ρ h) (hf : Frame0 c w) (ch : Chg w w' D) (hD : ∀ k, D k → c.own k)
    (ho : e.isOwn = true → ∀ k, Blk (ρ h) k → ¬ D k) (hρ : ρ' h = ρ h) (hm : ∀ x ∈ e.hs, ρ' x = ρ x) : e.holds c w' ρ' h := by
  have key : e.isOwn = true → ∀ k, Blk (ρ h) k → w'.heap[k]? = w.heap[k]? := fun hi k hk =>
    ch.block k (holds_own he hi k hk).2 (ho hi k hk)
  cases e with
  | ibox t l =>
    obtain ⟨g, hv, hg, hh⟩ := he
    exact ⟨g, by rw [hρ]; exact hv, hg, (key rfl g (by rw [hv]; rfl)).trans hh⟩
  | box t cs =>
    obtain ⟨g, arr, hv, hg, hh, hs, hj⟩ := he
    refine ⟨g, arr, by rw [hρ]; exact hv, hg, (key rfl g (by rw [hv]; rfl)).trans hh, hs, fun j a ha => ?_⟩
    obtain ⟨v, h1, h2⟩ := hj j a ha
    exact ⟨v, h1, A0.rel_congr (fun x hx => hm x (List.mem_flatMap.2 ⟨a, List.mem_of_getElem? ha, hx⟩)) h2⟩
  | row r =>
    show OwnsRow w' c.own r (ρ' h)
    rw [hρ]
    exact OwnsRow.chg he (key rfl)
  | t1 d =>
    show seg (ρ' h) 1 = seg (ρ' d) 1
    rw [hρ, hm d (by simp [Entry.hs])]
    exact he
  | to d =>
    show hdV (ρ' h) = hdV (ρ' d)
    rw [hρ, hm d (by simp [Entry.hs])]
    exact he
  | ro r =>
    show ReadsRow w' (fun k => k < c.w0.heap.size ∧ ¬ c.X k) r (ρ' h)
    rw [hρ]
    have hblk : ∀ k, k < c.w0.heap.size → ¬ c.X k → w'.heap[k]? = w.heap[k]? := fun k hk hx => ch.block _ (Nat.lt_of_lt_of_le hk hf.size) (fun hd => by
      rcases hD _ hd with h1 | h1
      · omega
      · exact hx h1)
    cases hfl : r.flat with
    | false =>
      have h1 := (ReadsRow.comp hfl).1 (show ReadsRow _ _ _ _ from he)
      exact (ReadsRow.comp hfl).2 (h1.chg fun k hk => hblk k (h1.blk hk).1.1 (h1.blk hk).1.2)
    | true =>
    obtain ⟨hwf, A, n, cap, hv, hn, hc, hm', hr⟩ := (ReadsRow.flat hfl).1 (show ReadsRow _ _ _ _ from he)
    refine (ReadsRow.flat hfl).2 ⟨hwf, A, n, cap, hv, hn, hc, hm', fun h0 => ?_⟩
    obtain ⟨a, hA, hin, hcell⟩ := hr h0
    refine ⟨a, hA, hin, fun j u hu => ?_⟩
    have hb : (a.add j).block = a.block := by unfold Addr.add; split <;> rfl
    rw [World.cell?_of_block (w := w) (by rw [hb]; exact hblk _ hin.1 hin.2)]
    exact hcell j u hu

theorem put_tmps (a : Act) (dst : Option Nat) (v : Value) (s : Nat) (hd : ∀ d, dst = some d → d < a.tmps.size) : (a.put dst v).tmps.getD s undef = if dst = some s then v else a.tmps.getD s undef := by
  cases dst with
  | none => simp [Act.put]
  | some d =>
    have := hd d rfl
    by_cases h : d = s
    · subst h; simp [Act.put, this]
    · have h' : ¬ some d = some s := by simpa using h
      simp [Act.put, h', Array.getElem?_setIfInBounds_ne h]
theorem put_size (a : Act) (dst : Option Nat) (v : Value) : (a.put dst v).tmps.size = a.tmps.size := by cases dst <;> simp [Act.put]
theorem put_defs (a : Act) (dst : Option Nat) (v : Value) : (a.put dst v).defers = a.defers := by cases dst <;> rfl

/-- THE GENERAL STEP: the world has changed in blocks of one's own alone; the handles that are written are new ones, or their old entries are gone; every other entry of one's own lies outside the changed blocks. -/
theorem SatR.step {a : Act} {dst : Option Nat} {val : AV} {wr : Wr} {v : Value} (h : SatR c S ρ a.tmps w) (hd : ∀ d, dst = some d → d < a.tmps.size)
    (ch : Chg w w' D) (hD : ∀ k, D k → c.own k)
    (hρ : ∀ x, ρ' x ≠ ρ x → S.Fresh c x)
    (hρw : ∀ x, x ∉ wrHs wr → ρ' x = ρ x)
    (hout : ∀ x e, S.mem x = some e → e.isOwn = true → x ∉ wrHs wr → ∀ k, Blk (ρ x) k → ¬ D k)
    (hnew : ∀ x e, look x wr = some (some e) → e.holds c w' ρ' x)
    (hsep : ∀ x e, look x wr = some (some e) → e.isOwn = true → ∀ k, Blk (ρ' x) k → (∀ y e', S.mem y = some e' → e'.isOwn = true → y ∉ wrHs wr → ¬ Blk (ρ y) k) ∧ (∀ y e', look y wr = some (some e') → e'.isOwn = true → y ≠ x → ¬ Blk (ρ' y) k))
    (hval : val.rel ρ' v) : SatR c (S.apply dst val wr) ρ' (a.put dst v).tmps w' := by
  have hnm : ∀ s, ∀ x ∈ (S.fr s).hs, ρ' x = ρ x := fun s x hx => Classical.byContradiction fun hne => (hρ x hne).fr s hx
  have hem : ∀ y e, S.mem y = some e → ∀ x ∈ e.hs, ρ' x = ρ x := fun y e he x hx => Classical.byContradiction fun hne => (hρ x hne).ent y e he hx
  refine ⟨fun s => ?_, fun x e hx => ?_, fun x y e e' hx hy ho ho' hne k hk => ?_, h.frame.chg ch hD, fun p hp => ?_, h.inX⟩
  · rw [put_tmps a dst v s hd]
    simp only [SS.apply]
    by_cases hs : dst = some s
    · simp only [hs, if_true]; exact hval
    · simp only [hs, if_false]
      exact AV.rel_congr (hnm s) (h.fr s)
  · simp only [SS.apply] at hx
    cases hl : look x wr with
    | some oe =>
      rw [hl] at hx
      simp only at hx
      subst hx
      exact hnew x e hl
    | none =>
      rw [hl] at hx
      have hnot : x ∉ wrHs wr := (look_none_iff x wr).1 hl
      exact holds_keep (h.mem x e hx) h.frame ch hD (fun hi => hout x e hx hi hnot) (hρw x hnot) (hem x e hx)
  · simp only [SS.apply] at hx hy
    cases hlx : look x wr with
    | some oe =>
      rw [hlx] at hx; simp only at hx; subst hx
      have hs := hsep x e hlx ho k hk
      cases hly : look y wr with
      | some oe' =>
        rw [hly] at hy; simp only at hy; subst hy
        exact hs.2 y e' hly ho' (fun e => hne e.symm)
      | none =>
        rw [hly] at hy
        have hnot : y ∉ wrHs wr := (look_none_iff y wr).1 hly
        rw [hρw y hnot]
        exact hs.1 y e' hy ho' hnot
    | none =>
      rw [hlx] at hx
      have hnot : x ∉ wrHs wr := (look_none_iff x wr).1 hlx
      rw [hρw x hnot] at hk
      cases hly : look y wr with
      | some oe' =>
        rw [hly] at hy; simp only at hy; subst hy
        intro hk'
        exact (hsep y e' hly ho' k hk').1 x e hx ho hnot hk
      | none =>
        rw [hly] at hy
        have hnot' : y ∉ wrHs wr := (look_none_iff y wr).1 hly
        rw [hρw y hnot']
        exact h.sep x y e e' hx hy ho ho' hne k hk
  · refine (Classical.byContradiction fun hne => ?_ : ρ' p.1 = ρ p.1).trans (h.pin p hp)
    exact (hρ p.1 hne).pin p hp rfl

/-- A value into a slot. -/
theorem SatR.val {a : Act} {dst : Option Nat} {val : AV} {v : Value} (h : SatR c S ρ a.tmps w) (hd : ∀ d, dst = some d → d < a.tmps.size) (hv : val.rel ρ v) :
    SatR c (S.apply dst val []) ρ (a.put dst v).tmps w :=
  h.step hd (Chg.refl w (fun _ => False)) (fun _ hk => hk.elim) (fun _ hne => absurd rfl hne) (fun _ _ => rfl) (fun _ _ _ _ _ _ _ hk => hk) (fun x e hx => by simp [look] at hx) (fun x e hx => by simp [look] at hx) hv

theorem SatR.blk_lt (h : SatR c S ρ tmps w) {x : Nat} {e : Entry} (hx : S.mem x = some e) (ho : e.isOwn = true) {k : Nat} (hk : Blk (ρ x) k) : k < w.heap.size := (holds_own (h.mem x e hx) ho k hk).2

def upd (ρ : Nat → Value) (d : Nat) (v : Value) : Nat → Value := fun x => if x = d then v else ρ x
theorem upd_same (ρ : Nat → Value) (d : Nat) (v : Value) : upd ρ d v d = v := by simp [upd]
theorem upd_ne {ρ : Nat → Value} {d : Nat} {v : Value} {x : Nat} (h : x ≠ d) : upd ρ d v x = ρ x := by simp [upd, h]

/-- A new block, its handle a new one. -/
theorem SatR.alloc {a : Act} {d : Nat} {e : Entry} {o : Obj} {v u : Value} {val : AV} (h : SatR c S ρ a.tmps w) (hd : d < a.tmps.size) (hf : S.Fresh c d)
    (hb : ∀ k, Blk u k → k = w.heap.size) (he : e.holds c (w.alloc o) (upd ρ d u) d) (hv : val.rel (upd ρ d u) v) :
    SatR c (S.apply (some d) val [(d, some e)]) (upd ρ d u) (a.put (some d) v).tmps (w.alloc o) := by
  refine h.step (fun x hx => by cases hx; exact hd) (Chg.alloc w o) (fun _ hk => hk.elim) (fun x hne => ?_) (fun x hx => ?_) (fun _ _ _ _ _ _ _ hk => hk) (fun x e' hx => ?_) (fun x e' hx ho k hk => ⟨fun y e'' hy ho' hnot => ?_, fun y e'' hy ho' hne => ?_⟩) hv
  · by_cases hx : x = d
    · subst hx; exact hf
    · exact absurd (upd_ne hx) hne
  · exact upd_ne (by simpa [wrHs] using hx)
  · by_cases hxd : d = x
    · subst hxd
      simp [look_one] at hx
      subst hx
      exact he
    · simp [look_one, hxd] at hx
  · intro hk'
    have hlt := h.blk_lt hy ho' hk'
    by_cases hxd : d = x
    · subst hxd
      rw [upd_same] at hk
      have := hb k hk
      omega
    · simp [look_one, hxd] at hx
  · by_cases hxd : d = x
    · subst hxd
      by_cases hyd : d = y
      · subst hyd; exact absurd rfl hne
      · simp [look_one, hyd] at hy
    · simp [look_one, hxd] at hx

/-- A block of one's own is written over; its handle's entry is the new one. -/
theorem SatR.write {a : Act} {hh : Nat} {e e' : Entry} {g : Nat} {cs : Array Value} {dst : Option Nat} {val : AV} {v : Value} (h : SatR c S ρ a.tmps w) (hd : ∀ d, dst = some d → d < a.tmps.size)
    (hm : S.mem hh = some e) (ho : e.isOwn = true) (hb : Blk (ρ hh) g) (he : e'.holds c (w.setRow g cs) ρ hh) (hv : val.rel ρ v) :
    SatR c (S.apply dst val [(hh, some e')]) ρ (a.put dst v).tmps (w.setRow g cs) := by
  refine h.step hd (Chg.setRow w g cs) (fun k hk => by subst hk; exact (holds_own (h.mem hh e hm) ho _ hb).1) (fun x hne => absurd rfl hne) (fun x hx => rfl)
    (fun x e'' hx ho' hnot k hk hkg => ?_) (fun x e'' hx => ?_) (fun x e'' hx ho' k hk => ⟨fun y e3 hy ho3 hnot => ?_, fun y e3 hy ho3 hne => ?_⟩) hv
  · subst hkg
    have hne : x ≠ hh := by simpa [wrHs] using hnot
    exact h.sep x hh e'' e hx hm ho' ho hne _ hk hb
  · by_cases hxd : hh = x
    · subst hxd
      simp [look_one] at hx
      subst hx
      exact he
    · simp [look_one, hxd] at hx
  · by_cases hxd : hh = x
    · subst hxd
      have hne : y ≠ hh := by simpa [wrHs] using hnot
      intro hk'
      exact h.sep y hh e3 e hy hm ho3 ho hne k hk' hk
    · simp [look_one, hxd] at hx
  · by_cases hxd : hh = x
    · subst hxd
      by_cases hyd : hh = y
      · subst hyd; exact absurd rfl hne
      · simp [look_one, hyd] at hy
    · simp [look_one, hxd] at hx
end

end Go.Proofs.Ytclpoenfcpefmaa

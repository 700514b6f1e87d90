/-
Each effect of the abstract machine is sound: boxes, loads, stores, structs. Conditions: none; this text proves nothing of the program. Each effect of the abstract machine is sound: loads, stores, structs made and compared. Conditions: none; this text proves nothing of the program. Each effect of the abstract machine is sound: stores, structs made and compared. Conditions: none; this text proves nothing of the program. Each effect of the abstract machine is sound: structs made and compared, slices. Conditions: none; this text proves nothing of the program.
-/
import Derived.Test.YtacomnelongbjabGood
namespace Go.Proofs.Ytacomnelongbjab
open Go Go.RowKit

section
variable {c : Ctx} {ops : Array Oper} {o : Oper} {S : St} {R : List Nat}

theorem fresh_of {S' : SS} {wr : Wr} (hfr : ∀ x ∈ wrHs wr, x ∉ R → S'.Fresh c x) {d : Nat} {e : Option Entry} (hw : wr = [(d, e)]) (hR : d ∉ R) : S'.Fresh c d := hfr d (by simp [hw, wrHs]) hR

theorem addTo_ptr (g k : Nat) : addTo (.pointer (some ⟨g, 0, none⟩)) k = .pointer (some ⟨g, k, none⟩) := by simp [addTo, add0]

theorem ibox_holds {c : Ctx} {w : World} {ρ : Nat → Value} {d t : Nat} {l : List Int} {cs : Array Value} (hc : cs = (l.map vI).toArray) (hf : Frame0 c w) :
    (Entry.ibox t l).holds c (w.alloc (.cells cs t)) (upd ρ d (.pointer (some ⟨w.heap.size, 0, none⟩))) d := by
  subst hc
  exact ⟨w.heap.size, upd_same _ _ _, .inl hf.size, heap_alloc_new w _⟩
theorem box1_holds {c : Ctx} {w : World} {ρ : Nat → Value} {d t : Nat} {a0 : A0} {v : Value} (hf : Frame0 c w) (hr : ∀ ρ, a0.rel ρ v) (hv : v.cells = #[v]) :
    (Entry.box t [a0]).holds c (w.alloc (.cells v.cells t)) (upd ρ d (.pointer (some ⟨w.heap.size, 0, none⟩))) d := by
  refine ⟨w.heap.size, #[v], upd_same _ _ _, .inl hf.size, by rw [hv]; exact heap_alloc_new w _, rfl, fun j a ha => ?_⟩
  cases j with
  | zero =>
    simp at ha; subst ha
    exact ⟨v, rfl, hr _⟩
  | succ j => simp at ha
theorem ref_rel (ρ : Nat → Value) (d g : Nat) : (AV.one (.ref d 0)).rel (upd ρ d (.pointer (some ⟨g, 0, none⟩))) (.pointer (some ⟨g, 0, none⟩)) := by
  simp [AV.rel, A0.rel, A0.conc, upd_same, addTo_ptr]

/-- A new box. -/
theorem good_newbox {d : Nat} {en : Entry} (hN : ∀ d, o.dst = some d → d < c.N) (hw : Wanted c ops o S) (hd : o.dst = some d) (hR : d ∉ R)
    (h : ∀ ρ (a : Act) w, (∀ x ∈ o.op.operands.toList, (S.eval x).rel ρ (a.eval x)) → Frame0 c w → ∃ cs t, (execOp a.eval o).run c.P w = .ok (.value (.pointer (some ⟨w.heap.size, 0, none⟩))) (w.alloc (.cells cs t)) ∧
      en.norm.holds c (w.alloc (.cells cs t)) (upd ρ d (.pointer (some ⟨w.heap.size, 0, none⟩))) d) : Good c ops o (den S) R (AV.one (.ref d 0)) (normWr [(d, some en)]) := by
  refine good_of hN hw fun S' ρ a w hag hfr hs hdl => ?_
  obtain ⟨cs, t, hr, hh⟩ := h ρ a w (fun x hx => eval_rel hag hs hx) hs.frame
  refine ⟨_, _, upd ρ d (.pointer (some ⟨w.heap.size, 0, none⟩)), .inl hr, ?_⟩
  rw [hd]
  exact hs.alloc (hdl d hd) (hfr d (by simp [wrHs, normWr]) hR) (fun k hk => by simpa [Blk, blkOf] using hk.symm) hh (ref_rel ρ d _)

theorem good_box {t : Nat} {x : Operand} {e : Eff} (hN : ∀ d, o.dst = some d → d < c.N) (hw : Wanted c ops o S) (hop : o.op = .box t x) (he : effBox t o.dst (S.eval x) = some e) (hR : ∀ d, o.dst = some d → d ∉ R) : Good c ops o (den S) R e.val.norm (normWr e.wr) := by
  unfold effBox at he
  split at he
  · rename_i d l hd hx
    cases he
    refine good_newbox hN hw hd (hR d hd) fun ρ a w hxx hf => ?_
    have h1 := hxx x (by simp [hop, Op.operands])
    rw [hx] at h1
    exact ⟨_, t, by simp [execOp, hop, run_box]; rfl, ibox_holds (by rw [rel_s h1]; rfl) hf⟩
  · rename_i d l hd hx
    cases he
    refine good_newbox hN hw hd (hR d hd) fun ρ a w hxx hf => ?_
    have h1 := hxx x (by simp [hop, Op.operands])
    rw [hx] at h1
    exact ⟨_, t, by simp [execOp, hop, run_box]; rfl, ibox_holds (by rw [rel_i h1]; rfl) hf⟩
  · rename_i d l hd hx
    cases he
    refine good_newbox hN hw hd (hR d hd) fun ρ a w hxx hf => ?_
    have h1 := hxx x (by simp [hop, Op.operands])
    rw [hx] at h1
    exact ⟨_, t, by simp [execOp, hop, run_box]; rfl, box1_holds hf (fun ρ => by rw [rel_b h1]; rfl) (by rw [rel_b h1]; rfl)⟩
  · rename_i d hd hx
    cases he
    refine good_newbox hN hw hd (hR d hd) fun ρ a w hxx hf => ?_
    have h1 := hxx x (by simp [hop, Op.operands])
    rw [hx] at h1
    have h2 : a.eval x = .bool true := h1
    exact ⟨_, t, by simp [execOp, hop, run_box]; rfl, box1_holds hf (fun ρ => by rw [h2]; rfl) (by rw [h2]; rfl)⟩
  · rename_i d hd hx
    cases he
    refine good_newbox hN hw hd (hR d hd) fun ρ a w hxx hf => ?_
    have h1 := hxx x (by simp [hop, Op.operands])
    rw [hx] at h1
    have h2 : a.eval x = .bool false := h1
    exact ⟨_, t, by simp [execOp, hop, run_box]; rfl, box1_holds hf (fun ρ => by rw [h2]; rfl) (by rw [h2]; rfl)⟩
  · cases he

theorem good_alloc {tab : Tab} (hT : TabOk c.P tab) {t : Nat} {e : Eff} (hN : ∀ d, o.dst = some d → d < c.N) (hw : Wanted c ops o S) (hop : o.op = .alloc t) (he : effAlloc t o.dst (look t tab) = some e) (hR : ∀ d, o.dst = some d → d ∉ R) : Good c ops o (den S) R e.val.norm (normWr e.wr) := by
  unfold effAlloc at he
  split at he
  · rename_i d _ _ hd hx
    cases he
    refine good_newbox hN hw hd (hR d hd) fun ρ a w hxx hf => ?_
    obtain ⟨_, _, i, hi, _, _, hz⟩ := tiB_int (hT _ _ hx)
    exact ⟨_, t, by simp [execOp, hop, run_alloc hi hz]; rfl, ibox_holds rfl hf⟩
  · rename_i d _ _ hd hx
    cases he
    refine good_newbox hN hw hd (hR d hd) fun ρ a w hxx hf => ?_
    obtain ⟨_, _, i, hi, _, _, hz⟩ := tiB_bool (hT _ _ hx)
    exact ⟨_, t, by simp [execOp, hop, run_alloc hi hz, Value.cells], box1_holds hf (fun ρ => rfl) rfl⟩
  · rename_i d _ _ _ hd hx
    cases he
    refine good_newbox hN hw hd (hR d hd) fun ρ a w hxx hf => ?_
    obtain ⟨F, i, _, hi, _, _, hz, _⟩ := tiB_struct (hT _ _ hx)
    exact ⟨_, t, by simp [execOp, hop, run_alloc hi hz]; rfl, ibox_holds (by simp [Value.cells]) hf⟩
  · rename_i d _ _ _ _ hd hx
    cases he
    refine good_newbox hN hw hd (hR d hd) fun ρ a w hxx hf => ?_
    obtain ⟨i, ei, _, hi, _, _, hz, _⟩ := tiB_array (hT _ _ hx)
    exact ⟨_, t, by simp [execOp, hop, run_alloc hi hz]; rfl, ibox_holds (by simp [Value.cells]) hf⟩
  · cases he


/-- What the handle of an entry is, and that its cells lie there. -/
theorem ibox_at {S' : SS} {ρ : Nat → Value} {tmps : Array Value} {w : World} (hs : SatR c S' ρ tmps w) {h t : Nat} {l : List Int} (hm : S'.mem h = some (.ibox t l)) :
    ∃ g, ρ h = .pointer (some ⟨g, 0, none⟩) ∧ w.heap[g]? = some (.cells (l.map vI).toArray t (0, 0)) := by
  obtain ⟨g, h1, _, h3⟩ := hs.mem h _ hm
  exact ⟨g, h1, h3⟩
theorem box_at {S' : SS} {ρ : Nat → Value} {tmps : Array Value} {w : World} (hs : SatR c S' ρ tmps w) {h t : Nat} {cs : List A0} (hm : S'.mem h = some (.box t cs)) :
    ∃ g arr, ρ h = .pointer (some ⟨g, 0, none⟩) ∧ w.heap[g]? = some (.cells arr t (0, 0)) ∧ arr.size = cs.length ∧ ∀ (j : Nat) (a : A0), cs[j]? = some a → ∃ v, arr[j]? = some v ∧ a.rel ρ v := by
  obtain ⟨g, arr, h1, _, h3⟩ := hs.mem h _ hm
  exact ⟨g, arr, h1, h3⟩
/-- A row with at least one element lies somewhere, and its cells can be read. -/
theorem row_at {S' : SS} {ρ : Nat → Value} {tmps : Array Value} {w : World} (hs : SatR c S' ρ tmps w) {h : Nat} {r : RC} {en : Entry} (hm : S'.mem h = some en) (hr : entryRow (some en) = some r) :
    r.wf ∧ ∃ A n cap, ρ h = .slice A n cap ∧ n = r.len ∧ n ≤ cap ∧ cap ≤ maxLen ∧ (0 < n → ∃ a, A = some a ∧ ∀ j u, r.cells[j]? = some u → w.cell? (a.add j) = some u) := by
  have hh := hs.mem h _ hm
  cases en with
  | ibox t l => cases hr
  | to d => cases hr
  | t1 d => cases hr
  | st l => cases hr
  | cu l a s => cases hr
  | box t l => cases hr
  | ro r' =>
    cases hf : r'.flat with
    | false => simp [entryRow, hf] at hr
    | true =>
    simp only [entryRow, hf, cond_true, Option.some.injEq] at hr; subst hr
    obtain ⟨hwf, A, n, cap, h1, h2, h3, h4, h5⟩ := (ReadsRow.flat hf).1 hh
    exact ⟨hwf, A, n, cap, h1, h2, h3, h4, fun h0 => by obtain ⟨a, h6, _, h7⟩ := h5 h0; exact ⟨a, h6, h7⟩⟩
  | row r' =>
    cases hf : r'.flat with
    | false => simp [entryRow, hf] at hr
    | true =>
    simp only [entryRow, hf, cond_true, Option.some.injEq] at hr; subst hr
    obtain ⟨hwf, hown, _⟩ := (OwnsRow.flat hf).1 hh
    refine ⟨hwf, ?_⟩
    rcases hown.2 with ⟨hv, hn⟩ | ⟨g, cap, cur, hv, _, hg, hnc, hcm, _⟩
    · exact ⟨none, 0, 0, hv, hn.symm, Nat.le_refl _, Nat.zero_le _, fun h0 => absurd h0 (by omega)⟩
    · exact ⟨_, _, cap, hv, rfl, hnc, hcm, fun _ => ⟨_, rfl, hown.cells (g := g) (by rw [hv]; rfl)⟩⟩

theorem add_add (b : Addr) (n m : Nat) : (b.add n).add m = b.add (n + m) := by
  unfold Addr.add
  by_cases hn : n = 0 <;> by_cases hm : m = 0 <;> simp [hn, hm, Nat.add_assoc]
theorem addTo_pointer (a : Addr) (n : Nat) : addTo (.pointer (some a)) n = .pointer (some (a.add n)) := rfl
theorem addTo_slice (a : Addr) (n k m : Nat) : addTo (.slice (some a) k m) n = .pointer (some (a.add n)) := rfl

/-- What a handle of several values is. -/
theorem comp_at {S' : SS} {ρ : Nat → Value} {tmps : Array Value} {w : World} (hs : SatR c S' ρ tmps w) {h : Nat} {r : RC} {en : Entry} (hm : S'.mem h = some en) (hr : compOf (some en) = some r) : ∃ in_, CompRow w in_ r (ρ h) ∧ r.flat = false := by
  have hh := hs.mem h _ hm
  cases en with
  | ibox t l => cases hr
  | to d => cases hr
  | t1 d => cases hr
  | st l => cases hr
  | cu l a s => cases hr
  | box t l => cases hr
  | ro r' =>
    cases hf : r'.flat with
    | true => simp [compOf, hf] at hr
    | false =>
    simp only [compOf, hf, cond_false, Option.some.injEq] at hr; subst hr
    exact ⟨_, (ReadsRow.comp hf).1 hh, hf⟩
  | row r' =>
    cases hf : r'.flat with
    | true => simp [compOf, hf] at hr
    | false =>
    simp only [compOf, hf, cond_false, Option.some.injEq] at hr; subst hr
    exact ⟨_, (OwnsRow.comp hf).1 hh, hf⟩
theorem compOf_look {S : St} {h : Nat} {r : RC} (hr : compOf (look h S.mem) = some r) : ∃ en, look h S.mem = some en ∧ compOf (some en) = some r ∧ en.norm = en := by
  cases hl : look h S.mem with
  | none => rw [hl] at hr; simp [compOf] at hr
  | some en =>
    rw [hl] at hr
    refine ⟨en, rfl, hr, ?_⟩
    cases en <;> first | rfl | (simp [compOf] at hr)
/-- A handle of the state's own list. -/
theorem comp_of {S' : SS} {ρ : Nat → Value} {a : Act} {w : World} {h : Nat} {r : RC} (hag : Agree ops o R (den S) S') (hs : SatR c S' ρ a.tmps w) (hh : h ∈ R) (hr : compOf (look h S.mem) = some r) : ∃ in_, CompRow w in_ r (ρ h) := by
  obtain ⟨en, h1, h2, h3⟩ := compOf_look hr
  have hm := mem_at hag hh h1
  rw [h3] at hm
  obtain ⟨p, h4, _⟩ := comp_at hs hm h2
  exact ⟨p, h4⟩

theorem good_fieldTwo {tab : Tab} (hT : TabOk c.P tab) {t f ft gt : Nat} {sz by_ : Nat} {x : Operand} {e : Eff} (hN : ∀ d, o.dst = some d → d < c.N) (hw : Wanted c ops o S) (hop : o.op = .fieldAddr t x f) (hti : look t tab = some ⟨.two ft gt, sz, by_⟩) (he : fieldTwo S (S.eval x) f = some e) (hR : ∀ h ∈ (S.eval x).hs, h ∈ R) : Good c ops o (den S) R e.val.norm (normWr e.wr) := by
  unfold fieldTwo at he
  split at he
  case h_2 => cases he
  rename_i h hx
  split at he
  case h_2 => cases he
  rename_i _ _ _ _ _ hr
  cases hb : Nat.blt f 2 with
  | false => rw [hb] at he; cases he
  | true =>
  rw [hb] at he
  simp only [cond_true, val1, Option.some.injEq] at he; subst he
  have hf2 : f < 2 := by simpa [Nat.blt_eq] using hb
  obtain ⟨F, i, cs, hu, hi, his, hz, hzs, hF⟩ := tiB_two (hT _ _ hti)
  obtain ⟨fa, fb, hFF, o1, o2, t1, t2, ⟨i1, hi1, hs1⟩, ⟨i2, hi2, hs2⟩⟩ := twoB_spec hF
  refine good_of hN hw fun S' ρ a w hag _ hs hd => ?_
  have h1 := eval_rel hag hs (x := x) (by simp [hop, Op.operands])
  rw [hx] at h1
  have h1' : a.eval x = hdV (ρ h) := h1
  obtain ⟨in_, g, A, b, es, clock, t', hv, _, hg, _⟩ := comp_of hag hs (hR h (by rw [hx]; simp [AV.hs, A0.hs])) hr
  have hev : a.eval x = .pointer (some ⟨g, 0, none⟩) := by rw [h1', hv]; rfl
  have run : (execOp a.eval o).run c.P w = .ok (.value (.pointer (some ⟨g, f, none⟩))) w := by
    have hFa : F = #[fa, fb] := by apply Array.ext'; simpa using hFF
    rcases (by omega : f = 0 ∨ f = 1) with rfl | rfl
    · have := run_fieldAt (P := c.P) (w := w) (a := ⟨g, 0, none⟩) (f := 0) (fd := fa) hu (by rw [hFa]; rfl) (by rw [t1]; exact hi1) (by omega)
      simp [execOp, hop, hev, this, o1, add0]
    · have := run_fieldAt (P := c.P) (w := w) (a := ⟨g, 0, none⟩) (f := 1) (fd := fb) hu (by rw [hFa]; rfl) (by rw [t2]; exact hi2) (by omega)
      simp [execOp, hop, hev, this, o2, add0]
  refine ⟨_, w, ρ, .inl run, hs.val hd ?_⟩
  show _ = addTo (seg (ρ h) 0) f
  rw [hv]
  exact (addTo_ptr g f).symm

theorem good_field {tab : Tab} (hT : TabOk c.P tab) {t f : Nat} {x : Operand} {e : Eff} (hN : ∀ d, o.dst = some d → d < c.N) (hw : Wanted c ops o S) (hop : o.op = .fieldAddr t x f) (he : effField (look t tab) S (S.eval x) f = some e) (hp : e.pre) (hR : ∀ h ∈ (S.eval x).hs, h ∈ R) : Good c ops o (den S) R e.val.norm (normWr e.wr) := by
  unfold effField at he
  split at he
  case h_2 =>
    split at he
    · rename_i hti
      exact good_fieldTwo hT hN hw hop hti he hR
    · cases he
  rename_i p hoff
  unfold fieldOff at hoff
  split at hoff
  case h_2 => cases hoff
  rename_i fs _ _ hti
  obtain ⟨F, i, hu, hi, _, _, _, hfs, _⟩ := tiB_struct (hT _ _ hti)
  obtain ⟨hl, hat⟩ := fieldsB_at hfs
  simp only [Option.map_eq_some_iff] at hoff
  obtain ⟨pq, hpq, rfl⟩ := hoff
  obtain ⟨fd, fi, hF, hfo, hfi, hfs', hpos, _⟩ := hat f pq hpq
  have hF' : F[f]? = some fd := by simpa using hF
  have hpos' : 0 < fi.size := by omega
  have run : ∀ (a : Act) (w : World) (ad : Addr), a.eval x = .pointer (some ad) → (execOp a.eval o).run c.P w = .ok (.value (.pointer (some (ad.add pq.1)))) w := by
    intro a w ad ha
    simp [execOp, hop, ha, run_fieldAt hu hF' hfi hpos', hfo]
  have main : ∀ (h : Nat) (a0 a1 : A0), S.eval x = .one a0 → h ∈ a0.hs → e.val = .one a1 → e.wr = [] →
      (∀ (S' : SS) (ρ : Nat → Value) (a : Act) (w : World), Agree ops o R (den S) S' → SatR c S' ρ a.tmps w → ∃ ad : Addr, a0.conc ρ = .pointer (some ad) ∧ a1.conc ρ = .pointer (some (ad.add pq.1))) →
      (∀ ρ v, v = a0.conc ρ ↔ a0.rel ρ v) → (∀ ρ v, v = a1.conc ρ ↔ a1.rel ρ v) → Good c ops o (den S) R e.val.norm (normWr e.wr) := by
    intro h a0 a1 hx _ hv hwr hk hr0 hr1
    rw [hv, hwr]
    refine good_of hN hw fun S' ρ a w hag _ hs hd => ?_
    have h1 := eval_rel hag hs (x := x) (by simp [hop, Op.operands])
    rw [hx] at h1
    have h1' : a.eval x = a0.conc ρ := (hr0 ρ _).2 h1
    obtain ⟨ad, ha0, ha1⟩ := hk S' ρ a w hag hs
    refine ⟨_, w, ρ, .inl (run a w ad (h1'.trans ha0)), hs.val hd ((AV.rel_norm ρ _ _).2 ((hr1 ρ _).1 ha1.symm))⟩
  split at he
  · rename_i h off hx
    split at he
    · rename_i hm; cases he
      refine main h _ _ hx (by simp [A0.hs]) rfl rfl (fun S' ρ a w hag hs => ?_) (fun _ _ => Iff.rfl) (fun _ _ => Iff.rfl)
      obtain ⟨g, h1, _⟩ := ibox_at hs (mem_at hag (hR h (by rw [hx]; simp [AV.hs, A0.hs])) hm)
      exact ⟨(⟨g, 0, none⟩ : Addr).add off, by simp only [A0.conc, h1, addTo_pointer], by simp only [A0.conc, h1, addTo_pointer, add_add]⟩
    · rename_i hm; cases he
      refine main h _ _ hx (by simp [A0.hs]) rfl rfl (fun S' ρ a w hag hs => ?_) (fun _ _ => Iff.rfl) (fun _ _ => Iff.rfl)
      obtain ⟨g, _, h1, _⟩ := box_at hs (mem_at hag (hR h (by rw [hx]; simp [AV.hs, A0.hs])) hm)
      exact ⟨(⟨g, 0, none⟩ : Addr).add off, by simp only [A0.conc, h1, addTo_pointer], by simp only [A0.conc, h1, addTo_pointer, add_add]⟩
    · cases he
  · rename_i h sz q g0 hx
    split at he
    · rename_i hm; cases he
      refine main h _ _ hx (by simp [A0.hs]) rfl rfl (fun S' ρ a w hag hs => ?_) (fun _ _ => Iff.rfl) (fun _ _ => Iff.rfl)
      obtain ⟨g, h1, _⟩ := ibox_at hs (mem_at hag (hR h (by rw [hx]; simp [AV.hs, A0.hs])) hm)
      exact ⟨(⟨g, 0, none⟩ : Addr).add (q * sz + g0), by simp only [A0.conc, h1, addTo_pointer], by simp only [A0.conc, h1, addTo_pointer, add_add, Nat.add_assoc]⟩
    · rename_i r hm
      cases hfl : r.flat with
      | false => rw [hfl] at he; cases he
      | true =>
      rw [hfl] at he
      simp only [cond_true, Option.some.injEq] at he; subst he
      refine main h _ _ hx (by simp [A0.hs]) rfl rfl (fun S' ρ a w hag hs => ?_) (fun _ _ => Iff.rfl) (fun _ _ => Iff.rfl)
      obtain ⟨_, A, n, cap, h1, h2, _, _, h5⟩ := row_at (r := r) hs (mem_at hag (hR h (by rw [hx]; simp [AV.hs, A0.hs])) hm) (by simp [Entry.norm, entryRow, hfl])
      have hp' : q < r.len := hp
      obtain ⟨ad, hA, _⟩ := h5 (by omega)
      subst hA
      exact ⟨ad.add (q * sz + g0), by simp only [A0.conc, h1, addTo_slice], by simp only [A0.conc, h1, addTo_slice, add_add, Nat.add_assoc]⟩
    · rename_i r hm
      cases hfl : r.flat with
      | false => rw [hfl] at he; cases he
      | true =>
      rw [hfl] at he
      simp only [cond_true, Option.some.injEq] at he; subst he
      refine main h _ _ hx (by simp [A0.hs]) rfl rfl (fun S' ρ a w hag hs => ?_) (fun _ _ => Iff.rfl) (fun _ _ => Iff.rfl)
      obtain ⟨_, A, n, cap, h1, h2, _, _, h5⟩ := row_at (r := r) hs (mem_at hag (hR h (by rw [hx]; simp [AV.hs, A0.hs])) hm) (by simp [Entry.norm, entryRow, hfl])
      have hp' : q < r.len := hp
      obtain ⟨ad, hA, _⟩ := h5 (by omega)
      subst hA
      exact ⟨ad.add (q * sz + g0), by simp only [A0.conc, h1, addTo_slice], by simp only [A0.conc, h1, addTo_slice, add_add, Nat.add_assoc]⟩
    · cases he
  · cases he
end
end Go.Proofs.Ytacomnelongbjab
namespace Go.Proofs.Ytacomnelongbjab
open Go Go.RowKit

theorem flat_at {k : Nat} {d : List Int} : ∀ (l : List (List Int)), (∀ x ∈ l, x.length = k) → ∀ q f, q < l.length → f < k → (l.flatMap fun x => x.map vI)[q * k + f]? = some (vI ((l.getD q d).getD f 0))
  | [], _, q, f, hq, _ => by simp at hq
  | x :: l, h, q, f, hq, hf => by
    have hx : x.length = k := h x (by simp)
    cases q with
    | zero =>
      simp only [List.flatMap_cons, Nat.zero_mul, Nat.zero_add]
      rw [List.getElem?_append_left (by simp; omega)]
      simp [hx, hf]
    | succ q =>
      have ih := flat_at (d := d) l (fun y hy => h y (by simp [hy])) q f (by simpa using hq) hf
      simp only [List.flatMap_cons]
      rw [List.getElem?_append_right (by simp [hx, Nat.succ_mul]; omega)]
      have : (q + 1) * k + f - (x.map vI).length = q * k + f := by simp [hx, Nat.succ_mul]; omega
      rw [this, ih]
      simp
theorem flat_length {k : Nat} : ∀ (l : List (List Int)), (∀ x ∈ l, x.length = k) → (l.flatMap fun x => x.map vI).length = l.length * k
  | [], _ => by simp
  | x :: l, h => by
    have hx : x.length = k := h x (by simp)
    have ih := flat_length l (fun y hy => h y (by simp [hy]))
    simp only [List.flatMap_cons, List.length_append, List.length_map, hx, ih, List.length_cons, Nat.succ_mul]
    omega
theorem RC.wf_flat {r : RC} (h : r.wf) : r.flat = true := by cases r <;> first | rfl | exact h.elim
theorem RC.cells_length {r : RC} (h : r.wf) : r.cells.length = r.len * r.sz := by
  cases r with
  | mp n m => exact h.elim
  | grp e k fs n m => exact h.elim
  | rows e f ll => exact h.elim
  | vwp e k R B => exact h.elim
  | wd e n l => exact h.elim
  | bx e l => exact h.elim
  | clo f e l => exact h.elim
  | ints e l => simp [RC.cells, RC.len, RC.sz]
  | recs e k l => exact flat_length l h.2
  | bools e l => simp [RC.cells, RC.len, RC.sz]

section
variable {c : Ctx} {ops : Array Oper} {o : Oper} {S : St} {R : List Nat}

theorem ibox_cell {w : World} {g t : Nat} {l : List Int} (h : w.heap[g]? = some (.cells (l.map vI).toArray t (0, 0))) (j : Nat) (hj : j < l.length) : w.cell? ⟨g, j, none⟩ = some (vI (l.getD j 0)) := by
  rw [cell_of_row w g j _ t (0, 0) h]
  simp [hj]

/-- A load: what is asked of it. -/
theorem good_load_of {t : Nat} {x : Operand} {av : AV} (hN : ∀ d, o.dst = some d → d < c.N) (hw : Wanted c ops o S) (hop : o.op = .load t x)
    (h : ∀ (S' : SS) (ρ : Nat → Value) (a : Act) (w : World), Agree ops o R (den S) S' → SatR c S' ρ a.tmps w → ∃ v, (Instr.loadAt t (a.eval x)).run c.P w = .ok v w ∧ av.rel ρ v) : Good c ops o (den S) R av.norm [] := by
  refine good_of hN hw fun S' ρ a w hag _ hs hd => ?_
  obtain ⟨v, hr, hv⟩ := h S' ρ a w hag hs
  exact ⟨v, w, ρ, .inl (by simp [execOp, hop, hr]), hs.val hd ((AV.rel_norm ρ _ _).2 hv)⟩

theorem loadR_flat {ti : Option TI} {sz q f : Nat} {r : RC} {e : Eff} (h : loadR ti sz q f r = some e) : r.flat = true := by
  cases r <;> first | rfl | cases h
/-- what a load from a row gives, wherever the row lies -/
theorem loadR_run {P : Program} {w : World} {tab : Tab} (hT : TabOk P tab) {t sz q f : Nat} {r : RC} {e : Eff} (he : loadR (look t tab) sz q f r = some e) (hp : e.pre) (hwf : r.wf) {ad : Addr} (hc : ∀ j v, r.cells[q * sz + f + j]? = some v → w.cell? (ad.add j) = some v) :
    ∃ v, (Instr.loadAt t (.pointer (some ad))).run P w = .ok v w ∧ (∀ ρ, e.val.rel ρ v) ∧ e.wr = [] := by
  unfold loadR at he
  split at he
  · rename_i e0 l
    split at he
    · rename_i hti
      cases hb : (sz == 1 && f == 0) with
      | false => rw [hb] at he; cases he
      | true =>
        rw [hb] at he
        simp only [cond_true, Option.some.injEq] at he; subst he
        simp only [Bool.and_eq_true, beq_iff_eq] at hb
        obtain ⟨hsz, hf⟩ := hb
        have hq : q < l.length := hp
        obtain ⟨hu, _⟩ := tiB_int (hT _ _ hti)
        refine ⟨vI (l.getD q 0), ?_, fun _ => rfl, rfl⟩
        refine run_loadAt_int hu ?_
        have := hc 0 (vI (l.getD q 0)) (by simp [RC.cells, hsz, hf, hq])
        simpa [Addr.add] using this
    · cases he
  · rename_i e0 l
    split at he
    · rename_i hti
      cases hb : (sz == 1 && f == 0) with
      | false => rw [hb] at he; cases he
      | true =>
        rw [hb] at he
        simp only [cond_true, Option.some.injEq] at he; subst he
        simp only [Bool.and_eq_true, beq_iff_eq] at hb
        obtain ⟨hsz, hf⟩ := hb
        have hq : q < l.length := hp
        obtain ⟨hu, _⟩ := tiB_bool (hT _ _ hti)
        refine ⟨.bool (l.getD q false), ?_, fun _ => rfl, rfl⟩
        refine run_loadAt_bool hu ?_
        have := hc 0 (.bool (l.getD q false)) (by simp [RC.cells, hsz, hf, hq])
        simpa [Addr.add] using this
    · cases he
  · rename_i e0 k l
    split at he
    · rename_i hti
      cases hb : (sz == k && Nat.blt f k) with
      | false => rw [hb] at he; cases he
      | true =>
        rw [hb] at he
        simp only [cond_true, Option.some.injEq] at he; subst he
        simp only [Bool.and_eq_true, beq_iff_eq, Nat.blt_eq] at hb
        obtain ⟨hsz, hf⟩ := hb
        have hq : q < l.length := hp
        obtain ⟨hu, _⟩ := tiB_int (hT _ _ hti)
        refine ⟨vI ((l.getD q (List.replicate k 0)).getD f 0), ?_, fun _ => rfl, rfl⟩
        refine run_loadAt_int hu ?_
        have := hc 0 (vI ((l.getD q (List.replicate k 0)).getD f 0)) (by rw [hsz]; exact flat_at l hwf.2 q f hq hf)
        simpa [Addr.add] using this
    · rename_i fs n _ hti
      cases hb : (sz == k && (f == 0 && n == k)) with
      | false => rw [hb] at he; cases he
      | true =>
        rw [hb] at he
        simp only [cond_true, Option.some.injEq] at he; subst he
        simp only [Bool.and_eq_true, beq_iff_eq] at hb
        obtain ⟨hsz, hf, hnk⟩ := hb
        have hq : q < l.length := hp
        obtain ⟨F, i, hu, hi, his, _⟩ := tiB_struct (hT _ _ hti)
        refine ⟨_, ?_, fun _ => rfl, rfl⟩
        refine run_loadAt_agg (run_isAgg_struct hu) hi (by simp; omega) (fun j v hv => hc j v ?_)
        have hj : j < k := by
          have := (List.getElem?_eq_some_iff.1 hv).1
          simpa using this
        rw [hsz, hf, Nat.add_zero]
        have h6 : (l.flatMap fun x => x.map vI)[q * k + j]? = _ := flat_at (d := List.replicate k 0) l hwf.2 q j hq hj
        simp only [RC.cells]
        rw [h6]
        simpa [hj] using hv
    · cases he
  · cases he
/-- the cells of a row with elements -/
theorem FlatRow.at {w : World} {p : Nat → Prop} {r : RC} {v : Value} (h : FlatRow w p r v) : r.wf ∧ ∃ A n cap, v = .slice A n cap ∧ n = r.len ∧ n ≤ cap ∧ cap ≤ maxLen ∧ (A = none → n = 0) ∧ ∀ ad, A = some ad → ∀ j u, r.cells[j]? = some u → w.cell? (ad.add j) = some u := by
  obtain ⟨hwf, hown, _⟩ := h
  refine ⟨hwf, ?_⟩
  rcases hown.2 with ⟨hv, hn⟩ | ⟨g, cap, cur, hv, _, hg, hnc, hcm, _⟩
  · exact ⟨none, 0, 0, hv, hn.symm, Nat.le_refl _, Nat.zero_le _, fun _ => rfl, fun ad h => by cases h⟩
  · exact ⟨_, _, cap, hv, rfl, hnc, hcm, fun h => (by cases h), fun ad h => (by cases h; exact hown.cells (g := g) (by rw [hv]; rfl))⟩
theorem FlatRow.reads {w : World} {p q : Nat → Prop} {r : RC} {v : Value} (h : FlatRow w p r v) (hpq : ∀ k, blkOf v = some k → q k) : FlatReads w q r v := by
  refine ⟨h.1, ?_⟩
  rcases h.2.1.2 with ⟨hv, hn⟩ | ⟨g, cap, cur, hv, _, hg, hnc, hcm, _⟩
  · exact ⟨none, 0, 0, hv, hn.symm, Nat.le_refl _, Nat.zero_le _, fun h0 => absurd h0 (by omega)⟩
  · exact ⟨_, _, cap, hv, rfl, hnc, hcm, fun _ => ⟨_, rfl, hpq g (by rw [hv]; rfl), h.2.1.cells (g := g) (by rw [hv]; rfl)⟩⟩
theorem FlatReads.at {w : World} {p : Nat → Prop} {r : RC} {v : Value} (h : FlatReads w p r v) : r.wf ∧ ∃ A n cap, v = .slice A n cap ∧ n = r.len ∧ n ≤ cap ∧ cap ≤ maxLen ∧ (A = none → n = 0) ∧ ∀ ad, A = some ad → ∀ j u, r.cells[j]? = some u → w.cell? (ad.add j) = some u := by
  obtain ⟨hwf, A, n, cap, hv, hn, hc, hm', hr⟩ := h
  refine ⟨hwf, A, n, cap, hv, hn, hc, hm', fun hA => ?_, fun ad hA j u hu => ?_⟩
  · rcases Nat.eq_zero_or_pos n with h0 | h0
    · exact h0
    · obtain ⟨a, h1, _⟩ := hr h0
      rw [hA] at h1; cases h1
  · rcases Nat.eq_zero_or_pos n with h0 | h0
    · have h1 := RC.cells_length hwf
      rw [← hn, h0, Nat.zero_mul] at h1
      have h2 := (List.getElem?_eq_some_iff.1 hu).1
      omega
    · obtain ⟨a, h1, _, h3⟩ := hr h0
      rw [hA] at h1
      cases h1
      exact h3 j u hu
theorem FlatReads.thin {w : World} {p : Nat → Prop} {r : RC} {v : Value} (h : FlatReads w p r v) : hdV v = v := by
  obtain ⟨_, A, n, cap, hv, _⟩ := h
  rw [hv]; rfl
/-- A row within, and where its value stands. -/
theorem inner_at {w : World} {in_ : Nat → Prop} {cr : RC} {V : Value} {p : Nat} {r : RC} (h : CompRow w in_ cr V) (hr : innerOf (some cr) p = some r) (hp : innerPre (some cr) p) : FlatReads w in_ r (seg V (p + 1)) := by
  cases cr with
  | grp e k fs n m =>
    cases p with
    | succ p => simp [innerOf] at hr
    | zero =>
      simp only [innerOf, Option.some.injEq] at hr; subst hr
      obtain ⟨g, A, b, es, clock, t, rfl, _, _, h3, _⟩ := h
      exact h3.reads h3.2.2
  | rows e f ll =>
    simp only [innerOf, Option.some.injEq] at hr; subst hr
    obtain ⟨O, Is, rfl, hR⟩ := h
    have hp' : p < ll.length := hp
    obtain ⟨I, hI, hf⟩ := hR.inner p (ll.getD p []) (by simp [hp'])
    have : seg (.tuple (O :: Is).toArray) (p + 1) = I := by
      unfold seg
      have hlt := (List.getElem?_eq_some_iff.1 hI).1
      have heq := (List.getElem?_eq_some_iff.1 hI).2
      simp [hlt, heq]
    rw [this]; exact hf.reads hf.2.2
  | vwp e k R B =>
    obtain ⟨W, X, rfl, h1, h2, _⟩ := h
    match p, hr with
    | 0, hr =>
      simp only [innerOf, Option.some.injEq] at hr; subst hr
      exact h1.1
    | 1, hr =>
      simp only [innerOf, Option.some.injEq] at hr; subst hr
      exact h2.reads h2.2.2
    | p + 2, hr => simp [innerOf] at hr
  | wd e n l =>
    cases p with
    | succ p => simp [innerOf] at hr
    | zero =>
      simp only [innerOf, Option.some.injEq] at hr; subst hr
      obtain ⟨A, rfl, h1⟩ := h
      exact h1.reads h1.2.2
  | bx e l =>
    cases p with
    | succ p => simp [innerOf] at hr
    | zero =>
      simp only [innerOf, Option.some.injEq] at hr; subst hr
      obtain ⟨g, A, t, rfl, _, _, h3, _⟩ := h
      exact h3
  | _ => simp [innerOf] at hr
theorem loadR_pre {ti : Option TI} {sz q f : Nat} {r : RC} {e : Eff} (he : loadR ti sz q f r = some e) (hp : e.pre) : q < r.len ∧ sz = r.sz ∧ e.wr = [] := by
  unfold loadR at he
  split at he
  · split at he
    · cases hb : (sz == 1 && f == 0) with
      | false => rw [hb] at he; cases he
      | true =>
        rw [hb] at he
        simp only [cond_true, Option.some.injEq] at he; subst he
        simp only [Bool.and_eq_true, beq_iff_eq] at hb
        exact ⟨hp, hb.1, rfl⟩
    · cases he
  · split at he
    · cases hb : (sz == 1 && f == 0) with
      | false => rw [hb] at he; cases he
      | true =>
        rw [hb] at he
        simp only [cond_true, Option.some.injEq] at he; subst he
        simp only [Bool.and_eq_true, beq_iff_eq] at hb
        exact ⟨hp, hb.1, rfl⟩
    · cases he
  · rename_i e0 k l
    split at he
    · cases hb : (sz == k && Nat.blt f k) with
      | false => rw [hb] at he; cases he
      | true =>
        rw [hb] at he
        simp only [cond_true, Option.some.injEq] at he; subst he
        simp only [Bool.and_eq_true, beq_iff_eq] at hb
        exact ⟨hp, hb.1, rfl⟩
    · rename_i fs n by_
      cases hb : (sz == k && (f == 0 && n == k)) with
      | false => rw [hb] at he; cases he
      | true =>
        rw [hb] at he
        simp only [cond_true, Option.some.injEq] at he; subst he
        simp only [Bool.and_eq_true, beq_iff_eq] at hb
        exact ⟨hp, hb.1, rfl⟩
    · cases he
  · cases he

theorem good_load {tab : Tab} (hT : TabOk c.P tab) {t : Nat} {x : Operand} {e : Eff} (hN : ∀ d, o.dst = some d → d < c.N) (hw : Wanted c ops o S) (hop : o.op = .load t x) (he : effLoad (look t tab) S (S.eval x) = some e) (hp : e.pre) (hR : ∀ h ∈ (S.eval x).hs, h ∈ R) : Good c ops o (den S) R e.val.norm (normWr e.wr) := by
  have hxin : x ∈ o.op.operands.toList := by simp [hop, Op.operands]
  unfold effLoad at he
  split at he
  · rename_i h off hx
    have hh : h ∈ R := hR h (by rw [hx]; simp [AV.hs, A0.hs])
    split at he
    · -- a box of integers
      rename_i t' l hm
      have at_ : ∀ (S' : SS) (ρ : Nat → Value) (a : Act) (w : World), Agree ops o R (den S) S' → SatR c S' ρ a.tmps w → ∃ g, a.eval x = .pointer (some ⟨g, off, none⟩) ∧ w.heap[g]? = some (.cells (l.map vI).toArray t' (0, 0)) := by
        intro S' ρ a w hag hs
        obtain ⟨g, h1, h2⟩ := ibox_at hs (mem_at hag hh hm)
        have h3 := eval_rel hag hs hxin
        rw [hx] at h3
        have h4 : a.eval x = addTo (ρ h) off := h3
        exact ⟨g, by rw [h4, h1, addTo_ptr], h2⟩
      have agg : ∀ n, (∀ w, (isAgg t).run c.P w = .ok true w) → (∃ i, c.P.info? t = some i ∧ i.size = n) → off + n ≤ l.length → Good c ops o (den S) R (AV.norm (.one (.s ((l.drop off).take n)))) [] := by
        intro n hagg ⟨i, hi, hin⟩ hfit
        refine good_load_of hN hw hop fun S' ρ a w hag hs => ?_
        obtain ⟨g, ha, hg⟩ := at_ S' ρ a w hag hs
        refine ⟨_, ?_, rfl⟩
        rw [ha]
        refine run_loadAt_agg (hagg w) hi ?_ ?_
        · simp; omega
        · intro j v hv
          rw [add_lit]
          have hj : j < n := by
            have := (List.getElem?_eq_some_iff.1 hv).1
            simp at this; omega
          rw [ibox_cell hg _ (by omega)]
          simp [hj] at hv
          obtain ⟨y, hy, rfl⟩ := hv
          simp [hy]
      unfold loadI at he
      split at he
      · -- an integer
        rename_i hti
        split at he
        · rename_i n hn
          simp only [val1, Option.some.injEq] at he; subst he
          refine good_load_of hN hw hop fun S' ρ a w hag hs => ?_
          obtain ⟨g, ha, hg⟩ := at_ S' ρ a w hag hs
          obtain ⟨hu, _⟩ := tiB_int (hT _ _ hti)
          refine ⟨vI n, ?_, rfl⟩
          rw [ha]
          refine run_loadAt_int hu ?_
          have hlt := (List.getElem?_eq_some_iff.1 hn).1
          rw [ibox_cell hg _ hlt]
          simp [hn]
        · cases he
      · rename_i hti
        obtain ⟨F, i, hu, hi, hs, _⟩ := tiB_struct (hT _ _ hti)
        cases hb : Nat.ble (off + _) l.length with
        | false => rw [hb] at he; cases he
        | true =>
          rw [hb] at he
          simp only [cond_true, val1, Option.some.injEq] at he; subst he
          exact agg _ (fun w => run_isAgg_struct hu) ⟨i, hi, hs⟩ (Nat.le_of_ble_eq_true hb)
      · rename_i hti
        obtain ⟨i, ei, hu, hi, hs, _⟩ := tiB_array (hT _ _ hti)
        cases hb : Nat.ble (off + _) l.length with
        | false => rw [hb] at he; cases he
        | true =>
          rw [hb] at he
          simp only [cond_true, val1, Option.some.injEq] at he; subst he
          exact agg _ (fun w => run_isAgg_array hu) ⟨i, hi, hs⟩ (Nat.le_of_ble_eq_true hb)
      · cases he
    · -- a box of values
      rename_i t' cs hm
      have cell : ∀ (a0 : A0), cs[off]? = some a0 → ∀ (S' : SS) (ρ : Nat → Value) (a : Act) (w : World), Agree ops o R (den S) S' → SatR c S' ρ a.tmps w → ∃ ad v, a.eval x = .pointer (some ad) ∧ w.cell? ad = some v ∧ a0.rel ρ v := by
        intro a0 ha0 S' ρ a w hag hs
        obtain ⟨g, arr, h1, h2, h3, h4⟩ := box_at (t := t') (cs := cs.map A0.norm) hs (mem_at hag hh hm)
        have h5 := eval_rel hag hs hxin
        rw [hx] at h5
        have h6 : a.eval x = addTo (ρ h) off := h5
        obtain ⟨v, hv, hr⟩ := h4 off a0.norm (by simp [ha0])
        refine ⟨⟨g, off, none⟩, v, by rw [h6, h1, addTo_ptr], ?_, (A0.rel_norm ρ a0 v).1 hr⟩
        rw [cell_of_row w g off arr t' (0, 0) h2]; exact hv
      unfold load1 at he
      split at he
      · rename_i a0 ha0
        split at he
        · rename_i hti
          simp only [val1, Option.some.injEq] at he; subst he
          refine good_load_of hN hw hop fun S' ρ a w hag hs => ?_
          obtain ⟨ad, v, ha, hc, hr⟩ := cell a0 ha0 S' ρ a w hag hs
          obtain ⟨hu, _⟩ := tiB_int (hT _ _ hti)
          exact ⟨v, by rw [ha]; exact run_loadAt_int hu hc, hr⟩
        · rename_i hti
          simp only [val1, Option.some.injEq] at he; subst he
          refine good_load_of hN hw hop fun S' ρ a w hag hs => ?_
          obtain ⟨ad, v, ha, hc, hr⟩ := cell a0 ha0 S' ρ a w hag hs
          obtain ⟨hu, _⟩ := tiB_bool (hT _ _ hti)
          exact ⟨v, by rw [ha]; exact run_loadAt_bool hu hc, hr⟩
        · cases he
      · cases he
    · cases he
  · rename_i h sz q f hx
    have hh : h ∈ R := hR h (by rw [hx]; simp [AV.hs, A0.hs])
    have rowcase : ∀ (r : RC) (en : Entry), look h S.mem = some en → entryRow (some en) = some r → en.norm = en → loadR (look t tab) sz q f r = some e → Good c ops o (den S) R e.val.norm (normWr e.wr) := by
      intro r en hm hen hnorm he
      have at_ : q < r.len → sz = r.sz → ∀ (S' : SS) (ρ : Nat → Value) (a : Act) (w : World), Agree ops o R (den S) S' → SatR c S' ρ a.tmps w → r.wf ∧ ∃ ad : Addr, a.eval x = .pointer (some ad) ∧ ∀ j v, r.cells[q * sz + f + j]? = some v → w.cell? (ad.add j) = some v := by
        intro hq hsz S' ρ a w hag hs
        have hm' := mem_at hag hh hm
        rw [hnorm] at hm'
        obtain ⟨hwf, A, n, cap, h1, h2, _, _, h5⟩ := row_at hs hm' hen
        obtain ⟨ad, hA, hc⟩ := h5 (by omega)
        subst hA
        have h3 := eval_rel hag hs hxin
        rw [hx] at h3
        have h4 : a.eval x = addTo (ρ h) (q * sz + f) := h3
        refine ⟨hwf, ad.add (q * sz + f), by rw [h4, h1]; rfl, fun j v hv => ?_⟩
        rw [add_add]
        exact hc _ v hv
      obtain ⟨hq, hsz, hwr⟩ := loadR_pre he hp
      rw [hwr]
      refine good_load_of hN hw hop fun S' ρ a w hag hs => ?_
      obtain ⟨hwf, ad, ha, hc⟩ := at_ hq hsz S' ρ a w hag hs
      rw [ha]
      obtain ⟨v, h5, h6, _⟩ := loadR_run (P := c.P) (w := w) hT he hp hwf hc
      exact ⟨v, h5, h6 ρ⟩
    split at he
    · rename_i r hm; exact rowcase r _ hm (by simp [entryRow, loadR_flat he]) rfl he
    · rename_i r hm; exact rowcase r _ hm (by simp [entryRow, loadR_flat he]) rfl he
    · rename_i t' l hm
      split at he
      · rename_i hti
        simp only [Option.some.injEq] at he; subst he
        have hq : q * sz + f < l.length := hp
        refine good_load_of hN hw hop fun S' ρ a w hag hs => ?_
        obtain ⟨g, h1, h2⟩ := ibox_at hs (mem_at hag hh hm)
        have h3 := eval_rel hag hs hxin
        rw [hx] at h3
        have h4 : a.eval x = addTo (ρ h) (q * sz + f) := h3
        obtain ⟨hu, _⟩ := tiB_int (hT _ _ hti)
        refine ⟨vI (l.getD (q * sz + f) 0), ?_, rfl⟩
        rw [h4, h1, addTo_ptr]
        exact run_loadAt_int hu (ibox_cell h2 _ hq)
      · cases he
    · cases he
  · -- a cell of the first value
    rename_i h q hx
    have hh : h ∈ R := hR h (by rw [hx]; simp [AV.hs, A0.hs])
    have evx : ∀ (S' : SS) (ρ : Nat → Value) (a : Act) (w : World), Agree ops o R (den S) S' → SatR c S' ρ a.tmps w → a.eval x = addTo (seg (ρ h) 0) q := by
      intro S' ρ a w hag hs
      have h3 := eval_rel hag hs hxin
      rw [hx] at h3
      exact h3
    unfold loadO at he
    split at he
    · rename_i _ _ _ _ _ hcr
      split at he
      · rename_i hti
        cases hb : (q == 0) with
        | false => rw [hb] at he; cases he
        | true =>
        rw [hb] at he
        simp only [cond_true, val1, Option.some.injEq] at he; subst he
        have hq : q = 0 := by simpa using hb
        subst hq
        have hu := tiB_slice (hT _ _ hti)
        refine good_load_of hN hw hop fun S' ρ a w hag hs => ?_
        obtain ⟨in_, g, A, b, es, clock, t', hv, _, hg, _⟩ := comp_of hag hs hh hcr
        refine ⟨A, ?_, ?_⟩
        · rw [evx S' ρ a w hag hs, hv]
          refine run_loadAt_slice hu (a := (⟨g, 0, none⟩ : Addr).add 0) ?_
          rw [add0, cell_of_row w g 0 _ t' (0, 0) hg]; rfl
        · show A = seg (ρ h) 1
          rw [hv]; rfl
      · rename_i hti
        cases hb : (q == 1) with
        | false => rw [hb] at he; cases he
        | true =>
        rw [hb] at he
        simp only [cond_true, val1, Option.some.injEq] at he; subst he
        have hq : q = 1 := by simpa using hb
        subst hq
        have hu := tiB_map (hT _ _ hti)
        refine good_load_of hN hw hop fun S' ρ a w hag hs => ?_
        obtain ⟨in_, g, A, b, es, clock, t', hv, _, hg, _⟩ := comp_of hag hs hh hcr
        refine ⟨.map (some b), ?_, ?_⟩
        · rw [evx S' ρ a w hag hs, hv]
          refine run_loadAt_map hu (a := (⟨g, 0, none⟩ : Addr).add 1) ?_
          rw [add0, cell_of_row w g 1 _ t' (0, 0) hg]; rfl
        · show Value.map (some b) = seg (ρ h) 2
          rw [hv]; rfl
      · cases he
    · rename_i _ _ ll hcr
      split at he
      case h_2 => cases he
      rename_i hti
      simp only [Option.some.injEq] at he; subst he
      have hq : q < ll.length := hp
      have hu := tiB_slice (hT _ _ hti)
      refine good_load_of hN hw hop fun S' ρ a w hag hs => ?_
      obtain ⟨in_, O, Is, hv, hr⟩ := comp_of hag hs hh hcr
      obtain ⟨I, hI, _⟩ := hr.inner q ll[q] (by simp [hq])
      refine ⟨I, ?_, ?_⟩
      · rw [evx S' ρ a w hag hs, hv]
        show (Instr.loadAt t (addTo O q)).run c.P w = _
        rcases hr.outer.2 with ⟨_, hn⟩ | ⟨g, cap, cur, hO, _⟩
        · omega
        · have hc := hr.outer.cells (g := g) (by rw [hO]; rfl) q I hI
          rw [hO]
          exact run_loadAt_slice hu hc
      · show I = seg (ρ h) (q + 1)
        rw [hv]
        have hlt := (List.getElem?_eq_some_iff.1 hI).1
        have heq := (List.getElem?_eq_some_iff.1 hI).2
        simp [seg, hlt, heq]
    · cases he
  · -- a cell of a row within
    rename_i h p sz q f hx
    have hh : h ∈ R := hR h (by rw [hx]; simp [AV.hs, A0.hs])
    unfold loadN at he
    split at he
    case h_2 => cases he
    rename_i r hr
    split at he
    case h_2 => cases he
    rename_i e' he'
    simp only [Option.some.injEq] at he; subst he
    obtain ⟨hp1, hp2⟩ := hp
    cases hcr : compOf (look h S.mem) with
    | none => rw [hcr] at hr; simp [innerOf] at hr
    | some cr =>
    rw [hcr] at hr hp1
    show Good c ops o (den S) R e'.val.norm []
    refine good_load_of hN hw hop fun S' ρ a w hag hs => ?_
    obtain ⟨in_, hc⟩ := comp_of hag hs hh hcr
    have hin := inner_at hc hr hp1
    obtain ⟨hwf, A, n, cap, hv, hn, _, _, hA0, hcell⟩ := hin.at
    have h3 := eval_rel hag hs hxin
    rw [hx] at h3
    have h4 : a.eval x = addTo (seg (ρ h) (p + 1)) (q * sz + f) := h3
    have hpos : A ≠ none := by
      intro hA
      have h0 := hA0 hA
      have hq := (loadR_pre he' hp2).1
      omega
    cases A with
    | none => exact absurd rfl hpos
    | some ad =>
      rw [h4, hv]
      show ∃ v, (Instr.loadAt t (.pointer (some (ad.add (q * sz + f))))).run c.P w = .ok v w ∧ _
      obtain ⟨v, h5, h6, _⟩ := loadR_run (P := c.P) hT he' hp2 hwf (ad := ad.add (q * sz + f)) (w := w) fun j v hj => by rw [add_add]; exact hcell ad rfl _ v hj
      exact ⟨v, h5, h6 ρ⟩
  · cases he
end
end Go.Proofs.Ytacomnelongbjab
namespace Go.Proofs.Ytacomnelongbjab
open Go Go.RowKit

section
variable {c : Ctx} {ops : Array Oper} {o : Oper} {S : St} {R : List Nat}

/-- A store into a block of one's own. -/
theorem good_store_of {t h : Nat} {x y : Operand} {e e' : Entry} (hN : ∀ d, o.dst = some d → d < c.N) (hw : Wanted c ops o S) (hop : o.op = .store t x y) (hm : look h S.mem = some e) (hh : h ∈ R) (ho : e.norm.isOwn = true)
    (hk : ∀ (S' : SS) (ρ : Nat → Value) (a : Act) (w : World), Agree ops o R (den S) S' → SatR c S' ρ a.tmps w → ∃ g cs, Blk (ρ h) g ∧ (Instr.storeAt t (a.eval x) (a.eval y)).run c.P w = .ok () (w.setRow g cs) ∧ e'.norm.holds c (w.setRow g cs) ρ h) :
    Good c ops o (den S) R (AV.norm (.one .bot)) (normWr [(h, some e')]) := by
  refine good_of hN hw fun S' ρ a w hag _ hs hd => ?_
  obtain ⟨g, cs, hb, hr, hh'⟩ := hk S' ρ a w hag hs
  refine ⟨undef, w.setRow g cs, ρ, .inr ⟨by simp [execOp, hop, hr], rfl⟩, ?_⟩
  exact hs.write (e := e.norm) hd (mem_at hag hh hm) ho hb hh' (by simp [AV.norm, A0.norm, AV.rel, A0.rel])

theorem set_eq_cut (l : List Int) (o : Nat) (n : Int) (h : o < l.length) : ((l.set o n).map vI).toArray = ((l.map vI).toArray.toList.take o ++ [vI n] ++ (l.map vI).toArray.toList.drop (o + 1)).toArray := by
  congr 1
  rw [List.set_eq_take_append_cons_drop, if_pos h]
  simp
theorem setAt_eq_cut (l m : List Int) (o : Nat) (h : o + m.length ≤ l.length) : ((setAt l o m).map vI).toArray = ((l.map vI).toArray.toList.take o ++ m.map vI ++ (l.map vI).toArray.toList.drop (o + m.length)).toArray := by
  congr 1
  rw [setAt_eq m l o h]
  simp

/-- what a stored value's cells are -/
theorem ibox_store {w : World} {ρ : Nat → Value} {g t t' o' h : Nat} {l : List Int} {v : Value} {m : List Int} {i : TypeInfo} (hρ : ρ h = .pointer (some ⟨g, 0, none⟩)) (hown : c.own g) (hg : w.heap[g]? = some (.cells (l.map vI).toArray t' (0, 0)))
    (hv : v.cells = (m.map vI).toArray) (hi : c.P.info? t = some i) (hs : i.size = m.length) (hfit : o' + m.length ≤ l.length) :
    (Instr.storeAt t (.pointer (some ⟨g, o', none⟩)) v).run c.P w = .ok () (w.setRow g ((setAt l o' m).map vI).toArray) ∧ (Entry.ibox t' (setAt l o' m)).holds c (w.setRow g ((setAt l o' m).map vI).toArray) ρ h := by
  constructor
  · rw [run_storeAt hi (by rw [hv]; simp [hs]) hg (by rw [hv]; simpa using hfit) (by rw [hv]; exact fun u hu => one_vI u (by simpa using hu))]
    rw [hv, setAt_eq_cut l m o' hfit]
    simp
  · exact ⟨g, hρ, hown, setRow_heap w g _ _ t' _ hg⟩


theorem setAt_one (l : List Int) (o : Nat) (n : Int) : setAt l o [n] = l.set o n := rfl

/-- A store into a row of one's own: the cells from k on. -/
theorem row_store {w : World} {V : Value} {p : Nat → Prop} {t k : Nat} {r r' : RC} {v : Value} {i : TypeInfo} (hh : FlatRow w p r V) (hi : c.P.info? t = some i) (hs : v.cells.size = i.size) (h1 : ∀ u ∈ v.cells.toList, u.oneCell' = true)
    (hfit : k + v.cells.size ≤ r.cells.length) (hwf' : r'.wf) (hlen : r'.len = r.len) (helem : r'.elem = r.elem) (hsz : r'.sz = r.sz) (hcells : r'.cells = r.cells.take k ++ v.cells.toList ++ r.cells.drop (k + v.cells.size)) (hpos : 0 < v.cells.size) :
    ∃ g cs, blkOf V = some g ∧ addTo V k = .pointer (some ⟨g, k, none⟩) ∧ (Instr.storeAt t (.pointer (some ⟨g, k, none⟩)) v).run c.P w = .ok () (w.setRow g cs) ∧ FlatRow (w.setRow g cs) p r' V := by
  obtain ⟨hwf, hown, hin⟩ := hh
  rcases hown.2 with ⟨hv, hn⟩ | ⟨g, cap, cur, hv, hb, hg, hnc, hcm, hcs, htake⟩
  · exfalso
    have : r.cells.length = 0 := by rw [hown.1, hn]; simp
    omega
  · have hrl : r.cells.length = r.len * r.sz := hown.1
    have hle : r.len * r.sz ≤ cap * r.sz := Nat.mul_le_mul_right _ hnc
    have hst := run_storeAt (o := k) hi hs hg (by omega) h1
    refine ⟨g, _, by rw [hv]; rfl, by rw [hv, addTo_slice, add0], hst, hwf', ?_, ?_⟩
    · rw [hlen, helem, hsz]
      refine ⟨?_, .inr ⟨g, cap, _, hv, hb, setRow_heap w g cur _ _ _ hg, hnc, hcm, ?_, ?_⟩⟩
      · rw [hcells]
        simp only [List.length_append, List.length_take, List.length_drop, Array.length_toList]
        omega
      · simp only [List.size_toArray, List.length_append, List.length_take, List.length_drop, Array.length_toList]
        omega
      · have e1 : r.cells.take k = cur.toList.take k := by
          rw [← htake, List.take_take]
          congr 1
          omega
        have e2 : r.cells.drop (k + v.cells.size) = (cur.toList.drop (k + v.cells.size)).take (r.len * r.sz - (k + v.cells.size)) := by
          rw [← htake, List.drop_take]
        rw [hcells, e1, e2]
        have hlk : (cur.toList.take k ++ v.cells.toList).length = k + v.cells.size := by simp; omega
        rw [show (cur.toList.take k ++ v.cells.toList ++ cur.toList.drop (k + v.cells.size)).toArray.toList = (cur.toList.take k ++ v.cells.toList) ++ cur.toList.drop (k + v.cells.size) from rfl]
        rw [List.take_append, hlk, List.take_of_length_le (by omega)]
    · intro b hb'
      exact hin b hb'

theorem ints_store (l : List Int) (q : Nat) (n : Int) (hq : q < l.length) : (l.set q n).map vI = (l.map vI).take q ++ [vI n] ++ (l.map vI).drop (q + 1) := by
  rw [List.set_eq_take_append_cons_drop, if_pos hq]
  simp
theorem bools_store (l : List Bool) (q : Nat) (n : Bool) (hq : q < l.length) : (l.set q n).map Value.bool = (l.map Value.bool).take q ++ [Value.bool n] ++ (l.map Value.bool).drop (q + 1) := by
  rw [List.set_eq_take_append_cons_drop, if_pos hq]
  simp
theorem flat_take {k : Nat} : ∀ (l : List (List Int)), (∀ x ∈ l, x.length = k) → ∀ q, (l.flatMap fun x => x.map vI).take (q * k) = (l.take q).flatMap fun x => x.map vI
  | [], _, q => by simp
  | x :: l, h, q => by
    cases q with
    | zero => simp
    | succ q =>
      have hx : x.length = k := h x (by simp)
      have ih := flat_take l (fun y hy => h y (by simp [hy])) q
      simp only [List.flatMap_cons, List.take_succ_cons]
      rw [List.take_append, List.take_of_length_le (by simp [hx, Nat.succ_mul]), ← ih]
      congr 2
      simp [hx, Nat.succ_mul]
theorem flat_drop {k : Nat} : ∀ (l : List (List Int)), (∀ x ∈ l, x.length = k) → ∀ q, (l.flatMap fun x => x.map vI).drop (q * k) = (l.drop q).flatMap fun x => x.map vI
  | [], _, q => by simp
  | x :: l, h, q => by
    cases q with
    | zero => simp
    | succ q =>
      have hx : x.length = k := h x (by simp)
      have ih := flat_drop l (fun y hy => h y (by simp [hy])) q
      simp only [List.flatMap_cons, List.drop_succ_cons]
      rw [List.drop_append, List.drop_of_length_le (by simp [hx, Nat.succ_mul]), ← ih]
      simp [hx, Nat.succ_mul]
/-- one struct of a row is written over -/
theorem recs_store {k : Nat} (l : List (List Int)) (h : ∀ x ∈ l, x.length = k) (q : Nat) (m : List Int) (hq : q < l.length) :
    ((l.set q m).flatMap fun x => x.map vI) = (l.flatMap fun x => x.map vI).take (q * k) ++ m.map vI ++ (l.flatMap fun x => x.map vI).drop (q * k + k) := by
  rw [List.set_eq_take_append_cons_drop, if_pos hq, flat_take l h q, show q * k + k = (q + 1) * k by rw [Nat.succ_mul], flat_drop l h (q + 1)]
  simp
/-- one field of a struct of a row is written over -/
theorem recs_store1 {k : Nat} (l : List (List Int)) (h : ∀ x ∈ l, x.length = k) (q f : Nat) (n : Int) (d : List Int) (hf : f < k) (hq : q < l.length) :
    ((l.set q ((l.getD q d).set f n)).flatMap fun x => x.map vI) = (l.flatMap fun x => x.map vI).take (q * k + f) ++ [vI n] ++ (l.flatMap fun x => x.map vI).drop (q * k + f + 1) := by
  have hgd : l.getD q d = l[q] := by simp [hq]
  have hx : (l[q]).length = k := h _ (List.getElem_mem hq)
  rw [recs_store l h q _ hq, hgd]
  have hfl : (l.flatMap fun x => x.map vI) = (l.take q).flatMap (fun x => x.map vI) ++ ((l[q]).map vI ++ (l.drop (q + 1)).flatMap fun x => x.map vI) := by
    conv => lhs; rw [← List.take_append_drop q l, List.flatMap_append, List.drop_eq_getElem_cons hq, List.flatMap_cons]
  have hlt : ((l.take q).flatMap fun x => x.map vI).length = q * k := by
    rw [flat_length _ (fun y hy => h y (List.mem_of_mem_take hy))]
    simp only [List.length_take]; rw [Nat.min_eq_left (by omega)]
  have e1 : (l.flatMap fun x => x.map vI).take (q * k) = (l.take q).flatMap fun x => x.map vI := flat_take l h q
  have e2 : (l.flatMap fun x => x.map vI).drop (q * k + k) = (l.drop (q + 1)).flatMap fun x => x.map vI := by
    rw [show q * k + k = (q + 1) * k by rw [Nat.succ_mul]]; exact flat_drop l h (q + 1)
  have e3 : (l.flatMap fun x => x.map vI).take (q * k + f) = (l.take q).flatMap (fun x => x.map vI) ++ ((l[q]).map vI).take f := by
    rw [hfl, List.take_append, hlt, List.take_of_length_le (by omega)]
    congr 1
    rw [show q * k + f - q * k = f by omega, List.take_append]
    simp [hx]; omega
  have e4 : (l.flatMap fun x => x.map vI).drop (q * k + f + 1) = ((l[q]).map vI).drop (f + 1) ++ (l.drop (q + 1)).flatMap fun x => x.map vI := by
    rw [hfl, List.drop_append, hlt, List.drop_of_length_le (by omega)]
    rw [show q * k + f + 1 - q * k = f + 1 by omega, List.drop_append]
    simp [hx, show f + 1 - k = 0 by omega]
  rw [e1, e2, e3, e4, ints_store _ _ _ (by omega)]
  simp

/-- One row within a row of rows is another one. -/
theorem RowsIs.set {w w' : World} {p : Nat → Prop} {e f : Nat} {ll : List (List Int)} {O : Value} {Is : List Value} (hr : RowsIs w p e f ll O Is) {q : Nat} {I : Value} {l' : List Int} (hI : Is[q]? = some I) (hw : ∀ k, k < w.heap.size → blkOf I ≠ some k → w'.heap[k]? = w.heap[k]?) (hl : FlatRow w' p (.ints f l') I) : RowsIs w' p e f (ll.set q l') O Is := by
  refine ⟨by simp [hr.len], ?_, hr.oin, fun j l hj => ?_, hr.apart, hr.oapart⟩
  · rw [List.length_set]
    exact ownsRow_chg hr.outer fun k hk => hw k (ownsRow_blk hr.outer hk) (fun e => hr.oapart q I hI k e hk)
  · by_cases hqj : q = j
    · subst hqj
      have hlt : q < ll.length := by have := (List.getElem?_eq_some_iff.1 hI).1; rw [hr.len] at this; exact this
      rw [List.getElem?_set_self hlt] at hj
      cases hj
      exact ⟨I, hI, hl⟩
    · rw [List.getElem?_set_ne hqj] at hj
      obtain ⟨J, hJ, hf⟩ := hr.inner j l hj
      exact ⟨J, hJ, hf.chg fun k hk => hw k (hf.blk hk).2 (fun e => hr.apart q j I J hqj hI hJ k e hk)⟩
theorem good_storeN {tab : Tab} (hT : TabOk c.P tab) {t h p sz q f : Nat} {n : Int} {x y : Operand} {e : Eff} {ti : TI} (hN : ∀ d, o.dst = some d → d < c.N) (hw : Wanted c ops o S) (hop : o.op = .store t x y) (hx : S.eval x = .one (.ie h p sz q f)) (hy : S.eval y = .one (.i n)) (hti : look t tab = some ti) (hsz : ti.sz = 1)
    (he : storeN S h p sz q f n = some e) (hp : e.pre) (hh : h ∈ R) : Good c ops o (den S) R e.val.norm (normWr e.wr) := by
  unfold storeN at he
  split at he
  case h_2 => cases he
  rename_i e0 g0 ll hm
  cases hb : (sz == 1 && f == 0) with
  | false => rw [hb] at he; cases he
  | true =>
  rw [hb] at he
  simp only [cond_true, Option.some.injEq] at he; subst he
  simp only [Bool.and_eq_true, beq_iff_eq] at hb
  obtain ⟨rfl, rfl⟩ := hb
  obtain ⟨hp1, hp2⟩ : p < ll.length ∧ q < (ll.getD p []).length := hp
  obtain ⟨i, _, hi, _, his, _⟩ := tiB_info (hT _ _ hti)
  refine good_store_of hN hw hop hm hh rfl fun S' ρ a w hag hs => ?_
  obtain ⟨O, Is, hv, hr⟩ : CompRow w c.own (.rows e0 g0 ll) (ρ h) := (OwnsRow.comp rfl).1 (hs.mem h _ (mem_at hag hh hm))
  obtain ⟨I, hI, hf⟩ := hr.inner p (ll.getD p []) (by simp [hp1])
  have hyv : a.eval y = vI n := by
    have := eval_rel hag hs (x := y) (by simp [hop, Op.operands])
    rw [hy] at this
    exact rel_i this
  have hxv : a.eval x = addTo I (q * 1 + 0) := by
    have := eval_rel hag hs (x := x) (by simp [hop, Op.operands])
    rw [hx] at this
    have h1 : a.eval x = addTo (seg (ρ h) (p + 1)) (q * 1 + 0) := this
    rw [h1, hv]
    have hlt := (List.getElem?_eq_some_iff.1 hI).1
    have heq := (List.getElem?_eq_some_iff.1 hI).2
    simp [seg, hlt, heq]
  obtain ⟨g, cs, h1, h2, h3, h4⟩ := row_store (t := t) (k := q * 1 + 0) (v := a.eval y) (r' := .ints g0 ((ll.getD p []).set q n)) hf hi (by rw [hyv, his, hsz]; rfl) (by rw [hyv]; simp [Value.cells, Value.oneCell']) (by rw [hyv]; simp [Value.cells, RC.cells]; have h9 := hp2; simp at h9; omega) trivial (by simp [RC.len]) rfl rfl
    (by rw [hyv]; simpa [RC.cells, Value.cells] using ints_store (ll.getD p []) q n hp2) (by rw [hyv]; simp [Value.cells])
  refine ⟨g, cs, by rw [hv]; exact Blk.of_tuple (j := p + 1) (by simpa using hI) h1, by rw [hxv, h2]; exact h3, ?_⟩
  exact (OwnsRow.comp rfl).2 ⟨O, Is, hv, hr.set hI (fun k _ hk => setRow_other w g k cs (fun e => hk (by rw [e]; exact h1))) h4⟩

/-- A row is put into a row of rows. -/
theorem RowsIs.put {w w' : World} {p : Nat → Prop} {e f q : Nat} {ll : List (List Int)} {O V : Value} {Is : List Value} {l : List Int} (hr : RowsIs w p e f ll O Is) (hq : q < ll.length)
    (ho : w'.ownsRow 0 e 1 O ll.length (Is.set q V)) (hw : ∀ k, k < w.heap.size → blkOf O ≠ some k → w'.heap[k]? = w.heap[k]?) (hV : FlatRow w p (.ints f l) V)
    (hap : ∀ k, blkOf V = some k → ¬ Blk (.tuple (O :: Is).toArray) k) : RowsIs w' p e f (ll.set q l) O (Is.set q V) := by
  have hlt : q < Is.length := by rw [hr.len]; exact hq
  have hcase : ∀ (j : Nat) (J : Value), (Is.set q V)[j]? = some J → (j = q ∧ J = V) ∨ (j ≠ q ∧ Is[j]? = some J) := by
    intro j J hJ
    by_cases hjq : q = j
    · subst hjq
      rw [List.getElem?_set_self hlt] at hJ
      exact .inl ⟨rfl, (Option.some.inj hJ).symm⟩
    · rw [List.getElem?_set_ne hjq] at hJ
      exact .inr ⟨fun e => hjq e.symm, hJ⟩
  have hVO : ∀ k, blkOf V = some k → blkOf O ≠ some k := fun k hk hO => hap k hk (Blk.of_tuple (j := 0) rfl hO)
  have hVI : ∀ (j : Nat) (J : Value), Is[j]? = some J → ∀ k, blkOf V = some k → blkOf J ≠ some k := fun j J hJ k hk hb => hap k hk (Blk.of_tuple (j := j + 1) (by simpa using hJ) hb)
  refine ⟨by simp [hr.len], by rw [List.length_set]; exact ho, hr.oin, fun j l' hj => ?_, fun i j I J hij hI hJ k hk hk2 => ?_, fun j I hI k hk => ?_⟩
  · by_cases hjq : q = j
    · subst hjq
      rw [List.getElem?_set_self hq] at hj
      cases hj
      exact ⟨V, List.getElem?_set_self hlt, hV.chg fun k hk => hw k (hV.blk hk).2 (hVO k hk)⟩
    · rw [List.getElem?_set_ne hjq] at hj
      obtain ⟨J, hJ, hf⟩ := hr.inner j l' hj
      exact ⟨J, by rw [List.getElem?_set_ne hjq]; exact hJ, hf.chg fun k hk => hw k (hf.blk hk).2 (hr.oapart j J hJ k hk)⟩
  · rcases hcase i I hI with ⟨rfl, rfl⟩ | ⟨_, hI'⟩ <;> rcases hcase j J hJ with ⟨rfl, rfl⟩ | ⟨_, hJ'⟩
    · exact hij rfl
    · exact hVI j J hJ' k hk hk2
    · exact hVI i I hI' k hk2 hk
    · exact hr.apart i j I J hij hI' hJ' k hk hk2
  · rcases hcase j I hI with ⟨rfl, rfl⟩ | ⟨_, hI'⟩
    · exact hVO k hk
    · exact hr.oapart j I hI' k hk
theorem nxtH_ne (h : Nat) : nxtH h ≠ h := by unfold nxtH; omega
theorem set_cut {α : Type} (L : List α) (n q : Nat) (v : α) (hq : q < L.length) : (L.take q ++ [v] ++ L.drop (q + 1)).take n = (L.take n).set q v := by
  have : L.take q ++ [v] ++ L.drop (q + 1) = L.set q v := by
    rw [List.set_eq_take_append_cons_drop, if_pos hq]; simp
  rw [this, List.take_set]
theorem good_storeRow {tab : Tab} (hT : TabOk c.P tab) {t h q h2 : Nat} {x y : Operand} {e : Eff} {ti : TI} (hN : ∀ d, o.dst = some d → d < c.N) (hw : Wanted c ops o S) (hop : o.op = .store t x y) (hx : S.eval x = .one (.oe h q)) (hy : S.eval y = .one (.row h2)) (hti : look t tab = some ti) (hsz : ti.sz = 1)
    (he : storeRow S h q h2 = some e) (hp : e.pre) (hR : R = [h] ++ [h2]) : Good c ops o (den S) R e.val.norm (normWr e.wr) := by
  unfold storeRow at he
  split at he
  case h_2 => cases he
  rename_i e0 f ll f' l m1 m2
  cases hb : (f == f' && (!(h == h2) && !(nxtH h == h2))) with
  | false => rw [hb] at he; cases he
  | true =>
  rw [hb] at he
  simp only [cond_true, Option.some.injEq] at he; subst he
  simp only [Bool.and_eq_true, beq_iff_eq, Bool.not_eq_true', beq_eq_false_iff_ne, ne_eq] at hb
  obtain ⟨rfl, hne, hD⟩ := hb
  have hq : q < ll.length := hp
  clear hp
  have hDh : nxtH h ≠ h := nxtH_ne h
  generalize nxtH h = D at *
  obtain ⟨i, _, hi, _, his, _⟩ := tiB_info (hT _ _ hti)
  refine good_of hN hw fun S' ρ a w hag hfr hs hdl => ?_
  have M1 := mem_at hag (by rw [hR]; simp) m1
  have M2 := mem_at hag (by rw [hR]; simp) m2
  obtain ⟨O, Is, hv, hr⟩ : CompRow w c.own (.rows e0 f ll) (ρ h) := (OwnsRow.comp rfl).1 (hs.mem h _ M1)
  have f2 : FlatRow w c.own (.ints f l) (ρ h2) := (OwnsRow.flat rfl).1 (hs.mem h2 _ M2)
  obtain ⟨_, A, n, cap2, hA, _⟩ := f2.at
  have hyv : a.eval y = ρ h2 := by
    have := eval_rel hag hs (x := y) (by simp [hop, Op.operands])
    rw [hy] at this
    exact this
  have hxv : a.eval x = addTo O q := by
    have := eval_rel hag hs (x := x) (by simp [hop, Op.operands])
    rw [hx] at this
    have h1 : a.eval x = addTo (seg (ρ h) 0) q := this
    rw [h1, hv]; rfl
  have hfD : S'.Fresh c D := hfr D (by simp [wrHs, normWr]) (by rw [hR]; simp; exact ⟨hDh, hD⟩)
  have hIl : Is.length = ll.length := hr.len
  rcases hr.outer.2 with ⟨_, hn⟩ | ⟨g, cap, cur, hO, hbg, hg, hnc, hcm, hcs, htake⟩
  · omega
  have hOb : ∀ k, blkOf O = some k ↔ k = g := fun k => by rw [hO]; simp [blkOf, eq_comm]
  have hcsz : cur.size = cap := by simpa using hcs
  have hst := run_storeAt (P := c.P) (t := t) (o := q) (v := ρ h2) hi (by rw [hA, his, hsz]; rfl) hg (by rw [hA]; simp [Value.cells]; omega) (by rw [hA]; simp [Value.cells, Value.oneCell'])
  have hcell : (ρ h2).cells.toList = [ρ h2] := by rw [hA]; rfl
  have hcsize : (ρ h2).cells.size = 1 := by rw [hA]; rfl
  rw [hcell, hcsize] at hst
  have hown : (w.setRow g (cur.toList.take q ++ [ρ h2] ++ cur.toList.drop (q + 1)).toArray).ownsRow 0 e0 1 O ll.length (Is.set q (ρ h2)) := by
    refine ⟨by simp [hIl], .inr ⟨g, cap, _, hO, hbg, setRow_heap w g cur _ _ _ hg, hnc, hcm, ?_, ?_⟩⟩
    · simp; omega
    · rw [← htake]
      exact set_cut cur.toList _ q (ρ h2) (by simp; omega)
  have hap : ∀ k, blkOf (ρ h2) = some k → ¬ Blk (.tuple (O :: Is).toArray) k := by
    intro k hk hk2
    rw [← hv] at hk2
    exact hs.sep h2 h _ _ M2 M1 rfl rfl (fun e => hne e.symm) k (f2.thin.2 hk) hk2
  have hput := hr.put (w' := w.setRow g (cur.toList.take q ++ [ρ h2] ++ cur.toList.drop (q + 1)).toArray) hq hown (fun k _ hk => setRow_other w g k _ (fun e => hk ((hOb k).2 e))) f2 hap
  have hup : ∀ z, z ≠ D → upd ρ D (.tuple (O :: Is.set q (ρ h2)).toArray) z = ρ z := fun z hz => upd_ne hz
  have hlook : ∀ z e'', look z (normWr [(h2, none), (h, some (.to D)), (D, some (.row (.rows e0 f (ll.set q l))))]) = some (some e'') → (z = h ∧ e'' = .to D) ∨ (z = D ∧ e'' = .row (.rows e0 f (ll.set q l))) := by
    intro z e'' hz
    simp only [normWr, List.map_cons, List.map_nil, look, Option.map_none, Option.map_some, Entry.norm] at hz
    by_cases z1 : h2 = z
    · simp [z1] at hz
    · have z1' : (h2 == z) = false := by simpa using z1
      rw [z1'] at hz
      simp only [cond_false] at hz
      by_cases z2 : h = z
      · simp only [z2, beq_self_eq_true, cond_true, Option.some.injEq] at hz
        exact .inl ⟨z2.symm, hz.symm⟩
      · have z2' : (h == z) = false := by simpa using z2
        rw [z2'] at hz
        simp only [cond_false] at hz
        by_cases z3 : D = z
        · simp only [z3, beq_self_eq_true, cond_true, Option.some.injEq] at hz
          exact .inr ⟨z3.symm, hz.symm⟩
        · have z3' : (D == z) = false := by simpa using z3
          rw [z3'] at hz
          cases hz
  refine ⟨undef, w.setRow g (cur.toList.take q ++ [ρ h2] ++ cur.toList.drop (q + 1)).toArray, upd ρ D (.tuple (O :: Is.set q (ρ h2)).toArray), .inr ⟨by
    have hxa : a.eval x = .pointer (some ⟨g, q, none⟩) := by rw [hxv, hO, addTo_slice, add0]
    simp [execOp, hop, hxa, hyv, hst], rfl⟩, ?_⟩
  refine hs.step hdl (Chg.setRow w g _) (fun k hk => by subst hk; exact hr.oin _ ((hOb _).2 rfl)) (fun z hz => ?_) (fun z hz => ?_) (fun z e'' hz ho hnot k hk hkg => ?_) (fun z e'' hz => ?_) (fun z e'' hz ho k hk => ⟨fun y' e3 hy' ho' hnot hk' => ?_, fun y' e3 hy' ho' hne' => ?_⟩) (by simp [AV.norm, A0.norm, AV.rel, A0.rel])
  · by_cases hzD : z = D
    · subst hzD; exact hfD
    · exact absurd (hup z hzD) hz
  · exact hup z (fun e => hz (by subst e; simp [wrHs, normWr]))
  · subst hkg
    have hzh : z ≠ h := fun e => hnot (by subst e; simp [wrHs, normWr])
    exact hs.sep z h _ _ hz M1 ho rfl hzh k hk (by rw [hv]; exact Blk.of_tuple (j := 0) rfl ((hOb _).2 rfl))
  · rcases hlook z e'' hz with ⟨rfl, rfl⟩ | ⟨rfl, rfl⟩
    · show hdV (upd ρ D _ z) = hdV (upd ρ D _ D)
      rw [hup z (fun e => hDh e.symm), upd_same, hv]; rfl
    · show OwnsRow _ _ _ (upd ρ z _ z)
      rw [upd_same]
      exact (OwnsRow.comp rfl).2 ⟨O, _, rfl, hput⟩
  · rcases hlook z e'' hz with ⟨rfl, rfl⟩ | ⟨rfl, rfl⟩
    · cases ho
    · rw [upd_same] at hk
      have hyh : y' ≠ h := fun e => hnot (by subst e; simp [wrHs, normWr])
      have hyh2 : y' ≠ h2 := fun e => hnot (by subst e; simp [wrHs, normWr])
      obtain ⟨j, J, hJ, hbJ⟩ := Blk.tuple.1 hk
      cases j with
      | zero =>
        simp at hJ; subst hJ
        exact hs.sep y' h _ _ hy' M1 ho' rfl hyh k hk' (by rw [hv]; exact Blk.of_tuple (j := 0) rfl hbJ)
      | succ j =>
        simp only [List.getElem?_cons_succ] at hJ
        by_cases hjq : q = j
        · subst hjq
          rw [List.getElem?_set_self (by omega)] at hJ
          cases hJ
          exact hs.sep y' h2 _ _ hy' M2 ho' rfl hyh2 k hk' (f2.thin.2 hbJ)
        · rw [List.getElem?_set_ne hjq] at hJ
          exact hs.sep y' h _ _ hy' M1 ho' rfl hyh k hk' (by rw [hv]; exact Blk.of_tuple (j := j + 1) (by simpa using hJ) hbJ)
  · rcases hlook z e'' hz with ⟨rfl, rfl⟩ | ⟨rfl, rfl⟩
    · cases ho
    · rcases hlook y' e3 hy' with ⟨rfl, rfl⟩ | ⟨rfl, rfl⟩
      · cases ho'
      · exact absurd rfl hne'

theorem good_store {tab : Tab} (hT : TabOk c.P tab) {t : Nat} {x y : Operand} {e : Eff} (hN : ∀ d, o.dst = some d → d < c.N) (hw : Wanted c ops o S) (hop : o.op = .store t x y)
    (he : effStore (look t tab) S (S.eval x) (S.eval y) = some e) (hp : e.pre) (hRR : R = (S.eval x).hs ++ (S.eval y).hs) : Good c ops o (den S) R e.val.norm (normWr e.wr) := by
  have hxin : x ∈ o.op.operands.toList := by simp [hop, Op.operands]
  have hyin : y ∈ o.op.operands.toList := by simp [hop, Op.operands]
  have hR : ∀ h ∈ (S.eval x).hs, h ∈ R := fun h hh => by rw [hRR]; exact List.mem_append_left _ hh
  unfold effStore at he
  split at he
  case h_2 => cases he
  rename_i a0 hy
  cases hsz : szOk (look t tab) a0 with
  | false => rw [hsz] at he; cases he
  | true =>
  rw [hsz] at he
  simp only [cond_true] at he
  unfold szOk at hsz
  split at hsz
  case h_2 => cases hsz
  rename_i ti hti
  obtain ⟨i, _, hi, _, his, _⟩ := tiB_info (hT _ _ hti)
  have hyrel : ∀ (S' : SS) (ρ : Nat → Value) (a : Act) (w : World), Agree ops o R (den S) S' → SatR c S' ρ a.tmps w → a0.rel ρ (a.eval y) := by
    intro S' ρ a w hag hs
    have := eval_rel hag hs hyin
    rw [hy] at this
    exact this
  unfold storeTo at he
  split at he
  · rename_i h q hx
    split at he
    case h_2 => cases he
    rename_i h2
    exact good_storeRow hT hN hw hop hx hy hti (by simpa using hsz) he hp (by rw [hRR, hx, hy]; rfl)
  · rename_i h off hx
    have hh : h ∈ R := hR h (by rw [hx]; simp [AV.hs, A0.hs])
    have hxa : ∀ (S' : SS) (ρ : Nat → Value) (a : Act) (w : World), Agree ops o R (den S) S' → SatR c S' ρ a.tmps w → a.eval x = addTo (ρ h) off := by
      intro S' ρ a w hag hs
      have := eval_rel hag hs hxin
      rw [hx] at this
      exact this
    split at he
    · rename_i t' l hm
      have go : ∀ (m : List Int), off + m.length ≤ l.length → ti.sz = m.length → (∀ (S' : SS) (ρ : Nat → Value) (a : Act) (w : World), Agree ops o R (den S) S' → SatR c S' ρ a.tmps w → (a.eval y).cells = (m.map vI).toArray) →
          Good c ops o (den S) R (AV.norm (.one .bot)) (normWr [(h, some (.ibox t' (setAt l off m)))]) := by
        intro m hfit hszm hc
        refine good_store_of hN hw hop hm hh rfl fun S' ρ a w hag hs => ?_
        obtain ⟨g, h1, hown, h2⟩ := hs.mem h _ (mem_at hag hh hm)
        obtain ⟨h3, h4⟩ := ibox_store (v := a.eval y) h1 hown h2 (hc S' ρ a w hag hs) hi (his.trans hszm) hfit
        refine ⟨g, _, by rw [h1]; rfl, ?_, h4⟩
        rw [hxa S' ρ a w hag hs, h1, addTo_ptr]
        exact h3
      unfold storeI at he
      split at he
      · rename_i n
        cases hb : Nat.blt off l.length with
        | false => rw [hb] at he; cases he
        | true =>
          rw [hb] at he
          simp only [cond_true, Option.some.injEq] at he; subst he
          have hlt : off < l.length := by simpa using hb
          refine go [n] (by simp; omega) (by simpa using hsz) fun S' ρ a w hag hs => ?_
          have := hyrel S' ρ a w hag hs
          rw [rel_i this]; rfl
      · rename_i m
        cases hb : Nat.ble (off + m.length) l.length with
        | false => rw [hb] at he; cases he
        | true =>
          rw [hb] at he
          simp only [cond_true, Option.some.injEq] at he; subst he
          refine go m (Nat.le_of_ble_eq_true hb) (by simpa using hsz) fun S' ρ a w hag hs => ?_
          have := hyrel S' ρ a w hag hs
          rw [rel_s this]; rfl
      · cases he
    · rename_i t' l hm
      unfold storeB at he
      cases hb : Nat.blt off l.length with
      | false => rw [hb] at he; cases he
      | true =>
      rw [hb] at he
      simp only [cond_true] at he
      have hlt : off < l.length := by simpa using hb
      have go : ∀ (a1 : A0), ti.sz = 1 → (∀ (S' : SS) (ρ : Nat → Value) (a : Act) (w : World), Agree ops o R (den S) S' → SatR c S' ρ a.tmps w → (a.eval y).cells = #[a.eval y] ∧ (a.eval y).oneCell' = true ∧ a1.rel ρ (a.eval y)) →
          Good c ops o (den S) R (AV.norm (.one .bot)) (normWr [(h, some (.box t' (l.set off a1)))]) := by
        intro a1 hsz1 hc
        refine good_store_of hN hw hop hm hh rfl fun S' ρ a w hag hs => ?_
        have hm' := mem_at hag hh hm
        obtain ⟨g, arr, h1, hown, h2, h3, h4⟩ := hs.mem h _ hm'
        simp only [List.length_map] at h3
        obtain ⟨hcl, hone, hrel⟩ := hc S' ρ a w hag hs
        have hst := run_storeAt (P := c.P) (t := t) (g := g) (o := off) (el := t') (cur := arr) (v := a.eval y) hi (by rw [hcl, his, hsz1]; rfl) h2 (by rw [hcl, h3]; exact hlt) (by rw [hcl]; simpa using hone)
        refine ⟨g, _, by rw [h1]; rfl, by rw [hxa S' ρ a w hag hs, h1, addTo_ptr]; exact hst, g, _, h1, hown, setRow_heap w g _ _ t' _ h2, ?_, ?_⟩
        · simp [hcl, h3]; omega
        · intro j b hb'
          simp only [List.getElem?_map, Option.map_eq_some_iff] at hb'
          obtain ⟨b', hb', rfl⟩ := hb'
          have hjl : j < l.length := by have := (List.getElem?_eq_some_iff.1 hb').1; simpa using this
          rw [hcl]
          by_cases hj : off = j
          · subst hj
            rw [List.getElem?_set_self hlt] at hb'
            simp only [Option.some.injEq] at hb'; subst hb'
            refine ⟨a.eval y, ?_, (A0.rel_norm ρ _ _).2 hrel⟩
            have : off ≤ arr.size := by omega
            simp [this]
          · rw [List.getElem?_set_ne hj] at hb'
            obtain ⟨v, hv, hr⟩ := h4 j b'.norm (by simp [hb'])
            refine ⟨v, ?_, hr⟩
            have hja : j < arr.size := by omega
            have hv' : arr[j]? = some v := hv
            have hval : arr.toList[j]? = some v := by simpa using hv'
            by_cases hlt2 : j < off
            · rw [show (#[a.eval y] : Array Value).toList = [a.eval y] from rfl]
              simp only [List.getElem?_toArray]
              rw [List.append_assoc, List.getElem?_append_left (by simp; omega)]
              rw [List.getElem?_take_of_lt hlt2]
              exact hval
            · rw [show (#[a.eval y] : Array Value).toList = [a.eval y] from rfl]
              simp only [List.getElem?_toArray]
              rw [List.getElem?_append_right (by simp; omega)]
              simp only [List.length_append, List.length_take, Array.length_toList, List.length_cons, List.length_nil, List.getElem?_drop]
              rw [show off + (#[a.eval y] : Array Value).size + (j - (min off arr.size + (0 + 1))) = j by simp; omega]
              exact hval
      split at he
      · cases he
        exact go _ (by simpa using hsz) fun S' ρ a w hag hs => by have := hyrel S' ρ a w hag hs; rw [rel_i this]; exact ⟨rfl, rfl, rfl⟩
      · cases he
        exact go _ (by simpa using hsz) fun S' ρ a w hag hs => by have := hyrel S' ρ a w hag hs; rw [rel_b this]; exact ⟨rfl, rfl, rfl⟩
      · cases he
        exact go _ (by simpa using hsz) fun S' ρ a w hag hs => by have h2 : a.eval y = .bool true := hyrel S' ρ a w hag hs; rw [h2]; exact ⟨rfl, rfl, rfl⟩
      · cases he
        exact go _ (by simpa using hsz) fun S' ρ a w hag hs => by have h2 : a.eval y = .bool false := hyrel S' ρ a w hag hs; rw [h2]; exact ⟨rfl, rfl, rfl⟩
      · cases he
        exact go _ (by simpa using hsz) fun S' ρ a w hag hs => by have h2 : a.eval y = .slice none 0 0 := hyrel S' ρ a w hag hs; rw [h2]; exact ⟨rfl, rfl, rfl⟩
      · cases he
    · cases he
  · rename_i h sz q f hx
    have hh : h ∈ R := hR h (by rw [hx]; simp [AV.hs, A0.hs])
    have hxa : ∀ (S' : SS) (ρ : Nat → Value) (a : Act) (w : World), Agree ops o R (den S) S' → SatR c S' ρ a.tmps w → a.eval x = addTo (ρ h) (q * sz + f) := by
      intro S' ρ a w hag hs
      have := eval_rel hag hs hxin
      rw [hx] at this
      exact this
    split at he
    · rename_i r hm
      have go : ∀ (r' : RC), r.flat = true → r'.flat = true → r'.len = r.len → r'.elem = r.elem → r'.sz = r.sz → (r.wf → r'.wf) →
          (∀ (S' : SS) (ρ : Nat → Value) (a : Act) (w : World), Agree ops o R (den S) S' → SatR c S' ρ a.tmps w → r.wf → (a.eval y).cells.size = ti.sz ∧ 0 < (a.eval y).cells.size ∧ (∀ u ∈ (a.eval y).cells.toList, u.oneCell' = true) ∧ q * sz + f + (a.eval y).cells.size ≤ r.cells.length ∧
            r'.cells = r.cells.take (q * sz + f) ++ (a.eval y).cells.toList ++ r.cells.drop (q * sz + f + (a.eval y).cells.size)) →
          Good c ops o (den S) R (AV.norm (.one .bot)) (normWr [(h, some (.row r'))]) := by
        intro r' hfl hfl' hlen helem hsz' hwf' hc
        refine good_store_of hN hw hop hm hh rfl fun S' ρ a w hag hs => ?_
        have hh' : FlatRow w c.own r (ρ h) := (OwnsRow.flat hfl).1 (hs.mem h _ (mem_at hag hh hm))
        obtain ⟨c1, c2, c3, c4, c5⟩ := hc S' ρ a w hag hs hh'.1
        obtain ⟨g, cs, h1, h2, h3, h4⟩ := row_store (t := t) (v := a.eval y) (r' := r') hh' hi (c1.trans his.symm) c3 c4 (hwf' hh'.1) hlen helem hsz' c5 c2
        exact ⟨g, cs, hh'.thin.2 h1, by rw [hxa S' ρ a w hag hs, h2]; exact h3, (OwnsRow.flat hfl').2 h4⟩
      unfold storeR at he
      split at he
      · rename_i e0 l n
        cases hb : (sz == 1 && f == 0) with
        | false => rw [hb] at he; cases he
        | true =>
          rw [hb] at he
          simp only [cond_true, Option.some.injEq] at he; subst he
          simp only [Bool.and_eq_true, beq_iff_eq] at hb
          obtain ⟨rfl, rfl⟩ := hb
          have hq : q < l.length := hp
          refine go _ rfl rfl (by simp [RC.len]) rfl rfl (fun _ => trivial) fun S' ρ a w hag hs _ => ?_
          have h1 := rel_i (hyrel S' ρ a w hag hs)
          rw [h1]
          refine ⟨by have := hsz; simp [Value.cells] at this ⊢; omega, by simp [Value.cells], by simp [Value.cells, Value.oneCell'], by simp [Value.cells, RC.cells]; omega, ?_⟩
          simpa [RC.cells, Value.cells] using ints_store l q n hq
      · rename_i e0 l n
        cases hb : (sz == 1 && f == 0) with
        | false => rw [hb] at he; cases he
        | true =>
          rw [hb] at he
          simp only [cond_true, Option.some.injEq] at he; subst he
          simp only [Bool.and_eq_true, beq_iff_eq] at hb
          obtain ⟨rfl, rfl⟩ := hb
          have hq : q < l.length := hp
          refine go _ rfl rfl (by simp [RC.len]) rfl rfl (fun _ => trivial) fun S' ρ a w hag hs _ => ?_
          have h1 := rel_b (hyrel S' ρ a w hag hs)
          rw [h1]
          refine ⟨by have := hsz; simp [Value.cells] at this ⊢; omega, by simp [Value.cells], by simp [Value.cells, Value.oneCell'], by simp [Value.cells, RC.cells]; omega, ?_⟩
          simpa [RC.cells, Value.cells] using bools_store l q n hq
      · rename_i e0 l
        cases hb : (sz == 1 && f == 0) with
        | false => rw [hb] at he; cases he
        | true =>
          rw [hb] at he
          simp only [cond_true, Option.some.injEq] at he; subst he
          simp only [Bool.and_eq_true, beq_iff_eq] at hb
          obtain ⟨rfl, rfl⟩ := hb
          have hq : q < l.length := hp
          refine go _ rfl rfl (by simp [RC.len]) rfl rfl (fun _ => trivial) fun S' ρ a w hag hs _ => ?_
          have h1 : a.eval y = .bool true := hyrel S' ρ a w hag hs
          rw [h1]
          refine ⟨by have := hsz; simp [Value.cells] at this ⊢; omega, by simp [Value.cells], by simp [Value.cells, Value.oneCell'], by simp [Value.cells, RC.cells]; omega, ?_⟩
          simpa [RC.cells, Value.cells] using bools_store l q true hq
      · rename_i e0 l
        cases hb : (sz == 1 && f == 0) with
        | false => rw [hb] at he; cases he
        | true =>
          rw [hb] at he
          simp only [cond_true, Option.some.injEq] at he; subst he
          simp only [Bool.and_eq_true, beq_iff_eq] at hb
          obtain ⟨rfl, rfl⟩ := hb
          have hq : q < l.length := hp
          refine go _ rfl rfl (by simp [RC.len]) rfl rfl (fun _ => trivial) fun S' ρ a w hag hs _ => ?_
          have h1 : a.eval y = .bool false := hyrel S' ρ a w hag hs
          rw [h1]
          refine ⟨by have := hsz; simp [Value.cells] at this ⊢; omega, by simp [Value.cells], by simp [Value.cells, Value.oneCell'], by simp [Value.cells, RC.cells]; omega, ?_⟩
          simpa [RC.cells, Value.cells] using bools_store l q false hq
      · rename_i e0 k l n
        cases hb : (sz == k && Nat.blt f k) with
        | false => rw [hb] at he; cases he
        | true =>
          rw [hb] at he
          simp only [cond_true, Option.some.injEq] at he; subst he
          simp only [Bool.and_eq_true, beq_iff_eq, Nat.blt_eq] at hb
          obtain ⟨rfl, hf⟩ := hb
          have hq : q < l.length := hp
          refine go _ rfl rfl (by simp [RC.len]) rfl rfl (fun hwf => ⟨hwf.1, fun z hz => ?_⟩) fun S' ρ a w hag hs hwf => ?_
          · rcases List.mem_or_eq_of_mem_set hz with hz | hz
            · exact hwf.2 z hz
            · subst hz
              have : l.getD q (List.replicate sz 0) = l[q] := by simp [hq]
              rw [List.length_set, this]
              exact hwf.2 _ (List.getElem_mem hq)
          · have h1 := rel_i (hyrel S' ρ a w hag hs)
            rw [h1]
            have hfl := flat_length l hwf.2
            have hmul : (q + 1) * sz ≤ l.length * sz := Nat.mul_le_mul_right _ hq
            rw [Nat.succ_mul] at hmul
            refine ⟨by have := hsz; simp [Value.cells] at this ⊢; omega, by simp [Value.cells], by simp [Value.cells, Value.oneCell'], by simp only [Value.cells, RC.cells, hfl]; simp; omega, ?_⟩
            simpa [RC.cells, Value.cells] using recs_store1 l hwf.2 q f n (List.replicate sz 0) hf hq
      · rename_i e0 k l m
        cases hb : (sz == k && (f == 0 && m.length == k)) with
        | false => rw [hb] at he; cases he
        | true =>
          rw [hb] at he
          simp only [cond_true, Option.some.injEq] at he; subst he
          simp only [Bool.and_eq_true, beq_iff_eq] at hb
          obtain ⟨rfl, rfl, hmk⟩ := hb
          have hq : q < l.length := hp
          refine go _ rfl rfl (by simp [RC.len]) rfl rfl (fun hwf => ⟨hwf.1, fun z hz => ?_⟩) fun S' ρ a w hag hs hwf => ?_
          · rcases List.mem_or_eq_of_mem_set hz with hz | hz
            · exact hwf.2 z hz
            · subst hz; exact hmk
          · have h1 := rel_s (hyrel S' ρ a w hag hs)
            rw [h1]
            have hfl := flat_length l hwf.2
            have hmul : (q + 1) * sz ≤ l.length * sz := Nat.mul_le_mul_right _ hq
            rw [Nat.succ_mul] at hmul
            have hpos := hwf.1
            refine ⟨by have := hsz; simp [Value.cells] at this ⊢; omega, by simp [Value.cells]; omega, ?_, by simp only [Value.cells, RC.cells, hfl]; simp; omega, ?_⟩
            · intro u hu; exact one_vI u (by simpa [Value.cells] using hu)
            · have := recs_store l hwf.2 q m hq
              simpa [RC.cells, Value.cells, hmk] using this
      · cases he
    · rename_i t' l hm
      split at he
      · rename_i n
        simp only [Option.some.injEq] at he; subst he
        have hq : q * sz + f < l.length := hp
        have hres : setAt l (q * sz + f) [n] = l.set (q * sz + f) n := rfl
        rw [← hres]
        refine good_store_of hN hw hop hm hh rfl fun S' ρ a w hag hs => ?_
        obtain ⟨g, h1, hown, h2⟩ := hs.mem h _ (mem_at hag hh hm)
        have h5 := rel_i (hyrel S' ρ a w hag hs)
        obtain ⟨h3, h4⟩ := ibox_store (t := t) (v := a.eval y) (m := [n]) (o' := q * sz + f) h1 hown h2 (by rw [h5]; rfl) hi (his.trans (by simpa using hsz)) (by simp; omega)
        refine ⟨g, _, by rw [h1]; rfl, ?_, h4⟩
        rw [hxa S' ρ a w hag hs, h1, addTo_ptr]
        exact h3
      · cases he
    · cases he
  · rename_i h p sz q f hx
    split at he
    case h_2 => cases he
    rename_i n
    exact good_storeN hT hN hw hop hx hy hti (by simpa using hsz) he hp (hR h (by rw [hx]; simp [AV.hs, A0.hs]))
  · cases he
end
end Go.Proofs.Ytacomnelongbjab
namespace Go.Proofs.Ytacomnelongbjab
open Go Go.RowKit

section
variable {c : Ctx} {ops : Array Oper} {o : Oper} {S : St} {R : List Nat}

/-! #### structs -/
theorem fold_cells {cs : Array Value} {off : Nat} {v : Value} (hfit : off + v.cells.size ≤ cs.size) :
    (v.cells.zipIdx.foldl (fun cs (c, j) => cs.setIfInBounds (off + j) c) cs).toList = cs.toList.take off ++ v.cells.toList ++ cs.toList.drop (off + v.cells.size) := by
  rw [← Array.foldl_toList, Array.toList_zipIdx]
  have key : ∀ (l : List Value) (k : Nat) (cs : Array Value), off + k + l.length ≤ cs.size →
      ((l.zipIdx k).foldl (fun (cs : Array Value) (p : Value × Nat) => cs.setIfInBounds (off + p.2) p.1) cs).toList = cs.toList.take (off + k) ++ l ++ cs.toList.drop (off + k + l.length) := by
    intro l
    induction l with
    | nil => intro k cs _; simp
    | cons x l ih =>
      intro k cs h
      simp only [List.length_cons] at h
      simp only [List.zipIdx_cons, List.foldl_cons]
      rw [ih (k + 1) _ (by simp; omega)]
      have hs : (cs.setIfInBounds (off + k) x).toList = cs.toList.take (off + k) ++ x :: cs.toList.drop (off + k + 1) := by
        rw [Array.toList_setIfInBounds, List.set_eq_take_append_cons_drop, if_pos (by simp; omega)]
      have hl : (cs.toList.take (off + k)).length = off + k := by simp; omega
      have h1 : (cs.setIfInBounds (off + k) x).toList.take (off + (k + 1)) = cs.toList.take (off + k) ++ [x] := by
        rw [hs, List.take_append, hl, List.take_of_length_le (by omega), show off + (k + 1) - (off + k) = 1 by omega]
        simp
      have h2 : (cs.setIfInBounds (off + k) x).toList.drop (off + (k + 1) + l.length) = cs.toList.drop (off + k + (l.length + 1)) := by
        rw [Array.toList_setIfInBounds, List.drop_set, if_pos (by omega)]
        congr 1
        omega
      rw [h1, h2]
      simp
  have := key v.cells.toList 0 cs (by simpa using hfit)
  simpa using this

theorem fill_build {place : Nat → Option (Nat × Nat)} {fs : List (Nat × Nat)} (hpl : ∀ (j : Nat) (p : Nat × Nat), fs[j]? = some p → place j = some p) {ρ : Nat → Value} : ∀ (ps : List (Nat × AV)) (vs : List (Nat × Value)) (cs res : List Int) (ca : Array Value),
    vs.length = ps.length → (∀ (j : Nat) (p : Nat × AV), ps[j]? = some p → ∃ v, vs[j]? = some (p.1, v) ∧ p.2.rel ρ v) → ca = (cs.map vI).toArray → buildOf fs ps cs = some res → Instr.fill place ca vs = some (res.map vI).toArray
  | [], vs, cs, res, ca, hl, _, hca, hb => by
    simp only [buildOf, Option.some.injEq] at hb
    subst hb
    have : vs = [] := List.eq_nil_of_length_eq_zero hl
    subst this
    rw [Instr.fill, hca]
  | p :: ps, [], cs, res, ca, hl, _, _, _ => by simp at hl
  | p :: ps, v :: vs, cs, res, ca, hl, hrel, hca, hb => by
    obtain ⟨u, hu, hr⟩ := hrel 0 p rfl
    simp only [List.getElem?_cons_zero, Option.some.injEq] at hu
    subst hu
    obtain ⟨i, a⟩ := p
    have ih := fill_build hpl (ρ := ρ) ps vs
    have hrel' : ∀ (j : Nat) (p : Nat × AV), ps[j]? = some p → ∃ v, vs[j]? = some (p.1, v) ∧ p.2.rel ρ v := fun j p hp => by simpa using hrel (j + 1) p (by simpa using hp)
    have hl' : vs.length = ps.length := by simpa using hl
    unfold buildOf at hb
    split at hb
    · rename_i h; cases h
    · rename_i cs _ _ i' n r' heq
      simp only [List.cons.injEq, Prod.mk.injEq] at heq
      obtain ⟨⟨rfl, rfl⟩, rfl⟩ := heq
      split at hb
      · rename_i q hq
        cases hc : (q.2 == 1 && Nat.blt q.1 cs.length) with
        | false => rw [hc] at hb; cases hb
        | true =>
          rw [hc] at hb
          simp only [cond_true] at hb
          simp only [Bool.and_eq_true, beq_iff_eq, Nat.blt_eq] at hc
          have hu := rel_i hr
          subst hu
          have hpl' := hpl i q hq
          obtain ⟨q1, q2⟩ := q
          simp only at hc
          obtain ⟨rfl, hlt⟩ := hc
          have hsz : ca.size = cs.length := by rw [hca]; simp
          rw [Instr.fill, hpl']
          dsimp only
          split
          · rename_i hbad
            exfalso
            simp [Value.cells, hsz] at hbad
            omega
          refine ih (cs.set q1 n) res _ hl' hrel' ?_ hb
          have hf := fold_cells (cs := ca) (off := q1) (v := vI n) (by simp [Value.cells, hsz]; omega)
          apply Array.ext'
          refine Eq.trans hf ?_
          rw [List.set_eq_take_append_cons_drop, if_pos hlt, hca]
          simp [Value.cells]
      · cases hb
    · rename_i cs _ _ i' m r' heq
      simp only [List.cons.injEq, Prod.mk.injEq] at heq
      obtain ⟨⟨rfl, rfl⟩, rfl⟩ := heq
      split at hb
      · rename_i q hq
        cases hc : (q.2 == m.length && Nat.ble (q.1 + m.length) cs.length) with
        | false => rw [hc] at hb; cases hb
        | true =>
          rw [hc] at hb
          simp only [cond_true] at hb
          simp only [Bool.and_eq_true, beq_iff_eq] at hc
          obtain ⟨hc1, hc2⟩ := hc
          have hfit := Nat.le_of_ble_eq_true hc2
          have hu := rel_s hr
          subst hu
          have hpl' := hpl i q hq
          obtain ⟨q1, q2⟩ := q
          simp only at hc1 hfit
          subst hc1
          have hsz : ca.size = cs.length := by rw [hca]; simp
          rw [Instr.fill, hpl']
          dsimp only
          split
          · rename_i hbad
            exfalso
            simp [cells_s, hsz] at hbad
            omega
          refine ih (setAt cs q1 m) res _ hl' hrel' ?_ hb
          have hf := fold_cells (cs := ca) (off := q1) (v := .agg (m.map vI).toArray) (by simp [cells_s, hsz]; omega)
          apply Array.ext'
          refine Eq.trans hf ?_
          rw [setAt_eq m cs q1 hfit, hca]
          simp [cells_s]
      · cases hb
    · cases hb

theorem parts_rel {ρ : Nat → Value} {a : Act} (ps : List (Nat × Operand)) (h : ∀ p ∈ ps, (S.eval p.2).rel ρ (a.eval p.2)) :
    (ps.map fun p => (p.1, a.eval p.2)).length = (ps.map fun p => (p.1, S.eval p.2)).length ∧
    ∀ (j : Nat) (p : Nat × AV), (ps.map fun p => (p.1, S.eval p.2))[j]? = some p → ∃ v, (ps.map fun p => (p.1, a.eval p.2))[j]? = some (p.1, v) ∧ p.2.rel ρ v := by
  refine ⟨by simp, fun j p hp => ?_⟩
  simp only [List.getElem?_map, Option.map_eq_some_iff] at hp
  obtain ⟨q, hq, rfl⟩ := hp
  exact ⟨a.eval q.2, by simp [hq], h q (List.mem_of_getElem? hq)⟩

theorem mapM_ok {α β : Type} {P : Program} {w : World} (f : α → Sem β) (g : α → β) : ∀ (l : List α), (∀ x ∈ l, (f x).run P w = .ok (g x) w) → (l.mapM f).run P w = .ok (l.map g) w
  | [], _ => rfl
  | x :: l, h => by
    have ih := mapM_ok f g l (fun y hy => h y (by simp [hy]))
    simp [List.mapM_cons, h x (by simp), ih]

theorem good_build {tab : Tab} (hT : TabOk c.P tab) {t : Nat} {ps : Array (Nat × Operand)} {e : Eff} (hN : ∀ d, o.dst = some d → d < c.N) (hw : Wanted c ops o S) (hop : o.op = .build t ps)
    (he : effBuild (look t tab) (ps.toList.map fun p => (p.1, S.eval p.2)) = some e) : Good c ops o (den S) R e.val.norm (normWr e.wr) := by
  have hin : ∀ ρ (a : Act), (∀ x ∈ o.op.operands.toList, (S.eval x).rel ρ (a.eval x)) → ∀ p ∈ ps.toList, (S.eval p.2).rel ρ (a.eval p.2) := fun ρ a hx p hp => hx p.2 (by
    simp only [hop, Op.operands]
    exact List.mem_map.2 ⟨p, hp, rfl⟩)
  unfold effBuild at he
  split at he
  · rename_i fs n _ hti
    split at he
    · rename_i cs hcs
      simp only [val1, Option.some.injEq] at he; subst he
      obtain ⟨F, i, hu, hi, his, _, hz, hfs, _⟩ := tiB_struct (hT _ _ hti)
      obtain ⟨hFl, hat⟩ := fieldsB_at hfs
      refine good_val hN hw fun ρ a w hx => ⟨.agg (cs.map vI).toArray, ?_, rfl⟩
      obtain ⟨hl, hrel⟩ := parts_rel ps.toList (hin ρ a hx)
      have hmap : (F.mapM fun f => do pure (f.offset, ← sizeOf f.type) : Sem (Array (Nat × Nat))).run c.P w = .ok fs.toArray w := by
        rw [Array.mapM_eq_mapM_toList]
        have h1 : ∀ f ∈ F.toList, (do pure (f.offset, ← sizeOf f.type) : Sem (Nat × Nat)).run c.P w = .ok (f.offset, ((c.P.info? f.type).map (·.size)).getD 0) w := by
          intro f hf
          obtain ⟨j, hj⟩ := List.getElem?_of_mem hf
          have hjl : j < fs.length := by rw [← hFl]; exact (List.getElem?_eq_some_iff.1 hj).1
          obtain ⟨f', fi, h1, h2, h3, h4, _⟩ := hat j fs[j] (by simp [hjl])
          have : f' = f := Option.some.inj (h1.symm.trans hj)
          subst this
          simp [run_size h3, h3]
        rw [Sem.run_map, mapM_ok _ _ _ h1]
        simp only [Result.andThen_ok]
        congr 2
        apply List.ext_getElem?
        intro j
        by_cases hj : j < fs.length
        · obtain ⟨f', fi, h1, h2, h3, h4, _⟩ := hat j fs[j] (by simp [hj])
          simp only [List.getElem?_map, h1, Option.map_some, h3, Option.getD_some, h2, h4]
          simp [hj]
        · rw [List.getElem?_eq_none (by rw [List.length_map, hFl]; omega), List.getElem?_eq_none (by omega)]
      have hfill := fill_build (place := fun j => fs.toArray[j]?) (fs := fs) (fun j p hp => by simpa using hp) (ρ := ρ) (ps.toList.map fun p => (p.1, S.eval p.2)) (ps.toList.map fun p => (p.1, a.eval p.2)) (List.replicate n 0) cs ((List.replicate n (vI 0)).toArray) hl hrel (by simp) hcs
      simp only [execOp, hop, Instr.build, Sem.run_bind, run_zero hi hz, Result.andThen_ok, run_underlying hu, hmap]
      have hpa : (ps.map fun p => (p.1, a.eval p.2)).toList = ps.toList.map fun p => (p.1, a.eval p.2) := by simp
      simp only [Value.cells, hpa, hfill, Sem.run_pure, Result.andThen_ok]
    · cases he
  · rename_i m el n _ hti
    split at he
    · rename_i cs hcs
      simp only [val1, Option.some.injEq] at he; subst he
      obtain ⟨i, ei, hu, hi, his, _, hz, hmn, hei, hes⟩ := tiB_array (hT _ _ hti)
      refine good_val hN hw fun ρ a w hx => ⟨.agg (cs.map vI).toArray, ?_, rfl⟩
      obtain ⟨hl, hrel⟩ := parts_rel ps.toList (hin ρ a hx)
      subst hmn
      have hfill := fill_build (place := fun j => some (j * ei.size, ei.size)) (fs := (List.range m).map fun j => (j, 1)) (fun j p hp => by
          simp only [List.getElem?_map, Option.map_eq_some_iff] at hp
          obtain ⟨k, hk, rfl⟩ := hp
          have : k = j := by
            have := List.getElem?_eq_some_iff.1 hk
            obtain ⟨_, h⟩ := this
            simpa using h.symm
          subst this
          simp [hes]) (ρ := ρ) (ps.toList.map fun p => (p.1, S.eval p.2)) (ps.toList.map fun p => (p.1, a.eval p.2)) (List.replicate m 0) cs ((List.replicate m (vI 0)).toArray) hl hrel (by simp) hcs
      simp only [execOp, hop, Instr.build, Sem.run_bind, run_zero hi hz, Result.andThen_ok, run_underlying hu, run_size hei]
      have hpa : (ps.map fun p => (p.1, a.eval p.2)).toList = ps.toList.map fun p => (p.1, a.eval p.2) := by simp
      simp only [Value.cells, hpa, hfill, Sem.run_pure, Result.andThen_ok]
    · cases he
  · cases he
end
end Go.Proofs.Ytacomnelongbjab

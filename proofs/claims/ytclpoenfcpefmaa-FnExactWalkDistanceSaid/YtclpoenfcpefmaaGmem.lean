/-
  Each effect of the abstract machine is sound: boxes, loads, stores, structs. Conditions: none; this text proves nothing of the program.
-/
import Derived.Test.YtclpoenfcpefmaaGood
namespace Go.Proofs.Ytclpoenfcpefmaa
open Go Go.RowKit

section
variable {c : Ctx} {ops : Array Oper} {o : Oper} {S : St} {R : List Nat}

theorem fresh_of {S' : SS} {wr : Wr} (hfr : ∀ x ∈ wrHs wr, x ∉ R → S'.Fresh c x) {d : Nat} {e : Option Entry} (hw : wr = [(d, e)]) (hR : d ∉ R) : S'.Fresh c d := hfr d (by simp [hw, wrHs]) hR

theorem addTo_ptr (g k : Nat) : addTo (.pointer (some ⟨g, 0, none⟩)) k = .pointer (some ⟨g, k, none⟩) := by simp [addTo, add0]

theorem ibox_holds {c : Ctx} {w : World} {ρ : Nat → Value} {d t : Nat} {l : List Int} {cs : Array Value} (hc : cs = (l.map vI).toArray) (hf : Frame0 c w) :
    (Entry.ibox t l).holds c (w.alloc (.cells cs t)) (upd ρ d (.pointer (some ⟨w.heap.size, 0, none⟩))) d := by
  subst hc
  exact ⟨w.heap.size, upd_same _ _ _, .inl hf.size, heap_alloc_new w _⟩
theorem box1_holds {c : Ctx} {w : World} {ρ : Nat → Value} {d t : Nat} {a0 : A0} {v : Value} (hf : Frame0 c w) (hr : ∀ ρ, a0.rel ρ v) (hv : v.cells = #[v]) :
    (Entry.box t [a0]).holds c (w.alloc (.cells v.cells t)) (upd ρ d (.pointer (some ⟨w.heap.size, 0, none⟩))) d := by
  refine ⟨w.heap.size, #[v], upd_same _ _ _, .inl hf.size, by rw [hv]; exact heap_alloc_new w _, rfl, fun j a ha => ?_⟩
  cases j with
  | zero =>
    simp at ha; subst ha
    exact ⟨v, rfl, hr _⟩
  | succ j => simp at ha
theorem ref_rel (ρ : Nat → Value) (d g : Nat) : (AV.one (.ref d 0)).rel (upd ρ d (.pointer (some ⟨g, 0, none⟩))) (.pointer (some ⟨g, 0, none⟩)) := by
  simp [AV.rel, A0.rel, A0.conc, upd_same, addTo_ptr]

/-- A new box. -/
theorem good_newbox {d : Nat} {en : Entry} (hN : ∀ d, o.dst = some d → d < c.N) (hw : Wanted c ops o S) (hd : o.dst = some d) (hR : d ∉ R)
    (h : ∀ ρ (a : Act) w, (∀ x ∈ o.op.operands.toList, (S.eval x).rel ρ (a.eval x)) → Frame0 c w → ∃ cs t, (execOp a.eval o).run c.P w = .ok (.value (.pointer (some ⟨w.heap.size, 0, none⟩))) (w.alloc (.cells cs t)) ∧
      en.norm.holds c (w.alloc (.cells cs t)) (upd ρ d (.pointer (some ⟨w.heap.size, 0, none⟩))) d) : Good c ops o (den S) R (AV.one (.ref d 0)) (normWr [(d, some en)]) := by
  refine good_of hN hw fun S' ρ a w hag hfr hs hdl => ?_
  obtain ⟨cs, t, hr, hh⟩ := h ρ a w (fun x hx => eval_rel hag hs hx) hs.frame
  refine ⟨_, _, upd ρ d (.pointer (some ⟨w.heap.size, 0, none⟩)), .inl hr, ?_⟩
  rw [hd]
  exact hs.alloc (hdl d hd) (hfr d (by simp [wrHs, normWr]) hR) (fun k hk => by simpa [Blk, blkOf] using hk.symm) hh (ref_rel ρ d _)

theorem good_box {t : Nat} {x : Operand} {e : Eff} (hN : ∀ d, o.dst = some d → d < c.N) (hw : Wanted c ops o S) (hop : o.op = .box t x) (he : effBox t o.dst (S.eval x) = some e) (hR : ∀ d, o.dst = some d → d ∉ R) : Good c ops o (den S) R e.val.norm (normWr e.wr) := by
  unfold effBox at he
  split at he
  · rename_i d l hd hx
    cases he
    refine good_newbox hN hw hd (hR d hd) fun ρ a w hxx hf => ?_
    have h1 := hxx x (by simp [hop, Op.operands])
    rw [hx] at h1
    exact ⟨_, t, by simp [execOp, hop, run_box]; rfl, ibox_holds (by rw [rel_s h1]; rfl) hf⟩
  · rename_i d l hd hx
    cases he
    refine good_newbox hN hw hd (hR d hd) fun ρ a w hxx hf => ?_
    have h1 := hxx x (by simp [hop, Op.operands])
    rw [hx] at h1
    exact ⟨_, t, by simp [execOp, hop, run_box]; rfl, ibox_holds (by rw [rel_i h1]; rfl) hf⟩
  · rename_i d l hd hx
    cases he
    refine good_newbox hN hw hd (hR d hd) fun ρ a w hxx hf => ?_
    have h1 := hxx x (by simp [hop, Op.operands])
    rw [hx] at h1
    exact ⟨_, t, by simp [execOp, hop, run_box]; rfl, box1_holds hf (fun ρ => by rw [rel_b h1]; rfl) (by rw [rel_b h1]; rfl)⟩
  · rename_i d hd hx
    cases he
    refine good_newbox hN hw hd (hR d hd) fun ρ a w hxx hf => ?_
    have h1 := hxx x (by simp [hop, Op.operands])
    rw [hx] at h1
    have h2 : a.eval x = .bool true := h1
    exact ⟨_, t, by simp [execOp, hop, run_box]; rfl, box1_holds hf (fun ρ => by rw [h2]; rfl) (by rw [h2]; rfl)⟩
  · rename_i d hd hx
    cases he
    refine good_newbox hN hw hd (hR d hd) fun ρ a w hxx hf => ?_
    have h1 := hxx x (by simp [hop, Op.operands])
    rw [hx] at h1
    have h2 : a.eval x = .bool false := h1
    exact ⟨_, t, by simp [execOp, hop, run_box]; rfl, box1_holds hf (fun ρ => by rw [h2]; rfl) (by rw [h2]; rfl)⟩
  · cases he

theorem good_alloc {tab : Tab} (hT : TabOk c.P tab) {t : Nat} {e : Eff} (hN : ∀ d, o.dst = some d → d < c.N) (hw : Wanted c ops o S) (hop : o.op = .alloc t) (he : effAlloc t o.dst (look t tab) = some e) (hR : ∀ d, o.dst = some d → d ∉ R) : Good c ops o (den S) R e.val.norm (normWr e.wr) := by
  unfold effAlloc at he
  split at he
  · rename_i d _ _ hd hx
    cases he
    refine good_newbox hN hw hd (hR d hd) fun ρ a w hxx hf => ?_
    obtain ⟨_, _, i, hi, _, _, hz⟩ := tiB_int (hT _ _ hx)
    exact ⟨_, t, by simp [execOp, hop, run_alloc hi hz]; rfl, ibox_holds rfl hf⟩
  · rename_i d _ _ hd hx
    cases he
    refine good_newbox hN hw hd (hR d hd) fun ρ a w hxx hf => ?_
    obtain ⟨_, _, i, hi, _, _, hz⟩ := tiB_bool (hT _ _ hx)
    exact ⟨_, t, by simp [execOp, hop, run_alloc hi hz, Value.cells], box1_holds hf (fun ρ => rfl) rfl⟩
  · rename_i d _ _ _ hd hx
    cases he
    refine good_newbox hN hw hd (hR d hd) fun ρ a w hxx hf => ?_
    obtain ⟨F, i, _, hi, _, _, hz, _⟩ := tiB_struct (hT _ _ hx)
    exact ⟨_, t, by simp [execOp, hop, run_alloc hi hz]; rfl, ibox_holds (by simp [Value.cells]) hf⟩
  · rename_i d _ _ _ _ hd hx
    cases he
    refine good_newbox hN hw hd (hR d hd) fun ρ a w hxx hf => ?_
    obtain ⟨i, ei, _, hi, _, _, hz, _⟩ := tiB_array (hT _ _ hx)
    exact ⟨_, t, by simp [execOp, hop, run_alloc hi hz]; rfl, ibox_holds (by simp [Value.cells]) hf⟩
  · cases he


/-- What the handle of an entry is, and that its cells lie there. -/
theorem ibox_at {S' : SS} {ρ : Nat → Value} {tmps : Array Value} {w : World} (hs : SatR c S' ρ tmps w) {h t : Nat} {l : List Int} (hm : S'.mem h = some (.ibox t l)) :
    ∃ g, ρ h = .pointer (some ⟨g, 0, none⟩) ∧ w.heap[g]? = some (.cells (l.map vI).toArray t (0, 0)) := by
  obtain ⟨g, h1, _, h3⟩ := hs.mem h _ hm
  exact ⟨g, h1, h3⟩
theorem box_at {S' : SS} {ρ : Nat → Value} {tmps : Array Value} {w : World} (hs : SatR c S' ρ tmps w) {h t : Nat} {cs : List A0} (hm : S'.mem h = some (.box t cs)) :
    ∃ g arr, ρ h = .pointer (some ⟨g, 0, none⟩) ∧ w.heap[g]? = some (.cells arr t (0, 0)) ∧ arr.size = cs.length ∧ ∀ (j : Nat) (a : A0), cs[j]? = some a → ∃ v, arr[j]? = some v ∧ a.rel ρ v := by
  obtain ⟨g, arr, h1, _, h3⟩ := hs.mem h _ hm
  exact ⟨g, arr, h1, h3⟩
/-- A row with at least one element lies somewhere, and its cells can be read. -/
theorem row_at {S' : SS} {ρ : Nat → Value} {tmps : Array Value} {w : World} (hs : SatR c S' ρ tmps w) {h : Nat} {r : RC} {en : Entry} (hm : S'.mem h = some en) (hr : entryRow (some en) = some r) :
    r.wf ∧ ∃ A n cap, ρ h = .slice A n cap ∧ n = r.len ∧ n ≤ cap ∧ cap ≤ maxLen ∧ (0 < n → ∃ a, A = some a ∧ ∀ j u, r.cells[j]? = some u → w.cell? (a.add j) = some u) := by
  have hh := hs.mem h _ hm
  cases en with
  | ibox t l => cases hr
  | to d => cases hr
  | t1 d => cases hr
  | box t l => cases hr
  | ro r' =>
    cases hf : r'.flat with
    | false => simp [entryRow, hf] at hr
    | true =>
    simp only [entryRow, hf, cond_true, Option.some.injEq] at hr; subst hr
    obtain ⟨hwf, A, n, cap, h1, h2, h3, h4, h5⟩ := (ReadsRow.flat hf).1 hh
    exact ⟨hwf, A, n, cap, h1, h2, h3, h4, fun h0 => by obtain ⟨a, h6, _, h7⟩ := h5 h0; exact ⟨a, h6, h7⟩⟩
  | row r' =>
    cases hf : r'.flat with
    | false => simp [entryRow, hf] at hr
    | true =>
    simp only [entryRow, hf, cond_true, Option.some.injEq] at hr; subst hr
    obtain ⟨hwf, hown, _⟩ := (OwnsRow.flat hf).1 hh
    refine ⟨hwf, ?_⟩
    rcases hown.2 with ⟨hv, hn⟩ | ⟨g, cap, cur, hv, _, hg, hnc, hcm, _⟩
    · exact ⟨none, 0, 0, hv, hn.symm, Nat.le_refl _, Nat.zero_le _, fun h0 => absurd h0 (by omega)⟩
    · exact ⟨_, _, cap, hv, rfl, hnc, hcm, fun _ => ⟨_, rfl, hown.cells (g := g) (by rw [hv]; rfl)⟩⟩

theorem add_add (b : Addr) (n m : Nat) : (b.add n).add m = b.add (n + m) := by
  unfold Addr.add
  by_cases hn : n = 0 <;> by_cases hm : m = 0 <;> simp [hn, hm, Nat.add_assoc]
theorem addTo_pointer (a : Addr) (n : Nat) : addTo (.pointer (some a)) n = .pointer (some (a.add n)) := rfl
theorem addTo_slice (a : Addr) (n k m : Nat) : addTo (.slice (some a) k m) n = .pointer (some (a.add n)) := rfl

/-- What a handle of several values is. -/
theorem comp_at {S' : SS} {ρ : Nat → Value} {tmps : Array Value} {w : World} (hs : SatR c S' ρ tmps w) {h : Nat} {r : RC} {en : Entry} (hm : S'.mem h = some en) (hr : compOf (some en) = some r) : ∃ in_, CompRow w in_ r (ρ h) ∧ r.flat = false := by
  have hh := hs.mem h _ hm
  cases en with
  | ibox t l => cases hr
  | to d => cases hr
  | t1 d => cases hr
  | box t l => cases hr
  | ro r' =>
    cases hf : r'.flat with
    | true => simp [compOf, hf] at hr
    | false =>
    simp only [compOf, hf, cond_false, Option.some.injEq] at hr; subst hr
    exact ⟨_, (ReadsRow.comp hf).1 hh, hf⟩
  | row r' =>
    cases hf : r'.flat with
    | true => simp [compOf, hf] at hr
    | false =>
    simp only [compOf, hf, cond_false, Option.some.injEq] at hr; subst hr
    exact ⟨_, (OwnsRow.comp hf).1 hh, hf⟩
theorem compOf_look {S : St} {h : Nat} {r : RC} (hr : compOf (look h S.mem) = some r) : ∃ en, look h S.mem = some en ∧ compOf (some en) = some r ∧ en.norm = en := by
  cases hl : look h S.mem with
  | none => rw [hl] at hr; simp [compOf] at hr
  | some en =>
    rw [hl] at hr
    refine ⟨en, rfl, hr, ?_⟩
    cases en <;> first | rfl | (simp [compOf] at hr)
/-- A handle of the state's own list. -/
theorem comp_of {S' : SS} {ρ : Nat → Value} {a : Act} {w : World} {h : Nat} {r : RC} (hag : Agree ops o R (den S) S') (hs : SatR c S' ρ a.tmps w) (hh : h ∈ R) (hr : compOf (look h S.mem) = some r) : ∃ in_, CompRow w in_ r (ρ h) := by
  obtain ⟨en, h1, h2, h3⟩ := compOf_look hr
  have hm := mem_at hag hh h1
  rw [h3] at hm
  obtain ⟨p, h4, _⟩ := comp_at hs hm h2
  exact ⟨p, h4⟩

theorem good_fieldTwo {tab : Tab} (hT : TabOk c.P tab) {t f ft gt : Nat} {sz by_ : Nat} {x : Operand} {e : Eff} (hN : ∀ d, o.dst = some d → d < c.N) (hw : Wanted c ops o S) (hop : o.op = .fieldAddr t x f) (hti : look t tab = some ⟨.two ft gt, sz, by_⟩) (he : fieldTwo S (S.eval x) f = some e) (hR : ∀ h ∈ (S.eval x).hs, h ∈ R) : Good c ops o (den S) R e.val.norm (normWr e.wr) := by
  unfold fieldTwo at he
  split at he
  case h_2 => cases he
  rename_i h hx
  split at he
  case h_2 => cases he
  rename_i _ _ _ _ _ hr
  cases hb : Nat.blt f 2 with
  | false => rw [hb] at he; cases he
  | true =>
  rw [hb] at he
  simp only [cond_true, val1, Option.some.injEq] at he; subst he
  have hf2 : f < 2 := by simpa [Nat.blt_eq] using hb
  obtain ⟨F, i, cs, hu, hi, his, hz, hzs, hF⟩ := tiB_two (hT _ _ hti)
  obtain ⟨fa, fb, hFF, o1, o2, t1, t2, ⟨i1, hi1, hs1⟩, ⟨i2, hi2, hs2⟩⟩ := twoB_spec hF
  refine good_of hN hw fun S' ρ a w hag _ hs hd => ?_
  have h1 := eval_rel hag hs (x := x) (by simp [hop, Op.operands])
  rw [hx] at h1
  have h1' : a.eval x = hdV (ρ h) := h1
  obtain ⟨in_, g, A, b, es, clock, t', hv, _, hg, _⟩ := comp_of hag hs (hR h (by rw [hx]; simp [AV.hs, A0.hs])) hr
  have hev : a.eval x = .pointer (some ⟨g, 0, none⟩) := by rw [h1', hv]; rfl
  have run : (execOp a.eval o).run c.P w = .ok (.value (.pointer (some ⟨g, f, none⟩))) w := by
    have hFa : F = #[fa, fb] := by apply Array.ext'; simpa using hFF
    rcases (by omega : f = 0 ∨ f = 1) with rfl | rfl
    · have := run_fieldAt (P := c.P) (w := w) (a := ⟨g, 0, none⟩) (f := 0) (fd := fa) hu (by rw [hFa]; rfl) (by rw [t1]; exact hi1) (by omega)
      simp [execOp, hop, hev, this, o1, add0]
    · have := run_fieldAt (P := c.P) (w := w) (a := ⟨g, 0, none⟩) (f := 1) (fd := fb) hu (by rw [hFa]; rfl) (by rw [t2]; exact hi2) (by omega)
      simp [execOp, hop, hev, this, o2, add0]
  refine ⟨_, w, ρ, .inl run, hs.val hd ?_⟩
  show _ = addTo (seg (ρ h) 0) f
  rw [hv]
  exact (addTo_ptr g f).symm

theorem good_field {tab : Tab} (hT : TabOk c.P tab) {t f : Nat} {x : Operand} {e : Eff} (hN : ∀ d, o.dst = some d → d < c.N) (hw : Wanted c ops o S) (hop : o.op = .fieldAddr t x f) (he : effField (look t tab) S (S.eval x) f = some e) (hp : e.pre) (hR : ∀ h ∈ (S.eval x).hs, h ∈ R) : Good c ops o (den S) R e.val.norm (normWr e.wr) := by
  unfold effField at he
  split at he
  case h_2 =>
    split at he
    · rename_i hti
      exact good_fieldTwo hT hN hw hop hti he hR
    · cases he
  rename_i p hoff
  unfold fieldOff at hoff
  split at hoff
  case h_2 => cases hoff
  rename_i fs _ _ hti
  obtain ⟨F, i, hu, hi, _, _, _, hfs, _⟩ := tiB_struct (hT _ _ hti)
  obtain ⟨hl, hat⟩ := fieldsB_at hfs
  simp only [Option.map_eq_some_iff] at hoff
  obtain ⟨pq, hpq, rfl⟩ := hoff
  obtain ⟨fd, fi, hF, hfo, hfi, hfs', hpos, _⟩ := hat f pq hpq
  have hF' : F[f]? = some fd := by simpa using hF
  have hpos' : 0 < fi.size := by omega
  have run : ∀ (a : Act) (w : World) (ad : Addr), a.eval x = .pointer (some ad) → (execOp a.eval o).run c.P w = .ok (.value (.pointer (some (ad.add pq.1)))) w := by
    intro a w ad ha
    simp [execOp, hop, ha, run_fieldAt hu hF' hfi hpos', hfo]
  have main : ∀ (h : Nat) (a0 a1 : A0), S.eval x = .one a0 → h ∈ a0.hs → e.val = .one a1 → e.wr = [] →
      (∀ (S' : SS) (ρ : Nat → Value) (a : Act) (w : World), Agree ops o R (den S) S' → SatR c S' ρ a.tmps w → ∃ ad : Addr, a0.conc ρ = .pointer (some ad) ∧ a1.conc ρ = .pointer (some (ad.add pq.1))) →
      (∀ ρ v, v = a0.conc ρ ↔ a0.rel ρ v) → (∀ ρ v, v = a1.conc ρ ↔ a1.rel ρ v) → Good c ops o (den S) R e.val.norm (normWr e.wr) := by
    intro h a0 a1 hx _ hv hwr hk hr0 hr1
    rw [hv, hwr]
    refine good_of hN hw fun S' ρ a w hag _ hs hd => ?_
    have h1 := eval_rel hag hs (x := x) (by simp [hop, Op.operands])
    rw [hx] at h1
    have h1' : a.eval x = a0.conc ρ := (hr0 ρ _).2 h1
    obtain ⟨ad, ha0, ha1⟩ := hk S' ρ a w hag hs
    refine ⟨_, w, ρ, .inl (run a w ad (h1'.trans ha0)), hs.val hd ((AV.rel_norm ρ _ _).2 ((hr1 ρ _).1 ha1.symm))⟩
  split at he
  · rename_i h off hx
    split at he
    · rename_i hm; cases he
      refine main h _ _ hx (by simp [A0.hs]) rfl rfl (fun S' ρ a w hag hs => ?_) (fun _ _ => Iff.rfl) (fun _ _ => Iff.rfl)
      obtain ⟨g, h1, _⟩ := ibox_at hs (mem_at hag (hR h (by rw [hx]; simp [AV.hs, A0.hs])) hm)
      exact ⟨(⟨g, 0, none⟩ : Addr).add off, by simp only [A0.conc, h1, addTo_pointer], by simp only [A0.conc, h1, addTo_pointer, add_add]⟩
    · rename_i hm; cases he
      refine main h _ _ hx (by simp [A0.hs]) rfl rfl (fun S' ρ a w hag hs => ?_) (fun _ _ => Iff.rfl) (fun _ _ => Iff.rfl)
      obtain ⟨g, _, h1, _⟩ := box_at hs (mem_at hag (hR h (by rw [hx]; simp [AV.hs, A0.hs])) hm)
      exact ⟨(⟨g, 0, none⟩ : Addr).add off, by simp only [A0.conc, h1, addTo_pointer], by simp only [A0.conc, h1, addTo_pointer, add_add]⟩
    · cases he
  · rename_i h sz q g0 hx
    split at he
    · rename_i hm; cases he
      refine main h _ _ hx (by simp [A0.hs]) rfl rfl (fun S' ρ a w hag hs => ?_) (fun _ _ => Iff.rfl) (fun _ _ => Iff.rfl)
      obtain ⟨g, h1, _⟩ := ibox_at hs (mem_at hag (hR h (by rw [hx]; simp [AV.hs, A0.hs])) hm)
      exact ⟨(⟨g, 0, none⟩ : Addr).add (q * sz + g0), by simp only [A0.conc, h1, addTo_pointer], by simp only [A0.conc, h1, addTo_pointer, add_add, Nat.add_assoc]⟩
    · rename_i r hm
      cases hfl : r.flat with
      | false => rw [hfl] at he; cases he
      | true =>
      rw [hfl] at he
      simp only [cond_true, Option.some.injEq] at he; subst he
      refine main h _ _ hx (by simp [A0.hs]) rfl rfl (fun S' ρ a w hag hs => ?_) (fun _ _ => Iff.rfl) (fun _ _ => Iff.rfl)
      obtain ⟨_, A, n, cap, h1, h2, _, _, h5⟩ := row_at (r := r) hs (mem_at hag (hR h (by rw [hx]; simp [AV.hs, A0.hs])) hm) (by simp [Entry.norm, entryRow, hfl])
      have hp' : q < r.len := hp
      obtain ⟨ad, hA, _⟩ := h5 (by omega)
      subst hA
      exact ⟨ad.add (q * sz + g0), by simp only [A0.conc, h1, addTo_slice], by simp only [A0.conc, h1, addTo_slice, add_add, Nat.add_assoc]⟩
    · rename_i r hm
      cases hfl : r.flat with
      | false => rw [hfl] at he; cases he
      | true =>
      rw [hfl] at he
      simp only [cond_true, Option.some.injEq] at he; subst he
      refine main h _ _ hx (by simp [A0.hs]) rfl rfl (fun S' ρ a w hag hs => ?_) (fun _ _ => Iff.rfl) (fun _ _ => Iff.rfl)
      obtain ⟨_, A, n, cap, h1, h2, _, _, h5⟩ := row_at (r := r) hs (mem_at hag (hR h (by rw [hx]; simp [AV.hs, A0.hs])) hm) (by simp [Entry.norm, entryRow, hfl])
      have hp' : q < r.len := hp
      obtain ⟨ad, hA, _⟩ := h5 (by omega)
      subst hA
      exact ⟨ad.add (q * sz + g0), by simp only [A0.conc, h1, addTo_slice], by simp only [A0.conc, h1, addTo_slice, add_add, Nat.add_assoc]⟩
    · cases he
  · cases he
end
end Go.Proofs.Ytclpoenfcpefmaa

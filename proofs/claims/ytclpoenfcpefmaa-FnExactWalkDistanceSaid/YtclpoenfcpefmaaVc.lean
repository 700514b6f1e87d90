/-
  The verification condition of a function's body gives its contract; loops by invariants. Conditions: none; this text proves nothing of the program.
-/
import Derived.Test.YtclpoenfcpefmaaGrun
namespace Go.Proofs.Ytclpoenfcpefmaa
open Go Go.RowKit

def dstOk (N : Nat) (o : Oper) : Bool :=
  match o.dst with
  | none => true
  | some d => Nat.blt d N
def dstB (N : Nat) : Code → Bool
  | .region _ ops _ => ops.all (dstOk N)
  | .seq a b => dstB N a && dstB N b
  | .cond _ a b => dstB N a && dstB N b
  | .block _ b => dstB N b
  | .loop b => dstB N b
  | _ => true
theorem dstOk_spec {N : Nat} {o : Oper} (h : dstOk N o = true) : ∀ d, o.dst = some d → d < N := by
  intro d hd
  unfold dstOk at h
  rw [hd] at h
  simpa [Nat.blt_eq] using h

section
variable {c : Ctx} {Q0 : Exit → Act → World → Prop}

def Item.okB (N : Nat) : Item → Bool
  | .code x => dstB N x
  | .ops _ rest => rest.all (dstOk N)
  | .dops _ _ _ _ => false
  | .blk _ => true
  | .back _ => true
def Kont (c : Ctx) (Q0 : Exit → Act → World → Prop) : List Item → Exit → Act → World → Prop
  | [] => Q0
  | .code x :: k => Exit.then (x.wp c.P (Kont c Q0 k)) (Kont c Q0 k)
  | .ops all rest :: k => Exit.then (wpList c.P all.toArray (Kont c Q0 k) rest) (Kont c Q0 k)
  | .dops _ _ _ _ :: _ => fun _ _ _ => False
  | .blk id :: k => Exit.inBlock id (Kont c Q0 k)
  | .back J :: k => Exit.then (fun a w => ∃ S, J S ∧ Sat c (den S) a w) (Kont c Q0 k)
/-- what a stack means: an exit on top of it is on its way -/
def Mean (c : Ctx) (Q0 : Exit → Act → World → Prop) : List Item → Act → World → Prop
  | .code (.exit id) :: k => Kont c Q0 k (.exit id)
  | k => Kont c Q0 k .normal
theorem Mean.kont {k : List Item} {a : Act} {w : World} (h : Mean c Q0 k a w) : Kont c Q0 k .normal a w := by
  unfold Mean at h
  split at h
  · exact wp_exit h
  · exact h
theorem ok_cons {N : Nat} {it : Item} {k : List Item} (h : it.okB N = true) (hk : k.all (Item.okB N) = true) : (it :: k).all (Item.okB N) = true := by
  rw [List.all_cons, h, hk]; rfl
theorem kont_ret : ∀ {k : List Item} {a : Act} {w : World}, (k.all (Item.okB c.N)) = true → Q0 .ret a w → Kont c Q0 k .ret a w
  | [], _, _, _, h => h
  | .code x :: k, a, w, ho, h => kont_ret (k := k) (by simp at ho; simpa using ho.2) h
  | .ops all rest :: k, a, w, ho, h => kont_ret (k := k) (by simp at ho; simpa using ho.2) h
  | .dops _ _ _ _ :: k, a, w, ho, h => by simp [Item.okB] at ho
  | .blk id :: k, a, w, ho, h => kont_ret (k := k) (by simp at ho; simpa using ho.2) h
  | .back J :: k, a, w, ho, h => kont_ret (k := k) (by simp at ho; simpa using ho.2) h

theorem eval_sat {S : St} {ρ : Nat → Value} {a : Act} {w : World} (h : SatR c (den S) ρ a.tmps w) (x : Operand) : (S.eval x).rel ρ (a.eval x) := by
  cases x with
  | tmp t => exact (AV.rel_norm ρ _ _).1 (h.fr t)
  | const v => exact cst_rel ρ v
  | global g => simp [St.eval, AV.rel, A0.rel]
  | func f => simp [St.eval, AV.rel, A0.rel, A0.conc, Act.eval]

theorem Sat.drew {S : SS} {a : Act} {w : World} (h : Sat c S a w) : Sat c S a { w with drawn := w.drawn + 1 } := by
  obtain ⟨h1, h2, ρ, h3⟩ := h
  refine ⟨h1, h2, ρ, h3.fr, fun x e he => ?_, h3.sep, ⟨h3.frame.os, h3.frame.tape, h3.frame.output, h3.frame.size, h3.frame.block⟩, h3.pin, h3.inX⟩
  exact holds_keep (h3.mem x e he) h3.frame (Chg.drew w fun _ => False) (fun _ h => h.elim) (fun _ _ _ h => h) rfl (fun _ _ => rfl)

theorem toO_spec {e : Entry} {b : Bool} {d : Nat} (h : e.toO = some (b, d)) : e = if b = true then .to d else .t1 d := by
  cases e <;> simp [Entry.toO] at h
  · obtain ⟨rfl, rfl⟩ := h; rfl
  · obtain ⟨rfl, rfl⟩ := h; rfl
theorem A0.mv_rel {ρ : Nat → Value} {h d : Nat} (hd : hdV (ρ h) = hdV (ρ d)) (a : A0) (v : Value) (hr : a.rel ρ v) : (a.mv h d).rel ρ v := by
  cases a with
  | co x =>
    by_cases hx : x = h
    · subst hx
      simp only [A0.mv, beq_self_eq_true, cond_true]
      have h1 : v = hdV (ρ x) := hr
      show v = hdV (ρ d)
      rw [h1, hd]
    · have : (x == h) = false := by simpa using hx
      simp only [A0.mv, this, cond_false]
      exact hr
  | _ => exact hr
theorem A0.mv_norm (h d : Nat) (a : A0) : (a.mv h d).norm = a.norm.mv h d := by
  cases a with
  | co x => simp only [A0.mv, A0.norm]; cases (x == h) <;> rfl
  | _ => rfl
theorem AV.mv_rel {ρ : Nat → Value} {h d : Nat} (hd : hdV (ρ h) = hdV (ρ d)) (a : AV) (v : Value) (hr : a.rel ρ v) : (a.mv h d).rel ρ v := by
  cases a with
  | one a => exact A0.mv_rel hd a v hr
  | tup l =>
    obtain ⟨vs, hv, hl, hj⟩ := hr
    refine ⟨vs, hv, by simpa using hl, fun j a ha => ?_⟩
    simp only [List.getElem?_map, Option.map_eq_some_iff] at ha
    obtain ⟨b, hb, rfl⟩ := ha
    obtain ⟨u, hu, hr⟩ := hj j b hb
    exact ⟨u, hu, A0.mv_rel hd b u hr⟩
theorem A0.mv1_rel {ρ : Nat → Value} {h d : Nat} (hd : seg (ρ h) 1 = seg (ρ d) 1) (a : A0) (v : Value) (hr : a.rel ρ v) : (a.mv1 h d).rel ρ v := by
  cases a with
  | ci x q =>
    cases q with
    | succ q => exact hr
    | zero =>
      by_cases hx : x = h
      · subst hx
        simp only [A0.mv1, beq_self_eq_true, cond_true]
        have h1 : v = seg (ρ x) 1 := hr
        show v = seg (ρ d) 1
        rw [h1, hd]
      · have : (x == h) = false := by simpa using hx
        simp only [A0.mv1, this, cond_false]
        exact hr
  | ie x p z q f =>
    cases p with
    | succ p => exact hr
    | zero =>
      by_cases hx : x = h
      · subst hx
        simp only [A0.mv1, beq_self_eq_true, cond_true]
        have h1 : v = addTo (seg (ρ x) 1) (q * z + f) := hr
        show v = addTo (seg (ρ d) 1) (q * z + f)
        rw [h1, hd]
      · have : (x == h) = false := by simpa using hx
        simp only [A0.mv1, this, cond_false]
        exact hr
  | _ => exact hr
theorem AV.mv1_rel {ρ : Nat → Value} {h d : Nat} (hd : seg (ρ h) 1 = seg (ρ d) 1) (a : AV) (v : Value) (hr : a.rel ρ v) : (a.mv1 h d).rel ρ v := by
  cases a with
  | one a => exact A0.mv1_rel hd a v hr
  | tup l =>
    obtain ⟨vs, hv, hl, hj⟩ := hr
    refine ⟨vs, hv, by simpa using hl, fun j a ha => ?_⟩
    simp only [List.getElem?_map, Option.map_eq_some_iff] at ha
    obtain ⟨b, hb, rfl⟩ := ha
    obtain ⟨u, hu, hr⟩ := hj j b hb
    exact ⟨u, hu, A0.mv1_rel hd b u hr⟩
theorem look_map {α β : Type} (f : α → β) (s : Nat) : ∀ l : List (Nat × α), look s (l.map fun p => (p.1, f p.2)) = (look s l).map f
  | [] => rfl
  | p :: l => by
    simp only [List.map_cons, look, look_map f s l]
    cases (p.1 == s) <;> rfl
theorem sat_mv {S : St} {a : Act} {w : World} {h : Nat} {f : AV → AV} (hf : ∀ ρ : Nat → Value, (∀ e, look h S.mem = some e → ∀ c w, e.holds c w ρ h → ∀ v u, AV.rel ρ v u → AV.rel ρ (f v) u)) (hs : Sat c (den S) a w) (hne : ∃ e, look h S.mem = some e ∧ e.norm = e) : Sat c (den ⟨S.fr.map fun p => (p.1, f p.2), rem h S.mem⟩) a w := by
  obtain ⟨h1, h2, ρ, hr⟩ := hs
  obtain ⟨e, he, hen⟩ := hne
  have hm : (den S).mem h = some e := by simp [den, he, hen]
  have hhold := hr.mem h _ hm
  have hmem : ∀ x e', (den ⟨S.fr.map fun p => (p.1, f p.2), rem h S.mem⟩).mem x = some e' → (den S).mem x = some e' := by
    intro x e' hx
    simp only [den] at hx ⊢
    rw [look_rem] at hx
    by_cases hxp : x = h
    · simp [hxp] at hx
    · rwa [if_neg hxp] at hx
  refine ⟨h1, h2, ρ, fun s => ?_, fun x e' hx => hr.mem x e' (hmem x e' hx), fun x y e1 e2 hx hy => hr.sep x y e1 e2 (hmem x e1 hx) (hmem y e2 hy), hr.frame, hr.pin, hr.inX⟩
  simp only [den]
  rw [look_map f]
  have h3 := hr.fr s
  simp only [den] at h3
  cases hls : look s S.fr with
  | none => rw [hls] at h3; exact h3
  | some v =>
    rw [hls] at h3
    exact (AV.rel_norm ρ _ _).2 (hf ρ e he c w hhold v _ ((AV.rel_norm ρ _ _).1 h3))
theorem sat_res {S : St} {a : Act} {w : World} (hs : Sat c (den S) a w) : Sat c (den S.res) a w := by
  unfold St.res
  cases ht : toOf S.mem with
  | none => exact hs
  | some h =>
    simp only
    cases hl : (look h S.mem).bind Entry.toO with
    | none => exact hs
    | some p =>
      obtain ⟨b, d⟩ := p
      obtain ⟨e, he, hed⟩ := Option.bind_eq_some_iff.1 hl
      have hto := toO_spec hed
      cases b with
      | true =>
        simp only [if_true] at hto
        subst hto
        exact sat_mv (fun ρ e' he' c w hh v u hv => by
          rw [he] at he'; cases he'
          exact AV.mv_rel hh v u hv) hs ⟨_, he, rfl⟩
      | false =>
        simp only [Bool.false_eq_true, if_false] at hto
        subst hto
        exact sat_mv (fun ρ e' he' c w hh v u hv => by
          rw [he] at he'; cases he'
          exact AV.mv1_rel hh v u hv) hs ⟨_, he, rfl⟩

variable {pins : List Nat} {tab : Tab} {spec : Spec} {fin : St → Prop} {lp : Code → List Item → St → Prop}

theorem vc_sound (hT : TabOk c.P tab) (hspec : SpecOk c.P spec) (hp : pins = c.pins.map (·.1)) (hm : c.P.follows .mixedOrders = true)
    (hfin : ∀ S a w, fin S → Sat c (den S) a w → Q0 .normal a w ∧ Q0 .ret a w)
    (hlp : ∀ x k S a w, lp x k S → dstB c.N x = true → k.all (Item.okB c.N) = true → Sat c (den S) a w → Mean c Q0 (.code x :: k) a w) :
    ∀ (n : Nat) (k : List Item) (S : St), vc pins tab spec fin lp n k S → k.all (Item.okB c.N) = true → ∀ a w, Sat c (den S) a w → Mean c Q0 k a w := by
  intro n
  induction n using Nat.strongRecOn with
  | _ n ih =>
  cases n with
  | zero => intro k S h; exact h.elim
  | succ n =>
  intro k S h hok a w hs
  have ih' : ∀ {k : List Item} {S : St}, vc pins tab spec fin lp n k S → k.all (Item.okB c.N) = true → ∀ {a w}, Sat c (den S) a w → Mean c Q0 k a w := fun {k S} h1 h2 {a w} h3 => ih n (by omega) k S h1 h2 a w h3
  have h' : out (vc pins tab spec fin lp n) fin lp (step pins tab spec k S) := h
  cases k with
  | nil => exact (hfin S a w h' hs).1
  | cons it k =>
  have hok2 : k.all (Item.okB c.N) = true := by simp at hok; simpa using hok.2
  have hok1 : it.okB c.N = true := by simp at hok; exact hok.1
  cases it with
  | back J => exact ⟨S, h', hs⟩
  | blk id =>
    have h2 := (ih' h'.2 hok2 hs).kont
    exact h2
  | dops => simp [Item.okB] at hok1
  | ops all rest =>
    cases rest with
    | nil =>
      have h2 := (ih' h'.2 hok2 (sat_res hs)).kont
      exact h2
    | cons o r =>
      have hr : dstOk c.N o = true ∧ r.all (dstOk c.N) = true := by simpa [Item.okB] using hok1
      have h'' : out (vc pins tab spec fin lp n) fin lp (stepO pins all o r k .s S (eff tab spec o.dst o.op S)) := h'
      rcases stepO_one hT hspec (dstOk_spec hr.1) h'' with ⟨S1, hd, hv⟩ | ⟨R, val, wr, S2, hg, hd, hv, hfr⟩
      · have h2 := ih' (a := a) (w := w) hv (by simpa [Reg.item] using hok) (by rw [hd]; exact hs)
        exact h2.kont
      · refine wpList_step fun K hK => ?_
        refine hg (den S) ⟨fun _ _ => rfl, fun _ _ => rfl⟩ (fun x hx hR => allHs_fresh hp (hfr x hx hR)) a w hs K _ fun a' w' hs' => hK a' w' ?_
        rw [← hd] at hs'
        have h2 := ih' hv (by simpa [Reg.item, Reg.push, Item.okB, hok2] using hr.2) hs'
        exact h2.kont
  | code x =>
    cases x with
    | exit id =>
      cases k with
      | nil => exact hlp _ _ _ _ _ h' rfl rfl hs
      | cons it2 k =>
        have hok3 : k.all (Item.okB c.N) = true := by simp at hok2; simpa using hok2.2
        have pass : vc pins tab spec fin lp n (.code (.exit id) :: k) S → Kont c Q0 k (.exit id) a w := fun hv =>
          ih' hv (by simp only [List.all_cons, hok3, Bool.and_true]; rfl) hs
        cases it2 with
        | blk id' =>
          have h'' : out (vc pins tab spec fin lp n) fin lp (bif id == id' then .go True k S else .go True (.code (.exit id) :: k) S) := h'
          show (if id = id' then Kont c Q0 k .normal a w else Kont c Q0 k (.exit id) a w)
          by_cases hid : id = id'
          · have hb : (id == id') = true := by simpa using hid
            rw [hb] at h''
            rw [if_pos hid]
            have h2 := (ih' h''.2 hok3 hs).kont
            exact h2
          · have hb : (id == id') = false := by simpa using hid
            rw [hb] at h''
            rw [if_neg hid]
            exact pass h''.2
        | code y => exact pass h'.2
        | ops all rest => exact pass h'.2
        | dops => simp [Item.okB] at hok2
        | back J => exact pass h'.2
    | skip =>
      have h2 := (ih' h'.2 hok2 hs).kont
      exact wp_skip h2
    | region id ops draw =>
      have hd : ∀ o ∈ ops, dstOk c.N o = true := fun o ho => Array.all_eq_true'.1 hok1 o ho
      cases draw with
      | false =>
        have h2 := (ih' (k := .ops ops.toList ops.toList :: k) h'.2 (ok_cons (List.all_eq_true.2 fun o ho => hd o (by simpa using ho)) hok2) hs).kont
        exact wp_region_list h2
      | true =>
        have hv : vc pins tab spec fin lp n (.dops ops.toList ops.toList ([].map fpOf) (pins ++ allHs S) :: k) S := h'.2
        obtain ⟨evs, n', S', e1, e2, e3, e4, e5, e6, e7⟩ := drawn_run (all := ops.toList) (S0 := den S) hT hspec (fun o ho => dstOk_spec (hd o (by simpa using ho))) n [] ops.toList S rfl (by simp) trivial rfl hv
        have inv := anyInv_of hp rfl e1 e2 e3 e5
        have hlen : evs.length = ops.size := by rw [← Array.length_toList, ← e1, List.length_map]
        refine wp_region_any hm ?_
        refine any_order ops.size evs _ (den S) hlen (by simpa using inv) a _ hs.drew fun a' w' hs' => ?_
        rw [← e4] at hs'
        have h2 := (ih n' (by omega) k S'.res e7 hok2 a' w' (sat_res hs')).kont
        exact h2
    | seq x y =>
      have hb : dstB c.N x = true ∧ dstB c.N y = true := by simpa [Item.okB, dstB] using hok1
      have h2 := (ih' (k := .code x :: .code y :: k) h'.2 (ok_cons hb.1 (ok_cons hb.2 hok2)) hs).kont
      exact wp_seq h2
    | cond cc x y =>
      have hb : dstB c.N x = true ∧ dstB c.N y = true := by simpa [Item.okB, dstB] using hok1
      have h'' : out (vc pins tab spec fin lp n) fin lp (stepC x y k S (S.eval cc)) := h'
      have gx : vc pins tab spec fin lp n (.code x :: k) S → x.wp c.P (Kont c Q0 k) a w := fun hv => (ih' hv (ok_cons hb.1 hok2) hs).kont
      have gy : vc pins tab spec fin lp n (.code y :: k) S → y.wp c.P (Kont c Q0 k) a w := fun hv => (ih' hv (ok_cons hb.2 hok2) hs).kont
      obtain ⟨_, _, ρ, hr⟩ := hs
      have hrel := eval_sat hr cc
      unfold stepC at h''
      split at h''
      · rename_i he
        rw [he] at hrel
        exact wp_cond_true hrel (gx h''.2)
      · rename_i he
        rw [he] at hrel
        exact wp_cond_false hrel (gy h''.2)
      · rename_i b he
        rw [he] at hrel
        have hev : a.eval cc = .bool b := hrel
        cases b with
        | true => exact wp_cond_true hev (gx h'')
        | false => exact wp_cond_false hev (gy h'')
      · exact h''.elim
    | block id x =>
      have h2 := (ih' (k := .code x :: .blk id :: k) h'.2 (ok_cons hok1 (ok_cons rfl hok2)) hs).kont
      exact wp_block h2
    | ret => exact wp_ret (kont_ret hok2 (hfin S a w h' hs).2)
    | loop x => exact hlp _ _ _ _ _ h' hok1 hok2 hs
    | rangeFunc f p x y => exact hlp _ _ _ _ _ h' hok1 hok2 hs
    | scope x => exact hlp _ _ _ _ _ h' hok1 hok2 hs
    | label l => exact hlp _ _ _ _ _ h' hok1 hok2 hs
    | goto l => exact hlp _ _ _ _ _ h' hok1 hok2 hs
    | refuse y => exact hlp _ _ _ _ _ h' hok1 hok2 hs

/-! ### covering: a state is weakened to a form of another, handles renamed -/
def rn (π : List (Nat × Nat)) (h : Nat) : Nat := (look h π).getD h
def A0.ren (π : List (Nat × Nat)) : A0 → A0
  | .ref h o => .ref (rn π h) o
  | .el h z q f => .el (rn π h) z q f
  | .row h => .row (rn π h)
  | .sub h z l q => .sub (rn π h) z l q
  | .cut h e n => .cut (rn π h) e n
  | .hd h n => .hd (rn π h) n
  | .co h => .co (rn π h)
  | .ci h q => .ci (rn π h) q
  | .oe h q => .oe (rn π h) q
  | .ie h p z q f => .ie (rn π h) p z q f
  | .ag h1 h2 => .ag (rn π h1) (rn π h2)
  | a => a
def AV.ren (π : List (Nat × Nat)) : AV → AV
  | .one a => .one (a.ren π)
  | .tup l => .tup (l.map (A0.ren π))
def Entry.ren (π : List (Nat × Nat)) : Entry → Entry
  | .box t cs => .box t (cs.map (A0.ren π))
  | .to d => .to (rn π d)
  | .t1 d => .t1 (rn π d)
  | e => e
def covFr (π : List (Nat × Nat)) (S : St) : List (Nat × AV) → Prop
  | [] => True
  | p :: l => (S.eval (.tmp p.1)).norm = (p.2.ren π).norm ∧ covFr π S l
def entEq : Option Entry → Entry → Prop
  | some e', e => e'.norm = e.norm
  | none, _ => False
def covMem (π : List (Nat × Nat)) (S : St) : List (Nat × Entry) → Prop
  | [] => True
  | p :: l => entEq (look (rn π p.1) S.mem) (p.2.ren π) ∧ covMem π S l
def covOk (pins : List Nat) (π : List (Nat × Nat)) (T : St) : Bool := nodupB (T.mem.map fun p => rn π p.1) && pins.all fun p => rn π p == p
/-- S is an instance of T: T's slots and entries are S's, its handles renamed. -/
def Cov (pins : List Nat) (π : List (Nat × Nat)) (S T : St) : Prop := covOk pins π T = true ∧ covFr π S T.fr ∧ covMem π S T.mem

theorem A0.norm_ren (π : List (Nat × Nat)) (a : A0) : (a.ren π).norm = a.norm.ren π := by cases a <;> rfl
theorem A0.conc_ren (π : List (Nat × Nat)) (ρ : Nat → Value) (a : A0) : (a.ren π).conc ρ = a.conc (fun h => ρ (rn π h)) := by cases a <;> rfl
theorem A0.rel_ren (π : List (Nat × Nat)) (ρ : Nat → Value) (a : A0) (v : Value) : (a.ren π).rel ρ v ↔ a.rel (fun h => ρ (rn π h)) v := by
  cases a <;> simp [A0.ren, A0.rel, A0.conc]
theorem AV.rel_ren (π : List (Nat × Nat)) (ρ : Nat → Value) (a : AV) (v : Value) (h : (a.ren π).rel ρ v) : a.rel (fun h => ρ (rn π h)) v := by
  cases a with
  | one a => exact (A0.rel_ren π ρ a v).1 h
  | tup l =>
    obtain ⟨vs, hv, hl, hj⟩ := h
    refine ⟨vs, hv, by simpa using hl, fun j a ha => ?_⟩
    obtain ⟨u, hu, hr⟩ := hj j (a.ren π) (by simp [ha])
    exact ⟨u, hu, (A0.rel_ren π ρ a u).1 hr⟩
theorem holds_ren {w : World} {ρ : Nat → Value} (π : List (Nat × Nat)) {e : Entry} {h : Nat} (he : (e.ren π).norm.holds c w ρ (rn π h)) : e.norm.holds c w (fun h => ρ (rn π h)) h := by
  cases e with
  | box t cs =>
    obtain ⟨g, arr, hv, hg, hh, hs, hj⟩ := he
    refine ⟨g, arr, hv, hg, hh, by simpa using hs, fun j a ha => ?_⟩
    simp only [List.getElem?_map, Option.map_eq_some_iff] at ha
    obtain ⟨b, hb, rfl⟩ := ha
    obtain ⟨v, h1, h2⟩ := hj j (b.ren π).norm (by simp [hb])
    refine ⟨v, h1, ?_⟩
    exact (A0.rel_norm _ _ _).2 ((A0.rel_ren π ρ b v).1 ((A0.rel_norm _ _ _).1 h2))
  | ibox t l => exact he
  | row r => exact he
  | ro r => exact he
  | to d => exact he
  | t1 d => exact he

theorem covFr_at {π : List (Nat × Nat)} {S : St} : ∀ {l : List (Nat × AV)}, covFr π S l → ∀ p ∈ l, (S.eval (.tmp p.1)).norm = (p.2.ren π).norm
  | [], _, p, hp => by cases hp
  | q :: l, h, p, hp => by
    simp only [List.mem_cons] at hp
    rcases hp with rfl | hp
    · exact h.1
    · exact covFr_at h.2 p hp
theorem covMem_at {π : List (Nat × Nat)} {S : St} : ∀ {l : List (Nat × Entry)}, covMem π S l → ∀ p ∈ l, ∃ e', look (rn π p.1) S.mem = some e' ∧ e'.norm = (p.2.ren π).norm
  | [], _, p, hp => by cases hp
  | q :: l, h, p, hp => by
    simp only [List.mem_cons] at hp
    rcases hp with rfl | hp
    · have := h.1
      unfold entEq at this
      split at this
      · rename_i e' he; exact ⟨e', he, this⟩
      · exact this.elim
    · exact covMem_at h.2 p hp
theorem isOwn_norm (e : Entry) : e.norm.isOwn = e.isOwn := by cases e <;> rfl
theorem isOwn_ren (π : List (Nat × Nat)) (e : Entry) : (e.ren π).isOwn = e.isOwn := by cases e <;> rfl

theorem sat_cov {S T : St} {π : List (Nat × Nat)} (hp : pins = c.pins.map (·.1)) (h : Cov pins π S T) {a : Act} {w : World} (hs : Sat c (den S) a w) : Sat c (den T) a w := by
  obtain ⟨hok, hf, hm⟩ := h
  obtain ⟨h1, h2, ρ, hr⟩ := hs
  simp only [covOk, Bool.and_eq_true] at hok
  obtain ⟨hnd, hpin⟩ := hok
  have hmem : ∀ h e, (den T).mem h = some e → ∃ e0, (h, e0) ∈ T.mem ∧ e = e0.norm ∧ (den S).mem (rn π h) = some (e0.ren π).norm := by
    intro h e he
    simp only [den, Option.map_eq_some_iff] at he
    obtain ⟨e0, hl, rfl⟩ := he
    have hmm := look_mem hl
    obtain ⟨e', h3, h4⟩ := covMem_at hm _ hmm
    exact ⟨e0, hmm, rfl, by simp [den, h3, h4]⟩
  refine ⟨h1, h2, fun h => ρ (rn π h), fun s => ?_, fun h e he => ?_, fun h h' e e' he he' ho ho' hne k hk => ?_, hr.frame, fun p hpp => ?_, hr.inX⟩
  · simp only [den]
    cases hl : look s T.fr with
    | none => simp [AV.norm, A0.norm, AV.rel, A0.rel]
    | some v =>
      rw [Option.getD_some]
      have h3 := covFr_at hf _ (look_mem hl)
      have h4 := hr.fr s
      have h5 : (den S).fr s = (S.eval (.tmp s)).norm := rfl
      rw [h5, h3] at h4
      exact (AV.rel_norm _ _ _).2 (AV.rel_ren π ρ v _ ((AV.rel_norm _ _ _).1 h4))
  · obtain ⟨e0, _, rfl, h3⟩ := hmem h e he
    exact holds_ren π (hr.mem _ _ h3)
  · obtain ⟨e0, m0, rfl, h3⟩ := hmem h e he
    obtain ⟨e1, m1, rfl, h4⟩ := hmem h' e' he'
    have hne' := nodupB_map (g := fun p : Nat × Entry => rn π p.1) hnd _ m0 _ m1 (fun e => hne (congrArg Prod.fst e))
    rw [isOwn_norm] at ho ho'
    exact hr.sep _ _ _ _ h3 h4 (by rw [isOwn_norm, isOwn_ren]; exact ho) (by rw [isOwn_norm, isOwn_ren]; exact ho') hne' k hk
  · have := List.all_eq_true.1 hpin p.1 (by rw [hp]; exact List.mem_map.2 ⟨p, hpp, rfl⟩)
    have h3 : rn π p.1 = p.1 := by simpa using this
    show ρ (rn π p.1) = p.2
    rw [h3]; exact hr.pin p hpp

/-! ### empty rows: a slot that holds nil is read as a row of no elements, under a new handle -/
def seed1 (S : St) (p : Nat × Nat × RC) : St := ⟨(p.1, .one (bif p.2.2.flat then .row p.2.1 else .co p.2.1)) :: rem p.1 S.fr, (p.2.1, .row p.2.2) :: S.mem⟩
def emptyRow : RC → Bool
  | .ints _ l => l.isEmpty
  | .recs _ k l => l.isEmpty && Nat.blt 0 k
  | .bools _ l => l.isEmpty
  | .rows _ _ ll => ll.isEmpty
  | _ => false
def isNil : AV → Bool
  | .one .nil => true
  | _ => false
def seed1Ok (pins : List Nat) (S : St) (p : Nat × Nat × RC) : Bool := isNil (S.eval (.tmp p.1)) && (emptyRow p.2.2 && !(pins ++ allHs S).contains p.2.1)
def seeds : St → List (Nat × Nat × RC) → St
  | S, [] => S
  | S, p :: l => seeds (seed1 S p) l
def seedsOk (pins : List Nat) : St → List (Nat × Nat × RC) → Bool
  | _, [] => true
  | S, p :: l => seed1Ok pins S p && seedsOk pins (seed1 S p) l
theorem sat_seed1 {S : St} {p : Nat × Nat × RC} (hp : pins = c.pins.map (·.1)) (h : seed1Ok pins S p = true) {a : Act} {w : World} (hs : Sat c (den S) a w) : Sat c (den (seed1 S p)) a w := by
  obtain ⟨s, hd, r⟩ := p
  simp only [seed1Ok, Bool.and_eq_true, Bool.not_eq_true', List.contains_eq_mem, decide_eq_false_iff_not] at h
  obtain ⟨hn, he, hf⟩ := h
  have hfr := allHs_fresh (c := c) hp hf
  obtain ⟨h1, h2, ρ, hr⟩ := hs
  have hnil : (S.eval (.tmp s)) = .one .nil := by
    unfold isNil at hn
    split at hn
    · rename_i h; exact h
    · cases hn
  obtain ⟨V, hVh, hVb, hVr, hVf⟩ : ∃ V : Value, hdV V = .slice none 0 0 ∧ (∀ k, ¬ Blk V k) ∧ OwnsRow w c.own r V ∧ (r.flat = true → V = .slice none 0 0) := by
    cases hf : r.flat with
    | true =>
      refine ⟨.slice none 0 0, rfl, fun k hk => by simp [Blk, blkOf] at hk, (OwnsRow.flat hf).2 ⟨?_, ?_, fun k hk => by simp [blkOf] at hk⟩, fun _ => rfl⟩
      · cases r <;> simp_all [emptyRow, RC.wf, Nat.blt_eq, RC.flat]
      · have h1 : r.len = 0 ∧ r.cells = [] := by cases r <;> simp_all [emptyRow, RC.len, RC.cells]
        rw [h1.1, h1.2]
        exact World.ownsRow_nil w 0 _ _
    | false =>
      cases r with
      | rows e f ll =>
        have hll : ll = [] := by simpa [emptyRow] using he
        subst hll
        refine ⟨.tuple (.slice none 0 0 :: []).toArray, rfl, fun k hk => ?_, (OwnsRow.comp hf).2 ⟨_, [], rfl, rfl, World.ownsRow_nil w 0 _ _, by simp [blkOf], by simp, by simp, by simp⟩, fun h => by cases h⟩
        obtain ⟨j, v, hv, hb⟩ := Blk.tuple.1 hk
        cases j with
        | zero => simp at hv; subst hv; simp [blkOf] at hb
        | succ j => simp at hv
      | _ => first | (simp [RC.flat] at hf; done) | (simp [emptyRow] at he; done)
  have hup : ∀ x, x ≠ hd → upd ρ hd V x = ρ x := fun x hx => upd_ne hx
  have hfs : ∀ x, (den (seed1 S (s, hd, r))).fr x = if s = x then .one (bif r.flat then .row hd else .co hd) else (den S).fr x := by
    intro x
    simp only [den, seed1, look]
    by_cases hx : s = x
    · subst hx; cases r.flat <;> simp [AV.norm, A0.norm]
    · have hb : (s == x) = false := by simpa using hx
      rw [hb, if_neg hx]
      simp only [cond_false]
      rw [look_rem, if_neg (fun e => hx e.symm)]
  have hms : ∀ x, (den (seed1 S (s, hd, r))).mem x = if hd = x then some (.row r) else (den S).mem x := by
    intro x
    simp only [den, seed1, look]
    by_cases hx : hd = x
    · subst hx; simp [Entry.norm]
    · have hb : (hd == x) = false := by simpa using hx
      rw [hb, if_neg hx]
      simp only [cond_false]
  have hold : ∀ x e, (den S).mem x = some e → e.holds c w (upd ρ hd V) x := by
    intro x e hx
    have hne : x ≠ hd := by intro e'; subst e'; rw [hfr.mem] at hx; cases hx
    have hh := hr.mem x e hx
    have hhs := hfr.ent x e hx
    cases e with
    | ibox t l => simpa [Entry.holds, hup x hne] using hh
    | box t cs =>
      obtain ⟨g, arr, hv, hg, hw, hsz, hj⟩ := hh
      refine ⟨g, arr, by rw [hup x hne]; exact hv, hg, hw, hsz, fun j a ha => ?_⟩
      obtain ⟨v, hv1, hv2⟩ := hj j a ha
      refine ⟨v, hv1, A0.rel_congr (fun y hy => hup y ?_) hv2⟩
      intro e'
      subst e'
      exact hhs (List.mem_flatMap.2 ⟨a, List.mem_of_getElem? ha, hy⟩)
    | row q => simpa [Entry.holds, hup x hne] using hh
    | ro q => simpa [Entry.holds, hup x hne] using hh
    | to d =>
      show hdV (upd ρ hd V x) = hdV (upd ρ hd V d)
      rw [hup x hne, hup d (fun e' => hhs (by rw [e']; simp [Entry.hs]))]
      exact hh
    | t1 d =>
      show seg (upd ρ hd V x) 1 = seg (upd ρ hd V d) 1
      rw [hup x hne, hup d (fun e' => hhs (by rw [e']; simp [Entry.hs]))]
      exact hh
  have hnr : OwnsRow w c.own r (upd ρ hd V hd) := by
    rw [upd_same]
    exact hVr
  refine ⟨h1, h2, upd ρ hd V, fun x => ?_, fun x e hx => ?_, fun x x' e e' hx hx' ho ho' hne k hk => ?_, hr.frame, fun q hq => ?_, hr.inX⟩
  · rw [hfs]
    by_cases hx : s = x
    · subst hx
      rw [if_pos rfl]
      have := (AV.rel_norm ρ _ _).1 (hr.fr s)
      have h3 : (S.eval (.tmp s)).rel ρ (a.tmps.getD s undef) := this
      rw [hnil] at h3
      have h4 : a.tmps.getD s undef = .slice none 0 0 := h3
      cases hf : r.flat with
      | true =>
        show a.tmps.getD s undef = upd ρ hd V hd
        rw [upd_same, h4, hVf hf]
      | false =>
        show a.tmps.getD s undef = hdV (upd ρ hd V hd)
        rw [upd_same, h4, hVh]
    · rw [if_neg hx]
      exact AV.rel_congr (fun y hy => hup y (fun e' => by subst e'; exact hfr.fr x hy)) (hr.fr x)
  · rw [hms] at hx
    by_cases hh : hd = x
    · subst hh
      rw [if_pos rfl] at hx
      cases hx
      exact hnr
    · rw [if_neg hh] at hx
      exact hold x e hx
  · have blk0 : ∀ y, y = hd → ∀ k, Blk (upd ρ hd V y) k → False := by
      intro y hy k hk
      subst hy
      rw [upd_same] at hk
      exact hVb k hk
    rw [hms] at hx hx'
    by_cases hh : hd = x
    · exact (blk0 x hh.symm k hk).elim
    · by_cases hh' : hd = x'
      · intro hk'
        exact blk0 x' hh'.symm k hk'
      · rw [if_neg hh] at hx
        rw [if_neg hh'] at hx'
        rw [hup x (fun e' => hh e'.symm)] at hk
        rw [hup x' (fun e' => hh' e'.symm)]
        exact hr.sep x x' e e' hx hx' ho ho' hne k hk
  · rw [hup _ (hfr.pin q hq)]
    exact hr.pin q hq
theorem sat_seeds (hp : pins = c.pins.map (·.1)) : ∀ {l : List (Nat × Nat × RC)} {S : St}, seedsOk pins S l = true → ∀ {a : Act} {w : World}, Sat c (den S) a w → Sat c (den (seeds S l)) a w
  | [], _, _, _, _, hs => hs
  | p :: l, S, h, _, _, hs => by
    simp only [seedsOk, Bool.and_eq_true] at h
    exact sat_seeds hp h.2 (sat_seed1 hp h.1 hs)

/-! ### a row and a part of it -/
theorem noneNames_at {h : Nat} : ∀ {l : List (Nat × Entry)}, noneNames h l = true → ∀ p ∈ l, h ∉ p.2.hs
  | [], _, p, hp => by cases hp
  | q :: l, hn, p, hp => by
    simp only [noneNames, Bool.and_eq_true, Bool.not_eq_true', List.contains_eq_mem, decide_eq_false_iff_not] at hn
    rcases List.mem_cons.1 hp with rfl | hp
    · exact hn.1
    · exact noneNames_at hn.2 p hp
theorem view_row {w : World} {p : Nat → Prop} {e k l r sz : Nat} {R : List (List Int)} {V W : Value} (hV : FlatRow w p (.recs e k R) V) (hlr : l ≤ r) (hr : r ≤ R.length) (hc : (W = subOf V sz l r ∧ (l = 0 ∨ sz = k)) ∨ (W = headOf V r ∧ l = 0)) :
    ViewIs w p (.recs e k ((R.take r).drop l)) W ∧ ViewAt V W (((R.take r).drop l).length * k) (R.length * k) ∧ (∀ q, blkOf W = some q → blkOf V = some q) ∧ hdV W = W := by
  have hBl : ((R.take r).drop l).length = r - l := by simp; omega
  have hwfB : (RC.recs e k ((R.take r).drop l)).wf := ⟨hV.1.1, fun x hx => hV.1.2 x (List.mem_of_mem_take (List.mem_of_mem_drop hx))⟩
  have hcellsB : (RC.recs e k ((R.take r).drop l)).cells = ((RC.recs e k R).cells.take (r * k)).drop (l * k) := RC.slice_cells (r := .recs e k R) (l := l) (k := r) hV.1
  rcases hV.2.1.2 with ⟨rfl, hn⟩ | ⟨g, cap, cur, rfl, hbg, hg, hnc, hcm, hcs, htake⟩
  · have hR0 : R.length = 0 := hn
    have hW : W = .slice none 0 0 := by
      have h1 : r = 0 := by omega
      have h2 : l = 0 := by omega
      subst h1; subst h2
      rcases hc with ⟨hc, _⟩ | ⟨hc, _⟩ <;> rw [hc] <;> rfl
    subst hW
    refine ⟨⟨⟨hwfB, none, 0, 0, rfl, by rw [show (RC.recs e k ((R.take r).drop l)).len = r - l from hBl]; omega, Nat.le_refl _, Nat.zero_le _, fun h => absurd h (by omega)⟩, fun q hq => (by simp [blkOf] at hq)⟩, fun a n cap h => (by cases h), fun q hq => (by simp [blkOf] at hq), rfl⟩
  · have hnc' : R.length ≤ cap := hnc
    have hW : ∃ off cap', W = .slice (some ⟨g, off, none⟩) (r - l) cap' ∧ r - l ≤ cap' ∧ cap' ≤ maxLen ∧ (l < r → off = l * k) ∧ off + (r - l) * k ≤ R.length * k := by
      rcases hc with ⟨rfl, hsz⟩ | ⟨rfl, rfl⟩
      · by_cases hcl : cap = l
        · refine ⟨0, cap - l, by simp [subOf, hcl], by omega, by omega, fun h => by omega, ?_⟩
          have : r - l = 0 := by omega
          rw [this]; omega
        · refine ⟨l * sz, cap - l, by simp [subOf, hcl, add_lit], by omega, by omega, fun _ => ?_, ?_⟩
          · rcases hsz with rfl | rfl
            · simp
            · rfl
          · rcases hsz with rfl | rfl
            · simp only [Nat.zero_mul, Nat.zero_add, Nat.sub_zero]; exact Nat.mul_le_mul_right _ hr
            · rw [← Nat.add_mul]; exact Nat.mul_le_mul_right _ (by omega)
      · refine ⟨0, r, by simp [headOf], by omega, by omega, fun _ => by simp, ?_⟩
        simp only [Nat.zero_add, Nat.sub_zero]; exact Nat.mul_le_mul_right _ hr
    obtain ⟨off, cap', rfl, h1, h2, h3, h4⟩ := hW
    have hown : p g := hV.2.2 g rfl
    refine ⟨⟨⟨hwfB, some ⟨g, off, none⟩, r - l, cap', rfl, hBl.symm, h1, h2, fun h0 => ⟨_, rfl, hown, fun j u hu => ?_⟩⟩, fun q hq => ?_⟩, fun a n cp ha q hq hb => ?_, fun q hq => ?_, rfl⟩
    · rw [hcellsB, List.getElem?_drop] at hu
      have hu' : (RC.recs e k R).cells[l * k + j]? = some u := by
        rw [List.getElem?_take] at hu
        split at hu
        · exact hu
        · cases hu
      have h5 := hV.2.1.cells (g := g) rfl _ _ hu'
      rw [add_lit] at h5 ⊢
      rw [h3 (by omega)]
      simpa using h5
    · simp [blkOf] at hq; subst hq; exact ⟨hown, heap_lt hg⟩
    · simp only [Value.slice.injEq, Option.some.injEq] at ha
      obtain ⟨rfl, _, _⟩ := ha
      simp only at hb
      subst hb
      exact ⟨off, rfl, by rw [hBl]; exact h4⟩
    · exact hq
theorem vwT_rel {ρ : Nat → Value} {h d : Nat} {V' : Value} (hV : seg V' 2 = ρ h) (a : A0) (v : Value) (hd : d ∉ a.hs) (hr : a.rel ρ v) : (a.vwT h d).rel (upd ρ d V') v := by
  have keep : ∀ b : A0, d ∉ b.hs → b.rel ρ v → b.rel (upd ρ d V') v := fun b hb hrb => A0.rel_congr (fun x hx => upd_ne (fun e => hb (by rw [← e]; exact hx))) hrb
  have other : (bif a.hs.contains h then A0.bot else a).rel (upd ρ d V') v := by
    cases a.hs.contains h with
    | true => trivial
    | false => exact keep a hd hr
  cases a with
  | row x =>
    by_cases hx : x = h
    · subst hx
      simp only [A0.vwT, beq_self_eq_true, cond_true]
      show v = seg (upd ρ d V' d) 2
      rw [upd_same, hV]; exact hr
    · have : (x == h) = false := by simpa using hx
      simp only [A0.vwT, this, cond_false]
      exact keep _ hd hr
  | _ => exact other
theorem vwT_relV {ρ : Nat → Value} {h d : Nat} {V' : Value} (hV : seg V' 2 = ρ h) (a : AV) (v : Value) (hd : d ∉ a.hs) (hr : a.rel ρ v) : (a.vwT h d).rel (upd ρ d V') v := by
  cases a with
  | one a => exact vwT_rel hV a v hd hr
  | tup l =>
    obtain ⟨vs, hv, hl, hj⟩ := hr
    refine ⟨vs, hv, by simpa using hl, fun j a ha => ?_⟩
    simp only [List.getElem?_map, Option.map_eq_some_iff] at ha
    obtain ⟨b, hb, rfl⟩ := ha
    obtain ⟨u, hu, hr⟩ := hj j b hb
    exact ⟨u, hu, vwT_rel hV b u (fun hm => hd (List.mem_flatMap.2 ⟨b, List.mem_of_getElem? hb, hm⟩)) hr⟩
theorem holds_congr {w : World} {ρ ρ' : Nat → Value} {x : Nat} {e : Entry} (hf : Frame0 c w) (hx : ρ' x = ρ x) (hm : ∀ y ∈ e.hs, ρ' y = ρ y) (he : e.holds c w ρ x) : e.holds c w ρ' x :=
  holds_keep he hf (Chg.refl w (fun _ => False)) (fun _ h => h.elim) (fun _ _ _ h => h) hx hm
theorem sat_view {S : St} {p : Nat × Nat} (hp : pins = c.pins.map (·.1)) (h : viewOk pins S p) {a : Act} {w : World} (hs : Sat c (den S) a w) : Sat c (den (viewS S p)) a w := by
  obtain ⟨s, d⟩ := p
  unfold viewOk at h
  unfold viewS
  simp only at h ⊢
  cases hv : viewV (S.eval (.tmp s)) with
  | none => rw [hv] at h; exact h.elim
  | some q =>
  obtain ⟨h0, sz, l, r⟩ := q
  rw [hv] at h
  simp only at h ⊢
  unfold viewEn at h
  split at h
  case h_2 => exact h.elim
  rename_i e k R hlk
  rw [hlk]
  simp only [viewTo]
  obtain ⟨⟨h1, h2⟩, hb⟩ := h
  simp only [Bool.and_eq_true, Bool.or_eq_true, beq_iff_eq, Bool.not_eq_true', List.contains_eq_mem, decide_eq_false_iff_not] at hb h1 h2
  obtain ⟨hsz, hf, hnn⟩ := hb
  have hfr := allHs_fresh (c := c) hp hf
  have hnm := noneNames_at hnn
  obtain ⟨ha1, ha2, ρ, hr⟩ := hs
  have hm : (den S).mem h0 = some (.row (.recs e k R)) := by simp [den, hlk, Entry.norm]
  have hV : FlatRow w c.own (.recs e k R) (ρ h0) := (OwnsRow.flat rfl).1 (hr.mem h0 _ hm)
  have hslot : (S.eval (.tmp s)).rel ρ (a.tmps.getD s undef) := (AV.rel_norm ρ _ _).1 (hr.fr s)
  have hW : (a.tmps.getD s undef = subOf (ρ h0) sz l r ∧ (l = 0 ∨ sz = k)) ∨ (a.tmps.getD s undef = headOf (ρ h0) r ∧ l = 0) := by
    unfold viewV at hv
    split at hv
    · rename_i heq
      simp only [Option.some.injEq, Prod.mk.injEq] at hv
      obtain ⟨rfl, rfl, rfl, rfl⟩ := hv
      rw [heq] at hslot
      exact .inl ⟨hslot, hsz⟩
    · rename_i heq
      simp only [Option.some.injEq, Prod.mk.injEq] at hv
      obtain ⟨rfl, rfl, rfl, rfl⟩ := hv
      rw [heq] at hslot
      exact .inr ⟨hslot, rfl⟩
    · cases hv
  obtain ⟨v1, v2, v3, v4⟩ := view_row hV h1 h2 hW
  generalize hWe : a.tmps.getD s undef = W at *
  have hdh : d ≠ h0 := fun e' => by rw [e'] at hfr; rw [hfr.mem] at hm; cases hm
  have hup : ∀ x, x ≠ d → upd ρ d (.tuple #[undef, W, ρ h0]) x = ρ x := fun x hx => upd_ne hx
  have hfs : ∀ x, (den (⟨(s, .one (.ci d 0)) :: (rem s S.fr).map fun p => (p.1, p.2.vwT h0 d), (d, .row (.vwp e k R ((R.take r).drop l))) :: rem h0 S.mem⟩ : St)).fr x = if s = x then .one (.ci d 0) else ((look x S.fr).map (AV.vwT h0 d)).getD (.one .bot) |>.norm := by
    intro x
    simp only [den, look]
    by_cases hx : s = x
    · subst hx; simp [AV.norm, A0.norm]
    · have hb : (s == x) = false := by simpa using hx
      rw [hb, if_neg hx]
      simp only [cond_false]
      rw [look_map (AV.vwT h0 d), look_rem, if_neg (fun e => hx e.symm)]
  have hms : ∀ x e', (den (⟨(s, .one (.ci d 0)) :: (rem s S.fr).map fun p => (p.1, p.2.vwT h0 d), (d, .row (.vwp e k R ((R.take r).drop l))) :: rem h0 S.mem⟩ : St)).mem x = some e' → (x = d ∧ e' = .row (.vwp e k R ((R.take r).drop l))) ∨ (x ≠ d ∧ x ≠ h0 ∧ (den S).mem x = some e') := by
    intro x e' hx
    simp only [den, look] at hx ⊢
    by_cases hxd : d = x
    · subst hxd
      simp [Entry.norm] at hx
      exact .inl ⟨rfl, hx.symm⟩
    · have hb : (d == x) = false := by simpa using hxd
      rw [hb] at hx
      simp only [cond_false] at hx
      rw [look_rem] at hx
      by_cases hxh : x = h0
      · simp [hxh] at hx
      · rw [if_neg hxh] at hx
        exact .inr ⟨fun e => hxd e.symm, hxh, hx⟩
  have hblk : ∀ k', Blk (.tuple #[undef, W, ρ h0]) k' → Blk (ρ h0) k' := by
    rintro k' ⟨j, J, hJ, hbJ⟩
    match j, hJ with
    | 0, hJ => simp at hJ; subst hJ; simp [blkOf, undef] at hbJ
    | 1, hJ => simp at hJ; subst hJ; exact hV.thin.2 (v3 _ hbJ)
    | 2, hJ => simp at hJ; subst hJ; exact hV.thin.2 hbJ
    | j + 3, hJ => simp at hJ
  refine ⟨ha1, ha2, upd ρ d (.tuple #[undef, W, ρ h0]), fun x => ?_, fun x e' hx => ?_, fun x y e1 e2 hx hy ho ho' hne k' hk => ?_, hr.frame, fun q hq => ?_, hr.inX⟩
  · rw [hfs]
    by_cases hx : s = x
    · subst hx
      rw [if_pos rfl, hWe]
      show W = seg (upd ρ d _ d) 1
      rw [upd_same]; rfl
    · rw [if_neg hx]
      have h3 := (AV.rel_norm ρ _ _).1 (hr.fr x)
      have hdx := hfr.fr x
      simp only [den] at hdx
      refine (AV.rel_norm _ _ _).2 ?_
      cases hlx : look x S.fr with
      | none => simp [AV.rel, A0.rel]
      | some v =>
        rw [hlx] at h3 hdx
        rw [Option.getD_some, AV.hs_norm] at hdx
        exact vwT_relV (by rfl) v _ hdx h3
  · rcases hms x e' hx with ⟨rfl, rfl⟩ | ⟨hxd, hxh, hx'⟩
    · show OwnsRow _ _ _ (upd ρ x _ x)
      rw [upd_same]
      exact (OwnsRow.comp rfl).2 ⟨W, ρ h0, rfl, v1, hV, v2⟩
    · exact holds_congr hr.frame (hup x hxd) (fun y hy => hup y (fun e => hfr.ent x e' hx' (by rw [← e]; exact hy))) (hr.mem x e' hx')
  · rcases hms x e1 hx with ⟨rfl, rfl⟩ | ⟨hxd, hxh, hx'⟩
    · rw [upd_same] at hk
      rcases hms y e2 hy with ⟨rfl, rfl⟩ | ⟨hyd, hyh, hy'⟩
      · exact absurd rfl hne
      · rw [hup y hyd]
        exact fun hk2 => hr.sep y h0 _ _ hy' hm ho' rfl hyh k' hk2 (hblk k' hk)
    · rw [hup x hxd] at hk
      rcases hms y e2 hy with ⟨rfl, rfl⟩ | ⟨hyd, hyh, hy'⟩
      · rw [upd_same]
        exact fun hk2 => hr.sep x h0 _ _ hx' hm ho rfl hxh k' hk (hblk k' hk2)
      · rw [hup y hyd]
        exact hr.sep x y _ _ hx' hy' ho ho' hne k' hk
  · rw [hup _ (hfr.pin q hq)]
    exact hr.pin q hq

theorem vwO_spec {e : Entry} {r : RC} (h : e.vwO = some r) : ∃ e0 k R B, e = .row (.vwp e0 k R B) ∧ r = .recs e0 k R := by
  cases e with
  | row q =>
    cases q <;> simp [Entry.vwO, RC.vwO] at h
    exact ⟨_, _, _, _, rfl, h.symm⟩
  | _ => simp [Entry.vwO] at h
theorem dr_rel {ρ : Nat → Value} {h : Nat} (a : A0) (v : Value) (hr : a.rel ρ v) : (a.dr h).rel (upd ρ h (seg (ρ h) 2)) v := by
  have keep : ∀ b : A0, h ∉ b.hs → b.rel ρ v → b.rel (upd ρ h (seg (ρ h) 2)) v := fun b hb hrb => A0.rel_congr (fun x hx => upd_ne (fun e => hb (by rw [← e]; exact hx))) hrb
  have other : (bif a.hs.contains h then A0.bot else a).rel (upd ρ h (seg (ρ h) 2)) v := by
    cases hc : a.hs.contains h with
    | true => trivial
    | false => exact keep a (by simpa using hc) hr
  cases a with
  | ci x q =>
    match q with
    | 0 => exact other
    | 1 =>
      by_cases hx : x = h
      · subst hx
        simp only [A0.dr, beq_self_eq_true, cond_true]
        show v = upd ρ x (seg (ρ x) 2) x
        rw [upd_same]; exact hr
      · have : (x == h) = false := by simpa using hx
        simp only [A0.dr, this, cond_false]
        exact keep _ (by simpa [A0.hs] using fun e : h = x => hx e.symm) hr
    | q + 2 => exact other
  | _ => exact other
theorem dr_relV {ρ : Nat → Value} {h : Nat} (a : AV) (v : Value) (hr : a.rel ρ v) : (a.dr h).rel (upd ρ h (seg (ρ h) 2)) v := by
  cases a with
  | one a => exact dr_rel a v hr
  | tup l =>
    obtain ⟨vs, hv, hl, hj⟩ := hr
    refine ⟨vs, hv, by simpa using hl, fun j a ha => ?_⟩
    simp only [List.getElem?_map, Option.map_eq_some_iff] at ha
    obtain ⟨b, hb, rfl⟩ := ha
    obtain ⟨u, hu, hr⟩ := hj j b hb
    exact ⟨u, hu, dr_rel b u hr⟩
theorem sat_drop {S : St} (hp : pins = c.pins.map (·.1)) {a : Act} {w : World} (hs : Sat c (den S) a w) : Sat c (den (S.drop pins)) a w := by
  unfold St.drop
  cases hva : vwAt S.mem with
  | none => exact hs
  | some h =>
  simp only
  cases hl : (look h S.mem).bind Entry.vwO with
  | none => exact hs
  | some r =>
  simp only [dropAt]
  cases hb : (pins.contains h || !noneNames h S.mem) with
  | true => exact hs
  | false =>
  simp only [cond_false]
  simp only [Bool.or_eq_false_iff, List.contains_eq_mem, decide_eq_false_iff_not, Bool.not_eq_false'] at hb
  obtain ⟨hpin, hnn⟩ := hb
  have hnm := noneNames_at hnn
  obtain ⟨e, he, hev⟩ := Option.bind_eq_some_iff.1 hl
  obtain ⟨e0, k, R, B, rfl, rfl⟩ := vwO_spec hev
  obtain ⟨ha1, ha2, ρ, hr⟩ := hs
  have hm : (den S).mem h = some (.row (.vwp e0 k R B)) := by simp [den, he, Entry.norm]
  obtain ⟨W, V, hv, hW, hV, hVW⟩ : CompRow w c.own (.vwp e0 k R B) (ρ h) := (OwnsRow.comp rfl).1 (hr.mem h _ hm)
  have hsV : seg (ρ h) 2 = V := by rw [hv]; rfl
  have hup : ∀ x, x ≠ h → upd ρ h (seg (ρ h) 2) x = ρ x := fun x hx => upd_ne hx
  have hms : ∀ x e', (den (⟨S.fr.map fun p => (p.1, p.2.dr h), (h, .row (.recs e0 k R)) :: rem h S.mem⟩ : St)).mem x = some e' → (x = h ∧ e' = .row (.recs e0 k R)) ∨ (x ≠ h ∧ (den S).mem x = some e' ∧ h ∉ e'.hs) := by
    intro x e' hx
    simp only [den, look] at hx ⊢
    by_cases hxd : h = x
    · subst hxd
      simp [Entry.norm] at hx
      exact .inl ⟨rfl, hx.symm⟩
    · have hb : (h == x) = false := by simpa using hxd
      rw [hb] at hx
      simp only [cond_false] at hx
      rw [look_rem, if_neg (fun e => hxd e.symm)] at hx
      refine .inr ⟨fun e => hxd e.symm, hx, ?_⟩
      obtain ⟨e2, he2, rfl⟩ := Option.map_eq_some_iff.1 hx
      rw [Entry.hs_norm]
      exact hnm _ (look_mem he2)
  refine ⟨ha1, ha2, upd ρ h (seg (ρ h) 2), fun x => ?_, fun x e' hx => ?_, fun x y e1 e2 hx hy ho ho' hne k' hk => ?_, hr.frame, fun q hq => ?_, hr.inX⟩
  · simp only [den]
    rw [look_map (AV.dr h)]
    have h3 := (AV.rel_norm ρ _ _).1 (hr.fr x)
    refine (AV.rel_norm _ _ _).2 ?_
    cases hlx : look x S.fr with
    | none => simp [AV.rel, A0.rel]
    | some v =>
      rw [hlx] at h3
      exact dr_relV v _ h3
  · rcases hms x e' hx with ⟨rfl, rfl⟩ | ⟨hxd, hx', hns⟩
    · show OwnsRow _ _ _ (upd ρ x _ x)
      rw [upd_same, hsV]
      exact (OwnsRow.flat rfl).2 hV
    · exact holds_congr hr.frame (hup x hxd) (fun y hy => hup y (fun e => hns (by rw [← e]; exact hy))) (hr.mem x e' hx')
  · have hbl : ∀ q, Blk V q → Blk (ρ h) q := fun q hq => by rw [hv]; exact ⟨2, _, rfl, hV.thin.1 hq⟩
    rcases hms x e1 hx with ⟨rfl, rfl⟩ | ⟨hxd, hx', _⟩
    · rw [upd_same, hsV] at hk
      rcases hms y e2 hy with ⟨rfl, rfl⟩ | ⟨hyd, hy', _⟩
      · exact absurd rfl hne
      · rw [hup y hyd]
        exact hr.sep x y _ _ hm hy' rfl ho' hne k' (hbl k' hk)
    · rw [hup x hxd] at hk
      rcases hms y e2 hy with ⟨rfl, rfl⟩ | ⟨hyd, hy', _⟩
      · rw [upd_same, hsV]
        exact fun hk2 => hr.sep x y _ _ hx' hm ho rfl hne k' hk (hbl k' hk2)
      · rw [hup y hyd]
        exact hr.sep x y _ _ hx' hy' ho ho' hne k' hk
  · rw [hup _ (fun e => hpin (by rw [hp, ← e]; exact List.mem_map.2 ⟨q, hq, rfl⟩))]
    exact hr.pin q hq
theorem sat_views {S : St} (hp : pins = c.pins.map (·.1)) {vs : Option (Nat × Nat)} (h : viewsOk pins S vs) {a : Act} {w : World} (hs : Sat c (den S) a w) : Sat c (den (viewsS S vs)) a w := by
  cases vs with
  | none => exact hs
  | some p => exact sat_view hp h hs

/-! ### loops -/
/-- A loop met in the state S: some family of states with a measure covers S, and a round from any of them ends in one of a smaller measure, or goes on behind the loop. 'd': how many further loops may be met. -/
def lpN (pins : List Nat) (tab : Tab) (spec : Spec) (fin : St → Prop) : Nat → Code → List Item → St → Prop
  | 0, _, _, _ => False
  | d + 1, .loop b, k, S => ∃ (α : Type) (mk : α → St) (I : α → Prop) (μ : α → Nat), (∃ x π sd vs, I x ∧ viewsOk pins S vs ∧ seedsOk pins (viewsS S vs) sd = true ∧ Cov pins π (seeds (viewsS S vs) sd) (mk x)) ∧
      ∀ x, I x → ∀ J : St → Prop, (∀ S' y π, I y → μ y < μ x → (Cov pins π S' (mk y) ∨ Cov pins π (S'.drop pins) (mk y)) → J S') → ∃ n, vc pins tab spec fin (lpN pins tab spec fin d) n (.code b :: .back J :: k) (mk x)
  | _ + 1, _, _, _ => False

theorem lpN_sound (hT : TabOk c.P tab) (hspec : SpecOk c.P spec) (hp : pins = c.pins.map (·.1)) (hm : c.P.follows .mixedOrders = true)
    (hfin : ∀ S a w, fin S → Sat c (den S) a w → Q0 .normal a w ∧ Q0 .ret a w) : ∀ (d : Nat) (x : Code) (k : List Item) (S : St) (a : Act) (w : World), lpN pins tab spec fin d x k S → dstB c.N x = true → k.all (Item.okB c.N) = true → Sat c (den S) a w → Mean c Q0 (.code x :: k) a w
  | 0, _, _, _, _, _, h, _, _, _ => by unfold lpN at h; exact h.elim
  | d + 1, x, k, S, a, w, h, hb, hk, hs => by
    unfold lpN at h
    split at h
    case h_1 hh => cases hh
    case h_3 => exact h.elim
    rename_i d' b k' S'' hd'
    cases hd'
    obtain ⟨α, mk, I, μ, ⟨x0, π0, sd, vs, hI0, hvs, hsd, hc0⟩, hround⟩ := h
    refine wp_loop_ghost (fun n a w => ∃ x, I x ∧ μ x = n ∧ Sat c (den (mk x)) a w) (μ x0) ⟨x0, hI0, rfl, sat_cov hp hc0 (sat_seeds hp hsd (sat_views hp hvs hs))⟩ ?_
    rintro n a1 w1 ⟨x, hI, rfl, hs1⟩
    obtain ⟨m, hv⟩ := hround x hI (fun S' => ∃ y π, I y ∧ μ y < μ x ∧ (Cov pins π S' (mk y) ∨ Cov pins π (S'.drop pins) (mk y))) fun S' y π h1 h2 h3 => ⟨y, π, h1, h2, h3⟩
    have h2 := (vc_sound hT hspec hp hm hfin (lpN_sound hT hspec hp hm hfin d) m _ _ hv (ok_cons hb (ok_cons rfl hk)) a1 w1 hs1).kont
    refine wp_mono h2 fun e a' w' hq => ?_
    cases e with
    | normal =>
      obtain ⟨S', ⟨y, π, h3, h4, h5⟩, hs'⟩ := hq
      refine ⟨μ y, h4, y, h3, rfl, ?_⟩
      rcases h5 with h5 | h5
      · exact sat_cov hp h5 hs'
      · exact sat_cov hp h5 (sat_drop hp hs')
    | exit id => exact hq
    | goto l => exact hq
    | ret => exact hq
    | panic ch => exact hq
    | outgrown => exact hq
end
end Go.Proofs.Ytclpoenfcpefmaa

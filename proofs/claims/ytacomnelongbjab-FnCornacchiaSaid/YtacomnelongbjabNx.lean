/-
  What a cursor over bytes draws: contracts of its methods. Conditions: none.
-/
import Derived.Test.YtacomnelongbjabRedm
import Derived.Test.YtacomnelongbjabIte
namespace Go.Proofs.Ytacomnelongbjab
open Go Go.RowKit
set_option maxRecDepth 100000
set_option linter.unusedSimpArgs false
set_option linter.unusedVariables false
set_option maxHeartbeats 4000000

def dr1 (x : Int) : Nat → Int := fun _ => x
def dr2 (x y : Int) : Nat → Int
  | 0 => x
  | _ => y
def dr3 (x y z : Int) : Nat → Int
  | 0 => x
  | 1 => y
  | _ => z
def dr4 (x y z w : Int) : Nat → Int
  | 0 => x
  | 1 => y
  | 2 => z
  | _ => w
def dr6 (x y z w u v : Int) : Nat → Int
  | 0 => x
  | 1 => y
  | 2 => z
  | 3 => w
  | 4 => u
  | _ => v
/-- bytes, and a place that lets K more steps be made -/
structure CurOk (K : Int) (l : List Int) (a : Int) : Prop where
  by_ : ∀ x ∈ l, 0 ≤ x ∧ x < 256
  lo : 0 ≤ a
  hi : a + K ≤ 1000000000000
theorem CurOk.step {K K' : Int} {l : List Int} {a a' : Int} (h : CurOk K l a) (h1 : a ≤ a') (h2 : a' + K' ≤ a + K) : CurOk K' l a' := ⟨h.by_, by have := h.lo; omega, by have := h.hi; omega⟩
theorem CurOk.le {K K' : Int} {l : List Int} {a : Int} (h : CurOk K l a) (h2 : K' ≤ K) : CurOk K' l a := h.step (Int.le_refl _) (by omega)
theorem and_rng (x : Int) : 0 ≤ wrap64 (IntKind.u64.wrap ((BitVec.ofInt IntKind.u64.bits x &&& BitVec.ofInt IntKind.u64.bits 255).toNat : Nat)) ∧ wrap64 (IntKind.u64.wrap ((BitVec.ofInt IntKind.u64.bits x &&& BitVec.ofInt IntKind.u64.bits 255).toNat : Nat)) < 256 := by
  have h1 : (BitVec.ofInt IntKind.u64.bits x &&& BitVec.ofInt IntKind.u64.bits 255).toNat ≤ 255 := by
    rw [BitVec.toNat_and]
    have : (BitVec.ofInt IntKind.u64.bits 255).toNat = 255 := by decide
    rw [this]
    exact Nat.and_le_right
  generalize (BitVec.ofInt IntKind.u64.bits x &&& BitVec.ofInt IntKind.u64.bits 255).toNat = y at *
  have h2 : IntKind.u64.wrap (y : Int) = y := by
    simp only [IntKind.wrap, IntKind.signed, IntKind.bits, Bool.false_and, Bool.false_eq_true, if_false]
    omega
  rw [h2, wrap_id (by omega) (by omega)]
  omega
theorem byte_rng {K : Int} {l : List Int} {a : Int} (h : CurOk K l a) (hlt : a < (l.length : Int)) : 0 ≤ wrap64 (l.getD a.toNat 0) ∧ wrap64 (l.getD a.toNat 0) < 256 := by
  have h0 := h.lo
  have h1 : a.toNat < l.length := by omega
  have hm : l.getD a.toNat 0 ∈ l := by simp [List.getD, h1]
  have := h.by_ _ hm
  rw [wrap_id (by omega) (by omega)]
  exact this
abbrev fNext : Nat := 40
theorem exNext (l : List Int) (a s : Int)  (hk : CurOk 1 l a) (hp : True) : ∃ x : DR, ((0 ≤ x.1 0 ∧ x.1 0 < 256) ∧ a ≤ x.2.1 ∧ x.2.1 ≤ a + 1) ∧ vc [hA 0] tab (specOf []) (finC tab Try.f40.results.toList l (.one (.i (x.1 0))) x.2.1 x.2.2) (lpN [hA 0] tab (specOf []) (finC tab Try.f40.results.toList l (.one (.i (x.1 0))) x.2.1 x.2.2) 0) 1000 [.code (Try.f40.body.getD .skip)] (initC l a s []) := by
  have h0 := hk.lo
  have h9 := hk.hi
  have w1 : wrap64 (a + 1) = a + 1 := wrap_id (by omega) (by omega)
  by_cases hlt : a < (l.length : Int)
  · have g1 : decide (a < (l.length : Int)) = true := decide_eq_true hlt
    have g2 : decide (a + 1 ≤ (l.length : Int)) = true := decide_eq_true (by omega)
    simp only [↓cond_to_ite, ↓reduceIte, vc, out, Entry.toO, toOf, St.res, step, stepE, stepPick, stepO, stepC, eff, look, rem, St.put, St.setMem, setMems, St.after, St.eval, cst, val1, okNew, newHs, allHs, rdOf, outHs, Reg.item, Reg.next, binInt, effBin, elemSz, plainS, inHs, calleeHs, effNil2, fieldCur, effField3, loadCu, loadOe, loadCe, effLoad3, storeCu, storeOe, effStore3, lenOf2, idxCs, idxCur, effIndex2, effConv, binU, effBin2, plainV, initC, eqPl, curIs, finC, wrHs, disj, AV.hs, A0.hs, Entry.hs, hA, initFr, initMem, resOf, resAll, shapeOk, comps, A0.norm, t_int, t_u8, t_u64, ts_u8, t_l1Cur, Option.getD_some, Nat.reduceBEq, List.map_cons, List.map_nil, Option.map_some, Nat.zero_add, Nat.add_zero, Nat.reduceAdd, true_and, and_true, List.length_cons, List.length_nil, List.all_nil, Bool.and_true, Bool.or_false, Bool.not_true, List.append_nil, List.nil_append, List.cons_append, List.flatMap_cons, List.flatMap_nil, List.contains_cons, List.contains_nil, List.filter_cons, List.filter_nil, beq_self_eq_true, A0.i.injEq, blt_dec, Nat.reduceLeDiff, decide_true, List.toList_toArray, Option.isSome_some, Bool.false_eq_true, reduceIte, Try.f40, g1, g2, w1]
    exact ⟨(fun _ => wrap64 (l.getD a.toNat 0), a + 1, _), ⟨byte_rng hk hlt, by show a ≤ a + 1; omega, Int.le_refl _⟩, by kernel_rfl, ⟨h0, hlt⟩, by omega, by kernel_rfl, by kernel_rfl, rfl, rfl, rfl⟩
  · have g1 : decide (a < (l.length : Int)) = false := decide_eq_false hlt
    have g2 : decide (a + 1 ≤ (l.length : Int)) = false := decide_eq_false (by omega)
    simp only [↓cond_to_ite, ↓reduceIte, vc, out, Entry.toO, toOf, St.res, step, stepE, stepPick, stepO, stepC, eff, look, rem, St.put, St.setMem, setMems, St.after, St.eval, cst, val1, okNew, newHs, allHs, rdOf, outHs, Reg.item, Reg.next, binInt, effBin, elemSz, plainS, inHs, calleeHs, effNil2, fieldCur, effField3, loadCu, loadOe, effLoad3, storeCu, storeOe, effStore3, lenOf2, effConv, binU, effBin2, plainV, initC, eqPl, curIs, finC, wrHs, disj, AV.hs, A0.hs, Entry.hs, hA, initFr, initMem, resOf, resAll, shapeOk, comps, A0.norm, t_int, t_u8, t_u64, ts_u8, t_l1Cur, Option.getD_some, Nat.reduceBEq, List.map_cons, List.map_nil, Option.map_some, Nat.zero_add, Nat.add_zero, Nat.reduceAdd, true_and, and_true, List.length_cons, List.length_nil, List.all_nil, Bool.and_true, Bool.or_false, Bool.not_true, List.append_nil, List.nil_append, List.cons_append, List.flatMap_cons, List.flatMap_nil, List.contains_cons, List.contains_nil, List.filter_cons, List.filter_nil, beq_self_eq_true, A0.i.injEq, blt_dec, Nat.reduceLeDiff, decide_true, List.toList_toArray, Option.isSome_some, Bool.false_eq_true, reduceIte, Try.f40, g1, g2, w1]
    exact ⟨(fun _ => _, a + 1, _), ⟨and_rng _, by show a ≤ a + 1; omega, Int.le_refl _⟩, by kernel_rfl, by kernel_rfl, by decide, rfl, rfl, rfl⟩
open Classical in
noncomputable def xNext (l : List Int) (a s : Int)  : DR := if h : CurOk 1 l a ∧ (True) then Classical.choose (exNext l a s  h.1 h.2) else (fun _ => 0, 0, 0)
theorem spNext {l : List Int} {a s : Int}  (hk : CurOk 1 l a) (hp : True) : ((0 ≤ (xNext l a s).1 0 ∧ (xNext l a s).1 0 < 256) ∧ a ≤ (xNext l a s).2.1 ∧ (xNext l a s).2.1 ≤ a + 1) ∧ vc [hA 0] tab (specOf []) (finC tab Try.f40.results.toList l (.one (.i ((xNext l a s).1 0))) (xNext l a s).2.1 (xNext l a s).2.2) (lpN [hA 0] tab (specOf []) (finC tab Try.f40.results.toList l (.one (.i ((xNext l a s).1 0))) (xNext l a s).2.1 (xNext l a s).2.2) 0) 1000 [.code (Try.f40.body.getD .skip)] (initC l a s []) := by
  unfold xNext
  rw [dif_pos ⟨hk, hp⟩]
  exact Classical.choose_spec (exNext l a s  hk hp)
theorem atNext {l : List Int} {a s : Int}  (hk : CurOk 1 l a) (hp : True) : ∃ v a1 s1, xNext l a s = (v, a1, s1) ∧ (0 ≤ (v, a1, s1).1 0 ∧ (v, a1, s1).1 0 < 256) ∧ a ≤ a1 ∧ a1 ≤ a + 1 :=
  ⟨_, _, _, rfl, (spNext hk hp).1⟩
noncomputable def cNext : Ctr
  | .cur l a s :: [] => some ⟨CurOk 1 l a ∧ (True), .one (.i ((xNext l a s).1 0)), [(0, some (.ints 0 [(xNext l a s).2.1, (xNext l a s).2.2]))]⟩
  | _ => none
theorem okNext : CtrOk Try.prog fNext cNext := by
  have hsp : SpecOk Try.prog (specOf []) := SpecOk.nil
  refine ctr_cu Try.func40 (by kernel_rfl) fun args ce h => ?_
  unfold cNext at h
  split at h
  case h_2 => cases h
  rename_i l a s 
  simp only [Option.some.injEq] at h
  subst h
  refine ⟨l, a, s, _, _, _, rfl, rfl, fun hpre => ?_⟩
  exact cu_of mixed tab_ok hsp Try.func40 (by kernel_rfl) (by kernel_rfl) (by rfl) 0 1000 (spNext hpre.1 hpre.2).2 hpre

theorem tmod_rng {x n : Int} (hx : 0 ≤ x) (hn : 1 < n) : 0 ≤ x.tmod n ∧ x.tmod n < n := by
  rw [Int.tmod_eq_emod_of_nonneg hx]
  exact ⟨Int.emod_nonneg _ (by omega), Int.emod_lt_of_pos _ (by omega)⟩
abbrev fPick : Nat := 22
theorem exPick (l : List Int) (a s : Int) (n : Int) (hk : CurOk 2 l a) (hp : True) : ∃ x : DR, ((0 ≤ x.1 0 ∧ (x.1 0 < n ∨ (n ≤ 1 ∧ x.1 0 = 0))) ∧ a ≤ x.2.1 ∧ x.2.1 ≤ a + 2) ∧ vc [hA 0] tab (specOf [(fNext, cNext)]) (finC tab Try.f22.results.toList l (.one (.i (x.1 0))) x.2.1 x.2.2) (lpN [hA 0] tab (specOf [(fNext, cNext)]) (finC tab Try.f22.results.toList l (.one (.i (x.1 0))) x.2.1 x.2.2) 0) 1000 [.code (Try.f22.body.getD .skip)] (initC l a s [.i n]) := by
  by_cases hn : n ≤ 1
  · have g1 : decide (n ≤ 1) = true := decide_eq_true hn
    simp only [↓cond_to_ite, ↓reduceIte, vc, out, Entry.toO, toOf, St.res, step, stepE, stepPick, stepO, stepC, eff, look, rem, St.put, setMems, St.after, St.eval, cst, val1, okNew, Reg.item, Reg.next, binInt, effBin, plainS, effBin2, plainV, initC, eqPl, curIs, finC, hA, initFr, initMem, resOf, resAll, shapeOk, comps, A0.norm, Option.getD_some, Nat.reduceBEq, Option.map_some, Nat.zero_add, Nat.add_zero, true_and, and_true, List.length_cons, List.length_nil, Bool.and_true, beq_self_eq_true, A0.i.injEq, List.toList_toArray, Bool.false_eq_true, reduceIte, Try.f22, g1]
    exact ⟨(fun _ => 0, a, s), ⟨⟨Int.le_refl _, .inr ⟨hn, rfl⟩⟩, Int.le_refl _, by show a ≤ a + 2; omega⟩, rfl, rfl, rfl⟩
  · have g1 : decide (n ≤ 1) = false := decide_eq_false hn
    have hk1 : CurOk 1 l a := hk.le (by omega)
    obtain ⟨v, a1, s1, e1, ⟨v0, v1⟩, b0, b1⟩ := atNext (s := s) hk1 trivial
    by_cases hg : n > 200
    · have g2 : decide (n > 200) = true := decide_eq_true hg
      have hk2 : CurOk 1 l a1 := hk.step b0 (by omega)
      obtain ⟨u, a2, s2, e2, ⟨u0, u1⟩, c0, c1⟩ := atNext (s := s1) hk2 trivial
      simp only at v0 v1 u0 u1
      have w1 : wrap64 (wrap64 (v 0 * 256) + u 0) = v 0 * 256 + u 0 := by rw [wrap_id (n := v 0 * 256) (by omega) (by omega)]; exact wrap_id (by omega) (by omega)
      have hr := tmod_rng (x := v 0 * 256 + u 0) (n := n) (by omega) (by omega)
      simp only [↓cond_to_ite, ↓reduceIte, vc, out, Entry.toO, toOf, St.res, step, stepE, stepPick, stepO, stepC, eff, look, rem, St.put, St.setMem, setMems, St.after, St.eval, cst, val1, okNew, newHs, allHs, rdOf, Reg.item, Reg.next, binInt, effBin, argsPre, plainS, calleeHs, effBin2, plainV, cuGo, callCu, callCo, effCall2, initC, eqPl, curIs, finC, wrHs, disj, AV.hs, A0.hs, Entry.hs, hA, initFr, initMem, resOf, resAll, shapeOk, comps, A0.norm, specOf, Option.getD_some, Nat.reduceBEq, List.map_cons, List.map_nil, Option.map_some, Nat.zero_add, Nat.add_zero, true_and, and_true, List.length_cons, List.length_nil, List.all_nil, Bool.and_true, Bool.or_false, Bool.not_true, List.append_nil, List.nil_append, List.cons_append, List.flatMap_cons, List.flatMap_nil, List.contains_cons, List.contains_nil, List.filter_cons, List.filter_nil, beq_self_eq_true, A0.i.injEq, List.toList_toArray, Bool.false_eq_true, reduceIte, Try.f22, g1, g2, cNext, fNext, e1, e2, w1]
      exact ⟨(fun _ => (v 0 * 256 + u 0).tmod n, a2, s2), ⟨⟨hr.1, .inl hr.2⟩, by show a ≤ a2; omega, by show a2 ≤ a + 2; omega⟩, hk1, hk2, by omega, rfl, rfl, rfl⟩
    · have g2 : decide (n > 200) = false := decide_eq_false hg
      simp only at v0 v1
      have hr := tmod_rng (x := v 0) (n := n) v0 (by omega)
      simp only [↓cond_to_ite, ↓reduceIte, vc, out, Entry.toO, toOf, St.res, step, stepE, stepPick, stepO, stepC, eff, look, rem, St.put, St.setMem, setMems, St.after, St.eval, cst, val1, okNew, newHs, allHs, rdOf, Reg.item, Reg.next, binInt, effBin, argsPre, plainS, calleeHs, effBin2, plainV, cuGo, callCu, callCo, effCall2, initC, eqPl, curIs, finC, wrHs, disj, AV.hs, A0.hs, Entry.hs, hA, initFr, initMem, resOf, resAll, shapeOk, comps, A0.norm, specOf, Option.getD_some, Nat.reduceBEq, List.map_cons, List.map_nil, Option.map_some, Nat.zero_add, Nat.add_zero, true_and, and_true, List.length_cons, List.length_nil, List.all_nil, Bool.and_true, Bool.or_false, Bool.not_true, List.append_nil, List.nil_append, List.cons_append, List.flatMap_cons, List.flatMap_nil, List.contains_cons, List.contains_nil, List.filter_cons, List.filter_nil, beq_self_eq_true, A0.i.injEq, List.toList_toArray, Bool.false_eq_true, reduceIte, Try.f22, g1, g2, cNext, fNext, e1]
      exact ⟨(fun _ => (v 0).tmod n, a1, s1), ⟨⟨hr.1, .inl hr.2⟩, b0, by show a1 ≤ a + 2; omega⟩, hk1, by omega, rfl, rfl, rfl⟩
open Classical in
noncomputable def xPick (l : List Int) (a s : Int) (n : Int) : DR := if h : CurOk 2 l a ∧ (True) then Classical.choose (exPick l a s n h.1 h.2) else (fun _ => 0, 0, 0)
theorem spPick {l : List Int} {a s : Int} {n : Int} (hk : CurOk 2 l a) (hp : True) : ((0 ≤ (xPick l a s n).1 0 ∧ ((xPick l a s n).1 0 < n ∨ (n ≤ 1 ∧ (xPick l a s n).1 0 = 0))) ∧ a ≤ (xPick l a s n).2.1 ∧ (xPick l a s n).2.1 ≤ a + 2) ∧ vc [hA 0] tab (specOf [(fNext, cNext)]) (finC tab Try.f22.results.toList l (.one (.i ((xPick l a s n).1 0))) (xPick l a s n).2.1 (xPick l a s n).2.2) (lpN [hA 0] tab (specOf [(fNext, cNext)]) (finC tab Try.f22.results.toList l (.one (.i ((xPick l a s n).1 0))) (xPick l a s n).2.1 (xPick l a s n).2.2) 0) 1000 [.code (Try.f22.body.getD .skip)] (initC l a s [.i n]) := by
  unfold xPick
  rw [dif_pos ⟨hk, hp⟩]
  exact Classical.choose_spec (exPick l a s n hk hp)
theorem atPick {l : List Int} {a s : Int} {n : Int} (hk : CurOk 2 l a) (hp : True) : ∃ v a1 s1, xPick l a s n = (v, a1, s1) ∧ (0 ≤ (v, a1, s1).1 0 ∧ ((v, a1, s1).1 0 < n ∨ (n ≤ 1 ∧ (v, a1, s1).1 0 = 0))) ∧ a ≤ a1 ∧ a1 ≤ a + 2 :=
  ⟨_, _, _, rfl, (spPick hk hp).1⟩
noncomputable def cPick : Ctr
  | .cur l a s :: [.i n] => some ⟨CurOk 2 l a ∧ (True), .one (.i ((xPick l a s n).1 0)), [(0, some (.ints 0 [(xPick l a s n).2.1, (xPick l a s n).2.2]))]⟩
  | _ => none
theorem okPick : CtrOk Try.prog fPick cPick := by
  have hsp : SpecOk Try.prog (specOf [(fNext, cNext)]) := (SpecOk.cons okNext SpecOk.nil)
  refine ctr_cu Try.func22 (by kernel_rfl) fun args ce h => ?_
  unfold cPick at h
  split at h
  case h_2 => cases h
  rename_i l a s n
  simp only [Option.some.injEq] at h
  subst h
  refine ⟨l, a, s, _, _, _, rfl, rfl, fun hpre => ?_⟩
  exact cu_of mixed tab_ok hsp Try.func22 (by kernel_rfl) (by kernel_rfl) (by rfl) 0 1000 (spPick hpre.1 hpre.2).2 hpre

abbrev fAmong : Nat := 35
theorem exAmong (l : List Int) (a s : Int) (e : Nat) (L : List Int) (hk : CurOk 2 l a) (hp : 0 < L.length) : ∃ x : DR, ((x.1 0 ∈ L) ∧ a ≤ x.2.1 ∧ x.2.1 ≤ a + 2) ∧ vc [hA 0] tab (specOf [(fPick, cPick)]) (finC tab Try.f35.results.toList l (.one (.i (x.1 0))) x.2.1 x.2.2) (lpN [hA 0] tab (specOf [(fPick, cPick)]) (finC tab Try.f35.results.toList l (.one (.i (x.1 0))) x.2.1 x.2.2) 0) 1000 [.code (Try.f35.body.getD .skip)] (initC l a s [.rw (.ints e L)]) := by
  obtain ⟨v, a1, s1, e1, ⟨v0, v1⟩, b0, b1⟩ := atPick (s := s) (n := (L.length : Int)) hk trivial
  simp only at v0 v1
  have hlt : v 0 < (L.length : Int) := by omega
  simp only [↓cond_to_ite, ↓reduceIte, vc, out, Entry.toO, toOf, St.res, step, stepE, stepPick, stepO, eff, look, rem, St.put, St.setMem, setMems, St.after, St.eval, cst, val1, okNew, newHs, allHs, rdOf, Reg.item, Reg.next, entryRow, loadR, effLoad, elemSz, idxS, effIndex, lenOf, subPre, argOf, argsPre, RC.flat, effLoad2, plainS, calleeHs, effLoad3, lenOf2, effIndex2, cuX, cuArg, plainV, cuGo, callCu, callCo, effCall2, initC, eqPl, curIs, finC, wrHs, disj, AV.hs, A0.hs, Entry.hs, RC.sz, RC.len, hA, initFr, initMem, resOf, resAll, shapeOk, comps, A0.norm, specOf, t_int, ts_int, Option.getD_some, Nat.reduceBEq, List.map_cons, List.map_nil, Option.map_some, Nat.zero_add, Nat.add_zero, Nat.reduceAdd, true_and, and_true, List.length_cons, List.length_nil, List.all_cons, List.all_nil, List.any_nil, Bool.and_true, Bool.or_false, Bool.not_true, List.append_nil, List.nil_append, List.cons_append, List.flatMap_cons, List.flatMap_nil, List.contains_cons, List.contains_nil, List.filter_cons, List.filter_nil, beq_self_eq_true, A0.i.injEq, and_self, List.toList_toArray, Option.isSome_some, Bool.false_eq_true, reduceIte, Try.f35, cPick, fPick, e1]
  have hm : L.getD (v 0).toNat 0 ∈ L := by
    have : (v 0).toNat < L.length := by omega
    simp [List.getD, this]
  exact ⟨(fun _ => L.getD (v 0).toNat 0, a1, s1), ⟨hm, b0, b1⟩, hk, ⟨v0, hlt⟩, by omega, rfl, rfl, rfl⟩
open Classical in
noncomputable def xAmong (l : List Int) (a s : Int) (e : Nat) (L : List Int) : DR := if h : CurOk 2 l a ∧ (0 < L.length) then Classical.choose (exAmong l a s e L h.1 h.2) else (fun _ => 0, 0, 0)
theorem spAmong {l : List Int} {a s : Int} {e : Nat} {L : List Int} (hk : CurOk 2 l a) (hp : 0 < L.length) : (((xAmong l a s e L).1 0 ∈ L) ∧ a ≤ (xAmong l a s e L).2.1 ∧ (xAmong l a s e L).2.1 ≤ a + 2) ∧ vc [hA 0] tab (specOf [(fPick, cPick)]) (finC tab Try.f35.results.toList l (.one (.i ((xAmong l a s e L).1 0))) (xAmong l a s e L).2.1 (xAmong l a s e L).2.2) (lpN [hA 0] tab (specOf [(fPick, cPick)]) (finC tab Try.f35.results.toList l (.one (.i ((xAmong l a s e L).1 0))) (xAmong l a s e L).2.1 (xAmong l a s e L).2.2) 0) 1000 [.code (Try.f35.body.getD .skip)] (initC l a s [.rw (.ints e L)]) := by
  unfold xAmong
  rw [dif_pos ⟨hk, hp⟩]
  exact Classical.choose_spec (exAmong l a s e L hk hp)
theorem atAmong {l : List Int} {a s : Int} {e : Nat} {L : List Int} (hk : CurOk 2 l a) (hp : 0 < L.length) : ∃ v a1 s1, xAmong l a s e L = (v, a1, s1) ∧ ((v, a1, s1).1 0 ∈ L) ∧ a ≤ a1 ∧ a1 ≤ a + 2 :=
  ⟨_, _, _, rfl, (spAmong hk hp).1⟩
noncomputable def cAmong : Ctr
  | .cur l a s :: [.rw (.ints e L)] => some ⟨CurOk 2 l a ∧ (0 < L.length), .one (.i ((xAmong l a s e L).1 0)), [(0, some (.ints 0 [(xAmong l a s e L).2.1, (xAmong l a s e L).2.2]))]⟩
  | _ => none
theorem okAmong : CtrOk Try.prog fAmong cAmong := by
  have hsp : SpecOk Try.prog (specOf [(fPick, cPick)]) := (SpecOk.cons okPick SpecOk.nil)
  refine ctr_cu Try.func35 (by kernel_rfl) fun args ce h => ?_
  unfold cAmong at h
  split at h
  case h_2 => cases h
  rename_i l a s e L
  simp only [Option.some.injEq] at h
  subst h
  refine ⟨l, a, s, _, _, _, rfl, rfl, fun hpre => ?_⟩
  exact cu_of mixed tab_ok hsp Try.func35 (by kernel_rfl) (by kernel_rfl) (by rfl) 0 1000 (spAmong hpre.1 hpre.2).2 hpre

end Go.Proofs.Ytacomnelongbjab

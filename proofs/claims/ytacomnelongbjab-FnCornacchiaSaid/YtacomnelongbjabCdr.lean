/-
  What a cursor over bytes draws: counts, primes, and the arguments of Cornacchia and ProperPairs. Conditions: none.
-/
import Derived.Test.YtacomnelongbjabNx
import Derived.Test.YtacomnelongbjabCor
import Derived.Test.YtacomnelongbjabCod
import Derived.Test.YtacomnelongbjabIte
namespace Go.Proofs.Ytacomnelongbjab
open Go Go.RowKit
set_option maxRecDepth 100000
set_option linter.unusedSimpArgs false
set_option linter.unusedVariables false
set_option maxHeartbeats 4000000

theorem cur_go {l : List Int} (h : ∀ x ∈ l, 0 ≤ x ∧ x < 256) {K : Int} (hK : K ≤ 1000000000000) : CurOk K l 0 := ⟨h, Int.le_refl _, by omega⟩
/-! ### the next prime -/
theorem prL_yes {n : Int} (p : Int) (h : ∀ d, p ≤ d → d * d ≤ n → n.tmod d ≠ 0) : prL n p = true := by
  fun_induction prL n p with
  | case1 p hx hm => exact absurd (by simpa using hm) (h p (Int.le_refl _) hx.2)
  | case2 p hx hm ih => exact ih fun d h1 h2 => h d (by omega) h2
  | case3 p hx => rfl
theorem no9001 : (allN 95 fun d => Nat.ble d 1 || !(Nat.beq (9001 % d) 0)) = true := by decide +kernel
theorem pr9001 : primeI 9001 = true := by
  unfold primeI
  rw [Bool.and_eq_true]
  refine ⟨by decide, prL_yes 2 fun d h1 h2 h3 => ?_⟩
  have hd : d < 95 := by
    refine Int.not_le.1 fun g => ?_
    have := Int.mul_le_mul g g (by omega) (by omega)
    omega
  obtain ⟨k, rfl⟩ : ∃ k : Nat, d = k := ⟨d.toNat, by omega⟩
  have h4 := allN_at no9001 (i := k) (by omega)
  rw [Int.tmod_eq_emod_of_nonneg (by omega)] at h3
  have h5 : 9001 % k = 0 := by
    have : ((9001 % k : Nat) : Int) = (9001 : Int) % (k : Int) := Int.natCast_emod 9001 k
    omega
  simp only [Bool.or_eq_true, Nat.ble_eq, Bool.not_eq_true', h5] at h4
  rcases h4 with g | g
  · omega
  · exact absurd g (by decide)
def nxP (p : Int) : Int := if _h : p < 9001 ∧ primeI p = false then nxP (p + 1) else p
  termination_by (9001 - p).toNat
theorem nxP_no {p : Int} (h : p ≤ 9001) (hp : primeI p = false) : p < 9001 ∧ nxP p = nxP (p + 1) := by
  have h2 : p < 9001 := by
    rcases Int.lt_or_eq_of_le h with g | g
    · exact g
    · rw [g, pr9001] at hp; cases hp
  exact ⟨h2, by rw [nxP.eq_def, dif_pos ⟨h2, hp⟩]⟩
theorem nxP_yes {p : Int} (hp : primeI p = true) : nxP p = p := by
  rw [nxP.eq_def, dif_neg (by rw [hp]; simp)]
abbrev fOne : Nat := 21
theorem exOne (l : List Int) (a s : Int) (n : Int) (hk : CurOk 2 l a) (hp : True) : ∃ x : DR, ((True) ∧ a ≤ x.2.1 ∧ x.2.1 ≤ a + 2) ∧ vc [hA 0] tab (specOf [(fPick, cPick)]) (finC tab Try.f21.results.toList l (.one (.b (x.1 0 == 0))) x.2.1 x.2.2) (lpN [hA 0] tab (specOf [(fPick, cPick)]) (finC tab Try.f21.results.toList l (.one (.b (x.1 0 == 0))) x.2.1 x.2.2) 0) 1000 [.code (Try.f21.body.getD .skip)] (initC l a s [.i n]) := by
  have hk1 : CurOk 2 l a := hk.step (by omega) (by omega)
  obtain ⟨v, a6, s7, e2, p3, b4, c5⟩ := atPick (s := s) (n := n) hk1 trivial
  try simp only at p3
  simp only [↓cond_to_ite, ↓reduceIte, vc, out, Entry.toO, toOf, St.res, step, stepE, stepPick, stepO, eff, look, rem, St.put, St.setMem, setMems, St.after, St.eval, cst, val1, okNew, newHs, allHs, rdOf, Reg.item, Reg.next, binInt, effBin, subPre, argOf, argsPre, plainS, calleeHs, effBin2, cuX, cuArg, plainV, cuGo, callCu, callCo, effCall2, initC, eqPl, curIs, finC, wrHs, disj, AV.hs, A0.hs, Entry.hs, hA, initFr, initMem, resOf, resAll, shapeOk, comps, A0.norm, specOf, Option.getD_some, Nat.reduceBEq, List.map_cons, List.map_nil, Option.map_some, Nat.zero_add, Nat.add_zero, true_and, and_true, List.length_cons, List.length_nil, List.all_cons, List.all_nil, Bool.and_true, Bool.or_false, Bool.not_true, List.append_nil, List.nil_append, List.cons_append, List.flatMap_cons, List.flatMap_nil, List.contains_cons, List.contains_nil, List.filter_cons, List.filter_nil, beq_self_eq_true, A0.b.injEq, and_self, List.toList_toArray, Bool.false_eq_true, reduceIte, Try.f21, cPick, fPick, e2]
  refine ⟨(dr1 (v 0), a6, s7), ⟨?h1, ?h2⟩, ?h3⟩
  case h1 => show a ≤ a6; omega
  case h2 => show a6 ≤ a + 2; omega
  case h3 => (repeat' refine And.intro ?_ ?_) <;> first | assumption | rfl | trivial | omega | kernel_rfl
open Classical in
noncomputable def xOne (l : List Int) (a s : Int) (n : Int) : DR := if h : CurOk 2 l a ∧ (True) then Classical.choose (exOne l a s n h.1 h.2) else (fun _ => 0, 0, 0)
theorem spOne {l : List Int} {a s : Int} {n : Int} (hk : CurOk 2 l a) (hp : True) : ((True) ∧ a ≤ (xOne l a s n).2.1 ∧ (xOne l a s n).2.1 ≤ a + 2) ∧ vc [hA 0] tab (specOf [(fPick, cPick)]) (finC tab Try.f21.results.toList l (.one (.b ((xOne l a s n).1 0 == 0))) (xOne l a s n).2.1 (xOne l a s n).2.2) (lpN [hA 0] tab (specOf [(fPick, cPick)]) (finC tab Try.f21.results.toList l (.one (.b ((xOne l a s n).1 0 == 0))) (xOne l a s n).2.1 (xOne l a s n).2.2) 0) 1000 [.code (Try.f21.body.getD .skip)] (initC l a s [.i n]) := by
  unfold xOne
  rw [dif_pos ⟨hk, hp⟩]
  exact Classical.choose_spec (exOne l a s n hk hp)
theorem atOne {l : List Int} {a s : Int} {n : Int} (hk : CurOk 2 l a) (hp : True) : ∃ v a1 s1, xOne l a s n = (v, a1, s1) ∧ (True) ∧ a ≤ a1 ∧ a1 ≤ a + 2 :=
  ⟨_, _, _, rfl, (spOne hk hp).1⟩
noncomputable def cOne : Ctr
  | .cur l a s :: [.i n] => some ⟨CurOk 2 l a ∧ (True), .one (.b ((xOne l a s n).1 0 == 0)), [(0, some (.ints 0 [(xOne l a s n).2.1, (xOne l a s n).2.2]))]⟩
  | _ => none
theorem okOne : CtrOk Try.prog fOne cOne := by
  have hsp : SpecOk Try.prog (specOf [(fPick, cPick)]) := (SpecOk.cons okPick SpecOk.nil)
  refine ctr_cu Try.func21 (by kernel_rfl) fun args ce h => ?_
  unfold cOne at h
  split at h
  case h_2 => cases h
  rename_i l a s n
  simp only [Option.some.injEq] at h
  subst h
  refine ⟨l, a, s, _, _, _, rfl, rfl, fun hpre => ?_⟩
  exact cu_of mixed tab_ok hsp Try.func21 (by kernel_rfl) (by kernel_rfl) (by rfl) 0 1000 (spOne hpre.1 hpre.2).2 hpre

abbrev fSmall : Nat := 19
theorem exSmall (l : List Int) (a s : Int)  (hk : CurOk 4 l a) (hp : True) : ∃ x : DR, ((True) ∧ a ≤ x.2.1 ∧ x.2.1 ≤ a + 4) ∧ vc [hA 0] tab (specOf [(fPick, cPick), (fAmong, cAmong)]) (finC tab Try.f19.results.toList l (.one (.i (x.1 0))) x.2.1 x.2.2) (lpN [hA 0] tab (specOf [(fPick, cPick), (fAmong, cAmong)]) (finC tab Try.f19.results.toList l (.one (.i (x.1 0))) x.2.1 x.2.2) 0) 1000 [.code (Try.f19.body.getD .skip)] (initC l a s []) := by
  have hk1 : CurOk 2 l a := hk.le (by omega)
  obtain ⟨t, a1, s1, e1, p1, b1, c1⟩ := atPick (s := s) (n := 8) hk1 trivial
  have hk2 : CurOk 2 l a1 := hk.step (by omega) (by omega)
  by_cases r0 : t 0 = 0
  · have f0 : (t 0 == 0) = true := beq_iff_eq.2 r0
    obtain ⟨r, a2, s2, e2, p2, b2, c2⟩ := atAmong (s := s1) (e := 3) (L := [0, -1, 500, 501, 1, 4611686018427387904]) hk2 (by decide)
    simp only [↓cond_to_ite, ↓reduceIte, vc, out, Entry.toO, toOf, St.res, step, stepE, stepPick, stepO, stepC, eff, look, rem, St.put, St.setMem, setMems, St.after, St.eval, cst, val1, okNew, newHs, allHs, rdOf, Reg.item, Reg.next, entryRow, binInt, effBin, ivs, rowOf, allParts, effBuildSlice, subPre, argOf, argsPre, RC.flat, effBuildSl, plainS, calleeHs, effBin2, cuX, cuArg, plainV, cuGo, callCu, callCo, effCall2, initC, eqPl, curIs, finC, wrHs, disj, AV.hs, A0.hs, Entry.hs, RC.sz, hA, initFr, initMem, resOf, resAll, shapeOk, comps, A0.norm, specOf, t_int, ts_int, Option.getD_some, Nat.reduceBEq, List.map_cons, List.map_nil, Option.map_some, Nat.zero_add, Nat.add_zero, Nat.reduceAdd, true_and, and_true, List.length_cons, List.length_nil, List.all_cons, List.all_nil, Bool.and_true, Bool.or_false, Bool.not_true, Bool.not_false, List.append_nil, List.nil_append, List.cons_append, List.flatMap_cons, List.flatMap_nil, List.contains_cons, List.contains_nil, List.filter_cons, List.filter_nil, beq_self_eq_true, A0.i.injEq, ble_dec, Nat.reduceLeDiff, decide_true, and_self, List.toList_toArray, Bool.false_eq_true, reduceIte, Try.f19, cPick, fPick, cAmong, fAmong, e1, f0, e2]
    refine ⟨(dr1 (r 0), a2, s2), ⟨?h1, ?h2⟩, ?h3⟩
    case h1 => show a ≤ a2; omega
    case h2 => show a2 ≤ a + 4; omega
    case h3 => (repeat' refine And.intro ?_ ?_) <;> first | assumption | rfl | trivial | omega | kernel_rfl
  · have f0 : (t 0 == 0) = false := beq_eq_false_iff_ne.2 r0
    by_cases r1 : t 0 = 1
    · have f1 : (t 0 == 1) = true := beq_iff_eq.2 r1
      obtain ⟨r, a2, s2, e2, p2, b2, c2⟩ := atPick (s := s1) (n := 500) hk2 trivial
      simp only [↓cond_to_ite, ↓reduceIte, vc, out, Entry.toO, toOf, St.res, step, stepE, stepPick, stepO, stepC, eff, look, rem, St.put, St.setMem, setMems, St.after, St.eval, cst, val1, okNew, newHs, allHs, rdOf, Reg.item, Reg.next, binInt, effBin, subPre, argOf, argsPre, plainS, calleeHs, effBin2, cuX, cuArg, plainV, cuGo, callCu, callCo, effCall2, initC, eqPl, curIs, finC, wrHs, disj, AV.hs, A0.hs, Entry.hs, hA, initFr, initMem, resOf, resAll, shapeOk, comps, A0.norm, specOf, Option.getD_some, Nat.reduceBEq, List.map_cons, List.map_nil, Option.map_some, Nat.zero_add, Nat.add_zero, true_and, and_true, List.length_cons, List.length_nil, List.all_cons, List.all_nil, Bool.and_true, Bool.or_false, Bool.not_true, List.append_nil, List.nil_append, List.cons_append, List.flatMap_cons, List.flatMap_nil, List.contains_cons, List.contains_nil, List.filter_cons, List.filter_nil, beq_self_eq_true, A0.i.injEq, and_self, List.toList_toArray, Bool.false_eq_true, reduceIte, Try.f19, cPick, fPick, e1, f0, f1, e2]
      refine ⟨(dr1 (wrap64 (1 + r 0)), a2, s2), ⟨?h1, ?h2⟩, ?h3⟩
      case h1 => show a ≤ a2; omega
      case h2 => show a2 ≤ a + 4; omega
      case h3 => (repeat' refine And.intro ?_ ?_) <;> first | assumption | rfl | trivial | omega | kernel_rfl
    · have f1 : (t 0 == 1) = false := beq_eq_false_iff_ne.2 r1
      obtain ⟨r, a2, s2, e2, p2, b2, c2⟩ := atAmong (s := s1) (e := 3) (L := [1, 2, 3, 5, 6, 7, 10, 13, 15, 21, 30, 33, 42, 57, 105, 165, 210, 345, 462]) hk2 (by decide)
      by_cases r2 : t 0 = 2
      · have f2 : (t 0 == 2) = true := beq_iff_eq.2 r2
        simp only [↓cond_to_ite, ↓reduceIte, vc, out, Entry.toO, toOf, St.res, step, stepE, stepPick, stepO, stepC, eff, look, rem, St.put, St.setMem, setMems, St.after, St.eval, cst, val1, okNew, newHs, allHs, rdOf, Reg.item, Reg.next, entryRow, binInt, effBin, ivs, rowOf, allParts, effBuildSlice, subPre, argOf, argsPre, RC.flat, effBuildSl, plainS, calleeHs, effBin2, cuX, cuArg, plainV, cuGo, callCu, callCo, effCall2, initC, eqPl, curIs, finC, wrHs, disj, AV.hs, A0.hs, Entry.hs, RC.sz, hA, initFr, initMem, resOf, resAll, shapeOk, comps, A0.norm, specOf, t_int, ts_int, Option.getD_some, Nat.reduceBEq, List.map_cons, List.map_nil, Option.map_some, Nat.zero_add, Nat.add_zero, Nat.reduceAdd, true_and, and_true, List.length_cons, List.length_nil, List.all_cons, List.all_nil, Bool.and_true, Bool.or_false, Bool.not_true, Bool.not_false, List.append_nil, List.nil_append, List.cons_append, List.flatMap_cons, List.flatMap_nil, List.contains_cons, List.contains_nil, List.filter_cons, List.filter_nil, beq_self_eq_true, A0.i.injEq, ble_dec, Nat.reduceLeDiff, decide_true, and_self, List.toList_toArray, Bool.false_eq_true, reduceIte, Try.f19, cPick, fPick, cAmong, fAmong, e1, f0, f1, f2, e2]
        refine ⟨(dr1 (r 0), a2, s2), ⟨?h1, ?h2⟩, ?h3⟩
        case h1 => show a ≤ a2; omega
        case h2 => show a2 ≤ a + 4; omega
        case h3 => (repeat' refine And.intro ?_ ?_) <;> first | assumption | rfl | trivial | omega | kernel_rfl
      · have f2 : (t 0 == 2) = false := beq_eq_false_iff_ne.2 r2
        by_cases r3 : t 0 = 3
        · have f3 : (t 0 == 3) = true := beq_iff_eq.2 r3
          simp only [↓cond_to_ite, ↓reduceIte, vc, out, Entry.toO, toOf, St.res, step, stepE, stepPick, stepO, stepC, eff, look, rem, St.put, St.setMem, setMems, St.after, St.eval, cst, val1, okNew, newHs, allHs, rdOf, Reg.item, Reg.next, entryRow, binInt, effBin, ivs, rowOf, allParts, effBuildSlice, subPre, argOf, argsPre, RC.flat, effBuildSl, plainS, calleeHs, effBin2, cuX, cuArg, plainV, cuGo, callCu, callCo, effCall2, initC, eqPl, curIs, finC, wrHs, disj, AV.hs, A0.hs, Entry.hs, RC.sz, hA, initFr, initMem, resOf, resAll, shapeOk, comps, A0.norm, specOf, t_int, ts_int, Option.getD_some, Nat.reduceBEq, List.map_cons, List.map_nil, Option.map_some, Nat.zero_add, Nat.add_zero, Nat.reduceAdd, true_and, and_true, List.length_cons, List.length_nil, List.all_cons, List.all_nil, Bool.and_true, Bool.or_false, Bool.not_true, Bool.not_false, List.append_nil, List.nil_append, List.cons_append, List.flatMap_cons, List.flatMap_nil, List.contains_cons, List.contains_nil, List.filter_cons, List.filter_nil, beq_self_eq_true, A0.i.injEq, ble_dec, Nat.reduceLeDiff, decide_true, and_self, List.toList_toArray, Bool.false_eq_true, reduceIte, Try.f19, cPick, fPick, cAmong, fAmong, e1, f0, f1, f2, f3, e2]
          refine ⟨(dr1 (r 0), a2, s2), ⟨?h1, ?h2⟩, ?h3⟩
          case h1 => show a ≤ a2; omega
          case h2 => show a2 ≤ a + 4; omega
          case h3 => (repeat' refine And.intro ?_ ?_) <;> first | assumption | rfl | trivial | omega | kernel_rfl
        · have f3 : (t 0 == 3) = false := beq_eq_false_iff_ne.2 r3
          obtain ⟨r, a2, s2, e2, p2, b2, c2⟩ := atPick (s := s1) (n := 30) hk2 trivial
          simp only [↓cond_to_ite, ↓reduceIte, vc, out, Entry.toO, toOf, St.res, step, stepE, stepPick, stepO, stepC, eff, look, rem, St.put, St.setMem, setMems, St.after, St.eval, cst, val1, okNew, newHs, allHs, rdOf, Reg.item, Reg.next, binInt, effBin, subPre, argOf, argsPre, plainS, calleeHs, effBin2, cuX, cuArg, plainV, cuGo, callCu, callCo, effCall2, initC, eqPl, curIs, finC, wrHs, disj, AV.hs, A0.hs, Entry.hs, hA, initFr, initMem, resOf, resAll, shapeOk, comps, A0.norm, specOf, Option.getD_some, Nat.reduceBEq, List.map_cons, List.map_nil, Option.map_some, Nat.zero_add, Nat.add_zero, true_and, and_true, List.length_cons, List.length_nil, List.all_cons, List.all_nil, Bool.and_true, Bool.or_false, Bool.not_true, List.append_nil, List.nil_append, List.cons_append, List.flatMap_cons, List.flatMap_nil, List.contains_cons, List.contains_nil, List.filter_cons, List.filter_nil, beq_self_eq_true, A0.i.injEq, and_self, List.toList_toArray, Bool.false_eq_true, reduceIte, Try.f19, cPick, fPick, e1, f0, f1, f2, f3, e2]
          refine ⟨(dr1 (wrap64 (1 + r 0)), a2, s2), ⟨?h1, ?h2⟩, ?h3⟩
          case h1 => show a ≤ a2; omega
          case h2 => show a2 ≤ a + 4; omega
          case h3 => (repeat' refine And.intro ?_ ?_) <;> first | assumption | rfl | trivial | omega | kernel_rfl
open Classical in
noncomputable def xSmall (l : List Int) (a s : Int)  : DR := if h : CurOk 4 l a ∧ (True) then Classical.choose (exSmall l a s  h.1 h.2) else (fun _ => 0, 0, 0)
theorem spSmall {l : List Int} {a s : Int}  (hk : CurOk 4 l a) (hp : True) : ((True) ∧ a ≤ (xSmall l a s).2.1 ∧ (xSmall l a s).2.1 ≤ a + 4) ∧ vc [hA 0] tab (specOf [(fPick, cPick), (fAmong, cAmong)]) (finC tab Try.f19.results.toList l (.one (.i ((xSmall l a s).1 0))) (xSmall l a s).2.1 (xSmall l a s).2.2) (lpN [hA 0] tab (specOf [(fPick, cPick), (fAmong, cAmong)]) (finC tab Try.f19.results.toList l (.one (.i ((xSmall l a s).1 0))) (xSmall l a s).2.1 (xSmall l a s).2.2) 0) 1000 [.code (Try.f19.body.getD .skip)] (initC l a s []) := by
  unfold xSmall
  rw [dif_pos ⟨hk, hp⟩]
  exact Classical.choose_spec (exSmall l a s  hk hp)
theorem atSmall {l : List Int} {a s : Int}  (hk : CurOk 4 l a) (hp : True) : ∃ v a1 s1, xSmall l a s = (v, a1, s1) ∧ (True) ∧ a ≤ a1 ∧ a1 ≤ a + 4 :=
  ⟨_, _, _, rfl, (spSmall hk hp).1⟩
noncomputable def cSmall : Ctr
  | .cur l a s :: [] => some ⟨CurOk 4 l a ∧ (True), .one (.i ((xSmall l a s).1 0)), [(0, some (.ints 0 [(xSmall l a s).2.1, (xSmall l a s).2.2]))]⟩
  | _ => none
theorem okSmall : CtrOk Try.prog fSmall cSmall := by
  have hsp : SpecOk Try.prog (specOf [(fPick, cPick), (fAmong, cAmong)]) := (SpecOk.cons okPick (SpecOk.cons okAmong SpecOk.nil))
  refine ctr_cu Try.func19 (by kernel_rfl) fun args ce h => ?_
  unfold cSmall at h
  split at h
  case h_2 => cases h
  rename_i l a s 
  simp only [Option.some.injEq] at h
  subst h
  refine ⟨l, a, s, _, _, _, rfl, rfl, fun hpre => ?_⟩
  exact cu_of mixed tab_ok hsp Try.func19 (by kernel_rfl) (by kernel_rfl) (by rfl) 0 1000 (spSmall hpre.1 hpre.2).2 hpre

abbrev fShown : Nat := 24
theorem exShown (l : List Int) (a s : Int)  (hk : CurOk 4 l a) (hp : True) : ∃ x : DR, ((True) ∧ a ≤ x.2.1 ∧ x.2.1 ≤ a + 4) ∧ vc [hA 0] tab (specOf [(fPick, cPick), (fAmong, cAmong), (fNuPrime, cNuPrime)]) (finC tab Try.f24.results.toList l (.one (.i (x.1 0))) x.2.1 x.2.2) (lpN [hA 0] tab (specOf [(fPick, cPick), (fAmong, cAmong), (fNuPrime, cNuPrime)]) (finC tab Try.f24.results.toList l (.one (.i (x.1 0))) x.2.1 x.2.2) 1) 1000 [.code (Try.f24.body.getD .skip)] (initC l a s []) := by
  have hk1 : CurOk 2 l a := hk.le (by omega)
  obtain ⟨t, a1, s1, e1, p1, b1, c1⟩ := atPick (s := s) (n := 8) hk1 trivial
  have hk2 : CurOk 2 l a1 := hk.step (by omega) (by omega)
  by_cases r0 : t 0 = 0
  · have f0 : (t 0 == 0) = true := beq_iff_eq.2 r0
    obtain ⟨r, a2, s2, e2, p2, b2, c2⟩ := atAmong (s := s1) (e := 3) (L := [2, 3, 9973, 10007, 1, 0, -3, 9999, 4]) hk2 (by decide)
    simp only [↓cond_to_ite, ↓reduceIte, vc, out, Entry.toO, toOf, St.res, step, stepE, stepPick, stepO, stepC, eff, look, rem, St.put, St.setMem, setMems, St.after, St.eval, cst, val1, okNew, newHs, allHs, rdOf, Reg.item, Reg.next, entryRow, binInt, effBin, ivs, rowOf, allParts, effBuildSlice, subPre, argOf, argsPre, RC.flat, effBuildSl, plainS, calleeHs, effBin2, cuX, cuArg, plainV, cuGo, callCu, callCo, effCall2, initC, eqPl, curIs, finC, wrHs, disj, AV.hs, A0.hs, Entry.hs, RC.sz, hA, initFr, initMem, resOf, resAll, shapeOk, comps, A0.norm, specOf, t_int, ts_int, Option.getD_some, Nat.reduceBEq, List.map_cons, List.map_nil, Option.map_some, Nat.zero_add, Nat.add_zero, Nat.reduceAdd, true_and, and_true, List.length_cons, List.length_nil, List.all_cons, List.all_nil, Bool.and_true, Bool.or_false, Bool.not_true, Bool.not_false, List.append_nil, List.nil_append, List.cons_append, List.flatMap_cons, List.flatMap_nil, List.contains_cons, List.contains_nil, List.filter_cons, List.filter_nil, beq_self_eq_true, A0.i.injEq, ble_dec, Nat.reduceLeDiff, decide_true, and_self, List.toList_toArray, Bool.false_eq_true, reduceIte, Try.f24, cPick, fPick, cAmong, fAmong, e1, f0, e2]
    refine ⟨(dr1 (r 0), a2, s2), ⟨?h1, ?h2⟩, ?h3⟩
    case h1 => show a ≤ a2; omega
    case h2 => show a2 ≤ a + 4; omega
    case h3 => (repeat' refine And.intro ?_ ?_) <;> first | assumption | rfl | trivial | omega | kernel_rfl
  · have f0 : (t 0 == 0) = false := beq_eq_false_iff_ne.2 r0
    by_cases r1 : t 0 = 1
    · have f1 : (t 0 == 1) = true := beq_iff_eq.2 r1
      obtain ⟨r, a2, s2, e2, p2, b2, c2⟩ := atPick (s := s1) (n := 9000) hk2 trivial
      simp only at p2
      have w1 : wrap64 (2 + r 0) = 2 + r 0 := wrap_id (by omega) (by omega)
      obtain ⟨P, hP⟩ : ∃ P, wrap64 (2 + r 0) = P := ⟨_, rfl⟩
      have hP2 : 2 ≤ P ∧ P ≤ 9001 := by omega
      simp only [↓cond_to_ite, ↓reduceIte, vc, out, Entry.toO, toOf, St.res, step, stepE, stepPick, stepO, stepC, eff, look, rem, St.put, St.setMem, setMems, St.after, St.eval, cst, val1, okNew, newHs, allHs, rdOf, Reg.item, Reg.next, binInt, effBin, subPre, argOf, argsPre, plainS, calleeHs, effBin2, cuX, cuArg, plainV, cuGo, callCu, callCo, effCall2, initC, wrHs, disj, AV.hs, A0.hs, Entry.hs, hA, initFr, initMem, specOf, Option.getD_some, Nat.reduceBEq, List.map_cons, List.map_nil, Nat.add_zero, true_and, and_true, List.all_cons, List.all_nil, Bool.and_true, Bool.or_false, Bool.not_true, List.append_nil, List.nil_append, List.cons_append, List.flatMap_cons, List.flatMap_nil, List.contains_cons, List.contains_nil, List.filter_cons, List.filter_nil, beq_self_eq_true, and_self, List.toList_toArray, Bool.false_eq_true, reduceIte, Try.f24, cPick, fPick, fAmong, e1, f0, f1, e2, hP]
      refine ⟨(dr1 (nxP P), a2, s2), ⟨?h1, ?h2⟩, ?h3⟩
      case h1 => show a ≤ a2; omega
      case h2 => show a2 ≤ a + 4; omega
      case h3 =>
        refine ⟨hk1, hk2, ?_⟩
        refine lp_intro (fun p : Int => ⟨[(0, .one (.co 1000000)), (3, .one (.i p))], [(1000000, .cu l a2 s2)]⟩) (fun p => (2 ≤ p ∧ p ≤ 9001) ∧ nxP p = nxP P) (fun p => (9002 - p).toNat) P [] ⟨hP2, rfl⟩ (by simp only [Cov, covOk, covFr, covMem, entEq, rn, nodupB, A0.ren, AV.ren, Entry.ren, Entry.norm, look, St.eval, A0.norm, AV.norm, Option.getD_some, Option.getD_none, cond_true, cond_false, Nat.reduceBEq, List.map_cons, List.map_nil, List.all_cons, List.all_nil, Bool.and_true, Bool.not_false, List.contains_nil, beq_self_eq_true, and_self]) fun p hx J hJ => ⟨1000, ?_⟩
        obtain ⟨hp2, hx⟩ := hx
        have hp3 : p ≤ 1000000000000 := by omega
        have w2 : wrap64 (p + 1) = p + 1 := wrap_id (by omega) (by omega)
        cases c3 : primeI p with
        | true =>
          rw [nxP_yes c3] at hx
          simp only [↓cond_to_ite, ↓reduceIte, vc, out, Entry.toO, toOf, St.res, step, stepE, stepPick, stepO, stepC, eff, look, rem, St.put, setMems, St.after, St.eval, val1, okNew, Reg.item, Reg.next, effUn, subPre, argOf, resA, resV, argsPre, argOk, callWr, effCall, callGo, plainS, plainV, effCall2, eqPl, curIs, finC, wrHs, disj, AV.hs, A0.hs, hA, resOf, resAll, shapeOk, comps, A0.norm, specOf, Option.getD_some, Nat.reduceBEq, List.map_cons, List.map_nil, Option.map_some, Nat.zero_add, Nat.add_zero, true_and, and_true, List.length_cons, List.length_nil, List.all_cons, List.all_nil, Bool.and_true, Bool.not_true, Bool.not_false, List.append_nil, List.flatMap_cons, List.flatMap_nil, List.contains_nil, beq_self_eq_true, A0.i.injEq, and_self, Bool.false_eq_true, reduceIte, cNuPrime, fNuPrime, c3, ← hx]
          (repeat' refine And.intro ?_ ?_) <;> first | assumption | rfl | trivial | omega | kernel_rfl
        | false =>
          obtain ⟨n1, n2⟩ := nxP_no hp2.2 c3
          rw [n2] at hx
          simp only [↓cond_to_ite, ↓reduceIte, vc, out, Entry.toO, toOf, St.res, step, stepE, stepPick, stepO, stepC, eff, look, rem, St.put, setMems, St.after, St.eval, cst, val1, okNew, Reg.item, Reg.next, binInt, effBin, effUn, subPre, argOf, resA, resV, argsPre, argOk, callWr, effCall, callGo, effBin2, effCall2, wrHs, disj, AV.hs, A0.hs, specOf, Option.getD_some, Nat.reduceBEq, List.map_cons, List.map_nil, true_and, and_true, List.all_cons, List.all_nil, Bool.and_true, Bool.not_false, List.append_nil, List.flatMap_cons, List.flatMap_nil, List.contains_nil, beq_self_eq_true, and_self, Bool.false_eq_true, reduceIte, cNuPrime, fNuPrime, c3]
          exact ⟨hp3, hJ _ (p + 1) [] ⟨by omega, hx⟩ (by omega) (by simp only [Cov, covOk, covFr, covMem, entEq, rn, nodupB, A0.ren, AV.ren, Entry.ren, Entry.norm, look, St.eval, A0.norm, AV.norm, Option.getD_some, Option.getD_none, cond_true, cond_false, Nat.reduceBEq, List.map_cons, List.map_nil, List.all_cons, List.all_nil, Bool.and_true, Bool.not_false, List.contains_nil, beq_self_eq_true, and_self, w2])⟩
    · have f1 : (t 0 == 1) = false := beq_eq_false_iff_ne.2 r1
      obtain ⟨r, a2, s2, e2, p2, b2, c2⟩ := atPick (s := s1) (n := 500) hk2 trivial
      simp only at p2
      have w1 : wrap64 (2 + r 0) = 2 + r 0 := wrap_id (by omega) (by omega)
      obtain ⟨P, hP⟩ : ∃ P, wrap64 (2 + r 0) = P := ⟨_, rfl⟩
      have hP2 : 2 ≤ P ∧ P ≤ 9001 := by omega
      simp only [↓cond_to_ite, ↓reduceIte, vc, out, Entry.toO, toOf, St.res, step, stepE, stepPick, stepO, stepC, eff, look, rem, St.put, St.setMem, setMems, St.after, St.eval, cst, val1, okNew, newHs, allHs, rdOf, Reg.item, Reg.next, binInt, effBin, subPre, argOf, argsPre, plainS, calleeHs, effBin2, cuX, cuArg, plainV, cuGo, callCu, callCo, effCall2, initC, wrHs, disj, AV.hs, A0.hs, Entry.hs, hA, initFr, initMem, specOf, Option.getD_some, Nat.reduceBEq, List.map_cons, List.map_nil, Nat.add_zero, true_and, and_true, List.all_cons, List.all_nil, Bool.and_true, Bool.or_false, Bool.not_true, List.append_nil, List.nil_append, List.cons_append, List.flatMap_cons, List.flatMap_nil, List.contains_cons, List.contains_nil, List.filter_cons, List.filter_nil, beq_self_eq_true, and_self, List.toList_toArray, Bool.false_eq_true, reduceIte, Try.f24, cPick, fPick, fAmong, e1, f0, f1, e2, hP]
      refine ⟨(dr1 (nxP P), a2, s2), ⟨?h1, ?h2⟩, ?h3⟩
      case h1 => show a ≤ a2; omega
      case h2 => show a2 ≤ a + 4; omega
      case h3 =>
        refine ⟨hk1, hk2, ?_⟩
        refine lp_intro (fun p : Int => ⟨[(0, .one (.co 1000000)), (4, .one (.i p))], [(1000000, .cu l a2 s2)]⟩) (fun p => (2 ≤ p ∧ p ≤ 9001) ∧ nxP p = nxP P) (fun p => (9002 - p).toNat) P [] ⟨hP2, rfl⟩ (by simp only [Cov, covOk, covFr, covMem, entEq, rn, nodupB, A0.ren, AV.ren, Entry.ren, Entry.norm, look, St.eval, A0.norm, AV.norm, Option.getD_some, Option.getD_none, cond_true, cond_false, Nat.reduceBEq, List.map_cons, List.map_nil, List.all_cons, List.all_nil, Bool.and_true, Bool.not_false, List.contains_nil, beq_self_eq_true, and_self]) fun p hx J hJ => ⟨1000, ?_⟩
        obtain ⟨hp2, hx⟩ := hx
        have hp3 : p ≤ 1000000000000 := by omega
        have w2 : wrap64 (p + 1) = p + 1 := wrap_id (by omega) (by omega)
        cases c3 : primeI p with
        | true =>
          rw [nxP_yes c3] at hx
          simp only [↓cond_to_ite, ↓reduceIte, vc, out, Entry.toO, toOf, St.res, step, stepE, stepPick, stepO, stepC, eff, look, rem, St.put, setMems, St.after, St.eval, val1, okNew, Reg.item, Reg.next, effUn, subPre, argOf, resA, resV, argsPre, argOk, callWr, effCall, callGo, plainS, plainV, effCall2, eqPl, curIs, finC, wrHs, disj, AV.hs, A0.hs, hA, resOf, resAll, shapeOk, comps, A0.norm, specOf, Option.getD_some, Nat.reduceBEq, List.map_cons, List.map_nil, Option.map_some, Nat.zero_add, Nat.add_zero, true_and, and_true, List.length_cons, List.length_nil, List.all_cons, List.all_nil, Bool.and_true, Bool.not_true, Bool.not_false, List.append_nil, List.flatMap_cons, List.flatMap_nil, List.contains_nil, beq_self_eq_true, A0.i.injEq, and_self, Bool.false_eq_true, reduceIte, cNuPrime, fNuPrime, c3, ← hx]
          (repeat' refine And.intro ?_ ?_) <;> first | assumption | rfl | trivial | omega | kernel_rfl
        | false =>
          obtain ⟨n1, n2⟩ := nxP_no hp2.2 c3
          rw [n2] at hx
          simp only [↓cond_to_ite, ↓reduceIte, vc, out, Entry.toO, toOf, St.res, step, stepE, stepPick, stepO, stepC, eff, look, rem, St.put, setMems, St.after, St.eval, cst, val1, okNew, Reg.item, Reg.next, binInt, effBin, effUn, subPre, argOf, resA, resV, argsPre, argOk, callWr, effCall, callGo, effBin2, effCall2, wrHs, disj, AV.hs, A0.hs, specOf, Option.getD_some, Nat.reduceBEq, List.map_cons, List.map_nil, true_and, and_true, List.all_cons, List.all_nil, Bool.and_true, Bool.not_false, List.append_nil, List.flatMap_cons, List.flatMap_nil, List.contains_nil, beq_self_eq_true, and_self, Bool.false_eq_true, reduceIte, cNuPrime, fNuPrime, c3]
          exact ⟨hp3, hJ _ (p + 1) [] ⟨by omega, hx⟩ (by omega) (by simp only [Cov, covOk, covFr, covMem, entEq, rn, nodupB, A0.ren, AV.ren, Entry.ren, Entry.norm, look, St.eval, A0.norm, AV.norm, Option.getD_some, Option.getD_none, cond_true, cond_false, Nat.reduceBEq, List.map_cons, List.map_nil, List.all_cons, List.all_nil, Bool.and_true, Bool.not_false, List.contains_nil, beq_self_eq_true, and_self, w2])⟩
open Classical in
noncomputable def xShown (l : List Int) (a s : Int)  : DR := if h : CurOk 4 l a ∧ (True) then Classical.choose (exShown l a s  h.1 h.2) else (fun _ => 0, 0, 0)
theorem spShown {l : List Int} {a s : Int}  (hk : CurOk 4 l a) (hp : True) : ((True) ∧ a ≤ (xShown l a s).2.1 ∧ (xShown l a s).2.1 ≤ a + 4) ∧ vc [hA 0] tab (specOf [(fPick, cPick), (fAmong, cAmong), (fNuPrime, cNuPrime)]) (finC tab Try.f24.results.toList l (.one (.i ((xShown l a s).1 0))) (xShown l a s).2.1 (xShown l a s).2.2) (lpN [hA 0] tab (specOf [(fPick, cPick), (fAmong, cAmong), (fNuPrime, cNuPrime)]) (finC tab Try.f24.results.toList l (.one (.i ((xShown l a s).1 0))) (xShown l a s).2.1 (xShown l a s).2.2) 1) 1000 [.code (Try.f24.body.getD .skip)] (initC l a s []) := by
  unfold xShown
  rw [dif_pos ⟨hk, hp⟩]
  exact Classical.choose_spec (exShown l a s  hk hp)
theorem atShown {l : List Int} {a s : Int}  (hk : CurOk 4 l a) (hp : True) : ∃ v a1 s1, xShown l a s = (v, a1, s1) ∧ (True) ∧ a ≤ a1 ∧ a1 ≤ a + 4 :=
  ⟨_, _, _, rfl, (spShown hk hp).1⟩
noncomputable def cShown : Ctr
  | .cur l a s :: [] => some ⟨CurOk 4 l a ∧ (True), .one (.i ((xShown l a s).1 0)), [(0, some (.ints 0 [(xShown l a s).2.1, (xShown l a s).2.2]))]⟩
  | _ => none
theorem okShown : CtrOk Try.prog fShown cShown := by
  have hsp : SpecOk Try.prog (specOf [(fPick, cPick), (fAmong, cAmong), (fNuPrime, cNuPrime)]) := (SpecOk.cons okPick (SpecOk.cons okAmong (SpecOk.cons okNuPrime SpecOk.nil)))
  refine ctr_cu Try.func24 (by kernel_rfl) fun args ce h => ?_
  unfold cShown at h
  split at h
  case h_2 => cases h
  rename_i l a s 
  simp only [Option.some.injEq] at h
  subst h
  refine ⟨l, a, s, _, _, _, rfl, rfl, fun hpre => ?_⟩
  exact cu_of mixed tab_ok hsp Try.func24 (by kernel_rfl) (by kernel_rfl) (by rfl) 1 1000 (spShown hpre.1 hpre.2).2 hpre

/-! ### the arguments of Cornacchia -/
def dkV (n x : Int) : Int := wrap64 (wrap64 (x * x) + wrap64 (n * wrap64 (1 + n.tmod 3)))
def fxP (n x : Int) : Option Int := if _h : x < 99 then (if primeI (dkV n x) = true then some x else fxP n (x + 1)) else none
  termination_by (99 - x).toNat
noncomputable def dkA (b : List Int) : DR := xSmall b 0 0
noncomputable def dkO (b : List Int) : DR := xOne b (dkA b).2.1 (dkA b).2.2 2
noncomputable def dkX (b : List Int) : DR := xPick b (dkO b).2.1 (dkO b).2.2 40
noncomputable def dkP (b : List Int) : Int :=
  bif inI ((dkA b).1 0) 1 500 then
    (bif (dkO b).1 0 == 0 then
      ((fxP ((dkA b).1 0) (wrap64 (1 + (dkX b).1 0))).map (dkV ((dkA b).1 0))).getD ((xShown b (dkX b).2.1 (dkX b).2.2).1 0)
     else (xShown b (dkO b).2.1 (dkO b).2.2).1 0)
  else (xShown b (dkA b).2.1 (dkA b).2.2).1 0
theorem dkV_le {n x : Int} (hn : 1 ≤ n ∧ n ≤ 500) (hx : 0 ≤ x ∧ x ≤ 99) : dkV n x ≤ 1000000000000 := by
  have h1 : n.tmod 3 = n % 3 := Int.tmod_eq_emod_of_nonneg (by omega)
  have h2 : 0 ≤ x * x := Int.mul_nonneg hx.1 hx.1
  have h3 : x * x ≤ 99 * 99 := Int.mul_le_mul hx.2 hx.2 hx.1 (by omega)
  have h4 : 0 ≤ n * (1 + n % 3) := Int.mul_nonneg (by omega) (by omega)
  have h5 : n * (1 + n % 3) ≤ 500 * 3 := Int.mul_le_mul hn.2 (by omega) (by omega) (by omega)
  unfold dkV
  rw [h1, wrap_id (n := x * x) (by omega) (by omega), wrap_id (n := 1 + n % 3) (by omega) (by omega), wrap_id (n := n * (1 + n % 3)) (by omega) (by omega), wrap_id (by omega) (by omega)]
  omega
abbrev fDrawCo : Nat := 5
noncomputable def cDrawCo : Ctr
  | [.byt b] => some ⟨∀ x ∈ b, 0 ≤ x ∧ x < 256, .tup [.i ((dkA b).1 0), .i (dkP b)], []⟩
  | _ => none
theorem okDrawCo : CtrOk Try.prog fDrawCo cDrawCo := by
  have hsp : SpecOk Try.prog (specOf [(fSmall, cSmall), (fIn, cIn), (fOne, cOne), (fPick, cPick), (fNuPrime, cNuPrime), (fShown, cShown)]) := (SpecOk.cons okSmall (SpecOk.cons okIn (SpecOk.cons okOne (SpecOk.cons okPick (SpecOk.cons okNuPrime (SpecOk.cons okShown SpecOk.nil))))))
  refine ctr_of (fn := Try.f5) mixed tab_ok hsp Try.func5 (by kernel_rfl) (by kernel_rfl) fun args ce h => ?_
  clear hsp
  unfold cDrawCo at h
  split at h
  case h_2 => cases h
  rename_i b
  simp only [Option.some.injEq] at h
  subst h
  refine ⟨by rfl, fun hp => ⟨1, 1000, ?_⟩⟩
  have hk : CurOk 12 b 0 := cur_go hp (by decide)
  have h1 : CurOk 4 b 0 := hk.le (by omega)
  obtain ⟨v, a1, s1, e1, -, b1, c1⟩ := atSmall (s := 0) h1 trivial
  have h2 : CurOk 4 b a1 := hk.step (by omega) (by omega)
  have eA : dkA b = (v, a1, s1) := e1
  unfold dkP
  rw [eA]
  simp only
  cases g1 : inI (v 0) 1 500 with
  | false =>
    rw [cond_false]
    obtain ⟨w, a2, s2, e2, -, b2, c2⟩ := atShown (s := s1) h2 trivial
    simp (maxSteps := 4000000) only [↓cond_to_ite, ↓reduceIte, vc, out, finD, St.drop, vwAt, Entry.vwO, Entry.toO, toOf, St.res, step, stepE, stepPick, stepG, stepO, stepC, eff, look, rem, St.put, St.setMem, setMems, St.after, St.eval, cst, val1, okNew, newHs, allHs, rdOf, Reg.item, Reg.next, Reg.skip, slotOf, effPick, subPre, argOf, resA, resV, nodupB, argsPre, argOk, callWr, effCall, callGo, plainS, calleeHs, buildCur, effBuild4, boxCur, effBox4, plainV, cuGo, callCu, callCo, effCall2, wrHs, disj, AV.hs, A0.hs, Entry.hs, hA, initFr, initMem, initSt, resOf, resAll, compEq, compsEq, rowHs, outHds, outsEq, shapeOk, finOk, comps, A0.norm, specOf, t_l1Cur, Option.getD_some, Nat.reduceBEq, List.map_cons, List.map_nil, List.getElem?_cons_zero, List.getElem?_cons_succ, Option.map_some, Option.bind_some, Nat.zero_add, Nat.add_zero, Nat.reduceAdd, true_and, and_true, List.length_cons, List.length_nil, List.all_cons, List.all_nil, Bool.and_true, Bool.true_and, Bool.or_false, Bool.not_true, Bool.not_false, List.append_nil, List.nil_append, List.cons_append, List.flatMap_cons, List.flatMap_nil, List.contains_cons, List.contains_nil, List.filter_cons, List.filter_nil, beq_self_eq_true, and_self, List.toList_toArray, Bool.false_eq_true, reduceIte, Try.f5, cSmall, fSmall, cIn, fIn, fOne, fPick, fNuPrime, cShown, fShown, e1, g1, e2]
    (repeat' refine And.intro ?_ ?_) <;> first | assumption | kernel_rfl | (simp; done)
  | true =>
    rw [cond_true]
    have h3 : CurOk 2 b a1 := hk.step (by omega) (by omega)
    obtain ⟨o, a2, s2, e2, -, b2, c2⟩ := atOne (s := s1) (n := 2) h3 trivial
    have eO : dkO b = (o, a2, s2) := by unfold dkO; rw [eA]; exact e2
    rw [eO]
    simp only
    cases g2 : (o 0 == 0) with
    | false =>
      rw [cond_false]
      have h4 : CurOk 4 b a2 := hk.step (by omega) (by omega)
      obtain ⟨w, a3, s3, e3, -, b3, c3⟩ := atShown (s := s2) h4 trivial
      simp (maxSteps := 4000000) only [↓cond_to_ite, ↓reduceIte, vc, out, finD, St.drop, vwAt, Entry.vwO, Entry.toO, toOf, St.res, step, stepE, stepPick, stepG, stepO, stepC, eff, look, rem, St.put, St.setMem, setMems, St.after, St.eval, cst, val1, okNew, newHs, allHs, rdOf, Reg.item, Reg.next, slotOf, effPick, subPre, argOf, resA, resV, nodupB, argsPre, argOk, callWr, effCall, callGo, plainS, calleeHs, buildCur, effBuild4, boxCur, effBox4, cuX, cuArg, plainV, cuGo, callCu, callCo, effCall2, wrHs, disj, AV.hs, A0.hs, Entry.hs, hA, initFr, initMem, initSt, resOf, resAll, compEq, compsEq, rowHs, outHds, outsEq, shapeOk, finOk, comps, A0.norm, specOf, t_l1Cur, Option.getD_some, Nat.reduceBEq, List.map_cons, List.map_nil, List.getElem?_cons_zero, List.getElem?_cons_succ, Option.map_some, Option.bind_some, Nat.zero_add, Nat.add_zero, Nat.reduceAdd, true_and, and_true, List.length_cons, List.length_nil, List.all_cons, List.all_nil, Bool.and_true, Bool.true_and, Bool.or_false, Bool.not_true, Bool.not_false, List.append_nil, List.nil_append, List.cons_append, List.flatMap_cons, List.flatMap_nil, List.contains_cons, List.contains_nil, List.filter_cons, List.filter_nil, beq_self_eq_true, and_self, List.toList_toArray, Bool.false_eq_true, reduceIte, Try.f5, cSmall, fSmall, cIn, fIn, cOne, fOne, fPick, fNuPrime, cShown, fShown, e1, g1, e2, g2, e3]
      (repeat' refine And.intro ?_ ?_) <;> first | assumption | kernel_rfl | (simp; done)
    | true =>
      rw [cond_true]
      have h4 : CurOk 2 b a2 := hk.step (by omega) (by omega)
      obtain ⟨u, a3, s3, e3, p3, b3, c3⟩ := atPick (s := s2) (n := 40) h4 trivial
      have eX : dkX b = (u, a3, s3) := by unfold dkX; rw [eO]; exact e3
      rw [eX]
      simp only at p3 ⊢
      have h5 : CurOk 4 b a3 := hk.step (by omega) (by omega)
      obtain ⟨w, a4, s4, e4, -, b4, c4⟩ := atShown (s := s3) h5 trivial
      rw [e4]
      simp only
      have hn : 1 ≤ v 0 ∧ v 0 ≤ 500 := by simpa [inI] using g1
      generalize hN : v 0 = n at *
      have w1 : wrap64 (1 + u 0) = 1 + u 0 := wrap_id (by omega) (by omega)
      obtain ⟨X0, hX0⟩ : ∃ X0, wrap64 (1 + u 0) = X0 := ⟨_, rfl⟩
      have hX1 : 0 ≤ X0 ∧ X0 ≤ 99 := by omega
      rw [hX0]
      simp (maxSteps := 4000000) only [↓cond_to_ite, ↓reduceIte, vc, out, Entry.toO, toOf, St.res, step, stepE, stepPick, stepG, stepO, stepC, eff, look, rem, St.put, St.setMem, setMems, St.after, St.eval, cst, val1, okNew, newHs, allHs, rdOf, Reg.item, Reg.next, slotOf, binInt, effBin, effPick, subPre, argOf, resA, resV, argsPre, argOk, callWr, effCall, callGo, plainS, calleeHs, effBin2, buildCur, effBuild4, boxCur, effBox4, cuX, cuArg, plainV, cuGo, callCu, callCo, effCall2, wrHs, disj, AV.hs, A0.hs, Entry.hs, hA, initFr, initMem, initSt, specOf, t_l1Cur, Option.getD_some, Nat.reduceBEq, List.map_cons, List.map_nil, List.getElem?_cons_zero, List.getElem?_cons_succ, Option.bind_some, Nat.add_zero, true_and, and_true, List.all_cons, List.all_nil, Bool.and_true, Bool.or_false, Bool.not_true, Bool.not_false, List.append_nil, List.nil_append, List.cons_append, List.flatMap_cons, List.flatMap_nil, List.contains_cons, List.contains_nil, List.filter_cons, List.filter_nil, beq_self_eq_true, and_self, List.toList_toArray, Bool.false_eq_true, reduceIte, Try.f5, cSmall, fSmall, cIn, fIn, cOne, fOne, cPick, fPick, fNuPrime, fShown, e1, hN, g1, e2, g2, e3, hX0]
      refine ⟨h1, h3, h4, ?_⟩
      refine lp_intro (fun x : Int => ⟨[(4, .one (.co 9)), (5, .one (.i n)), (6, .one (.i x))], [(9, .cu b a3 s3)]⟩) (fun x => (0 ≤ x ∧ x ≤ 99) ∧ fxP n x = fxP n X0) (fun x => (100 - x).toNat) X0 [] ⟨hX1, rfl⟩ (by simp only [Cov, covOk, covFr, covMem, entEq, rn, nodupB, A0.ren, AV.ren, Entry.ren, Entry.norm, look, St.eval, A0.norm, AV.norm, Option.getD_some, Option.getD_none, cond_true, cond_false, Nat.reduceBEq, List.map_cons, List.map_nil, List.all_nil, Bool.and_true, Bool.not_false, List.contains_nil, beq_self_eq_true, and_self]) fun x hx J hJ => ⟨1000, ?_⟩
      obtain ⟨hx1, hx⟩ := hx
      have w2 : wrap64 (x + 1) = x + 1 := wrap_id (by omega) (by omega)
      by_cases c5 : x < 99
      · have g5 : decide (x < 99) = true := decide_eq_true c5
        have hle := dkV_le hn hx1
        have eV : wrap64 (wrap64 (x * x) + wrap64 (n * wrap64 (1 + n.tmod 3))) = dkV n x := rfl
        rw [fxP.eq_def, dif_pos c5] at hx
        cases g6 : primeI (dkV n x) with
        | true =>
          rw [if_pos g6] at hx
          rw [← hx, Option.map_some, Option.getD_some]
          simp (maxSteps := 4000000) only [↓cond_to_ite, ↓reduceIte, vc, out, finD, St.drop, vwAt, Entry.vwO, Entry.toO, toOf, St.res, step, stepE, stepPick, stepO, stepC, eff, look, rem, St.put, setMems, St.after, St.eval, cst, val1, okNew, Reg.item, Reg.next, binInt, effBin, subPre, argOf, resA, resV, nodupB, argsPre, argOk, callWr, effCall, callGo, effBin2, effCall2, wrHs, disj, AV.hs, A0.hs, resOf, resAll, compEq, compsEq, rowHs, outHds, outsEq, shapeOk, finOk, comps, A0.norm, specOf, Option.getD_some, Nat.reduceBEq, List.map_cons, List.map_nil, Option.map_some, Nat.zero_add, Nat.reduceAdd, true_and, and_true, List.length_cons, List.length_nil, List.all_cons, List.all_nil, Bool.and_true, Bool.true_and, Bool.not_false, List.append_nil, List.flatMap_cons, List.flatMap_nil, List.contains_nil, beq_self_eq_true, and_self, Bool.false_eq_true, reduceIte, cNuPrime, g5, eV, g6]
          (repeat' refine And.intro ?_ ?_) <;> first | assumption | kernel_rfl | (simp; done)
        | false =>
          rw [if_neg (by rw [g6]; simp)] at hx
          simp (maxSteps := 4000000) only [↓cond_to_ite, ↓reduceIte, vc, out, Entry.toO, toOf, St.res, step, stepE, stepPick, stepO, stepC, eff, look, rem, St.put, setMems, St.after, St.eval, cst, val1, okNew, Reg.item, Reg.next, binInt, effBin, subPre, argOf, resA, resV, argsPre, argOk, callWr, effCall, callGo, effBin2, effCall2, wrHs, disj, AV.hs, A0.hs, specOf, Option.getD_some, Nat.reduceBEq, List.map_cons, List.map_nil, true_and, and_true, List.all_cons, List.all_nil, Bool.and_true, Bool.not_false, List.append_nil, List.flatMap_cons, List.flatMap_nil, List.contains_nil, beq_self_eq_true, and_self, Bool.false_eq_true, reduceIte, cNuPrime, g5, eV, g6]
          refine ⟨by decide, hle, hJ _ (x + 1) [] ⟨by omega, hx⟩ (by omega) (by simp only [Cov, covOk, covFr, covMem, entEq, rn, nodupB, A0.ren, AV.ren, Entry.ren, Entry.norm, look, St.eval, A0.norm, AV.norm, Option.getD_some, Option.getD_none, cond_true, cond_false, Nat.reduceBEq, List.map_cons, List.map_nil, List.all_nil, Bool.and_true, Bool.not_false, List.contains_nil, beq_self_eq_true, and_self, w2])⟩
      · have g5 : decide (x < 99) = false := decide_eq_false c5
        rw [fxP.eq_def, dif_neg c5] at hx
        rw [← hx, Option.map_none, Option.getD_none]
        simp (maxSteps := 4000000) only [↓cond_to_ite, ↓reduceIte, vc, out, finD, St.drop, vwAt, Entry.vwO, Entry.toO, toOf, St.res, step, stepE, stepPick, stepO, stepC, eff, look, rem, St.put, St.setMem, setMems, St.after, St.eval, cst, val1, okNew, newHs, allHs, rdOf, Reg.item, Reg.next, binInt, effBin, nodupB, argsPre, argOk, plainS, calleeHs, effBin2, plainV, cuGo, callCu, callCo, effCall2, wrHs, disj, AV.hs, A0.hs, Entry.hs, resOf, resAll, compEq, compsEq, rowHs, outHds, outsEq, shapeOk, finOk, comps, A0.norm, specOf, Option.getD_some, Nat.reduceBEq, List.map_cons, List.map_nil, Option.map_some, Nat.zero_add, Nat.reduceAdd, true_and, and_true, List.length_cons, List.length_nil, List.all_nil, Bool.and_true, Bool.true_and, Bool.or_false, Bool.not_true, Bool.not_false, List.append_nil, List.nil_append, List.cons_append, List.flatMap_cons, List.flatMap_nil, List.contains_cons, List.contains_nil, List.filter_cons, List.filter_nil, beq_self_eq_true, and_self, Bool.false_eq_true, reduceIte, cShown, g5, e4]
        (repeat' refine And.intro ?_ ?_) <;> first | assumption | kernel_rfl | (simp; done)
/-! ### the arguments of ProperPairs -/
noncomputable def ekX (b : List Int) : DR := xPick b (dkO b).2.1 (dkO b).2.2 30
noncomputable def ekY (b : List Int) : DR := xPick b (ekX b).2.1 (ekX b).2.2 10
noncomputable def ekZ (b : List Int) (a s : Int) : DR := xPick b a s 500
noncomputable def ekW (b : List Int) (a s : Int) : Int := (xAmong b (ekZ b a s).2.1 (ekZ b a s).2.2 3 [0, -1, 1, 10000, 10001, wrap64 (1 + (ekZ b a s).1 0), 65, 1105, 1885]).1 0
noncomputable def ekM (b : List Int) : Int :=
  bif inI ((dkA b).1 0) 1 500 then
    (bif (dkO b).1 0 == 0 then wrap64 (wrap64 ((ekX b).1 0 * (ekX b).1 0) + wrap64 (wrap64 ((dkA b).1 0 * (ekY b).1 0) * (ekY b).1 0))
     else ekW b (dkO b).2.1 (dkO b).2.2)
  else ekW b (dkA b).2.1 (dkA b).2.2
theorem ekW_at {b : List Int} {a s : Int} (hk : CurOk 4 b a) : ∃ u a1 s1 w a2 s2, (CurOk 2 b a ∧ CurOk 2 b a1) ∧ (xPick b a s 500 = (u, a1, s1) ∧ xAmong b a1 s1 3 [0, -1, 1, 10000, 10001, wrap64 (1 + u 0), 65, 1105, 1885] = (w, a2, s2)) ∧ ekW b a s = w 0 := by
  have h1 : CurOk 2 b a := hk.le (by omega)
  obtain ⟨u, a1, s1, e1, p1, b1, c1⟩ := atPick (s := s) (n := 500) h1 trivial
  have h2 : CurOk 2 b a1 := hk.step (by omega) (by omega)
  obtain ⟨w, a2, s2, e2, p2, b2, c2⟩ := atAmong (s := s1) (e := 3) (L := [0, -1, 1, 10000, 10001, wrap64 (1 + u 0), 65, 1105, 1885]) h2 (by simp)
  refine ⟨u, a1, s1, w, a2, s2, ⟨h1, h2⟩, ⟨e1, e2⟩, ?_⟩
  unfold ekW ekZ
  rw [e1]
  simp only
  rw [e2]
abbrev fDrawPP : Nat := 13
noncomputable def cDrawPP : Ctr
  | [.byt b] => some ⟨∀ x ∈ b, 0 ≤ x ∧ x < 256, .tup [.i ((dkA b).1 0), .i (ekM b)], []⟩
  | _ => none
theorem okDrawPP : CtrOk Try.prog fDrawPP cDrawPP := by
  have hsp : SpecOk Try.prog (specOf [(fSmall, cSmall), (fIn, cIn), (fOne, cOne), (fPick, cPick), (fAmong, cAmong)]) := (SpecOk.cons okSmall (SpecOk.cons okIn (SpecOk.cons okOne (SpecOk.cons okPick (SpecOk.cons okAmong SpecOk.nil)))))
  refine ctr_of (fn := Try.f13) mixed tab_ok hsp Try.func13 (by kernel_rfl) (by kernel_rfl) fun args ce h => ?_
  clear hsp
  unfold cDrawPP at h
  split at h
  case h_2 => cases h
  rename_i b
  simp only [Option.some.injEq] at h
  subst h
  refine ⟨by rfl, fun hp => ⟨0, 1000, ?_⟩⟩
  have hk : CurOk 12 b 0 := cur_go hp (by decide)
  have h1 : CurOk 4 b 0 := hk.le (by omega)
  obtain ⟨v, a1, s1, e1, -, b1, c1⟩ := atSmall (s := 0) h1 trivial
  have h2 : CurOk 4 b a1 := hk.step (by omega) (by omega)
  have eA : dkA b = (v, a1, s1) := e1
  unfold ekM
  rw [eA]
  simp only
  cases g1 : inI (v 0) 1 500 with
  | false =>
    rw [cond_false]
    obtain ⟨u, a2, s2, w, a3, s3, ⟨k1, k2⟩, ⟨e2, e3⟩, e4⟩ := ekW_at (s := s1) h2
    rw [e4]
    simp (maxSteps := 4000000) only [↓cond_to_ite, ↓reduceIte, vc, out, finD, St.drop, vwAt, Entry.vwO, RC.vwO, Entry.toO, toOf, St.res, step, stepE, stepPick, stepG, stepO, stepC, eff, look, rem, St.put, St.setMem, setMems, St.after, St.eval, cst, val1, okNew, newHs, allHs, rdOf, Reg.item, Reg.next, Reg.skip, slotOf, entryRow, binInt, effBin, effPick, ivs, rowOf, allParts, effBuildSlice, subPre, argOf, resA, resV, nodupB, argsPre, argOk, callWr, effCall, RC.flat, effBuildSl, callGo, plainS, calleeHs, effBin2, buildCur, effBuild4, boxCur, effBox4, cuX, cuArg, plainV, cuGo, callCu, callCo, effCall2, wrHs, disj, AV.hs, A0.hs, Entry.hs, RC.sz, hA, initFr, initMem, initSt, resOf, resAll, compEq, compsEq, rowHs, outHds, outsEq, shapeOk, finOk, comps, A0.norm, specOf, t_int, ts_int, t_l1Cur, Option.getD_some, Nat.reduceBEq, List.map_cons, List.map_nil, List.getElem?_cons_zero, List.getElem?_cons_succ, Option.map_some, Option.bind_some, Nat.zero_add, Nat.add_zero, Nat.reduceAdd, true_and, and_true, List.length_cons, List.length_nil, List.all_cons, List.all_nil, Bool.and_true, Bool.true_and, Bool.or_false, Bool.not_true, Bool.not_false, List.append_nil, List.nil_append, List.cons_append, List.flatMap_cons, List.flatMap_nil, List.contains_cons, List.contains_nil, List.filter_cons, List.filter_nil, beq_self_eq_true, ble_dec, Nat.reduceLeDiff, decide_true, and_self, List.toList_toArray, Bool.false_eq_true, reduceIte, Try.f13, cSmall, fSmall, cIn, fIn, fOne, cPick, fPick, cAmong, fAmong, e1, g1, e2, e3]
    (repeat' refine And.intro ?_ ?_) <;> first | assumption | kernel_rfl | (simp; done)
  | true =>
    rw [cond_true]
    have h3 : CurOk 2 b a1 := hk.step (by omega) (by omega)
    obtain ⟨o, a2, s2, e2, -, b2, c2⟩ := atOne (s := s1) (n := 2) h3 trivial
    have eO : dkO b = (o, a2, s2) := by unfold dkO; rw [eA]; exact e2
    cases g2 : (o 0 == 0) with
    | false =>
      rw [eO]
      simp only [g2, cond_false]
      obtain ⟨u, a3, s3, w, a4, s4, ⟨k1, k2⟩, ⟨e3, e4⟩, e5⟩ := ekW_at (s := s2) (hk.step (a' := a2) (by omega) (by omega))
      rw [e5]
      simp (maxSteps := 4000000) only [↓cond_to_ite, ↓reduceIte, vc, out, finD, St.drop, vwAt, Entry.vwO, RC.vwO, Entry.toO, toOf, St.res, step, stepE, stepPick, stepG, stepO, stepC, eff, look, rem, St.put, St.setMem, setMems, St.after, St.eval, cst, val1, okNew, newHs, allHs, rdOf, Reg.item, Reg.next, slotOf, entryRow, binInt, effBin, effPick, ivs, rowOf, allParts, effBuildSlice, subPre, argOf, resA, resV, nodupB, argsPre, argOk, callWr, effCall, RC.flat, effBuildSl, callGo, plainS, calleeHs, effBin2, buildCur, effBuild4, boxCur, effBox4, cuX, cuArg, plainV, cuGo, callCu, callCo, effCall2, wrHs, disj, AV.hs, A0.hs, Entry.hs, RC.sz, hA, initFr, initMem, initSt, resOf, resAll, compEq, compsEq, rowHs, outHds, outsEq, shapeOk, finOk, comps, A0.norm, specOf, t_int, ts_int, t_l1Cur, Option.getD_some, Nat.reduceBEq, List.map_cons, List.map_nil, List.getElem?_cons_zero, List.getElem?_cons_succ, Option.map_some, Option.bind_some, Nat.zero_add, Nat.add_zero, Nat.reduceAdd, true_and, and_true, List.length_cons, List.length_nil, List.all_cons, List.all_nil, Bool.and_true, Bool.true_and, Bool.or_false, Bool.not_true, Bool.not_false, List.append_nil, List.nil_append, List.cons_append, List.flatMap_cons, List.flatMap_nil, List.contains_cons, List.contains_nil, List.filter_cons, List.filter_nil, beq_self_eq_true, ble_dec, Nat.reduceLeDiff, decide_true, and_self, List.toList_toArray, Bool.false_eq_true, reduceIte, Try.f13, cSmall, fSmall, cIn, fIn, cOne, fOne, cPick, fPick, cAmong, fAmong, e1, g1, e2, g2, e3, e4]
      (repeat' refine And.intro ?_ ?_) <;> first | assumption | kernel_rfl | (simp; done)
    | true =>
      have h4 : CurOk 2 b a2 := hk.step (by omega) (by omega)
      obtain ⟨u, a3, s3, e3, p3, b3, c3⟩ := atPick (s := s2) (n := 30) h4 trivial
      have h5 : CurOk 2 b a3 := hk.step (by omega) (by omega)
      obtain ⟨w, a4, s4, e4, p4, b4, c4⟩ := atPick (s := s3) (n := 10) h5 trivial
      have eX : ekX b = (u, a3, s3) := by unfold ekX; rw [eO]; exact e3
      have eY : ekY b = (w, a4, s4) := by unfold ekY; rw [eX]; exact e4
      rw [eX, eY, eO]
      simp only [g2, cond_true]
      simp (maxSteps := 4000000) only [↓cond_to_ite, ↓reduceIte, vc, out, finD, St.drop, vwAt, Entry.vwO, Entry.toO, toOf, St.res, step, stepE, stepPick, stepG, stepO, stepC, eff, look, rem, St.put, St.setMem, setMems, St.after, St.eval, cst, val1, okNew, newHs, allHs, rdOf, Reg.item, Reg.next, slotOf, binInt, effBin, effPick, subPre, argOf, resA, resV, nodupB, argsPre, argOk, callWr, effCall, callGo, plainS, calleeHs, effBin2, buildCur, effBuild4, boxCur, effBox4, cuX, cuArg, plainV, cuGo, callCu, callCo, effCall2, wrHs, disj, AV.hs, A0.hs, Entry.hs, hA, initFr, initMem, initSt, resOf, resAll, compEq, compsEq, rowHs, outHds, outsEq, shapeOk, finOk, comps, A0.norm, specOf, t_l1Cur, Option.getD_some, Nat.reduceBEq, List.map_cons, List.map_nil, List.getElem?_cons_zero, List.getElem?_cons_succ, Option.map_some, Option.bind_some, Nat.zero_add, Nat.add_zero, Nat.reduceAdd, true_and, and_true, List.length_cons, List.length_nil, List.all_cons, List.all_nil, Bool.and_true, Bool.true_and, Bool.or_false, Bool.not_true, Bool.not_false, List.append_nil, List.nil_append, List.cons_append, List.flatMap_cons, List.flatMap_nil, List.contains_cons, List.contains_nil, List.filter_cons, List.filter_nil, beq_self_eq_true, and_self, List.toList_toArray, Bool.false_eq_true, reduceIte, Try.f13, cSmall, fSmall, cIn, fIn, cOne, fOne, cPick, fPick, e1, g1, e2, g2, e3, e4]
      (repeat' refine And.intro ?_ ?_) <;> first | assumption | kernel_rfl | (simp; done)
end Go.Proofs.Ytacomnelongbjab

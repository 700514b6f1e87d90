/-
  What a cursor over bytes draws: triples and spots. Conditions: none.
-/
import Derived.Test.YtacomnelongbjaaNx
import Derived.Test.YtacomnelongbjaaSol
import Derived.Test.YtacomnelongbjaaLsg
namespace Go.Proofs.Ytacomnelongbjaa
open Go Go.RowKit
set_option maxRecDepth 100000
set_option linter.unusedSimpArgs false
set_option linter.unusedVariables false
set_option maxHeartbeats 4000000

abbrev fOne : Nat := 32
theorem exOne (l : List Int) (a s : Int) (n : Int) (hk : CurOk 2 l a) (hp : True) : ∃ x : DR, ((True) ∧ a ≤ x.2.1 ∧ x.2.1 ≤ a + 2) ∧ vc [hA 0] tab (specOf [(fPick, cPick)]) (finC tab Try.f32.results.toList l (.one (.b (x.1 0 == 0))) x.2.1 x.2.2) (lpN [hA 0] tab (specOf [(fPick, cPick)]) (finC tab Try.f32.results.toList l (.one (.b (x.1 0 == 0))) x.2.1 x.2.2) 0) 1000 [.code (Try.f32.body.getD .skip)] (initC l a s [.i n]) := by
  have hk1 : CurOk 2 l a := hk.step (by omega) (by omega)
  obtain ⟨v, a6, s7, e2, p3, b4, c5⟩ := atPick (s := s) (n := n) hk1 trivial
  try simp only at p3
  simp only [↓cond_to_ite, ↓reduceIte, vc, out, Entry.toO, toOf, St.res, step, stepE, stepPick, stepO, eff, look, rem, St.put, St.setMem, setMems, St.after, St.eval, cst, val1, okNew, newHs, allHs, rdOf, Reg.item, Reg.next, binInt, effBin, subPre, argOf, argsPre, plainS, calleeHs, effBin2, cuX, cuArg, plainV, cuGo, callCu, callCo, effCall2, initC, eqPl, curIs, finC, wrHs, disj, AV.hs, A0.hs, Entry.hs, hA, initFr, initMem, resOf, resAll, shapeOk, comps, A0.norm, specOf, Option.getD_some, Nat.reduceBEq, List.map_cons, List.map_nil, Option.map_some, Nat.zero_add, Nat.add_zero, true_and, and_true, List.length_cons, List.length_nil, List.all_cons, List.all_nil, Bool.and_true, Bool.or_false, Bool.not_true, List.append_nil, List.nil_append, List.cons_append, List.flatMap_cons, List.flatMap_nil, List.contains_cons, List.contains_nil, List.filter_cons, List.filter_nil, beq_self_eq_true, A0.b.injEq, and_self, List.toList_toArray, Bool.false_eq_true, reduceIte, Try.f32, cPick, fPick, e2]
  refine ⟨(dr1 (v 0), a6, s7), ⟨?h1, ?h2⟩, ?h3⟩
  case h1 => show a ≤ a6; omega
  case h2 => show a6 ≤ a + 2; omega
  case h3 => (repeat' refine And.intro ?_ ?_) <;> first | assumption | rfl | trivial | omega | kernel_rfl
open Classical in
noncomputable def xOne (l : List Int) (a s : Int) (n : Int) : DR := if h : CurOk 2 l a ∧ (True) then Classical.choose (exOne l a s n h.1 h.2) else (fun _ => 0, 0, 0)
theorem spOne {l : List Int} {a s : Int} {n : Int} (hk : CurOk 2 l a) (hp : True) : ((True) ∧ a ≤ (xOne l a s n).2.1 ∧ (xOne l a s n).2.1 ≤ a + 2) ∧ vc [hA 0] tab (specOf [(fPick, cPick)]) (finC tab Try.f32.results.toList l (.one (.b ((xOne l a s n).1 0 == 0))) (xOne l a s n).2.1 (xOne l a s n).2.2) (lpN [hA 0] tab (specOf [(fPick, cPick)]) (finC tab Try.f32.results.toList l (.one (.b ((xOne l a s n).1 0 == 0))) (xOne l a s n).2.1 (xOne l a s n).2.2) 0) 1000 [.code (Try.f32.body.getD .skip)] (initC l a s [.i n]) := by
  unfold xOne
  rw [dif_pos ⟨hk, hp⟩]
  exact Classical.choose_spec (exOne l a s n hk hp)
theorem atOne {l : List Int} {a s : Int} {n : Int} (hk : CurOk 2 l a) (hp : True) : ∃ v a1 s1, xOne l a s n = (v, a1, s1) ∧ (True) ∧ a ≤ a1 ∧ a1 ≤ a + 2 :=
  ⟨_, _, _, rfl, (spOne hk hp).1⟩
noncomputable def cOne : Ctr
  | .cur l a s :: [.i n] => some ⟨CurOk 2 l a ∧ (True), .one (.b ((xOne l a s n).1 0 == 0)), [(0, some (.ints 0 [(xOne l a s n).2.1, (xOne l a s n).2.2]))]⟩
  | _ => none
theorem okOne : CtrOk Try.prog fOne cOne := by
  have hsp : SpecOk Try.prog (specOf [(fPick, cPick)]) := (SpecOk.cons okPick SpecOk.nil)
  refine ctr_cu Try.func32 (by kernel_rfl) fun args ce h => ?_
  unfold cOne at h
  split at h
  case h_2 => cases h
  rename_i l a s n
  simp only [Option.some.injEq] at h
  subst h
  refine ⟨l, a, s, _, _, _, rfl, rfl, fun hpre => ?_⟩
  exact cu_of mixed tab_ok hsp Try.func32 (by kernel_rfl) (by kernel_rfl) (by rfl) 0 1000 (spOne hpre.1 hpre.2).2 hpre

/-- the entries that k rounds make, from the place n on -/
noncomputable def trF (l : List Int) : Nat → Nat → List Int → Int → Int → List Int × Int × Int
  | 0, _, L, a, s => (L, a, s)
  | k + 1, n, L, a, s => trF l k (n + 1) (L.set n ((xAmong l (xPick l (xPick l (xPick l a s 20).2.1 (xPick l a s 20).2.2 20).2.1 (xPick l (xPick l a s 20).2.1 (xPick l a s 20).2.2 20).2.2 60).2.1 (xPick l (xPick l (xPick l a s 20).2.1 (xPick l a s 20).2.2 20).2.1 (xPick l (xPick l a s 20).2.1 (xPick l a s 20).2.2 20).2.2 60).2.2 3 [1, -1, wrap64 (1 + (xPick l a s 20).1 0), wrap64 (-1 - (xPick l (xPick l a s 20).2.1 (xPick l a s 20).2.2 20).1 0), wrap64 (1 + (xPick l (xPick l (xPick l a s 20).2.1 (xPick l a s 20).2.2 20).2.1 (xPick l (xPick l a s 20).2.1 (xPick l a s 20).2.2 20).2.2 60).1 0)]).1 0)) (xAmong l (xPick l (xPick l (xPick l a s 20).2.1 (xPick l a s 20).2.2 20).2.1 (xPick l (xPick l a s 20).2.1 (xPick l a s 20).2.2 20).2.2 60).2.1 (xPick l (xPick l (xPick l a s 20).2.1 (xPick l a s 20).2.2 20).2.1 (xPick l (xPick l a s 20).2.1 (xPick l a s 20).2.2 20).2.2 60).2.2 3 [1, -1, wrap64 (1 + (xPick l a s 20).1 0), wrap64 (-1 - (xPick l (xPick l a s 20).2.1 (xPick l a s 20).2.2 20).1 0), wrap64 (1 + (xPick l (xPick l (xPick l a s 20).2.1 (xPick l a s 20).2.2 20).2.1 (xPick l (xPick l a s 20).2.1 (xPick l a s 20).2.2 20).2.2 60).1 0)]).2.1 (xAmong l (xPick l (xPick l (xPick l a s 20).2.1 (xPick l a s 20).2.2 20).2.1 (xPick l (xPick l a s 20).2.1 (xPick l a s 20).2.2 20).2.2 60).2.1 (xPick l (xPick l (xPick l a s 20).2.1 (xPick l a s 20).2.2 20).2.1 (xPick l (xPick l a s 20).2.1 (xPick l a s 20).2.2 20).2.2 60).2.2 3 [1, -1, wrap64 (1 + (xPick l a s 20).1 0), wrap64 (-1 - (xPick l (xPick l a s 20).2.1 (xPick l a s 20).2.2 20).1 0), wrap64 (1 + (xPick l (xPick l (xPick l a s 20).2.1 (xPick l a s 20).2.2 20).2.1 (xPick l (xPick l a s 20).2.1 (xPick l a s 20).2.2 20).2.2 60).1 0)]).2.2
theorem trF_step {l : List Int} {k n : Nat} {L : List Int} {a s : Int} {u w z v : Nat → Int} {a1 s1 a2 s2 a3 s3 a4 s4 : Int} (e1 : xPick l a s 20 = (u, a1, s1)) (e2 : xPick l a1 s1 20 = (w, a2, s2)) (e3 : xPick l a2 s2 60 = (z, a3, s3)) (e4 : xAmong l a3 s3 3 [1, -1, wrap64 (1 + u 0), wrap64 (-1 - w 0), wrap64 (1 + z 0)] = (v, a4, s4)) :
    trF l (k + 1) n L a s = trF l k (n + 1) (L.set n (v 0)) a4 s4 := by
  rw [trF]
  simp only [e1, e2, e3, e4]
theorem trF_draw {l : List Int} {k n : Nat} {L : List Int} {a s : Int} {R : List Int × Int × Int} (hk : CurOk (8 * ((k + 1 : Nat) : Int)) l a) (hF : trF l (k + 1) n L a s = R) :
    ∃ u a1 s1 w a2 s2 z a3 s3 v a4 s4, (CurOk 2 l a ∧ CurOk 2 l a1 ∧ CurOk 2 l a2 ∧ CurOk 2 l a3) ∧ (xPick l a s 20 = (u, a1, s1) ∧ xPick l a1 s1 20 = (w, a2, s2) ∧ xPick l a2 s2 60 = (z, a3, s3) ∧ xAmong l a3 s3 3 [1, -1, wrap64 (1 + u 0), wrap64 (-1 - w 0), wrap64 (1 + z 0)] = (v, a4, s4)) ∧ CurOk (8 * (k : Int)) l a4 ∧ trF l k (n + 1) (L.set n (v 0)) a4 s4 = R := by
    have h1 : CurOk 2 l a := hk.le (by omega)
    obtain ⟨u, a1, s1, e1, p1, b1, c1⟩ := atPick (s := s) (n := 20) h1 trivial
    have h2 : CurOk 2 l a1 := hk.step (by omega) (by omega)
    obtain ⟨w, a2, s2, e2, p2, b2, c2⟩ := atPick (s := s1) (n := 20) h2 trivial
    have h3 : CurOk 2 l a2 := hk.step (by omega) (by omega)
    obtain ⟨z, a3, s3, e3, p3, b3, c3⟩ := atPick (s := s2) (n := 60) h3 trivial
    have h4 : CurOk 2 l a3 := hk.step (by omega) (by omega)
    obtain ⟨v, a4, s4, e4, p4, b4, c4⟩ := atAmong (s := s3) (e := 3) (L := [1, -1, wrap64 (1 + u 0), wrap64 (-1 - w 0), wrap64 (1 + z 0)]) h4 (by simp)
    rw [trF_step e1 e2 e3 e4] at hF
    exact ⟨u, a1, s1, w, a2, s2, z, a3, s3, v, a4, s4, ⟨h1, h2, h3, h4⟩, ⟨e1, e2, e3, e4⟩, hk.step (by omega) (by omega), hF⟩
theorem tr_idx {n k : Nat} {L : List Int} (h : k + 1 + n = 3) (hL : L.length = 3) : decide ((n : Int) < ((3 : Nat) : Int)) = true ∧ wrap64 ((n : Int) + 1) = ((n + 1 : Nat) : Int) ∧ (0 ≤ (n : Int) ∧ (n : Int) < (L.length : Int)) ∧ n < L.length ∧ k + (n + 1) = 3 :=
  ⟨decide_eq_true (by omega), by rw [wrap_id (by omega) (by omega)]; omega, ⟨by omega, by omega⟩, by omega, by omega⟩
theorem trF_le {l : List Int} : ∀ (k n : Nat) (L : List Int) (a s : Int), CurOk (8 * (k : Int)) l a → (a ≤ (trF l k n L a s).2.1 ∧ (trF l k n L a s).2.1 ≤ a + 8 * (k : Int)) ∧ (trF l k n L a s).1.length = L.length
  | 0, n, L, a, s, _ => ⟨⟨Int.le_refl _, by show a ≤ a + 8 * ((0 : Nat) : Int); omega⟩, rfl⟩
  | k + 1, n, L, a, s, hk => by
    have h1 : CurOk 2 l a := hk.le (by omega)
    obtain ⟨u, a1, s1, e1, p1, b1, c1⟩ := atPick (s := s) (n := 20) h1 trivial
    have h2 : CurOk 2 l a1 := hk.step (by omega) (by omega)
    obtain ⟨w, a2, s2, e2, p2, b2, c2⟩ := atPick (s := s1) (n := 20) h2 trivial
    have h3 : CurOk 2 l a2 := hk.step (by omega) (by omega)
    obtain ⟨z, a3, s3, e3, p3, b3, c3⟩ := atPick (s := s2) (n := 60) h3 trivial
    have h4 : CurOk 2 l a3 := hk.step (by omega) (by omega)
    obtain ⟨v, a4, s4, e4, p4, b4, c4⟩ := atAmong (s := s3) (e := 3) (L := [1, -1, wrap64 (1 + u 0), wrap64 (-1 - w 0), wrap64 (1 + z 0)]) h4 (by simp)
    rw [trF_step e1 e2 e3 e4]
    have ih := trF_le k (n + 1) (L.set n (v 0)) a4 s4 (hk.step (by omega) (by omega))
    rw [List.length_set] at ih
    exact ⟨⟨by omega, by omega⟩, ih.2⟩
theorem trF_at {l : List Int} {a s : Int} (hk : CurOk 24 l a) : ∃ x y z a1 s1, trF l 3 0 [0, 0, 0] a s = ([x, y, z], a1, s1) ∧ a ≤ a1 ∧ a1 ≤ a + 24 := by
  obtain ⟨⟨h1, h2⟩, h3⟩ := trF_le (l := l) 3 0 [0, 0, 0] a s (by simpa using hk)
  generalize hR : trF l 3 0 [0, 0, 0] a s = R at *
  obtain ⟨L, a1, s1⟩ := R
  match L, h3 with
  | [x, y, z], _ => exact ⟨x, y, z, a1, s1, rfl, h1, by simp only at h2; omega⟩
abbrev fTriple : Nat := 27
theorem exTriple (l : List Int) (a s : Int)  (hk : CurOk 32 l a) (hp : True) : ∃ x : DR, ((True) ∧ a ≤ x.2.1 ∧ x.2.1 ≤ a + 32) ∧ vc [hA 0] tab (specOf [(fPick, cPick), (fAmong, cAmong)]) (finC tab Try.f27.results.toList l (.one (.s [x.1 0, x.1 1, x.1 2])) x.2.1 x.2.2) (lpN [hA 0] tab (specOf [(fPick, cPick), (fAmong, cAmong)]) (finC tab Try.f27.results.toList l (.one (.s [x.1 0, x.1 1, x.1 2])) x.2.1 x.2.2) 1) 1000 [.code (Try.f27.body.getD .skip)] (initC l a s []) := by
  have hk24 : CurOk 24 l a := hk.le (by omega)
  obtain ⟨x0, x1, x2, a0, s0, hR, q1, q2⟩ := trF_at (s := s) hk24
  have hk1 : CurOk 2 l a0 := hk.step (by omega) (by omega)
  obtain ⟨t, a5, s5, e5, p5, b5, c5⟩ := atPick (s := s0) (n := 12) hk1 trivial
  simp only at p5
  by_cases r0 : t 0 = 0
  · have f0 : (t 0 == 0) = true := beq_iff_eq.2 r0
    have hk2 : CurOk 2 l a5 := hk.step (by omega) (by omega)
    obtain ⟨i, a6, s6, e6, p6, b6, c6⟩ := atPick (s := s5) (n := 3) hk2 trivial
    simp only at p6
    have hk3 : CurOk 2 l a6 := hk.step (by omega) (by omega)
    obtain ⟨j, a7, s7, e7, p7, b7, c7⟩ := atPick (s := s6) (n := 801) hk3 trivial
    have hk4 : CurOk 2 l a7 := hk.step (by omega) (by omega)
    obtain ⟨r, a8, s8, e8, p8, b8, c8⟩ := atAmong (s := s7) (e := 3) (L := [0, 400, -400, 401, -401, 4611686018427387904, wrap64 (j 0 - 400)]) hk4 (by simp)
    have i3 : (i 0).toNat < 3 := by omega
    have i4 : i 0 < ((3 : Nat) : Int) := by omega
    have i5 : 0 ≤ i 0 := by omega
    simp only [↓cond_to_ite, ↓reduceIte, vc, out, Entry.toO, toOf, St.res, effMakeSl, step, stepE, stepPick, stepO, eff, look, rem, St.put, St.setMem, setMems, St.after, St.eval, cst, val1, okNew, newHs, allHs, rdOf, Reg.item, Reg.next, effAlloc, entryRow, zeroRow, effMakeSlice, elemSz, lenOf, RC.flat, effAlloc2, lenOf2, initC, wrHs, disj, AV.hs, A0.hs, Entry.hs, RC.len, hA, initFr, initMem, t_int, t_implTriple, ts_int, Option.getD_some, Nat.reduceBEq, List.map_cons, List.map_nil, Option.map_some, Nat.add_zero, true_and, List.replicate_succ, List.replicate_zero, List.all_cons, List.all_nil, Bool.and_true, Bool.or_false, Bool.not_false, List.append_nil, List.nil_append, List.cons_append, List.flatMap_cons, List.flatMap_nil, List.contains_cons, List.contains_nil, List.filter_cons, List.filter_nil, beq_self_eq_true, List.toList_toArray, Option.isSome_some, Bool.false_eq_true, reduceIte, Try.f27, fPick, fAmong]
    refine ⟨(dr3 (([x0, x1, x2].set (i 0).toNat (r 0)).getD 0 0) (([x0, x1, x2].set (i 0).toNat (r 0)).getD 1 0) (([x0, x1, x2].set (i 0).toNat (r 0)).getD 2 0), a8, s8), ⟨?h1, ?h2⟩, ?h3⟩
    case h1 => show a ≤ a8; omega
    case h2 => show a8 ≤ a + 32; omega
    case h3 =>
      refine ⟨by omega, ?_⟩
      refine lp_intro (fun x : Nat × Nat × List Int × Int × Int => ⟨[(0, .one (.co 1000000)), (2, .one (.ref 2 0)), (3, .one (.row 8)), (10, .one (.i ((3 : Nat) : Int))), (11, .one (.i (x.2.1 : Int)))], [(1000000, .cu l x.2.2.2.1 x.2.2.2.2), (2, .ibox 25 [0, 0, 0]), (8, .row (.ints 3 x.2.2.1))]⟩)
        (fun x => CurOk (8 * (x.1 : Int)) l x.2.2.2.1 ∧ x.1 + x.2.1 = 3 ∧ x.2.2.1.length = 3 ∧ trF l x.1 x.2.1 x.2.2.1 x.2.2.2.1 x.2.2.2.2 = ([x0, x1, x2], a0, s0)) (fun x => x.1) (3, 0, [0, 0, 0], a, s) [] ⟨by simpa using hk24, rfl, rfl, hR⟩ (by simp only [Cov, covOk, covFr, covMem, entEq, rn, nodupB, A0.ren, AV.ren, Entry.ren, Entry.norm, look, St.eval, A0.norm, AV.norm, Option.getD_some, Option.getD_none, cond_true, cond_false, Nat.reduceBEq, List.map_cons, List.map_nil, true_and, and_true, List.all_cons, List.all_nil, Bool.and_true, Bool.or_false, Bool.not_false, List.contains_cons, List.contains_nil, beq_self_eq_true, A0.i.injEq, AV.one.injEq]; exact ⟨⟨by kernel_rfl, by kernel_rfl⟩, by kernel_rfl⟩) fun x hx J hJ => ⟨1000, ?_⟩
      obtain ⟨k, n, L, a, s⟩ := x
      obtain ⟨hk, hkn, hL, hF⟩ : CurOk (8 * (k : Int)) l a ∧ k + n = 3 ∧ L.length = 3 ∧ trF l k n L a s = ([x0, x1, x2], a0, s0) := hx
      cases k with
      | succ k =>
        obtain ⟨g1, w1, ⟨n0, n1⟩, n2, hkn'⟩ := tr_idx hkn hL
        obtain ⟨u, a1, s1, w, a2, s2, z, a3, s3, v, a4, s4, ⟨h1, h2, h3, h4⟩, ⟨e1, e2, e3, e4⟩, hk', hF'⟩ := trF_draw hk hF
        have hlen : (L.set n (v 0)).length = 3 := by rw [List.length_set]; exact hL
        simp only [↓cond_to_ite, ↓reduceIte, vc, out, Entry.toO, toOf, St.res, step, stepE, stepPick, stepO, stepC, eff, look, rem, St.put, St.setMem, setMems, St.after, St.eval, cst, val1, okNew, newHs, allHs, rdOf, Reg.item, Reg.next, entryRow, storeR, szOk, storeTo, effStore, binInt, effBin, ivs, rowOf, allParts, effBuildSlice, idxS, effIndex, subPre, argOf, argsPre, RC.flat, effBuildSl, effStore2, plainS, calleeHs, effStore3, effIndex2, effBin2, cuX, cuArg, plainV, cuGo, callCu, callCo, effCall2, wrHs, disj, AV.hs, A0.hs, Entry.hs, RC.sz, RC.len, specOf, t_int, ts_int, Option.getD_some, Nat.reduceBEq, List.map_cons, List.map_nil, Option.map_some, Nat.zero_add, Nat.reduceAdd, true_and, and_true, List.length_cons, List.length_nil, List.all_cons, List.all_nil, Bool.and_true, Bool.or_false, Bool.not_true, Bool.not_false, List.append_nil, List.nil_append, List.cons_append, List.flatMap_cons, List.flatMap_nil, List.contains_cons, List.contains_nil, List.filter_cons, List.filter_nil, beq_self_eq_true, ble_dec, Nat.reduceLeDiff, decide_true, and_self, Bool.false_eq_true, reduceIte, g1, cPick, cAmong, e1, e2, e3, e4, Int.toNat_natCast]
        exact ⟨h1, h2, h3, ⟨h4, by decide⟩, ⟨n0, n1⟩, n2, hJ _ (k, n + 1, L.set n (v 0), a4, s4) [] ⟨hk', hkn', hlen, hF'⟩ (Nat.lt_succ_self _) (by simp only [Cov, covOk, covFr, covMem, entEq, rn, nodupB, A0.ren, AV.ren, Entry.ren, Entry.norm, look, St.eval, A0.norm, AV.norm, Option.getD_some, Option.getD_none, cond_true, cond_false, Nat.reduceBEq, List.map_cons, List.map_nil, List.all_cons, List.all_nil, Bool.and_true, Bool.or_false, Bool.not_false, List.contains_cons, List.contains_nil, beq_self_eq_true, and_self, w1])⟩
      | zero =>
        obtain rfl : n = 3 := by simpa using hkn
        have g1 : decide (((3 : Nat) : Int) < ((3 : Nat) : Int)) = false := rfl
        simp only [trF, Prod.mk.injEq] at hF
        obtain ⟨rfl, rfl, rfl⟩ := hF
        simp only [↓cond_to_ite, ↓reduceIte, vc, out, Entry.toO, toOf, St.res, step, stepE, stepPick, stepO, stepC, eff, look, rem, St.put, St.setMem, setMems, St.after, St.eval, cst, setAt, val1, okNew, newHs, allHs, rdOf, outHs, Reg.item, Reg.next, entryRow, loadR, effLoad, storeI, storeR, szOk, storeTo, effStore, buildOf, effBuild, binInt, effBin, ivs, rowOf, allParts, effBuildSlice, idxS, effIndex, subPre, argOf, argsPre, RC.flat, effBuild2, effBuildSl, effLoad2, effStore2, effBuild3, plainS, inHs, calleeHs, effLoad3, effStore3, effIndex2, effBin2, effBuild4, cuX, cuArg, plainV, cuGo, callCu, callCo, effCall2, eqPl, curIs, finC, wrHs, disj, AV.hs, A0.hs, Entry.hs, RC.sz, RC.len, hA, resOf, resAll, shapeOk, comps, A0.norm, specOf, t_int, t_implTriple, ts_int, Option.getD_some, Nat.reduceBEq, List.map_cons, List.map_nil, List.set_cons_zero, List.set_cons_succ, List.getElem?_cons_zero, List.getElem?_cons_succ, Option.map_some, Nat.zero_add, Nat.add_zero, Nat.reduceAdd, true_and, and_true, List.replicate_succ, List.replicate_zero, List.length_cons, List.length_nil, List.all_cons, List.all_nil, Bool.and_true, Bool.or_false, Bool.not_true, Bool.not_false, List.append_nil, List.nil_append, List.cons_append, List.flatMap_cons, List.flatMap_nil, List.contains_cons, List.contains_nil, List.filter_cons, List.filter_nil, beq_self_eq_true, A0.s.injEq, List.cons.injEq, ble_dec, blt_dec, Nat.reduceLeDiff, decide_true, and_self, Bool.false_eq_true, reduceIte, g1, cPick, cAmong, e5, f0, e6, e7, e8]
        (repeat' refine And.intro ?_ ?_) <;> first | assumption | kernel_rfl | (simp; done)
  · have f0 : (t 0 == 0) = false := beq_eq_false_iff_ne.2 r0
    by_cases r1 : t 0 = 1
    · have f1 : (t 0 == 1) = true := beq_iff_eq.2 r1
      have hk2 : CurOk 2 l a5 := hk.step (by omega) (by omega)
      obtain ⟨r, a8, s8, e8, p8, b8, c8⟩ := atAmong (s := s5) (e := 3) (L := [2, 3, 4, 5, 6, 9]) hk2 (by simp)
      simp only [↓cond_to_ite, ↓reduceIte, vc, out, Entry.toO, toOf, St.res, effMakeSl, step, stepE, stepPick, stepO, eff, look, rem, St.put, St.setMem, setMems, St.after, St.eval, cst, val1, okNew, newHs, allHs, rdOf, Reg.item, Reg.next, effAlloc, entryRow, zeroRow, effMakeSlice, elemSz, lenOf, RC.flat, effAlloc2, lenOf2, initC, wrHs, disj, AV.hs, A0.hs, Entry.hs, RC.len, hA, initFr, initMem, t_int, t_implTriple, ts_int, Option.getD_some, Nat.reduceBEq, List.map_cons, List.map_nil, Option.map_some, Nat.add_zero, true_and, List.replicate_succ, List.replicate_zero, List.all_cons, List.all_nil, Bool.and_true, Bool.or_false, Bool.not_false, List.append_nil, List.nil_append, List.cons_append, List.flatMap_cons, List.flatMap_nil, List.contains_cons, List.contains_nil, List.filter_cons, List.filter_nil, beq_self_eq_true, List.toList_toArray, Option.isSome_some, Bool.false_eq_true, reduceIte, Try.f27, fPick, fAmong]
      refine ⟨(dr3 (wrap64 (x0 * r 0)) (wrap64 (x1 * r 0)) x2, a8, s8), ⟨?h1, ?h2⟩, ?h3⟩
      case h1 => show a ≤ a8; omega
      case h2 => show a8 ≤ a + 32; omega
      case h3 =>
        refine ⟨by omega, ?_⟩
        refine lp_intro (fun x : Nat × Nat × List Int × Int × Int => ⟨[(0, .one (.co 1000000)), (2, .one (.ref 2 0)), (3, .one (.row 8)), (10, .one (.i ((3 : Nat) : Int))), (11, .one (.i (x.2.1 : Int)))], [(1000000, .cu l x.2.2.2.1 x.2.2.2.2), (2, .ibox 25 [0, 0, 0]), (8, .row (.ints 3 x.2.2.1))]⟩)
          (fun x => CurOk (8 * (x.1 : Int)) l x.2.2.2.1 ∧ x.1 + x.2.1 = 3 ∧ x.2.2.1.length = 3 ∧ trF l x.1 x.2.1 x.2.2.1 x.2.2.2.1 x.2.2.2.2 = ([x0, x1, x2], a0, s0)) (fun x => x.1) (3, 0, [0, 0, 0], a, s) [] ⟨by simpa using hk24, rfl, rfl, hR⟩ (by simp only [Cov, covOk, covFr, covMem, entEq, rn, nodupB, A0.ren, AV.ren, Entry.ren, Entry.norm, look, St.eval, A0.norm, AV.norm, Option.getD_some, Option.getD_none, cond_true, cond_false, Nat.reduceBEq, List.map_cons, List.map_nil, true_and, and_true, List.all_cons, List.all_nil, Bool.and_true, Bool.or_false, Bool.not_false, List.contains_cons, List.contains_nil, beq_self_eq_true, A0.i.injEq, AV.one.injEq]; exact ⟨⟨by kernel_rfl, by kernel_rfl⟩, by kernel_rfl⟩) fun x hx J hJ => ⟨1000, ?_⟩
        obtain ⟨k, n, L, a, s⟩ := x
        obtain ⟨hk, hkn, hL, hF⟩ : CurOk (8 * (k : Int)) l a ∧ k + n = 3 ∧ L.length = 3 ∧ trF l k n L a s = ([x0, x1, x2], a0, s0) := hx
        cases k with
        | succ k =>
          obtain ⟨g1, w1, ⟨n0, n1⟩, n2, hkn'⟩ := tr_idx hkn hL
          obtain ⟨u, a1, s1, w, a2, s2, z, a3, s3, v, a4, s4, ⟨h1, h2, h3, h4⟩, ⟨e1, e2, e3, e4⟩, hk', hF'⟩ := trF_draw hk hF
          have hlen : (L.set n (v 0)).length = 3 := by rw [List.length_set]; exact hL
          simp only [↓cond_to_ite, ↓reduceIte, vc, out, Entry.toO, toOf, St.res, step, stepE, stepPick, stepO, stepC, eff, look, rem, St.put, St.setMem, setMems, St.after, St.eval, cst, val1, okNew, newHs, allHs, rdOf, Reg.item, Reg.next, entryRow, storeR, szOk, storeTo, effStore, binInt, effBin, ivs, rowOf, allParts, effBuildSlice, idxS, effIndex, subPre, argOf, argsPre, RC.flat, effBuildSl, effStore2, plainS, calleeHs, effStore3, effIndex2, effBin2, cuX, cuArg, plainV, cuGo, callCu, callCo, effCall2, wrHs, disj, AV.hs, A0.hs, Entry.hs, RC.sz, RC.len, specOf, t_int, ts_int, Option.getD_some, Nat.reduceBEq, List.map_cons, List.map_nil, Option.map_some, Nat.zero_add, Nat.reduceAdd, true_and, and_true, List.length_cons, List.length_nil, List.all_cons, List.all_nil, Bool.and_true, Bool.or_false, Bool.not_true, Bool.not_false, List.append_nil, List.nil_append, List.cons_append, List.flatMap_cons, List.flatMap_nil, List.contains_cons, List.contains_nil, List.filter_cons, List.filter_nil, beq_self_eq_true, ble_dec, Nat.reduceLeDiff, decide_true, and_self, Bool.false_eq_true, reduceIte, g1, cPick, cAmong, e1, e2, e3, e4, Int.toNat_natCast]
          exact ⟨h1, h2, h3, ⟨h4, by decide⟩, ⟨n0, n1⟩, n2, hJ _ (k, n + 1, L.set n (v 0), a4, s4) [] ⟨hk', hkn', hlen, hF'⟩ (Nat.lt_succ_self _) (by simp only [Cov, covOk, covFr, covMem, entEq, rn, nodupB, A0.ren, AV.ren, Entry.ren, Entry.norm, look, St.eval, A0.norm, AV.norm, Option.getD_some, Option.getD_none, cond_true, cond_false, Nat.reduceBEq, List.map_cons, List.map_nil, List.all_cons, List.all_nil, Bool.and_true, Bool.or_false, Bool.not_false, List.contains_cons, List.contains_nil, beq_self_eq_true, and_self, w1])⟩
        | zero =>
          obtain rfl : n = 3 := by simpa using hkn
          have g1 : decide (((3 : Nat) : Int) < ((3 : Nat) : Int)) = false := rfl
          simp only [trF, Prod.mk.injEq] at hF
          obtain ⟨rfl, rfl, rfl⟩ := hF
          simp only [↓cond_to_ite, ↓reduceIte, vc, out, Entry.toO, toOf, St.res, step, stepE, stepPick, stepO, stepC, eff, look, rem, St.put, St.setMem, setMems, St.after, St.eval, cst, setAt, val1, okNew, newHs, allHs, rdOf, outHs, Reg.item, Reg.next, entryRow, loadR, effLoad, storeI, storeR, szOk, storeTo, effStore, buildOf, effBuild, binInt, effBin, ivs, rowOf, allParts, effBuildSlice, idxS, effIndex, subPre, argOf, argsPre, RC.flat, effBuild2, effBuildSl, effLoad2, effStore2, effBuild3, plainS, inHs, calleeHs, effLoad3, effStore3, effIndex2, effBin2, effBuild4, cuX, cuArg, plainV, cuGo, callCu, callCo, effCall2, eqPl, curIs, finC, wrHs, disj, AV.hs, A0.hs, Entry.hs, RC.sz, RC.len, hA, resOf, resAll, shapeOk, comps, A0.norm, specOf, t_int, t_implTriple, ts_int, Option.getD_some, Nat.reduceBEq, List.map_cons, List.map_nil, List.set_cons_zero, List.set_cons_succ, List.getElem?_cons_zero, List.getElem?_cons_succ, Option.map_some, Nat.zero_add, Nat.add_zero, Nat.reduceAdd, true_and, and_true, List.replicate_succ, List.replicate_zero, List.length_cons, List.length_nil, List.all_cons, List.all_nil, Bool.and_true, Bool.or_false, Bool.not_true, Bool.not_false, List.append_nil, List.nil_append, List.cons_append, List.flatMap_cons, List.flatMap_nil, List.contains_cons, List.contains_nil, List.filter_cons, List.filter_nil, beq_self_eq_true, A0.s.injEq, List.cons.injEq, ble_dec, blt_dec, Nat.reduceLeDiff, decide_true, and_self, Bool.false_eq_true, reduceIte, g1, cPick, cAmong, e5, f0, f1, e8]
          (repeat' refine And.intro ?_ ?_) <;> first | assumption | kernel_rfl | (simp; done)
    · have f1 : (t 0 == 1) = false := beq_eq_false_iff_ne.2 r1
      by_cases r2 : t 0 = 2 ∨ t 0 = 3
      · have hk2 : CurOk 2 l a5 := hk.step (by omega) (by omega)
        obtain ⟨i, a6, s6, e6, p6, b6, c6⟩ := atPick (s := s5) (n := 6) hk2 trivial
        have hk3 : CurOk 2 l a6 := hk.step (by omega) (by omega)
        obtain ⟨j, a7, s7, e7, p7, b7, c7⟩ := atPick (s := s6) (n := 6) hk3 trivial
        by_cases r3 : t 0 = 2
        · have f2 : (t 0 == 2) = true := beq_iff_eq.2 r3
          simp only [↓cond_to_ite, ↓reduceIte, vc, out, Entry.toO, toOf, St.res, effMakeSl, step, stepE, stepPick, stepO, eff, look, rem, St.put, St.setMem, setMems, St.after, St.eval, cst, val1, okNew, newHs, allHs, rdOf, Reg.item, Reg.next, effAlloc, entryRow, zeroRow, effMakeSlice, elemSz, lenOf, RC.flat, effAlloc2, lenOf2, initC, wrHs, disj, AV.hs, A0.hs, Entry.hs, RC.len, hA, initFr, initMem, t_int, t_implTriple, ts_int, Option.getD_some, Nat.reduceBEq, List.map_cons, List.map_nil, Option.map_some, Nat.add_zero, true_and, List.replicate_succ, List.replicate_zero, List.all_cons, List.all_nil, Bool.and_true, Bool.or_false, Bool.not_false, List.append_nil, List.nil_append, List.cons_append, List.flatMap_cons, List.flatMap_nil, List.contains_cons, List.contains_nil, List.filter_cons, List.filter_nil, beq_self_eq_true, List.toList_toArray, Option.isSome_some, Bool.false_eq_true, reduceIte, Try.f27, fPick, fAmong]
          refine ⟨(dr3 x0 x1 (wrap64 (0 - wrap64 (wrap64 (wrap64 (x0 * wrap64 (1 + i 0)) * wrap64 (1 + i 0)) + wrap64 (wrap64 (x1 * j 0) * j 0)))), a7, s7), ⟨?h1, ?h2⟩, ?h3⟩
          case h1 => show a ≤ a7; omega
          case h2 => show a7 ≤ a + 32; omega
          case h3 =>
            refine ⟨by omega, ?_⟩
            refine lp_intro (fun x : Nat × Nat × List Int × Int × Int => ⟨[(0, .one (.co 1000000)), (2, .one (.ref 2 0)), (3, .one (.row 8)), (10, .one (.i ((3 : Nat) : Int))), (11, .one (.i (x.2.1 : Int)))], [(1000000, .cu l x.2.2.2.1 x.2.2.2.2), (2, .ibox 25 [0, 0, 0]), (8, .row (.ints 3 x.2.2.1))]⟩)
              (fun x => CurOk (8 * (x.1 : Int)) l x.2.2.2.1 ∧ x.1 + x.2.1 = 3 ∧ x.2.2.1.length = 3 ∧ trF l x.1 x.2.1 x.2.2.1 x.2.2.2.1 x.2.2.2.2 = ([x0, x1, x2], a0, s0)) (fun x => x.1) (3, 0, [0, 0, 0], a, s) [] ⟨by simpa using hk24, rfl, rfl, hR⟩ (by simp only [Cov, covOk, covFr, covMem, entEq, rn, nodupB, A0.ren, AV.ren, Entry.ren, Entry.norm, look, St.eval, A0.norm, AV.norm, Option.getD_some, Option.getD_none, cond_true, cond_false, Nat.reduceBEq, List.map_cons, List.map_nil, true_and, and_true, List.all_cons, List.all_nil, Bool.and_true, Bool.or_false, Bool.not_false, List.contains_cons, List.contains_nil, beq_self_eq_true, A0.i.injEq, AV.one.injEq]; exact ⟨⟨by kernel_rfl, by kernel_rfl⟩, by kernel_rfl⟩) fun x hx J hJ => ⟨1000, ?_⟩
            obtain ⟨k, n, L, a, s⟩ := x
            obtain ⟨hk, hkn, hL, hF⟩ : CurOk (8 * (k : Int)) l a ∧ k + n = 3 ∧ L.length = 3 ∧ trF l k n L a s = ([x0, x1, x2], a0, s0) := hx
            cases k with
            | succ k =>
              obtain ⟨g1, w1, ⟨n0, n1⟩, n2, hkn'⟩ := tr_idx hkn hL
              obtain ⟨u, a1, s1, w, a2, s2, z, a3, s3, v, a4, s4, ⟨h1, h2, h3, h4⟩, ⟨e1, e2, e3, e4⟩, hk', hF'⟩ := trF_draw hk hF
              have hlen : (L.set n (v 0)).length = 3 := by rw [List.length_set]; exact hL
              simp only [↓cond_to_ite, ↓reduceIte, vc, out, Entry.toO, toOf, St.res, step, stepE, stepPick, stepO, stepC, eff, look, rem, St.put, St.setMem, setMems, St.after, St.eval, cst, val1, okNew, newHs, allHs, rdOf, Reg.item, Reg.next, entryRow, storeR, szOk, storeTo, effStore, binInt, effBin, ivs, rowOf, allParts, effBuildSlice, idxS, effIndex, subPre, argOf, argsPre, RC.flat, effBuildSl, effStore2, plainS, calleeHs, effStore3, effIndex2, effBin2, cuX, cuArg, plainV, cuGo, callCu, callCo, effCall2, wrHs, disj, AV.hs, A0.hs, Entry.hs, RC.sz, RC.len, specOf, t_int, ts_int, Option.getD_some, Nat.reduceBEq, List.map_cons, List.map_nil, Option.map_some, Nat.zero_add, Nat.reduceAdd, true_and, and_true, List.length_cons, List.length_nil, List.all_cons, List.all_nil, Bool.and_true, Bool.or_false, Bool.not_true, Bool.not_false, List.append_nil, List.nil_append, List.cons_append, List.flatMap_cons, List.flatMap_nil, List.contains_cons, List.contains_nil, List.filter_cons, List.filter_nil, beq_self_eq_true, ble_dec, Nat.reduceLeDiff, decide_true, and_self, Bool.false_eq_true, reduceIte, g1, cPick, cAmong, e1, e2, e3, e4, Int.toNat_natCast]
              exact ⟨h1, h2, h3, ⟨h4, by decide⟩, ⟨n0, n1⟩, n2, hJ _ (k, n + 1, L.set n (v 0), a4, s4) [] ⟨hk', hkn', hlen, hF'⟩ (Nat.lt_succ_self _) (by simp only [Cov, covOk, covFr, covMem, entEq, rn, nodupB, A0.ren, AV.ren, Entry.ren, Entry.norm, look, St.eval, A0.norm, AV.norm, Option.getD_some, Option.getD_none, cond_true, cond_false, Nat.reduceBEq, List.map_cons, List.map_nil, List.all_cons, List.all_nil, Bool.and_true, Bool.or_false, Bool.not_false, List.contains_cons, List.contains_nil, beq_self_eq_true, and_self, w1])⟩
            | zero =>
              obtain rfl : n = 3 := by simpa using hkn
              have g1 : decide (((3 : Nat) : Int) < ((3 : Nat) : Int)) = false := rfl
              simp only [trF, Prod.mk.injEq] at hF
              obtain ⟨rfl, rfl, rfl⟩ := hF
              simp only [↓cond_to_ite, ↓reduceIte, vc, out, Entry.toO, toOf, St.res, step, stepE, stepPick, stepO, stepC, eff, look, rem, St.put, St.setMem, setMems, St.after, St.eval, cst, setAt, val1, okNew, newHs, allHs, rdOf, outHs, Reg.item, Reg.next, entryRow, loadR, effLoad, storeI, storeR, szOk, storeTo, effStore, buildOf, effBuild, binInt, effBin, effUn, idxS, effIndex, subPre, argOf, argsPre, RC.flat, effBuild2, effLoad2, effStore2, effBuild3, plainS, inHs, calleeHs, effLoad3, effStore3, effIndex2, effBin2, effBuild4, cuX, cuArg, plainV, cuGo, callCu, callCo, effCall2, eqPl, curIs, finC, wrHs, disj, AV.hs, A0.hs, Entry.hs, RC.sz, RC.len, hA, resOf, resAll, shapeOk, comps, A0.norm, specOf, t_int, t_implTriple, ts_int, Option.getD_some, Nat.reduceBEq, List.map_cons, List.map_nil, List.set_cons_zero, List.set_cons_succ, List.getElem?_cons_zero, List.getElem?_cons_succ, Option.map_some, Nat.zero_add, Nat.add_zero, Nat.reduceAdd, true_and, and_true, List.replicate_succ, List.replicate_zero, List.length_cons, List.length_nil, List.all_cons, List.all_nil, Bool.and_true, Bool.or_false, Bool.not_true, List.append_nil, List.nil_append, List.cons_append, List.flatMap_cons, List.flatMap_nil, List.contains_cons, List.contains_nil, List.filter_cons, List.filter_nil, beq_self_eq_true, A0.s.injEq, List.cons.injEq, ble_dec, blt_dec, Nat.reduceLeDiff, decide_true, and_self, Bool.false_eq_true, reduceIte, g1, cPick, e5, f0, f1, f2, e6, e7]
              (repeat' refine And.intro ?_ ?_) <;> first | assumption | kernel_rfl | (simp; done)
        · have f2 : (t 0 == 2) = false := beq_eq_false_iff_ne.2 r3
          have f3 : (t 0 == 3) = true := beq_iff_eq.2 (by omega)
          simp only [↓cond_to_ite, ↓reduceIte, vc, out, Entry.toO, toOf, St.res, effMakeSl, step, stepE, stepPick, stepO, eff, look, rem, St.put, St.setMem, setMems, St.after, St.eval, cst, val1, okNew, newHs, allHs, rdOf, Reg.item, Reg.next, effAlloc, entryRow, zeroRow, effMakeSlice, elemSz, lenOf, RC.flat, effAlloc2, lenOf2, initC, wrHs, disj, AV.hs, A0.hs, Entry.hs, RC.len, hA, initFr, initMem, t_int, t_implTriple, ts_int, Option.getD_some, Nat.reduceBEq, List.map_cons, List.map_nil, Option.map_some, Nat.add_zero, true_and, List.replicate_succ, List.replicate_zero, List.all_cons, List.all_nil, Bool.and_true, Bool.or_false, Bool.not_false, List.append_nil, List.nil_append, List.cons_append, List.flatMap_cons, List.flatMap_nil, List.contains_cons, List.contains_nil, List.filter_cons, List.filter_nil, beq_self_eq_true, List.toList_toArray, Option.isSome_some, Bool.false_eq_true, reduceIte, Try.f27, fPick, fAmong]
          refine ⟨(dr3 x0 x1 (wrap64 (0 - wrap64 (wrap64 (wrap64 (x0 * wrap64 (1 + i 0)) * wrap64 (1 + i 0)) + wrap64 (wrap64 (x1 * j 0) * j 0)))), a7, s7), ⟨?h1, ?h2⟩, ?h3⟩
          case h1 => show a ≤ a7; omega
          case h2 => show a7 ≤ a + 32; omega
          case h3 =>
            refine ⟨by omega, ?_⟩
            refine lp_intro (fun x : Nat × Nat × List Int × Int × Int => ⟨[(0, .one (.co 1000000)), (2, .one (.ref 2 0)), (3, .one (.row 8)), (10, .one (.i ((3 : Nat) : Int))), (11, .one (.i (x.2.1 : Int)))], [(1000000, .cu l x.2.2.2.1 x.2.2.2.2), (2, .ibox 25 [0, 0, 0]), (8, .row (.ints 3 x.2.2.1))]⟩)
              (fun x => CurOk (8 * (x.1 : Int)) l x.2.2.2.1 ∧ x.1 + x.2.1 = 3 ∧ x.2.2.1.length = 3 ∧ trF l x.1 x.2.1 x.2.2.1 x.2.2.2.1 x.2.2.2.2 = ([x0, x1, x2], a0, s0)) (fun x => x.1) (3, 0, [0, 0, 0], a, s) [] ⟨by simpa using hk24, rfl, rfl, hR⟩ (by simp only [Cov, covOk, covFr, covMem, entEq, rn, nodupB, A0.ren, AV.ren, Entry.ren, Entry.norm, look, St.eval, A0.norm, AV.norm, Option.getD_some, Option.getD_none, cond_true, cond_false, Nat.reduceBEq, List.map_cons, List.map_nil, true_and, and_true, List.all_cons, List.all_nil, Bool.and_true, Bool.or_false, Bool.not_false, List.contains_cons, List.contains_nil, beq_self_eq_true, A0.i.injEq, AV.one.injEq]; exact ⟨⟨by kernel_rfl, by kernel_rfl⟩, by kernel_rfl⟩) fun x hx J hJ => ⟨1000, ?_⟩
            obtain ⟨k, n, L, a, s⟩ := x
            obtain ⟨hk, hkn, hL, hF⟩ : CurOk (8 * (k : Int)) l a ∧ k + n = 3 ∧ L.length = 3 ∧ trF l k n L a s = ([x0, x1, x2], a0, s0) := hx
            cases k with
            | succ k =>
              obtain ⟨g1, w1, ⟨n0, n1⟩, n2, hkn'⟩ := tr_idx hkn hL
              obtain ⟨u, a1, s1, w, a2, s2, z, a3, s3, v, a4, s4, ⟨h1, h2, h3, h4⟩, ⟨e1, e2, e3, e4⟩, hk', hF'⟩ := trF_draw hk hF
              have hlen : (L.set n (v 0)).length = 3 := by rw [List.length_set]; exact hL
              simp only [↓cond_to_ite, ↓reduceIte, vc, out, Entry.toO, toOf, St.res, step, stepE, stepPick, stepO, stepC, eff, look, rem, St.put, St.setMem, setMems, St.after, St.eval, cst, val1, okNew, newHs, allHs, rdOf, Reg.item, Reg.next, entryRow, storeR, szOk, storeTo, effStore, binInt, effBin, ivs, rowOf, allParts, effBuildSlice, idxS, effIndex, subPre, argOf, argsPre, RC.flat, effBuildSl, effStore2, plainS, calleeHs, effStore3, effIndex2, effBin2, cuX, cuArg, plainV, cuGo, callCu, callCo, effCall2, wrHs, disj, AV.hs, A0.hs, Entry.hs, RC.sz, RC.len, specOf, t_int, ts_int, Option.getD_some, Nat.reduceBEq, List.map_cons, List.map_nil, Option.map_some, Nat.zero_add, Nat.reduceAdd, true_and, and_true, List.length_cons, List.length_nil, List.all_cons, List.all_nil, Bool.and_true, Bool.or_false, Bool.not_true, Bool.not_false, List.append_nil, List.nil_append, List.cons_append, List.flatMap_cons, List.flatMap_nil, List.contains_cons, List.contains_nil, List.filter_cons, List.filter_nil, beq_self_eq_true, ble_dec, Nat.reduceLeDiff, decide_true, and_self, Bool.false_eq_true, reduceIte, g1, cPick, cAmong, e1, e2, e3, e4, Int.toNat_natCast]
              exact ⟨h1, h2, h3, ⟨h4, by decide⟩, ⟨n0, n1⟩, n2, hJ _ (k, n + 1, L.set n (v 0), a4, s4) [] ⟨hk', hkn', hlen, hF'⟩ (Nat.lt_succ_self _) (by simp only [Cov, covOk, covFr, covMem, entEq, rn, nodupB, A0.ren, AV.ren, Entry.ren, Entry.norm, look, St.eval, A0.norm, AV.norm, Option.getD_some, Option.getD_none, cond_true, cond_false, Nat.reduceBEq, List.map_cons, List.map_nil, List.all_cons, List.all_nil, Bool.and_true, Bool.or_false, Bool.not_false, List.contains_cons, List.contains_nil, beq_self_eq_true, and_self, w1])⟩
            | zero =>
              obtain rfl : n = 3 := by simpa using hkn
              have g1 : decide (((3 : Nat) : Int) < ((3 : Nat) : Int)) = false := rfl
              simp only [trF, Prod.mk.injEq] at hF
              obtain ⟨rfl, rfl, rfl⟩ := hF
              simp only [↓cond_to_ite, ↓reduceIte, vc, out, Entry.toO, toOf, St.res, step, stepE, stepPick, stepO, stepC, eff, look, rem, St.put, St.setMem, setMems, St.after, St.eval, cst, setAt, val1, okNew, newHs, allHs, rdOf, outHs, Reg.item, Reg.next, entryRow, loadR, effLoad, storeI, storeR, szOk, storeTo, effStore, buildOf, effBuild, binInt, effBin, effUn, idxS, effIndex, subPre, argOf, argsPre, RC.flat, effBuild2, effLoad2, effStore2, effBuild3, plainS, inHs, calleeHs, effLoad3, effStore3, effIndex2, effBin2, effBuild4, cuX, cuArg, plainV, cuGo, callCu, callCo, effCall2, eqPl, curIs, finC, wrHs, disj, AV.hs, A0.hs, Entry.hs, RC.sz, RC.len, hA, resOf, resAll, shapeOk, comps, A0.norm, specOf, t_int, t_implTriple, ts_int, Option.getD_some, Nat.reduceBEq, List.map_cons, List.map_nil, List.set_cons_zero, List.set_cons_succ, List.getElem?_cons_zero, List.getElem?_cons_succ, Option.map_some, Nat.zero_add, Nat.add_zero, Nat.reduceAdd, true_and, and_true, List.replicate_succ, List.replicate_zero, List.length_cons, List.length_nil, List.all_cons, List.all_nil, Bool.and_true, Bool.or_false, Bool.not_true, List.append_nil, List.nil_append, List.cons_append, List.flatMap_cons, List.flatMap_nil, List.contains_cons, List.contains_nil, List.filter_cons, List.filter_nil, beq_self_eq_true, A0.s.injEq, List.cons.injEq, ble_dec, blt_dec, Nat.reduceLeDiff, decide_true, and_self, Bool.false_eq_true, reduceIte, g1, cPick, e5, f0, f1, f2, f3, e6, e7]
              (repeat' refine And.intro ?_ ?_) <;> first | assumption | kernel_rfl | (simp; done)
      · have f2 : (t 0 == 2) = false := beq_eq_false_iff_ne.2 (by omega)
        have f3 : (t 0 == 3) = false := beq_eq_false_iff_ne.2 (by omega)
        simp only [↓cond_to_ite, ↓reduceIte, vc, out, Entry.toO, toOf, St.res, effMakeSl, step, stepE, stepPick, stepO, eff, look, rem, St.put, St.setMem, setMems, St.after, St.eval, cst, val1, okNew, newHs, allHs, rdOf, Reg.item, Reg.next, effAlloc, entryRow, zeroRow, effMakeSlice, elemSz, lenOf, RC.flat, effAlloc2, lenOf2, initC, wrHs, disj, AV.hs, A0.hs, Entry.hs, RC.len, hA, initFr, initMem, t_int, t_implTriple, ts_int, Option.getD_some, Nat.reduceBEq, List.map_cons, List.map_nil, Option.map_some, Nat.add_zero, true_and, List.replicate_succ, List.replicate_zero, List.all_cons, List.all_nil, Bool.and_true, Bool.or_false, Bool.not_false, List.append_nil, List.nil_append, List.cons_append, List.flatMap_cons, List.flatMap_nil, List.contains_cons, List.contains_nil, List.filter_cons, List.filter_nil, beq_self_eq_true, List.toList_toArray, Option.isSome_some, Bool.false_eq_true, reduceIte, Try.f27, fPick, fAmong]
        refine ⟨(dr3 x0 x1 x2, a5, s5), ⟨?h1, ?h2⟩, ?h3⟩
        case h1 => show a ≤ a5; omega
        case h2 => show a5 ≤ a + 32; omega
        case h3 =>
          refine ⟨by omega, ?_⟩
          refine lp_intro (fun x : Nat × Nat × List Int × Int × Int => ⟨[(0, .one (.co 1000000)), (2, .one (.ref 2 0)), (3, .one (.row 8)), (10, .one (.i ((3 : Nat) : Int))), (11, .one (.i (x.2.1 : Int)))], [(1000000, .cu l x.2.2.2.1 x.2.2.2.2), (2, .ibox 25 [0, 0, 0]), (8, .row (.ints 3 x.2.2.1))]⟩)
            (fun x => CurOk (8 * (x.1 : Int)) l x.2.2.2.1 ∧ x.1 + x.2.1 = 3 ∧ x.2.2.1.length = 3 ∧ trF l x.1 x.2.1 x.2.2.1 x.2.2.2.1 x.2.2.2.2 = ([x0, x1, x2], a0, s0)) (fun x => x.1) (3, 0, [0, 0, 0], a, s) [] ⟨by simpa using hk24, rfl, rfl, hR⟩ (by simp only [Cov, covOk, covFr, covMem, entEq, rn, nodupB, A0.ren, AV.ren, Entry.ren, Entry.norm, look, St.eval, A0.norm, AV.norm, Option.getD_some, Option.getD_none, cond_true, cond_false, Nat.reduceBEq, List.map_cons, List.map_nil, true_and, and_true, List.all_cons, List.all_nil, Bool.and_true, Bool.or_false, Bool.not_false, List.contains_cons, List.contains_nil, beq_self_eq_true, A0.i.injEq, AV.one.injEq]; exact ⟨⟨by kernel_rfl, by kernel_rfl⟩, by kernel_rfl⟩) fun x hx J hJ => ⟨1000, ?_⟩
          obtain ⟨k, n, L, a, s⟩ := x
          obtain ⟨hk, hkn, hL, hF⟩ : CurOk (8 * (k : Int)) l a ∧ k + n = 3 ∧ L.length = 3 ∧ trF l k n L a s = ([x0, x1, x2], a0, s0) := hx
          cases k with
          | succ k =>
            obtain ⟨g1, w1, ⟨n0, n1⟩, n2, hkn'⟩ := tr_idx hkn hL
            obtain ⟨u, a1, s1, w, a2, s2, z, a3, s3, v, a4, s4, ⟨h1, h2, h3, h4⟩, ⟨e1, e2, e3, e4⟩, hk', hF'⟩ := trF_draw hk hF
            have hlen : (L.set n (v 0)).length = 3 := by rw [List.length_set]; exact hL
            simp only [↓cond_to_ite, ↓reduceIte, vc, out, Entry.toO, toOf, St.res, step, stepE, stepPick, stepO, stepC, eff, look, rem, St.put, St.setMem, setMems, St.after, St.eval, cst, val1, okNew, newHs, allHs, rdOf, Reg.item, Reg.next, entryRow, storeR, szOk, storeTo, effStore, binInt, effBin, ivs, rowOf, allParts, effBuildSlice, idxS, effIndex, subPre, argOf, argsPre, RC.flat, effBuildSl, effStore2, plainS, calleeHs, effStore3, effIndex2, effBin2, cuX, cuArg, plainV, cuGo, callCu, callCo, effCall2, wrHs, disj, AV.hs, A0.hs, Entry.hs, RC.sz, RC.len, specOf, t_int, ts_int, Option.getD_some, Nat.reduceBEq, List.map_cons, List.map_nil, Option.map_some, Nat.zero_add, Nat.reduceAdd, true_and, and_true, List.length_cons, List.length_nil, List.all_cons, List.all_nil, Bool.and_true, Bool.or_false, Bool.not_true, Bool.not_false, List.append_nil, List.nil_append, List.cons_append, List.flatMap_cons, List.flatMap_nil, List.contains_cons, List.contains_nil, List.filter_cons, List.filter_nil, beq_self_eq_true, ble_dec, Nat.reduceLeDiff, decide_true, and_self, Bool.false_eq_true, reduceIte, g1, cPick, cAmong, e1, e2, e3, e4, Int.toNat_natCast]
            exact ⟨h1, h2, h3, ⟨h4, by decide⟩, ⟨n0, n1⟩, n2, hJ _ (k, n + 1, L.set n (v 0), a4, s4) [] ⟨hk', hkn', hlen, hF'⟩ (Nat.lt_succ_self _) (by simp only [Cov, covOk, covFr, covMem, entEq, rn, nodupB, A0.ren, AV.ren, Entry.ren, Entry.norm, look, St.eval, A0.norm, AV.norm, Option.getD_some, Option.getD_none, cond_true, cond_false, Nat.reduceBEq, List.map_cons, List.map_nil, List.all_cons, List.all_nil, Bool.and_true, Bool.or_false, Bool.not_false, List.contains_cons, List.contains_nil, beq_self_eq_true, and_self, w1])⟩
          | zero =>
            obtain rfl : n = 3 := by simpa using hkn
            have g1 : decide (((3 : Nat) : Int) < ((3 : Nat) : Int)) = false := rfl
            simp only [trF, Prod.mk.injEq] at hF
            obtain ⟨rfl, rfl, rfl⟩ := hF
            simp only [↓cond_to_ite, ↓reduceIte, vc, out, Entry.toO, toOf, St.res, step, stepE, stepPick, stepO, stepC, eff, look, rem, St.put, St.setMem, setMems, St.after, St.eval, cst, setAt, val1, okNew, newHs, allHs, rdOf, outHs, Reg.item, Reg.next, entryRow, loadR, effLoad, storeI, szOk, storeTo, effStore, buildOf, effBuild, binInt, effBin, idxS, effIndex, subPre, argOf, argsPre, RC.flat, effBuild2, effLoad2, effStore2, effBuild3, plainS, inHs, calleeHs, effLoad3, effStore3, effIndex2, effBin2, effBuild4, cuX, cuArg, plainV, cuGo, callCu, callCo, effCall2, eqPl, curIs, finC, wrHs, disj, AV.hs, A0.hs, Entry.hs, RC.sz, RC.len, hA, resOf, resAll, shapeOk, comps, A0.norm, specOf, t_int, t_implTriple, ts_int, Option.getD_some, Nat.reduceBEq, List.map_cons, List.map_nil, List.set_cons_zero, List.set_cons_succ, List.getElem?_cons_zero, List.getElem?_cons_succ, Option.map_some, Nat.zero_add, Nat.add_zero, Nat.reduceAdd, true_and, and_true, List.replicate_succ, List.replicate_zero, List.length_cons, List.length_nil, List.all_cons, List.all_nil, Bool.and_true, Bool.or_false, Bool.not_true, List.append_nil, List.nil_append, List.cons_append, List.flatMap_cons, List.flatMap_nil, List.contains_cons, List.contains_nil, List.filter_cons, List.filter_nil, beq_self_eq_true, A0.s.injEq, List.cons.injEq, ble_dec, blt_dec, Nat.reduceLeDiff, decide_true, and_self, Bool.false_eq_true, reduceIte, g1, cPick, e5, f0, f1, f2, f3]
            (repeat' refine And.intro ?_ ?_) <;> first | assumption | kernel_rfl | (simp; done)
open Classical in
noncomputable def xTriple (l : List Int) (a s : Int)  : DR := if h : CurOk 32 l a ∧ (True) then Classical.choose (exTriple l a s  h.1 h.2) else (fun _ => 0, 0, 0)
theorem spTriple {l : List Int} {a s : Int}  (hk : CurOk 32 l a) (hp : True) : ((True) ∧ a ≤ (xTriple l a s).2.1 ∧ (xTriple l a s).2.1 ≤ a + 32) ∧ vc [hA 0] tab (specOf [(fPick, cPick), (fAmong, cAmong)]) (finC tab Try.f27.results.toList l (.one (.s [(xTriple l a s).1 0, (xTriple l a s).1 1, (xTriple l a s).1 2])) (xTriple l a s).2.1 (xTriple l a s).2.2) (lpN [hA 0] tab (specOf [(fPick, cPick), (fAmong, cAmong)]) (finC tab Try.f27.results.toList l (.one (.s [(xTriple l a s).1 0, (xTriple l a s).1 1, (xTriple l a s).1 2])) (xTriple l a s).2.1 (xTriple l a s).2.2) 1) 1000 [.code (Try.f27.body.getD .skip)] (initC l a s []) := by
  unfold xTriple
  rw [dif_pos ⟨hk, hp⟩]
  exact Classical.choose_spec (exTriple l a s  hk hp)
theorem atTriple {l : List Int} {a s : Int}  (hk : CurOk 32 l a) (hp : True) : ∃ v a1 s1, xTriple l a s = (v, a1, s1) ∧ (True) ∧ a ≤ a1 ∧ a1 ≤ a + 32 :=
  ⟨_, _, _, rfl, (spTriple hk hp).1⟩
noncomputable def cTriple : Ctr
  | .cur l a s :: [] => some ⟨CurOk 32 l a ∧ (True), .one (.s [(xTriple l a s).1 0, (xTriple l a s).1 1, (xTriple l a s).1 2]), [(0, some (.ints 0 [(xTriple l a s).2.1, (xTriple l a s).2.2]))]⟩
  | _ => none
theorem okTriple : CtrOk Try.prog fTriple cTriple := by
  have hsp : SpecOk Try.prog (specOf [(fPick, cPick), (fAmong, cAmong)]) := (SpecOk.cons okPick (SpecOk.cons okAmong SpecOk.nil))
  refine ctr_cu Try.func27 (by kernel_rfl) fun args ce h => ?_
  unfold cTriple at h
  split at h
  case h_2 => cases h
  rename_i l a s 
  simp only [Option.some.injEq] at h
  subst h
  refine ⟨l, a, s, _, _, _, rfl, rfl, fun hpre => ?_⟩
  exact cu_of mixed tab_ok hsp Try.func27 (by kernel_rfl) (by kernel_rfl) (by rfl) 1 1000 (spTriple hpre.1 hpre.2).2 hpre

abbrev fNormT : Nat := 31
theorem exNormT (l : List Int) (a s : Int)  (hk : CurOk 34 l a) (hp : True) : ∃ x : DR, ((True) ∧ a ≤ x.2.1 ∧ x.2.1 ≤ a + 34) ∧ vc [hA 0] tab (specOf [(fTriple, cTriple), (fCnGood, cCnGood), (fOne, cOne), (fCnMakeG, cCnMakeG)]) (finC tab Try.f31.results.toList l (.one (.s [x.1 0, x.1 1, x.1 2])) x.2.1 x.2.2) (lpN [hA 0] tab (specOf [(fTriple, cTriple), (fCnGood, cCnGood), (fOne, cOne), (fCnMakeG, cCnMakeG)]) (finC tab Try.f31.results.toList l (.one (.s [x.1 0, x.1 1, x.1 2])) x.2.1 x.2.2) 0) 1000 [.code (Try.f31.body.getD .skip)] (initC l a s []) := by
  have hk1 : CurOk 32 l a := hk.step (by omega) (by omega)
  obtain ⟨v, a6, s7, e2, p3, b4, c5⟩ := atTriple (s := s)  hk1 trivial
  try simp only at p3
  by_cases q8 : triB (v 0) (v 1) (v 2) = true
  · skip
    have g9 : triB (v 0) (v 1) (v 2) = true := by simp [q8]
    have hk10 : CurOk 2 l a6 := hk.step (by omega) (by omega)
    obtain ⟨u, a15, s16, e11, p12, b13, c14⟩ := atOne (s := s7) (n := 6) hk10 trivial
    try simp only at p12
    by_cases q17 : u 0 = 0
    · skip
      have g18 : (u 0 == 0) = true := by simp [q17]
      simp only [↓cond_to_ite, ↓reduceIte, vc, out, Entry.toO, toOf, St.res, step, stepE, stepPick, stepG, stepO, stepC, eff, look, rem, St.put, St.setMem, setMems, St.after, St.eval, cst, setAt, val1, okNew, newHs, allHs, rdOf, Reg.item, Reg.next, slotOf, effAlloc, loadI, effLoad, storeI, szOk, storeTo, effStore, effUn, effPick, subPre, argOf, resA, resV, argsPre, argOk, callWr, effCall, callGo, effAlloc2, effLoad2, effStore2, plainS, calleeHs, effLoad3, effStore3, cuX, cuArg, plainV, cuGo, callCu, callCo, effCall2, initC, eqPl, curIs, finC, wrHs, disj, AV.hs, A0.hs, Entry.hs, hA, initFr, initMem, resOf, resAll, shapeOk, comps, A0.norm, specOf, t_implTriple, Option.getD_some, Nat.reduceBEq, List.map_cons, List.map_nil, List.set_cons_zero, List.set_cons_succ, List.getElem?_cons_zero, List.getElem?_cons_succ, List.drop_zero, List.take_succ_cons, List.take_zero, Option.map_some, Option.bind_some, Nat.zero_add, Nat.add_zero, Nat.reduceAdd, true_and, and_true, List.replicate_succ, List.replicate_zero, List.length_cons, List.length_nil, List.all_cons, List.all_nil, Bool.and_true, Bool.or_false, Bool.not_true, Bool.not_false, List.append_nil, List.nil_append, List.cons_append, List.flatMap_cons, List.flatMap_nil, List.contains_cons, List.contains_nil, List.filter_cons, List.filter_nil, beq_self_eq_true, A0.s.injEq, List.cons.injEq, ble_dec, Nat.reduceLeDiff, decide_true, and_self, List.toList_toArray, Bool.false_eq_true, reduceIte, Try.f31, cTriple, fTriple, cCnGood, fCnGood, cOne, fOne, e2, g9, e11, g18]
      refine ⟨(dr3 ?_ ?_ ?_, a15, s16), ⟨?h1, ?h2⟩, ?h3⟩
      case h1 => show a ≤ a15; omega
      case h2 => show a15 ≤ a + 34; omega
      case h3 => (repeat' refine And.intro ?_ ?_) <;> first | assumption | rfl | trivial | omega | kernel_rfl
    · skip
      have g19 : (u 0 == 0) = false := by simp [q17]
      simp only [↓cond_to_ite, ↓reduceIte, vc, out, Entry.toO, toOf, St.res, step, stepE, stepPick, stepG, stepO, stepC, eff, look, rem, St.put, St.setMem, setMems, St.after, St.eval, cst, setAt, val1, okNew, newHs, allHs, rdOf, Reg.item, Reg.next, slotOf, effAlloc, loadI, effLoad, storeI, szOk, storeTo, effStore, effUn, effPick, subPre, argOf, resA, resV, argsPre, argOk, callWr, effCall, callGo, effAlloc2, effLoad2, effStore2, plainS, calleeHs, effLoad3, effStore3, cuX, cuArg, plainV, cuGo, callCu, callCo, effCall2, initC, eqPl, curIs, finC, wrHs, disj, AV.hs, A0.hs, Entry.hs, hA, initFr, initMem, resOf, resAll, shapeOk, comps, A0.norm, specOf, t_implTriple, Option.getD_some, Nat.reduceBEq, List.map_cons, List.map_nil, List.set_cons_zero, List.set_cons_succ, List.getElem?_cons_zero, List.getElem?_cons_succ, List.drop_zero, List.take_succ_cons, List.take_zero, Option.map_some, Option.bind_some, Nat.zero_add, Nat.add_zero, Nat.reduceAdd, true_and, and_true, List.replicate_succ, List.replicate_zero, List.length_cons, List.length_nil, List.all_cons, List.all_nil, Bool.and_true, Bool.or_false, Bool.not_true, Bool.not_false, List.append_nil, List.nil_append, List.cons_append, List.flatMap_cons, List.flatMap_nil, List.contains_cons, List.contains_nil, List.filter_cons, List.filter_nil, beq_self_eq_true, A0.s.injEq, List.cons.injEq, ble_dec, Nat.reduceLeDiff, decide_true, and_self, List.toList_toArray, Bool.false_eq_true, reduceIte, Try.f31, cTriple, fTriple, cCnGood, fCnGood, cOne, fOne, cCnMakeG, fCnMakeG, e2, g9, e11, g19]
      refine ⟨(dr3 ?_ ?_ ?_, a15, s16), ⟨?h1, ?h2⟩, ?h3⟩
      case h1 => show a ≤ a15; omega
      case h2 => show a15 ≤ a + 34; omega
      case h3 => (repeat' refine And.intro ?_ ?_) <;> first | assumption | rfl | trivial | omega | kernel_rfl
  · skip
    have g20 : triB (v 0) (v 1) (v 2) = false := by simp [q8]
    simp only [↓cond_to_ite, ↓reduceIte, vc, out, Entry.toO, toOf, St.res, step, stepE, stepPick, stepG, stepO, stepC, eff, look, rem, St.put, St.setMem, setMems, St.after, St.eval, cst, setAt, val1, okNew, newHs, allHs, rdOf, Reg.item, Reg.next, Reg.skip, slotOf, effAlloc, loadI, effLoad, storeI, szOk, storeTo, effStore, effPick, subPre, argOf, resA, resV, argsPre, argOk, callWr, effCall, callGo, effAlloc2, effLoad2, effStore2, plainS, calleeHs, effLoad3, effStore3, plainV, cuGo, callCu, callCo, effCall2, initC, eqPl, curIs, finC, wrHs, disj, AV.hs, A0.hs, Entry.hs, hA, initFr, initMem, resOf, resAll, shapeOk, comps, A0.norm, specOf, t_implTriple, Option.getD_some, Nat.reduceBEq, List.map_cons, List.map_nil, List.set_cons_zero, List.set_cons_succ, List.getElem?_cons_zero, List.getElem?_cons_succ, List.drop_zero, List.take_succ_cons, List.take_zero, Option.map_some, Option.bind_some, Nat.zero_add, Nat.add_zero, Nat.reduceAdd, true_and, and_true, List.replicate_succ, List.replicate_zero, List.length_cons, List.length_nil, List.all_cons, List.all_nil, Bool.and_true, Bool.or_false, Bool.not_true, Bool.not_false, List.append_nil, List.nil_append, List.cons_append, List.flatMap_cons, List.flatMap_nil, List.contains_cons, List.contains_nil, List.filter_cons, List.filter_nil, beq_self_eq_true, A0.s.injEq, List.cons.injEq, ble_dec, Nat.reduceLeDiff, decide_true, and_self, List.toList_toArray, Bool.false_eq_true, reduceIte, Try.f31, cTriple, fTriple, cCnGood, fCnGood, e2, g20]
    refine ⟨(dr3 ?_ ?_ ?_, a6, s7), ⟨?h1, ?h2⟩, ?h3⟩
    case h1 => show a ≤ a6; omega
    case h2 => show a6 ≤ a + 34; omega
    case h3 => (repeat' refine And.intro ?_ ?_) <;> first | assumption | rfl | trivial | omega | kernel_rfl
open Classical in
noncomputable def xNormT (l : List Int) (a s : Int)  : DR := if h : CurOk 34 l a ∧ (True) then Classical.choose (exNormT l a s  h.1 h.2) else (fun _ => 0, 0, 0)
theorem spNormT {l : List Int} {a s : Int}  (hk : CurOk 34 l a) (hp : True) : ((True) ∧ a ≤ (xNormT l a s).2.1 ∧ (xNormT l a s).2.1 ≤ a + 34) ∧ vc [hA 0] tab (specOf [(fTriple, cTriple), (fCnGood, cCnGood), (fOne, cOne), (fCnMakeG, cCnMakeG)]) (finC tab Try.f31.results.toList l (.one (.s [(xNormT l a s).1 0, (xNormT l a s).1 1, (xNormT l a s).1 2])) (xNormT l a s).2.1 (xNormT l a s).2.2) (lpN [hA 0] tab (specOf [(fTriple, cTriple), (fCnGood, cCnGood), (fOne, cOne), (fCnMakeG, cCnMakeG)]) (finC tab Try.f31.results.toList l (.one (.s [(xNormT l a s).1 0, (xNormT l a s).1 1, (xNormT l a s).1 2])) (xNormT l a s).2.1 (xNormT l a s).2.2) 0) 1000 [.code (Try.f31.body.getD .skip)] (initC l a s []) := by
  unfold xNormT
  rw [dif_pos ⟨hk, hp⟩]
  exact Classical.choose_spec (exNormT l a s  hk hp)
theorem atNormT {l : List Int} {a s : Int}  (hk : CurOk 34 l a) (hp : True) : ∃ v a1 s1, xNormT l a s = (v, a1, s1) ∧ (True) ∧ a ≤ a1 ∧ a1 ≤ a + 34 :=
  ⟨_, _, _, rfl, (spNormT hk hp).1⟩
noncomputable def cNormT : Ctr
  | .cur l a s :: [] => some ⟨CurOk 34 l a ∧ (True), .one (.s [(xNormT l a s).1 0, (xNormT l a s).1 1, (xNormT l a s).1 2]), [(0, some (.ints 0 [(xNormT l a s).2.1, (xNormT l a s).2.2]))]⟩
  | _ => none
theorem okNormT : CtrOk Try.prog fNormT cNormT := by
  have hsp : SpecOk Try.prog (specOf [(fTriple, cTriple), (fCnGood, cCnGood), (fOne, cOne), (fCnMakeG, cCnMakeG)]) := (SpecOk.cons okTriple (SpecOk.cons okCnGood (SpecOk.cons okOne (SpecOk.cons okCnMakeG SpecOk.nil))))
  refine ctr_cu Try.func31 (by kernel_rfl) fun args ce h => ?_
  unfold cNormT at h
  split at h
  case h_2 => cases h
  rename_i l a s 
  simp only [Option.some.injEq] at h
  subst h
  refine ⟨l, a, s, _, _, _, rfl, rfl, fun hpre => ?_⟩
  exact cu_of mixed tab_ok hsp Try.func31 (by kernel_rfl) (by kernel_rfl) (by rfl) 0 1000 (spNormT hpre.1 hpre.2).2 hpre

abbrev fSolved : Nat := 13
theorem exSolved (l : List Int) (a s : Int)  (hk : CurOk 56 l a) (hp : True) : ∃ x : DR, ((True) ∧ a ≤ x.2.1 ∧ x.2.1 ≤ a + 56) ∧ vc [hA 0] tab (specOf [(fNormT, cNormT), (fPick, cPick), (fOne, cOne), (fAmong, cAmong)]) (finC tab Try.f13.results.toList l (.tup [.s [x.1 0, x.1 1, x.1 2], .s [x.1 3, x.1 4, x.1 5]]) x.2.1 x.2.2) (lpN [hA 0] tab (specOf [(fNormT, cNormT), (fPick, cPick), (fOne, cOne), (fAmong, cAmong)]) (finC tab Try.f13.results.toList l (.tup [.s [x.1 0, x.1 1, x.1 2], .s [x.1 3, x.1 4, x.1 5]]) x.2.1 x.2.2) 0) 1000 [.code (Try.f13.body.getD .skip)] (initC l a s []) := by
  have hk1 : CurOk 34 l a := hk.step (by omega) (by omega)
  obtain ⟨t, a6, s7, e2, p3, b4, c5⟩ := atNormT (s := s)  hk1 trivial
  try simp only at p3
  have hk8 : CurOk 2 l a6 := hk.step (by omega) (by omega)
  obtain ⟨x, a13, s14, e9, p10, b11, c12⟩ := atPick (s := s7) (n := 20) hk8 trivial
  try simp only at p10
  have hk15 : CurOk 2 l a13 := hk.step (by omega) (by omega)
  obtain ⟨y, a20, s21, e16, p17, b18, c19⟩ := atPick (s := s14) (n := 20) hk15 trivial
  try simp only at p17
  have hk22 : CurOk 2 l a20 := hk.step (by omega) (by omega)
  obtain ⟨z, a27, s28, e23, p24, b25, c26⟩ := atPick (s := s21) (n := 20) hk22 trivial
  try simp only at p24
  have hk29 : CurOk 2 l a27 := hk.step (by omega) (by omega)
  obtain ⟨o, a34, s35, e30, p31, b32, c33⟩ := atOne (s := s28) (n := 8) hk29 trivial
  try simp only at p31
  by_cases q36 : o 0 = 0
  · skip
    have g37 : (o 0 == 0) = true := by simp [q36]
    have hk38 : CurOk 2 l a34 := hk.step (by omega) (by omega)
    obtain ⟨q, a43, s44, e39, p40, b41, c42⟩ := atPick (s := s35) (n := 10) hk38 trivial
    try simp only at p40
    by_cases q45 : q 0 = 0
    · have g46 : (q 0 == 0) = true := beq_iff_eq.2 q45
      have hk47 : CurOk 2 l a43 := hk.step (by omega) (by omega)
      obtain ⟨r, a52, s53, e48, p49, b50, c51⟩ := atAmong (s := s44) (e := 3) (L := [1, 1000000, -1000000, 1000]) hk47 (by decide)
      try simp only at p49
      simp only [↓cond_to_ite, ↓reduceIte, vc, out, Entry.toO, toOf, St.res, step, stepE, stepPick, stepO, stepC, eff, look, rem, St.put, St.setMem, setMems, St.after, St.eval, cst, setAt, val1, okNew, newHs, allHs, rdOf, outHs, Reg.item, Reg.next, effAlloc, entryRow, fieldOff, effField, loadI, effLoad, storeI, szOk, storeTo, effStore, buildOf, effBuild, binInt, effBin, effUn, ivs, rowOf, allParts, effBuildSlice, subPre, argOf, argsPre, RC.flat, effBuild2, effBuildSl, effAlloc2, effLoad2, effStore2, effBuild3, effField2, plainS, inHs, calleeHs, effField3, effLoad3, effStore3, effBin2, effBuild4, cuX, cuArg, plainV, cuGo, callCu, callCo, effCall2, initC, eqPl, curIs, finC, wrHs, disj, AV.hs, A0.hs, Entry.hs, RC.sz, hA, initFr, initMem, resOf, resAll, shapeOk, comps, A0.norm, specOf, t_int, t_implTriple, t_implSpot, ts_int, Option.getD_some, Nat.reduceBEq, List.map_cons, List.map_nil, List.set_cons_zero, List.set_cons_succ, List.getElem?_cons_zero, List.getElem?_cons_succ, List.drop_zero, List.take_succ_cons, List.take_zero, Option.map_some, Nat.zero_add, Nat.add_zero, Nat.reduceAdd, true_and, and_true, List.replicate_succ, List.replicate_zero, List.length_cons, List.length_nil, List.all_cons, List.all_nil, Bool.and_true, Bool.true_and, Bool.or_false, Bool.not_true, Bool.not_false, List.append_nil, List.nil_append, List.cons_append, List.flatMap_cons, List.flatMap_nil, List.contains_cons, List.contains_nil, List.filter_cons, List.filter_nil, beq_self_eq_true, A0.s.injEq, List.cons.injEq, ble_dec, blt_dec, Nat.reduceLeDiff, decide_true, and_self, List.toList_toArray, Bool.false_eq_true, reduceIte, Try.f13, cNormT, fNormT, cPick, fPick, cOne, fOne, cAmong, fAmong, e2, e9, e16, e23, e30, g37, e39, g46, e48]
      refine ⟨(dr6 ?_ ?_ ?_ ?_ ?_ ?_, a52, s53), ⟨?h1, ?h2⟩, ?h3⟩
      case h1 => show a ≤ a52; omega
      case h2 => show a52 ≤ a + 56; omega
      case h3 => (repeat' refine And.intro ?_ ?_) <;> first | assumption | rfl | trivial | omega | kernel_rfl
    · have g46 : (q 0 == 0) = false := beq_eq_false_iff_ne.2 q45
      by_cases q54 : q 0 = 1
      · have g55 : (q 0 == 1) = true := beq_iff_eq.2 q54
        simp only [↓cond_to_ite, ↓reduceIte, vc, out, Entry.toO, toOf, St.res, step, stepE, stepPick, stepO, stepC, eff, look, rem, St.put, St.setMem, setMems, St.after, St.eval, cst, setAt, val1, okNew, newHs, allHs, rdOf, outHs, Reg.item, Reg.next, effAlloc, loadI, effLoad, storeI, szOk, storeTo, effStore, buildOf, effBuild, binInt, effBin, effUn, subPre, argOf, argsPre, effBuild2, effAlloc2, effLoad2, effStore2, effBuild3, plainS, inHs, calleeHs, effLoad3, effStore3, effBin2, effBuild4, cuX, cuArg, plainV, cuGo, callCu, callCo, effCall2, initC, eqPl, curIs, finC, wrHs, disj, AV.hs, A0.hs, Entry.hs, hA, initFr, initMem, resOf, resAll, shapeOk, comps, A0.norm, specOf, t_implTriple, t_implSpot, Option.getD_some, Nat.reduceBEq, List.map_cons, List.map_nil, List.set_cons_zero, List.set_cons_succ, List.getElem?_cons_zero, List.getElem?_cons_succ, List.drop_zero, List.take_succ_cons, List.take_zero, Option.map_some, Nat.zero_add, Nat.add_zero, Nat.reduceAdd, true_and, and_true, List.replicate_succ, List.replicate_zero, List.length_cons, List.length_nil, List.all_cons, List.all_nil, Bool.and_true, Bool.true_and, Bool.or_false, Bool.not_true, Bool.not_false, List.append_nil, List.nil_append, List.cons_append, List.flatMap_cons, List.flatMap_nil, List.contains_cons, List.contains_nil, List.filter_cons, List.filter_nil, beq_self_eq_true, A0.s.injEq, List.cons.injEq, ble_dec, blt_dec, Nat.reduceLeDiff, decide_true, and_self, List.toList_toArray, Bool.false_eq_true, reduceIte, Try.f13, cNormT, fNormT, cPick, fPick, cOne, fOne, e2, e9, e16, e23, e30, g37, e39, g46, g55]
        refine ⟨(dr6 ?_ ?_ ?_ ?_ ?_ ?_, a43, s44), ⟨?h1, ?h2⟩, ?h3⟩
        case h1 => show a ≤ a43; omega
        case h2 => show a43 ≤ a + 56; omega
        case h3 => (repeat' refine And.intro ?_ ?_) <;> first | assumption | rfl | trivial | omega | kernel_rfl
      · have g55 : (q 0 == 1) = false := beq_eq_false_iff_ne.2 q54
        by_cases q56 : q 0 = 2
        · have g57 : (q 0 == 2) = true := beq_iff_eq.2 q56
          simp only [↓cond_to_ite, ↓reduceIte, vc, out, Entry.toO, toOf, St.res, step, stepE, stepPick, stepO, stepC, eff, look, rem, St.put, St.setMem, setMems, St.after, St.eval, cst, setAt, val1, okNew, newHs, allHs, rdOf, outHs, Reg.item, Reg.next, effAlloc, fieldOff, effField, loadI, effLoad, storeI, szOk, storeTo, effStore, buildOf, effBuild, binInt, effBin, effUn, subPre, argOf, argsPre, effBuild2, effAlloc2, effLoad2, effStore2, effBuild3, effField2, plainS, inHs, calleeHs, effField3, effLoad3, effStore3, effBin2, effBuild4, cuX, cuArg, plainV, cuGo, callCu, callCo, effCall2, initC, eqPl, curIs, finC, wrHs, disj, AV.hs, A0.hs, Entry.hs, hA, initFr, initMem, resOf, resAll, shapeOk, comps, A0.norm, specOf, t_int, t_implTriple, t_implSpot, Option.getD_some, Nat.reduceBEq, List.map_cons, List.map_nil, List.set_cons_zero, List.set_cons_succ, List.getElem?_cons_zero, List.getElem?_cons_succ, List.drop_zero, List.take_succ_cons, List.take_zero, Option.map_some, Nat.zero_add, Nat.add_zero, Nat.reduceAdd, true_and, and_true, List.replicate_succ, List.replicate_zero, List.length_cons, List.length_nil, List.all_cons, List.all_nil, Bool.and_true, Bool.true_and, Bool.or_false, Bool.not_true, Bool.not_false, List.append_nil, List.nil_append, List.cons_append, List.flatMap_cons, List.flatMap_nil, List.contains_cons, List.contains_nil, List.filter_cons, List.filter_nil, beq_self_eq_true, A0.s.injEq, List.cons.injEq, ble_dec, blt_dec, Nat.reduceLeDiff, decide_true, and_self, List.toList_toArray, Bool.false_eq_true, reduceIte, Try.f13, cNormT, fNormT, cPick, fPick, cOne, fOne, e2, e9, e16, e23, e30, g37, e39, g46, g55, g57]
          refine ⟨(dr6 ?_ ?_ ?_ ?_ ?_ ?_, a43, s44), ⟨?h1, ?h2⟩, ?h3⟩
          case h1 => show a ≤ a43; omega
          case h2 => show a43 ≤ a + 56; omega
          case h3 => (repeat' refine And.intro ?_ ?_) <;> first | assumption | rfl | trivial | omega | kernel_rfl
        · have g57 : (q 0 == 2) = false := beq_eq_false_iff_ne.2 q56
          simp only [↓cond_to_ite, ↓reduceIte, vc, out, Entry.toO, toOf, St.res, step, stepE, stepPick, stepO, stepC, eff, look, rem, St.put, St.setMem, setMems, St.after, St.eval, cst, setAt, val1, okNew, newHs, allHs, rdOf, outHs, Reg.item, Reg.next, effAlloc, loadI, effLoad, storeI, szOk, storeTo, effStore, buildOf, effBuild, binInt, effBin, effUn, subPre, argOf, argsPre, effBuild2, effAlloc2, effLoad2, effStore2, effBuild3, plainS, inHs, calleeHs, effLoad3, effStore3, effBin2, effBuild4, cuX, cuArg, plainV, cuGo, callCu, callCo, effCall2, initC, eqPl, curIs, finC, wrHs, disj, AV.hs, A0.hs, Entry.hs, hA, initFr, initMem, resOf, resAll, shapeOk, comps, A0.norm, specOf, t_implTriple, t_implSpot, Option.getD_some, Nat.reduceBEq, List.map_cons, List.map_nil, List.set_cons_zero, List.set_cons_succ, List.getElem?_cons_zero, List.getElem?_cons_succ, List.drop_zero, List.take_succ_cons, List.take_zero, Option.map_some, Nat.zero_add, Nat.add_zero, Nat.reduceAdd, true_and, and_true, List.replicate_succ, List.replicate_zero, List.length_cons, List.length_nil, List.all_cons, List.all_nil, Bool.and_true, Bool.true_and, Bool.or_false, Bool.not_true, Bool.not_false, List.append_nil, List.nil_append, List.cons_append, List.flatMap_cons, List.flatMap_nil, List.contains_cons, List.contains_nil, List.filter_cons, List.filter_nil, beq_self_eq_true, A0.s.injEq, List.cons.injEq, ble_dec, blt_dec, Nat.reduceLeDiff, decide_true, and_self, List.toList_toArray, Bool.false_eq_true, reduceIte, Try.f13, cNormT, fNormT, cPick, fPick, cOne, fOne, e2, e9, e16, e23, e30, g37, e39, g46, g55, g57]
          refine ⟨(dr6 ?_ ?_ ?_ ?_ ?_ ?_, a43, s44), ⟨?h1, ?h2⟩, ?h3⟩
          case h1 => show a ≤ a43; omega
          case h2 => show a43 ≤ a + 56; omega
          case h3 => (repeat' refine And.intro ?_ ?_) <;> first | assumption | rfl | trivial | omega | kernel_rfl
  · skip
    have g58 : (o 0 == 0) = false := by simp [q36]
    have hk59 : CurOk 2 l a34 := hk.step (by omega) (by omega)
    obtain ⟨i, a64, s65, e60, p61, b62, c63⟩ := atPick (s := s35) (n := 15) hk59 trivial
    try simp only at p61
    have hk66 : CurOk 2 l a64 := hk.step (by omega) (by omega)
    obtain ⟨j, a71, s72, e67, p68, b69, c70⟩ := atPick (s := s65) (n := 2) hk66 trivial
    try simp only at p68
    have hk73 : CurOk 2 l a71 := hk.step (by omega) (by omega)
    obtain ⟨k, a78, s79, e74, p75, b76, c77⟩ := atPick (s := s72) (n := 8) hk73 trivial
    try simp only at p75
    have hk80 : CurOk 2 l a78 := hk.step (by omega) (by omega)
    obtain ⟨m, a85, s86, e81, p82, b83, c84⟩ := atPick (s := s79) (n := 6) hk80 trivial
    try simp only at p82
    have hk87 : CurOk 2 l a85 := hk.step (by omega) (by omega)
    obtain ⟨n, a92, s93, e88, p89, b90, c91⟩ := atPick (s := s86) (n := 6) hk87 trivial
    try simp only at p89
    have hk94 : CurOk 2 l a92 := hk.step (by omega) (by omega)
    obtain ⟨q, a99, s100, e95, p96, b97, c98⟩ := atPick (s := s93) (n := 10) hk94 trivial
    try simp only at p96
    by_cases q101 : q 0 = 0
    · have g102 : (q 0 == 0) = true := beq_iff_eq.2 q101
      have hk103 : CurOk 2 l a99 := hk.step (by omega) (by omega)
      obtain ⟨r, a108, s109, e104, p105, b106, c107⟩ := atAmong (s := s100) (e := 3) (L := [1, 1000000, -1000000, 1000]) hk103 (by decide)
      try simp only at p105
      simp only [↓cond_to_ite, ↓reduceIte, vc, out, Entry.toO, toOf, St.res, step, stepE, stepPick, stepO, stepC, eff, look, rem, St.put, St.setMem, setMems, St.after, St.eval, cst, setAt, val1, okNew, newHs, allHs, rdOf, outHs, Reg.item, Reg.next, effAlloc, entryRow, fieldOff, effField, loadI, effLoad, storeI, szOk, storeTo, effStore, buildOf, effBuild, binInt, effBin, effUn, ivs, rowOf, allParts, effBuildSlice, subPre, argOf, argsPre, RC.flat, effBuild2, effBuildSl, effAlloc2, effLoad2, effStore2, effBuild3, effField2, plainS, inHs, calleeHs, effField3, effLoad3, effStore3, effBin2, effBuild4, cuX, cuArg, plainV, cuGo, callCu, callCo, effCall2, initC, eqPl, curIs, finC, wrHs, disj, AV.hs, A0.hs, Entry.hs, RC.sz, hA, initFr, initMem, resOf, resAll, shapeOk, comps, A0.norm, specOf, t_int, t_implTriple, t_implSpot, ts_int, Option.getD_some, Nat.reduceBEq, List.map_cons, List.map_nil, List.set_cons_zero, List.set_cons_succ, List.getElem?_cons_zero, List.getElem?_cons_succ, List.drop_zero, List.take_succ_cons, List.take_zero, Option.map_some, Nat.zero_add, Nat.add_zero, Nat.reduceAdd, true_and, and_true, List.replicate_succ, List.replicate_zero, List.length_cons, List.length_nil, List.all_cons, List.all_nil, Bool.and_true, Bool.true_and, Bool.or_false, Bool.not_true, Bool.not_false, List.append_nil, List.nil_append, List.cons_append, List.flatMap_cons, List.flatMap_nil, List.contains_cons, List.contains_nil, List.filter_cons, List.filter_nil, beq_self_eq_true, A0.s.injEq, List.cons.injEq, ble_dec, blt_dec, Nat.reduceLeDiff, decide_true, and_self, List.toList_toArray, Bool.false_eq_true, reduceIte, Try.f13, cNormT, fNormT, cPick, fPick, cOne, fOne, cAmong, fAmong, e2, e9, e16, e23, e30, g58, e60, e67, e74, e81, e88, e95, g102, e104]
      refine ⟨(dr6 ?_ ?_ ?_ ?_ ?_ ?_, a108, s109), ⟨?h1, ?h2⟩, ?h3⟩
      case h1 => show a ≤ a108; omega
      case h2 => show a108 ≤ a + 56; omega
      case h3 => (repeat' refine And.intro ?_ ?_) <;> first | assumption | rfl | trivial | omega | kernel_rfl
    · have g102 : (q 0 == 0) = false := beq_eq_false_iff_ne.2 q101
      by_cases q110 : q 0 = 1
      · have g111 : (q 0 == 1) = true := beq_iff_eq.2 q110
        simp only [↓cond_to_ite, ↓reduceIte, vc, out, Entry.toO, toOf, St.res, step, stepE, stepPick, stepO, stepC, eff, look, rem, St.put, St.setMem, setMems, St.after, St.eval, cst, setAt, val1, okNew, newHs, allHs, rdOf, outHs, Reg.item, Reg.next, effAlloc, fieldOff, effField, loadI, effLoad, storeI, szOk, storeTo, effStore, buildOf, effBuild, binInt, effBin, effUn, subPre, argOf, argsPre, effBuild2, effAlloc2, effLoad2, effStore2, effBuild3, effField2, plainS, inHs, calleeHs, effField3, effLoad3, effStore3, effBin2, effBuild4, cuX, cuArg, plainV, cuGo, callCu, callCo, effCall2, initC, eqPl, curIs, finC, wrHs, disj, AV.hs, A0.hs, Entry.hs, hA, initFr, initMem, resOf, resAll, shapeOk, comps, A0.norm, specOf, t_int, t_implTriple, t_implSpot, Option.getD_some, Nat.reduceBEq, List.map_cons, List.map_nil, List.set_cons_zero, List.set_cons_succ, List.getElem?_cons_zero, List.getElem?_cons_succ, List.drop_zero, List.take_succ_cons, List.take_zero, Option.map_some, Nat.zero_add, Nat.add_zero, Nat.reduceAdd, true_and, and_true, List.replicate_succ, List.replicate_zero, List.length_cons, List.length_nil, List.all_cons, List.all_nil, Bool.and_true, Bool.true_and, Bool.or_false, Bool.not_true, Bool.not_false, List.append_nil, List.nil_append, List.cons_append, List.flatMap_cons, List.flatMap_nil, List.contains_cons, List.contains_nil, List.filter_cons, List.filter_nil, beq_self_eq_true, A0.s.injEq, List.cons.injEq, ble_dec, blt_dec, Nat.reduceLeDiff, decide_true, and_self, List.toList_toArray, Bool.false_eq_true, reduceIte, Try.f13, cNormT, fNormT, cPick, fPick, cOne, fOne, e2, e9, e16, e23, e30, g58, e60, e67, e74, e81, e88, e95, g102, g111]
        refine ⟨(dr6 ?_ ?_ ?_ ?_ ?_ ?_, a99, s100), ⟨?h1, ?h2⟩, ?h3⟩
        case h1 => show a ≤ a99; omega
        case h2 => show a99 ≤ a + 56; omega
        case h3 => (repeat' refine And.intro ?_ ?_) <;> first | assumption | rfl | trivial | omega | kernel_rfl
      · have g111 : (q 0 == 1) = false := beq_eq_false_iff_ne.2 q110
        by_cases q112 : q 0 = 2
        · have g113 : (q 0 == 2) = true := beq_iff_eq.2 q112
          simp only [↓cond_to_ite, ↓reduceIte, vc, out, Entry.toO, toOf, St.res, step, stepE, stepPick, stepO, stepC, eff, look, rem, St.put, St.setMem, setMems, St.after, St.eval, cst, setAt, val1, okNew, newHs, allHs, rdOf, outHs, Reg.item, Reg.next, effAlloc, fieldOff, effField, loadI, effLoad, storeI, szOk, storeTo, effStore, buildOf, effBuild, binInt, effBin, effUn, subPre, argOf, argsPre, effBuild2, effAlloc2, effLoad2, effStore2, effBuild3, effField2, plainS, inHs, calleeHs, effField3, effLoad3, effStore3, effBin2, effBuild4, cuX, cuArg, plainV, cuGo, callCu, callCo, effCall2, initC, eqPl, curIs, finC, wrHs, disj, AV.hs, A0.hs, Entry.hs, hA, initFr, initMem, resOf, resAll, shapeOk, comps, A0.norm, specOf, t_int, t_implTriple, t_implSpot, Option.getD_some, Nat.reduceBEq, List.map_cons, List.map_nil, List.set_cons_zero, List.set_cons_succ, List.getElem?_cons_zero, List.getElem?_cons_succ, List.drop_zero, List.take_succ_cons, List.take_zero, Option.map_some, Nat.zero_add, Nat.add_zero, Nat.reduceAdd, true_and, and_true, List.replicate_succ, List.replicate_zero, List.length_cons, List.length_nil, List.all_cons, List.all_nil, Bool.and_true, Bool.true_and, Bool.or_false, Bool.not_true, Bool.not_false, List.append_nil, List.nil_append, List.cons_append, List.flatMap_cons, List.flatMap_nil, List.contains_cons, List.contains_nil, List.filter_cons, List.filter_nil, beq_self_eq_true, A0.s.injEq, List.cons.injEq, ble_dec, blt_dec, Nat.reduceLeDiff, decide_true, and_self, List.toList_toArray, Bool.false_eq_true, reduceIte, Try.f13, cNormT, fNormT, cPick, fPick, cOne, fOne, e2, e9, e16, e23, e30, g58, e60, e67, e74, e81, e88, e95, g102, g111, g113]
          refine ⟨(dr6 ?_ ?_ ?_ ?_ ?_ ?_, a99, s100), ⟨?h1, ?h2⟩, ?h3⟩
          case h1 => show a ≤ a99; omega
          case h2 => show a99 ≤ a + 56; omega
          case h3 => (repeat' refine And.intro ?_ ?_) <;> first | assumption | rfl | trivial | omega | kernel_rfl
        · have g113 : (q 0 == 2) = false := beq_eq_false_iff_ne.2 q112
          simp only [↓cond_to_ite, ↓reduceIte, vc, out, Entry.toO, toOf, St.res, step, stepE, stepPick, stepO, stepC, eff, look, rem, St.put, St.setMem, setMems, St.after, St.eval, cst, setAt, val1, okNew, newHs, allHs, rdOf, outHs, Reg.item, Reg.next, effAlloc, fieldOff, effField, loadI, effLoad, storeI, szOk, storeTo, effStore, buildOf, effBuild, binInt, effBin, effUn, subPre, argOf, argsPre, effBuild2, effAlloc2, effLoad2, effStore2, effBuild3, effField2, plainS, inHs, calleeHs, effField3, effLoad3, effStore3, effBin2, effBuild4, cuX, cuArg, plainV, cuGo, callCu, callCo, effCall2, initC, eqPl, curIs, finC, wrHs, disj, AV.hs, A0.hs, Entry.hs, hA, initFr, initMem, resOf, resAll, shapeOk, comps, A0.norm, specOf, t_int, t_implTriple, t_implSpot, Option.getD_some, Nat.reduceBEq, List.map_cons, List.map_nil, List.set_cons_zero, List.set_cons_succ, List.getElem?_cons_zero, List.getElem?_cons_succ, List.drop_zero, List.take_succ_cons, List.take_zero, Option.map_some, Nat.zero_add, Nat.add_zero, Nat.reduceAdd, true_and, and_true, List.replicate_succ, List.replicate_zero, List.length_cons, List.length_nil, List.all_cons, List.all_nil, Bool.and_true, Bool.true_and, Bool.or_false, Bool.not_true, Bool.not_false, List.append_nil, List.nil_append, List.cons_append, List.flatMap_cons, List.flatMap_nil, List.contains_cons, List.contains_nil, List.filter_cons, List.filter_nil, beq_self_eq_true, A0.s.injEq, List.cons.injEq, ble_dec, blt_dec, Nat.reduceLeDiff, decide_true, and_self, List.toList_toArray, Bool.false_eq_true, reduceIte, Try.f13, cNormT, fNormT, cPick, fPick, cOne, fOne, e2, e9, e16, e23, e30, g58, e60, e67, e74, e81, e88, e95, g102, g111, g113]
          refine ⟨(dr6 ?_ ?_ ?_ ?_ ?_ ?_, a99, s100), ⟨?h1, ?h2⟩, ?h3⟩
          case h1 => show a ≤ a99; omega
          case h2 => show a99 ≤ a + 56; omega
          case h3 => (repeat' refine And.intro ?_ ?_) <;> first | assumption | rfl | trivial | omega | kernel_rfl
open Classical in
noncomputable def xSolved (l : List Int) (a s : Int)  : DR := if h : CurOk 56 l a ∧ (True) then Classical.choose (exSolved l a s  h.1 h.2) else (fun _ => 0, 0, 0)
theorem spSolved {l : List Int} {a s : Int}  (hk : CurOk 56 l a) (hp : True) : ((True) ∧ a ≤ (xSolved l a s).2.1 ∧ (xSolved l a s).2.1 ≤ a + 56) ∧ vc [hA 0] tab (specOf [(fNormT, cNormT), (fPick, cPick), (fOne, cOne), (fAmong, cAmong)]) (finC tab Try.f13.results.toList l (.tup [.s [(xSolved l a s).1 0, (xSolved l a s).1 1, (xSolved l a s).1 2], .s [(xSolved l a s).1 3, (xSolved l a s).1 4, (xSolved l a s).1 5]]) (xSolved l a s).2.1 (xSolved l a s).2.2) (lpN [hA 0] tab (specOf [(fNormT, cNormT), (fPick, cPick), (fOne, cOne), (fAmong, cAmong)]) (finC tab Try.f13.results.toList l (.tup [.s [(xSolved l a s).1 0, (xSolved l a s).1 1, (xSolved l a s).1 2], .s [(xSolved l a s).1 3, (xSolved l a s).1 4, (xSolved l a s).1 5]]) (xSolved l a s).2.1 (xSolved l a s).2.2) 0) 1000 [.code (Try.f13.body.getD .skip)] (initC l a s []) := by
  unfold xSolved
  rw [dif_pos ⟨hk, hp⟩]
  exact Classical.choose_spec (exSolved l a s  hk hp)
theorem atSolved {l : List Int} {a s : Int}  (hk : CurOk 56 l a) (hp : True) : ∃ v a1 s1, xSolved l a s = (v, a1, s1) ∧ (True) ∧ a ≤ a1 ∧ a1 ≤ a + 56 :=
  ⟨_, _, _, rfl, (spSolved hk hp).1⟩
noncomputable def cSolved : Ctr
  | .cur l a s :: [] => some ⟨CurOk 56 l a ∧ (True), .tup [.s [(xSolved l a s).1 0, (xSolved l a s).1 1, (xSolved l a s).1 2], .s [(xSolved l a s).1 3, (xSolved l a s).1 4, (xSolved l a s).1 5]], [(0, some (.ints 0 [(xSolved l a s).2.1, (xSolved l a s).2.2]))]⟩
  | _ => none
theorem okSolved : CtrOk Try.prog fSolved cSolved := by
  have hsp : SpecOk Try.prog (specOf [(fNormT, cNormT), (fPick, cPick), (fOne, cOne), (fAmong, cAmong)]) := (SpecOk.cons okNormT (SpecOk.cons okPick (SpecOk.cons okOne (SpecOk.cons okAmong SpecOk.nil))))
  refine ctr_cu Try.func13 (by kernel_rfl) fun args ce h => ?_
  unfold cSolved at h
  split at h
  case h_2 => cases h
  rename_i l a s 
  simp only [Option.some.injEq] at h
  subst h
  refine ⟨l, a, s, _, _, _, rfl, rfl, fun hpre => ?_⟩
  exact cu_of mixed tab_ok hsp Try.func13 (by kernel_rfl) (by kernel_rfl) (by rfl) 0 1000 (spSolved hpre.1 hpre.2).2 hpre

theorem cur_start {l : List Int} (h : ∀ x ∈ l, 0 ≤ x ∧ x < 256) {K : Int} (hK : K ≤ 1000000000000) : CurOk K l 0 := ⟨h, Int.le_refl _, by omega⟩

end Go.Proofs.Ytacomnelongbjaa

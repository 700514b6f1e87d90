/-
  The contract of the law of Cornacchia. Conditions: none.
-/
import Derived.Test.YtacomnelongbjabCjo
import Derived.Test.YtacomnelongbjabCps
import Derived.Test.YtacomnelongbjabCdr
import Derived.Test.YtacomnelongbjabGea
import Derived.Test.YtacomnelongbjabCut
namespace Go.Proofs.Ytacomnelongbjab
open Go Go.RowKit
set_option maxRecDepth 100000
set_option linter.unusedSimpArgs false
set_option linter.unusedVariables false
set_option maxHeartbeats 4000000

abbrev fBig0 : Nat := 4
def cBig0 : Ctr
  | [.byt b, .byt m] => some ⟨True, .one (.b (decide ((b.length : Int) > 1048576) || decide ((m.length : Int) > wrap64 (1048576 - (b.length : Int))))), []⟩
  | _ => none
theorem okBig0 : CtrOk Try.prog fBig0 cBig0 := by
  have hsp : SpecOk Try.prog (specOf []) := SpecOk.nil
  refine ctr_of (fn := Try.f4) mixed tab_ok hsp Try.func4 (by kernel_rfl) (by kernel_rfl) fun args ce h => ?_
  clear hsp
  unfold cBig0 at h
  split at h
  case h_2 => cases h
  rename_i b m
  simp only [Option.some.injEq] at h
  subst h
  refine ⟨by rfl, fun hp => ⟨0, 1000, ?_⟩⟩
  simp only [vc, out, finD, St.drop, vwAt, Entry.vwO, Entry.toO, toOf, St.res, step, stepE, stepPick, stepG, stepO, eff, look, rem, St.put, setMems, St.after, St.eval, cst, val1, okNew, Reg.item, Reg.next, Reg.skip, slotOf, binInt, effBin, effPick, elemSz, lenOf, nodupB, argOk, lenOf2, effBin2, disj, hA, initFr, initMem, initSt, resOf, resAll, compEq, compsEq, rowHs, outHds, outsEq, shapeOk, finOk, comps, A0.norm, t_int, t_u8, ts_u8, Option.getD_some, cond_true, cond_false, Nat.reduceBEq, List.getElem?_cons_zero, List.getElem?_cons_succ, Option.map_some, Option.bind_some, Nat.zero_add, Nat.add_zero, Nat.reduceAdd, true_and, and_true, List.length_cons, List.length_nil, List.all_nil, Bool.and_true, Bool.not_false, List.contains_nil, beq_self_eq_true, A0.b.injEq, List.toList_toArray, Option.isSome_some, Try.f4]
  cases decide ((b.length : Int) > 1048576) <;> rfl
/-- what a found pair is -/
theorem cor_val {n p : Int} (h : coB n p = true) : (facB n = true ∧ shPrimeB p = true) ∧ 0 ≤ coX n p ∧ 0 ≤ coY n p ∧ wrap64 (wrap64 (coX n p * coX n p) + wrap64 (wrap64 (n * coY n p) * coY n p)) = p := by
  obtain ⟨⟨x, y⟩, hR⟩ : ∃ q, coR n p = some q := by
    unfold coB at h
    exact Option.isSome_iff_exists.1 h
  obtain ⟨eX, eY, -⟩ := co_yes hR
  have hc : cB n p = true := by
    cases hc : cB n p with
    | true => rfl
    | false => unfold coR at hR; rw [hc] at hR; cases hR
  have hcr : crL n p 0 = some (x, y) := by unfold coR at hR; rw [hc] at hR; exact hR
  unfold cB at hc
  rw [Bool.and_eq_true] at hc
  have hn := facB_in hc.1
  have hp := shPrime_in hc.2
  obtain ⟨x0, y0, e, -⟩ := crL_some (by omega) 0 hcr
  rw [eX, eY]
  have h1 : 0 ≤ n * y * y := Int.mul_nonneg (Int.mul_nonneg (by omega) y0) y0
  have h2 := sq_nn x
  have hy := y_100 y0 (y_le hn.1 y0 (show n * y * y ≤ p by omega)).2 hp.2
  obtain ⟨v1, v2, v3⟩ := nyy hn ⟨y0, by omega⟩
  refine ⟨hc, x0, y0, ?_⟩
  rw [v1, wrap_id (n := x * x) (by omega) (by omega), wrap_id (by omega) (by omega), e]
theorem sc_len (n p : Int) : (scL n p).length ≤ 100000 := by
  cases hR : scR n p with
  | none => rw [(sc_no hR).1]; simp
  | some r =>
    rw [(sc_yes hR).1, List.length_cons]
    have h1 := euL_len p p r
    have hc : scC n p = true := by
      cases hc : scC n p with
      | true => rfl
      | false => unfold scR at hR; rw [hc] at hR; cases hR
    have hr : rtS n p (p / 2 + 1) = some r := by unfold scR at hR; rw [hc] at hR; exact hR
    have h2 := rtS_some _ hr
    unfold scC at hc
    simp only [Bool.and_eq_true] at hc
    have := shPrime_in hc.2.1
    omega
theorem rsO_len (n : Int) : (rsO n).length ≤ 100000 := by
  unfold rsO
  cases h : facB n with
  | false => simp [onL]
  | true =>
    have := facB_in h
    have h2 := rsL_len n.toNat (4 * n.toNat)
    show (rsL n.toNat (4 * n.toNat)).length ≤ 100000
    omega
theorem ppO_len (n m : Int) : (ppO n m).length ≤ 100000 := by
  cases h : ppC n m with
  | false => rw [ppO_no h]; simp
  | true =>
    rw [ppO_yes h]
    unfold ppC at h
    rw [Bool.and_eq_true] at h
    have := inI_1 h.2
    have h2 := prR_len n m 0
    omega
/-! ### the ways, one factor after the other -/
def lsI : Int → List Int → Int
  | q, [] => q
  | _, x :: l => lsI x l
theorem wL_snoc (x : Int) : ∀ (l : List Int) (q : Int) (w : Nat), wL q w (l ++ [x]) = if lsI q l = 0 ∨ lsI q l = x then wL q w l else 2 * wL q w l
  | [], q, w => by
    show wL x (if q = 0 ∨ q = x then w else 2 * w) [] = if q = 0 ∨ q = x then w else 2 * w
    rfl
  | y :: l, q, w => wL_snoc x l y _
theorem lsI_snoc (x : Int) : ∀ (l : List Int) (q : Int), lsI q (l ++ [x]) = x
  | [], _ => rfl
  | y :: l, _ => lsI_snoc x l y
theorem wL_le : ∀ (l : List Int) (q : Int) (w : Nat), wL q w l ≤ w * 2 ^ l.length
  | [], _, w => by simp [wL]
  | x :: l, q, w => by
    have h := wL_le l x (if q = 0 ∨ q = x then w else 2 * w)
    show wL x _ l ≤ _
    rw [List.length_cons, Nat.pow_succ]
    have h2 : (if q = 0 ∨ q = x then w else 2 * w) * 2 ^ l.length ≤ 2 * w * 2 ^ l.length := Nat.mul_le_mul_right _ (by split <;> omega)
    have h3 : 2 * w * 2 ^ l.length = w * (2 ^ l.length * 2) := by grind
    omega
/-- one factor more -/
theorem wL_take {l : List Int} {i : Nat} (hl : ∀ x ∈ l, 2 ≤ x) (hi : i < l.length) : wL 0 1 (l.take (i + 1)) = if i = 0 ∨ l.getD (i - 1) 0 = l.getD i 0 then wL 0 1 (l.take i) else 2 * wL 0 1 (l.take i) := by
  have e : l.take (i + 1) = l.take i ++ [l.getD i 0] := by rw [List.take_add_one]; simp [List.getD_eq_getElem?_getD, hi]
  rw [e, wL_snoc]
  cases i with
  | zero => simp [lsI]
  | succ i =>
    have e2 : l.take (i + 1) = l.take i ++ [l.getD i 0] := by rw [List.take_add_one]; simp [List.getD_eq_getElem?_getD, show i < l.length by omega]
    have e3 : lsI 0 (l.take (i + 1)) = l.getD i 0 := by rw [e2, lsI_snoc]
    have h2 : 2 ≤ l.getD i 0 := hl _ (by simp [List.getD_eq_getElem?_getD, show i < l.length by omega])
    rw [e3]
    have e4 : i + 1 - 1 = i := rfl
    rw [e4]
    by_cases c : l.getD i 0 = l.getD (i + 1) 0
    · rw [if_pos (Or.inr c), if_pos (Or.inr c)]
    · rw [if_neg (by omega), if_neg (by omega)]
theorem fc_two {m : Nat} (h1 : 1 ≤ m) (h2 : m ≤ 10000) : (∀ x ∈ fcL (m : Int), 2 ≤ x) ∧ 2 ^ (fcL (m : Int)).length ≤ 10000 := by
  have h := fc_all (n := (m : Int)) (by omega) (by omega)
  refine ⟨fun x hx => (h.el x hx).1, ?_⟩
  have hp := h.pow
  have e : ((2 ^ (fcL (m : Int)).length : Nat) : Int) = (2 : Int) ^ (fcL (m : Int)).length := by simp
  omega
theorem wy_step {f : List Int} {i : Nat} (fc2 : ∀ x ∈ f, 2 ≤ x) (fcp : 2 ^ f.length ≤ 10000) (hi : i < f.length) :
    decide ((i : Int) < (f.length : Int)) = true ∧ wrap64 ((i : Int) + 1) = ((i + 1 : Nat) : Int) ∧ (0 ≤ (i : Int) ∧ (i : Int) < (f.length : Int)) ∧
    ((decide ((i : Int) > 0) = false ∧ wL 0 1 (f.take (i + 1)) = wL 0 1 (f.take i)) ∨
     (∃ x y, decide ((i : Int) > 0) = true ∧ wrap64 ((i : Int) - 1) = ((i - 1 : Nat) : Int) ∧ f.getD i 0 = x ∧ f.getD (i - 1) 0 = y ∧ (0 ≤ ((i - 1 : Nat) : Int) ∧ ((i - 1 : Nat) : Int) < (f.length : Int)) ∧ i - 1 < f.length ∧
       (((x != y) = false ∧ wL 0 1 (f.take (i + 1)) = wL 0 1 (f.take i)) ∨ ((x != y) = true ∧ wrap64 (((wL 0 1 (f.take i) : Nat) : Int) * 2) = ((wL 0 1 (f.take (i + 1)) : Nat) : Int))))) := by
  have hfl : f.length ≤ 100000 := by
    have := Nat.lt_two_pow_self (n := f.length)
    omega
  have hwb : wL 0 1 (f.take i) ≤ 10000 := by
    have h1 := wL_le (f.take i) 0 1
    have h2 : 2 ^ (f.take i).length ≤ 2 ^ f.length := Nat.pow_le_pow_right (by decide) (by rw [List.length_take]; exact Nat.min_le_right ..)
    rw [Nat.one_mul] at h1
    exact Nat.le_trans h1 (Nat.le_trans h2 fcp)
  have htk := wL_take fc2 hi
  refine ⟨decide_eq_true (Int.ofNat_lt.2 hi), wsucc hi (by omega), ⟨Int.natCast_nonneg i, Int.ofNat_lt.2 hi⟩, ?_⟩
  by_cases i0 : i = 0
  · rw [if_pos (Or.inl i0)] at htk
    exact Or.inl ⟨decide_eq_false (by omega), htk⟩
  · refine Or.inr ⟨_, _, decide_eq_true (by omega), by rw [wrap_id (by omega) (by omega)]; omega, rfl, rfl, ⟨Int.natCast_nonneg _, Int.ofNat_lt.2 (by omega)⟩, by omega, ?_⟩
    by_cases c : f.getD (i - 1) 0 = f.getD i 0
    · rw [if_pos (Or.inr c)] at htk
      exact Or.inl ⟨by rw [c]; exact bne_self_eq_false _, htk⟩
    · rw [if_neg (by intro h; rcases h with h | h; exact i0 h; exact c h)] at htk
      refine Or.inr ⟨bne_iff_ne.2 (Ne.symm c), ?_⟩
      rw [htk, wrap_id (by omega) (by omega)]
      omega
theorem wy_end {k n W : Nat} (hw : n = if k = 1 then 2 * W else W) (hW : W ≤ 10000) : (((k : Int) == 1) = true ∧ wrap64 ((W : Int) * 2) = (n : Int)) ∨ (((k : Int) == 1) = false ∧ ((n : Int) != (W : Int)) = false) := by
  by_cases c : k = 1
  · rw [if_pos c] at hw
    exact Or.inl ⟨beq_iff_eq.2 (by omega), by rw [wrap_id (by omega) (by omega)]; omega⟩
  · rw [if_neg c] at hw
    exact Or.inr ⟨beq_eq_false_iff_ne.2 (by omega), by rw [hw]; exact bne_self_eq_false _⟩
theorem wy_all {f : List Int} (fcp : 2 ^ f.length ≤ 10000) : wL 0 1 f ≤ 10000 := by
  have h1 := wL_le f 0 1
  rw [Nat.one_mul] at h1
  exact Nat.le_trans h1 fcp
abbrev fLawCorn : Nat := 3
def cLawCorn : Ctr
  | [.byt b, .byt m] => some ⟨(∀ x ∈ b, 0 ≤ x ∧ x < 256) ∧ ∀ x ∈ m, 0 ≤ x ∧ x < 256, .one (.b true), []⟩
  | _ => none
theorem okLawCorn : CtrOk Try.prog fLawCorn cLawCorn := by
  have hsp : SpecOk Try.prog (specOf [(fBig0, cBig0), (fDrawCo, cDrawCo), (fCorn, cCorn), (fSCorn, cSCorn), (fSteps, cSteps), (fIsIdoneal, cIsIdoneal), (fPrincRes, cPrincRes), (fIsPrimeF, cIsPrimeF), (fPIn, cPIn), (fDrawPP, cDrawPP), (fProperP, cProperP), (fSProperP, cSProperP), (fPSameP, cPSameP), (fGreatD, cGreatD), (fPrimeF, cPrimeF)]) := (SpecOk.cons okBig0 (SpecOk.cons okDrawCo (SpecOk.cons okCorn (SpecOk.cons okSCorn (SpecOk.cons okSteps (SpecOk.cons okIsIdoneal (SpecOk.cons okPrincRes (SpecOk.cons okIsPrimeF (SpecOk.cons okPIn (SpecOk.cons okDrawPP (SpecOk.cons okProperP (SpecOk.cons okSProperP (SpecOk.cons okPSameP (SpecOk.cons okGreatD (SpecOk.cons okPrimeF SpecOk.nil)))))))))))))))
  refine ctr_cut (fn := Try.f3) mixed tab_ok hsp Try.func3 (by kernel_rfl) (by kernel_rfl) fun args ce h => ?_
  clear hsp
  unfold cLawCorn at h
  split at h
  case h_2 => cases h
  rename_i b m
  simp only [Option.some.injEq] at h
  subst h
  refine ⟨by rfl, fun hp => ⟨1, ?_⟩⟩
  obtain ⟨hb, hm⟩ : (∀ x ∈ b, 0 ≤ x ∧ x < 256) ∧ ∀ x ∈ m, 0 ≤ x ∧ x < 256 := hp
  obtain ⟨G, yG⟩ : ∃ G, (decide ((b.length : Int) > 1048576) || decide ((m.length : Int) > wrap64 (1048576 - (b.length : Int)))) = G := ⟨_, rfl⟩
  obtain ⟨n0, yN⟩ : ∃ a, (dkA b).1 0 = a := ⟨_, rfl⟩
  obtain ⟨p0, yP⟩ : ∃ a, dkP b = a := ⟨_, rfl⟩
  obtain ⟨k0, yK⟩ : ∃ a, (dkA m).1 0 = a := ⟨_, rfl⟩
  obtain ⟨m0, yM⟩ : ∃ a, ekM m = a := ⟨_, rfl⟩
  cases G with
  | true =>
    refine .vc 1000 ?_
    simp (maxSteps := 4000000) only [↓cond_to_ite, ↓reduceIte, vc, out, finD, St.drop, vwAt, Entry.vwO, Entry.toO, toOf, St.res, step, stepE, stepPick, stepO, stepC, eff, look, rem, St.put, setMems, St.after, St.eval, cst, val1, okNew, Reg.item, Reg.next, subPre, argOf, resA, resV, nodupB, argsPre, argOk, callWr, effCall, callGo, callCo, effCall2, argCo, wrHs, disj, AV.hs, A0.hs, hA, initFr, initMem, initSt, resOf, resAll, compEq, compsEq, rowHs, outHds, outsEq, shapeOk, finOk, comps, A0.norm, specOf, Option.getD_some, Nat.reduceBEq, List.map_cons, List.map_nil, Option.map_some, Nat.zero_add, Nat.add_zero, Nat.reduceAdd, List.length_cons, List.length_nil, List.all_cons, List.all_nil, Bool.and_true, Bool.or_false, Bool.not_false, List.append_nil, List.nil_append, List.cons_append, List.flatMap_cons, List.flatMap_nil, List.contains_cons, List.contains_nil, beq_self_eq_true, and_self, List.toList_toArray, Bool.false_eq_true, reduceIte, Try.f3, List.map_cons, List.map_nil, cBig0, fBig0, yG]
  | false =>
    refine .cut 9 1000 ⟨[(1, .one (.co 1000001)), (5, .one (.i n0)), (6, .one (.i p0)), (9, .one (.b (coB n0 p0)))], [(1000001, .st m)]⟩ ?_ ?_
    · cases hok : coB n0 p0 with
      | false =>
        simp (maxSteps := 4000000) only [↓cond_to_ite, ↓reduceIte, vc, out, Entry.toO, toOf, St.res, step, stepE, stepPick, stepG, stepO, stepC, eff, look, rem, St.put, St.setMem, setMems, St.after, St.eval, cst, val1, okNew, newHs, allHs, rdOf, Reg.item, Reg.next, Reg.skip, slotOf, binInt, boolOf, binBool, effBin, effPick, effExtract, subPre, argOf, resA, resL, resV, argsPre, argOk, callWr, effCall, RC.flat, callGo, calleeHs, effBin2, callCo, effCall2, argCo, wrHs, disj, AV.hs, A0.hs, Entry.hs, hA, initFr, initMem, initSt, specOf, t_bool, Option.getD_some, Nat.reduceBEq, List.map_cons, List.map_nil, List.getElem?_cons_zero, List.getElem?_cons_succ, Option.bind_some, Nat.zero_add, Nat.add_zero, Nat.reduceAdd, Nat.reduceMul, true_and, and_true, List.all_cons, List.all_nil, Bool.and_true, Bool.or_false, Bool.not_false, List.append_nil, List.nil_append, List.cons_append, List.flatMap_cons, List.flatMap_nil, List.contains_cons, List.contains_nil, List.filter_cons, List.filter_nil, beq_self_eq_true, and_self, Bool.false_eq_true, reduceIte, Try.f3, heads, List.map_cons, List.map_nil, cBig0, fBig0, cDrawCo, fDrawCo, cCorn, fCorn, cSCorn, fSCorn, cSteps, fSteps, bne_self_eq_false, yG, yN, yP, hok]
        exact ⟨hb, ⟨[], by simp only [Cov, covOk, covFr, covMem, entEq, rn, nodupB, A0.ren, AV.ren, Entry.ren, Entry.norm, look, St.eval, A0.norm, AV.norm, Option.getD_some, Option.getD_none, cond_true, cond_false, Nat.reduceBEq, List.map_cons, List.map_nil, List.all_nil, Bool.and_true, Bool.not_false, List.contains_nil, beq_self_eq_true, and_self]⟩⟩
      | true =>
        obtain ⟨⟨hf, hs⟩, x0, y0, he⟩ := cor_val hok
        have hp2 := shPrime_in hs
        have d1 : decide (coX n0 p0 < 0) = false := decide_eq_false (by omega)
        have d2 : decide (coY n0 p0 < 0) = false := decide_eq_false (by omega)
        have pn : p0 ≠ 0 := by omega
        by_cases g1 : p0 > 2
        · have d3 : decide (p0 > 2) = true := decide_eq_true g1
          by_cases g2 : n0.tmod p0 = 0
          · have d4 : (n0.tmod p0 != 0) = false := by simp [g2]
            simp (maxSteps := 4000000) only [↓cond_to_ite, ↓reduceIte, vc, out, Entry.toO, toOf, St.res, step, stepE, stepPick, stepG, stepO, stepC, eff, look, rem, St.put, St.setMem, setMems, St.after, St.eval, cst, val1, okNew, newHs, allHs, rdOf, Reg.item, Reg.next, Reg.skip, slotOf, binInt, boolOf, binBool, effBin, effPick, effExtract, subPre, argOf, resA, resL, resV, argsPre, argOk, callWr, effCall, RC.flat, callGo, calleeHs, effBin2, callCo, effCall2, argCo, wrHs, disj, AV.hs, A0.hs, Entry.hs, hA, initFr, initMem, initSt, specOf, t_bool, Option.getD_some, Nat.reduceBEq, List.map_cons, List.map_nil, List.getElem?_cons_zero, List.getElem?_cons_succ, Option.bind_some, Nat.zero_add, Nat.add_zero, Nat.reduceAdd, Nat.reduceMul, true_and, and_true, List.all_cons, List.all_nil, Bool.and_true, Bool.or_false, Bool.not_false, List.append_nil, List.nil_append, List.cons_append, List.flatMap_cons, List.flatMap_nil, List.contains_cons, List.contains_nil, List.filter_cons, List.filter_nil, beq_self_eq_true, and_self, Bool.false_eq_true, reduceIte, Try.f3, heads, List.map_cons, List.map_nil, cBig0, fBig0, cDrawCo, fDrawCo, cCorn, fCorn, cSCorn, fSCorn, cSteps, fSteps, bne_self_eq_false, yG, yN, yP, hok, he, d1, d2, d3, d4]
            exact ⟨hb, pn, ⟨[], by simp only [Cov, covOk, covFr, covMem, entEq, rn, nodupB, A0.ren, AV.ren, Entry.ren, Entry.norm, look, St.eval, A0.norm, AV.norm, Option.getD_some, Option.getD_none, cond_true, cond_false, Nat.reduceBEq, List.map_cons, List.map_nil, List.all_nil, Bool.and_true, Bool.not_false, List.contains_nil, beq_self_eq_true, and_self]⟩⟩
          · have d4 : (n0.tmod p0 != 0) = true := by simp [g2]
            obtain ⟨t1, t2, t3⟩ := sc_law hok g1 g2
            have tl := sc_len n0 p0
            have z0 : decide (((scL n0 p0).length : Int) < 2) = false := decide_eq_false (by omega)
            have z1 : wrap64 (((scL n0 p0).length : Int) - 1) = ((scL n0 p0).length : Int) - 1 := wrap_id (by omega) (by omega)
            have z2 : (((scL n0 p0).length : Int) - 1).toNat = (scL n0 p0).length - 1 := by omega
            have z3 : (0 ≤ ((scL n0 p0).length : Int) - 1 ∧ ((scL n0 p0).length : Int) - 1 < ((scL n0 p0).length : Int)) ∧ (scL n0 p0).length - 1 < (scL n0 p0).length := by omega
            simp (maxSteps := 4000000) only [↓cond_to_ite, ↓reduceIte, vc, out, Entry.toO, toOf, St.res, step, stepE, stepPick, stepG, stepO, stepC, eff, look, rem, St.put, St.setMem, setMems, St.after, St.eval, cst, val1, okNew, newHs, allHs, rdOf, Reg.item, Reg.next, slotOf, entryRow, loadR, effLoad, binInt, boolOf, binBool, effBin, effUn, effPick, effExtract, elemSz, idxS, effIndex, lenOf, subPre, argOf, resA, resL, resV, argsPre, argOk, callWr, effCall, RC.flat, callGo, effLoad2, calleeHs, effLoad3, lenOf2, effIndex2, effBin2, callCo, effCall2, argCo, wrHs, disj, AV.hs, A0.hs, Entry.hs, RC.sz, RC.len, hA, initFr, initMem, initSt, specOf, t_int, t_bool, ts_int, Option.getD_some, Nat.reduceBEq, List.map_cons, List.map_nil, List.getElem?_cons_zero, List.getElem?_cons_succ, Option.map_some, Option.bind_some, Nat.zero_add, Nat.add_zero, Nat.reduceAdd, Nat.reduceMul, true_and, and_true, List.all_cons, List.all_nil, Bool.and_true, Bool.or_false, Bool.not_true, Bool.not_false, List.append_nil, List.nil_append, List.cons_append, List.flatMap_cons, List.flatMap_nil, List.contains_cons, List.contains_nil, List.filter_cons, List.filter_nil, beq_self_eq_true, and_self, Option.isSome_some, Bool.false_eq_true, reduceIte, Try.f3, heads, List.map_cons, List.map_nil, cBig0, fBig0, cDrawCo, fDrawCo, cCorn, fCorn, cSCorn, fSCorn, cSteps, fSteps, bne_self_eq_false, yG, yN, yP, hok, he, d1, d2, d3, d4, t1, z0, z1, z2, t3]
            exact ⟨hb, pn, z3.1, z3.2, ⟨[], by simp only [Cov, covOk, covFr, covMem, entEq, rn, nodupB, A0.ren, AV.ren, Entry.ren, Entry.norm, look, St.eval, A0.norm, AV.norm, Option.getD_some, Option.getD_none, cond_true, cond_false, Nat.reduceBEq, List.map_cons, List.map_nil, List.all_nil, Bool.and_true, Bool.not_false, List.contains_nil, beq_self_eq_true, and_self]⟩⟩
        · have d3 : decide (p0 > 2) = false := decide_eq_false g1
          simp (maxSteps := 4000000) only [↓cond_to_ite, ↓reduceIte, vc, out, Entry.toO, toOf, St.res, step, stepE, stepPick, stepG, stepO, stepC, eff, look, rem, St.put, St.setMem, setMems, St.after, St.eval, cst, val1, okNew, newHs, allHs, rdOf, Reg.item, Reg.next, Reg.skip, slotOf, binInt, boolOf, binBool, effBin, effPick, effExtract, subPre, argOf, resA, resL, resV, argsPre, argOk, callWr, effCall, RC.flat, callGo, calleeHs, effBin2, callCo, effCall2, argCo, wrHs, disj, AV.hs, A0.hs, Entry.hs, hA, initFr, initMem, initSt, specOf, t_bool, Option.getD_some, Nat.reduceBEq, List.map_cons, List.map_nil, List.getElem?_cons_zero, List.getElem?_cons_succ, Option.bind_some, Nat.zero_add, Nat.add_zero, Nat.reduceAdd, Nat.reduceMul, true_and, and_true, List.all_cons, List.all_nil, Bool.and_true, Bool.or_false, Bool.not_false, List.append_nil, List.nil_append, List.cons_append, List.flatMap_cons, List.flatMap_nil, List.contains_cons, List.contains_nil, List.filter_cons, List.filter_nil, beq_self_eq_true, and_self, Bool.false_eq_true, reduceIte, Try.f3, heads, List.map_cons, List.map_nil, cBig0, fBig0, cDrawCo, fDrawCo, cCorn, fCorn, cSCorn, fSCorn, cSteps, fSteps, bne_self_eq_false, yG, yN, yP, hok, he, d1, d2, d3]
          exact ⟨hb, ⟨[], by simp only [Cov, covOk, covFr, covMem, entEq, rn, nodupB, A0.ren, AV.ren, Entry.ren, Entry.norm, look, St.eval, A0.norm, AV.norm, Option.getD_some, Option.getD_none, cond_true, cond_false, Nat.reduceBEq, List.map_cons, List.map_nil, List.all_nil, Bool.and_true, Bool.not_false, List.contains_nil, beq_self_eq_true, and_self]⟩⟩
    refine .cut 3 1000 ⟨[(1, .one (.co 1000001))], [(1000001, .st m)]⟩ ?_ ?_
    · obtain ⟨ok, hok⟩ : ∃ ok, coB n0 p0 = ok := ⟨_, rfl⟩
      rw [hok]
      have rl := rsO_len n0
      cases e1 : facB n0 with
      | false =>
        simp (maxSteps := 4000000) only [↓cond_to_ite, ↓reduceIte, vc, out, Entry.toO, toOf, St.res, step, stepE, stepPick, stepG, stepO, stepC, eff, look, rem, St.put, St.setMem, setMems, St.after, St.eval, cst, val1, okNew, newHs, allHs, rdOf, Reg.item, Reg.next, Reg.skip, slotOf, boolOf, binBool, effBin, effPick, effExtract, subPre, argOf, resA, resL, resV, argsPre, argOk, callWr, effCall, RC.flat, callGo, calleeHs, effBin2, effCall2, wrHs, disj, AV.hs, A0.hs, Entry.hs, hA, specOf, t_bool, Option.getD_some, Nat.reduceBEq, List.map_cons, List.map_nil, List.getElem?_cons_zero, List.getElem?_cons_succ, Option.bind_some, Nat.add_zero, Nat.reduceMul, true_and, List.all_cons, List.all_nil, Bool.and_true, Bool.false_and, Bool.or_false, Bool.not_false, List.append_nil, List.nil_append, List.cons_append, List.flatMap_cons, List.flatMap_nil, List.contains_cons, List.contains_nil, List.filter_cons, List.filter_nil, beq_self_eq_true, and_self, Bool.false_eq_true, reduceIte, Try.f3, heads, tailC, List.map_cons, List.map_nil, fBig0, fDrawCo, fCorn, fSCorn, fSteps, cIsIdoneal, fIsIdoneal, cPrincRes, fPrincRes, bne_self_eq_false, e1]
        exact ⟨[], by simp only [Cov, covOk, covFr, covMem, entEq, rn, nodupB, A0.ren, AV.ren, Entry.ren, Entry.norm, look, St.eval, A0.norm, AV.norm, Option.getD_some, Option.getD_none, cond_true, cond_false, Nat.reduceBEq, List.map_cons, List.map_nil, List.all_nil, Bool.and_true, Bool.not_false, List.contains_nil, beq_self_eq_true, and_self]⟩
      | true =>
        have hn := facB_in e1
        have w4 : wrap64 (4 * n0) = 4 * n0 := wrap_id (by omega) (by omega)
        have z4 : 4 * n0 ≠ 0 := by omega
        cases e2 : idoB n0 with
        | false =>
          simp (maxSteps := 4000000) only [↓cond_to_ite, ↓reduceIte, vc, out, Entry.toO, toOf, St.res, step, stepE, stepPick, stepG, stepO, stepC, eff, look, rem, St.put, St.setMem, setMems, St.after, St.eval, cst, val1, okNew, newHs, allHs, rdOf, Reg.item, Reg.next, Reg.skip, slotOf, boolOf, binBool, effBin, effPick, effExtract, subPre, argOf, resA, resL, resV, argsPre, argOk, callWr, effCall, RC.flat, callGo, calleeHs, effBin2, effCall2, wrHs, disj, AV.hs, A0.hs, Entry.hs, hA, specOf, t_bool, Option.getD_some, Nat.reduceBEq, List.map_cons, List.map_nil, List.getElem?_cons_zero, List.getElem?_cons_succ, Option.bind_some, Nat.add_zero, Nat.reduceMul, true_and, List.all_cons, List.all_nil, Bool.and_true, Bool.and_false, Bool.or_false, Bool.not_false, List.append_nil, List.nil_append, List.cons_append, List.flatMap_cons, List.flatMap_nil, List.contains_cons, List.contains_nil, List.filter_cons, List.filter_nil, beq_self_eq_true, and_self, Bool.false_eq_true, reduceIte, Try.f3, heads, tailC, List.map_cons, List.map_nil, fBig0, fDrawCo, fCorn, fSCorn, fSteps, cIsIdoneal, fIsIdoneal, cPrincRes, fPrincRes, bne_self_eq_false, e1, e2]
          exact ⟨[], by simp only [Cov, covOk, covFr, covMem, entEq, rn, nodupB, A0.ren, AV.ren, Entry.ren, Entry.norm, look, St.eval, A0.norm, AV.norm, Option.getD_some, Option.getD_none, cond_true, cond_false, Nat.reduceBEq, List.map_cons, List.map_nil, List.all_nil, Bool.and_true, Bool.not_false, List.contains_nil, beq_self_eq_true, and_self]⟩
        | true =>
          cases e3 : (areB p0 && primeI p0) with
          | false =>
            simp (maxSteps := 4000000) only [↓cond_to_ite, ↓reduceIte, vc, out, Entry.toO, toOf, St.res, step, stepE, stepPick, stepG, stepO, stepC, eff, look, rem, St.put, St.setMem, setMems, St.after, St.eval, cst, val1, okNew, newHs, allHs, rdOf, Reg.item, Reg.next, Reg.skip, slotOf, boolOf, binBool, effBin, effPick, effExtract, subPre, argOf, resA, resL, resV, argsPre, argOk, callWr, effCall, RC.flat, callGo, calleeHs, effBin2, effCall2, wrHs, disj, AV.hs, A0.hs, Entry.hs, hA, specOf, t_bool, Option.getD_some, Nat.reduceBEq, List.map_cons, List.map_nil, List.getElem?_cons_zero, List.getElem?_cons_succ, Option.bind_some, Nat.add_zero, Nat.reduceMul, true_and, List.all_cons, List.all_nil, Bool.and_true, Bool.or_false, Bool.not_false, List.append_nil, List.nil_append, List.cons_append, List.flatMap_cons, List.flatMap_nil, List.contains_cons, List.contains_nil, List.filter_cons, List.filter_nil, beq_self_eq_true, and_self, Bool.false_eq_true, reduceIte, Try.f3, heads, tailC, List.map_cons, List.map_nil, fBig0, fDrawCo, fCorn, fSCorn, fSteps, cIsIdoneal, fIsIdoneal, cPrincRes, fPrincRes, cIsPrimeF, fIsPrimeF, bne_self_eq_false, e1, e2, e3]
            exact ⟨[], by simp only [Cov, covOk, covFr, covMem, entEq, rn, nodupB, A0.ren, AV.ren, Entry.ren, Entry.norm, look, St.eval, A0.norm, AV.norm, Option.getD_some, Option.getD_none, cond_true, cond_false, Nat.reduceBEq, List.map_cons, List.map_nil, List.all_nil, Bool.and_true, Bool.not_false, List.contains_nil, beq_self_eq_true, and_self]⟩
          | true =>
            have e3' := e3
            rw [Bool.and_eq_true] at e3'
            have hp2 := primeI_ge e3'.2
            have pn : p0 ≠ 0 := by omega
            by_cases g1 : p0 > 2
            · have d3 : decide (p0 > 2) = true := decide_eq_true g1
              by_cases g3 : p0 ≤ 10000
              · have d5 : decide (p0 ≤ 10000) = true := decide_eq_true g3
                by_cases g2 : n0.tmod p0 = 0
                · have d4 : (n0.tmod p0 != 0) = false := by simp [g2]
                  simp (maxSteps := 4000000) only [↓cond_to_ite, ↓reduceIte, vc, out, Entry.toO, toOf, St.res, step, stepE, stepPick, stepG, stepO, stepC, eff, look, rem, St.put, St.setMem, setMems, St.after, St.eval, cst, val1, okNew, newHs, allHs, rdOf, Reg.item, Reg.next, Reg.skip, slotOf, binInt, boolOf, binBool, effBin, effPick, effExtract, subPre, argOf, resA, resL, resV, argsPre, argOk, callWr, effCall, RC.flat, callGo, calleeHs, effBin2, effCall2, wrHs, disj, AV.hs, A0.hs, Entry.hs, hA, specOf, t_bool, Option.getD_some, Nat.reduceBEq, List.map_cons, List.map_nil, List.getElem?_cons_zero, List.getElem?_cons_succ, Option.bind_some, Nat.add_zero, Nat.reduceMul, true_and, List.all_cons, List.all_nil, Bool.and_true, Bool.or_false, Bool.not_false, List.append_nil, List.nil_append, List.cons_append, List.flatMap_cons, List.flatMap_nil, List.contains_cons, List.contains_nil, List.filter_cons, List.filter_nil, beq_self_eq_true, and_self, Bool.false_eq_true, reduceIte, Try.f3, heads, tailC, List.map_cons, List.map_nil, fBig0, fDrawCo, fCorn, fSCorn, fSteps, cIsIdoneal, fIsIdoneal, cPrincRes, fPrincRes, cIsPrimeF, fIsPrimeF, bne_self_eq_false, e1, e2, e3, d3, d4, d5]
                  exact ⟨pn, ⟨[], by simp only [Cov, covOk, covFr, covMem, entEq, rn, nodupB, A0.ren, AV.ren, Entry.ren, Entry.norm, look, St.eval, A0.norm, AV.norm, Option.getD_some, Option.getD_none, cond_true, cond_false, Nat.reduceBEq, List.map_cons, List.map_nil, List.all_nil, Bool.and_true, Bool.not_false, List.contains_nil, beq_self_eq_true, and_self]⟩⟩
                · have d4 : (n0.tmod p0 != 0) = true := by simp [g2]
                  have hl := prime_law e1 e2 e3'.2 g1 g3 g2
                  rw [hok] at hl
                  have hz : (ok != ok) = false := by simp
                  simp (maxSteps := 4000000) only [↓cond_to_ite, ↓reduceIte, vc, out, Entry.toO, toOf, St.res, step, stepE, stepPick, stepG, stepO, stepC, eff, look, rem, St.put, St.setMem, setMems, St.after, St.eval, cst, val1, okNew, newHs, allHs, rdOf, Reg.item, Reg.next, slotOf, entryRow, binInt, boolOf, binBool, effBin, effPick, effExtract, subPre, argOf, resA, resL, resV, argsPre, argOk, callWr, effCall, RC.flat, callGo, calleeHs, effBin2, effCall2, wrHs, disj, AV.hs, A0.hs, Entry.hs, hA, specOf, t_bool, Option.getD_some, Nat.reduceBEq, List.map_cons, List.map_nil, List.getElem?_cons_zero, List.getElem?_cons_succ, Option.bind_some, Nat.add_zero, Nat.reduceMul, true_and, and_true, List.all_cons, List.all_nil, Bool.and_true, Bool.or_false, Bool.not_false, List.append_nil, List.nil_append, List.cons_append, List.flatMap_cons, List.flatMap_nil, List.contains_cons, List.contains_nil, List.filter_cons, List.filter_nil, beq_self_eq_true, and_self, Bool.false_eq_true, reduceIte, Try.f3, heads, tailC, List.map_cons, List.map_nil, fBig0, fDrawCo, fCorn, fSCorn, fSteps, cIsIdoneal, fIsIdoneal, cPrincRes, fPrincRes, cIsPrimeF, fIsPrimeF, cPIn, fPIn, bne_self_eq_false, e1, e2, e3, d3, d4, d5, w4, hl]
                  exact ⟨pn, z4, Nat.le_trans rl (by decide), ⟨[], by simp only [Cov, covOk, covFr, covMem, entEq, rn, nodupB, A0.ren, AV.ren, Entry.ren, Entry.norm, look, St.eval, A0.norm, AV.norm, Option.getD_some, Option.getD_none, cond_true, cond_false, Nat.reduceBEq, List.map_cons, List.map_nil, List.all_nil, Bool.and_true, Bool.not_false, List.contains_nil, beq_self_eq_true, and_self]⟩⟩
              · have d5 : decide (p0 ≤ 10000) = false := decide_eq_false g3
                simp (maxSteps := 4000000) only [↓cond_to_ite, ↓reduceIte, vc, out, Entry.toO, toOf, St.res, step, stepE, stepPick, stepG, stepO, stepC, eff, look, rem, St.put, St.setMem, setMems, St.after, St.eval, cst, val1, okNew, newHs, allHs, rdOf, Reg.item, Reg.next, Reg.skip, slotOf, binInt, boolOf, binBool, effBin, effPick, effExtract, subPre, argOf, resA, resL, resV, argsPre, argOk, callWr, effCall, RC.flat, callGo, calleeHs, effBin2, effCall2, wrHs, disj, AV.hs, A0.hs, Entry.hs, hA, specOf, t_bool, Option.getD_some, Nat.reduceBEq, List.map_cons, List.map_nil, List.getElem?_cons_zero, List.getElem?_cons_succ, Option.bind_some, Nat.add_zero, Nat.reduceMul, true_and, List.all_cons, List.all_nil, Bool.and_true, Bool.or_false, Bool.not_false, List.append_nil, List.nil_append, List.cons_append, List.flatMap_cons, List.flatMap_nil, List.contains_cons, List.contains_nil, List.filter_cons, List.filter_nil, beq_self_eq_true, and_self, Bool.false_eq_true, reduceIte, Try.f3, heads, tailC, List.map_cons, List.map_nil, fBig0, fDrawCo, fCorn, fSCorn, fSteps, cIsIdoneal, fIsIdoneal, cPrincRes, fPrincRes, cIsPrimeF, fIsPrimeF, bne_self_eq_false, e1, e2, e3, d3, d5]
                exact ⟨[], by simp only [Cov, covOk, covFr, covMem, entEq, rn, nodupB, A0.ren, AV.ren, Entry.ren, Entry.norm, look, St.eval, A0.norm, AV.norm, Option.getD_some, Option.getD_none, cond_true, cond_false, Nat.reduceBEq, List.map_cons, List.map_nil, List.all_nil, Bool.and_true, Bool.not_false, List.contains_nil, beq_self_eq_true, and_self]⟩
            · have d3 : decide (p0 > 2) = false := decide_eq_false g1
              simp (maxSteps := 4000000) only [↓cond_to_ite, ↓reduceIte, vc, out, Entry.toO, toOf, St.res, step, stepE, stepPick, stepG, stepO, stepC, eff, look, rem, St.put, St.setMem, setMems, St.after, St.eval, cst, val1, okNew, newHs, allHs, rdOf, Reg.item, Reg.next, Reg.skip, slotOf, binInt, boolOf, binBool, effBin, effPick, effExtract, subPre, argOf, resA, resL, resV, argsPre, argOk, callWr, effCall, RC.flat, callGo, calleeHs, effBin2, effCall2, wrHs, disj, AV.hs, A0.hs, Entry.hs, hA, specOf, t_bool, Option.getD_some, Nat.reduceBEq, List.map_cons, List.map_nil, List.getElem?_cons_zero, List.getElem?_cons_succ, Option.bind_some, Nat.add_zero, Nat.reduceMul, true_and, List.all_cons, List.all_nil, Bool.and_true, Bool.or_false, Bool.not_false, List.append_nil, List.nil_append, List.cons_append, List.flatMap_cons, List.flatMap_nil, List.contains_cons, List.contains_nil, List.filter_cons, List.filter_nil, beq_self_eq_true, and_self, Bool.false_eq_true, reduceIte, Try.f3, heads, tailC, List.map_cons, List.map_nil, fBig0, fDrawCo, fCorn, fSCorn, fSteps, cIsIdoneal, fIsIdoneal, cPrincRes, fPrincRes, cIsPrimeF, fIsPrimeF, bne_self_eq_false, e1, e2, e3, d3]
              exact ⟨[], by simp only [Cov, covOk, covFr, covMem, entEq, rn, nodupB, A0.ren, AV.ren, Entry.ren, Entry.norm, look, St.eval, A0.norm, AV.norm, Option.getD_some, Option.getD_none, cond_true, cond_false, Nat.reduceBEq, List.map_cons, List.map_nil, List.all_nil, Bool.and_true, Bool.not_false, List.contains_nil, beq_self_eq_true, and_self]⟩
    have pl := ppO_len k0 m0
    refine .cut 6 1000 ⟨[(15, .one (.b (facB k0 && idoB k0))), (19, .one (.i k0)), (20, .one (.i m0)), (21, .one (.row 180)), (22, .one (.b (ppC k0 m0))), (25, .one (.b (facB k0))), (26, .one (.i (onB (areB m0 && areB (wrap64 (2 * k0))) (gcdI m0 (wrap64 (2 * k0)))))), (27, .one (.b (areB m0 && areB (wrap64 (2 * k0)))))], [(180, .row (.recs 51 2 (fp (ppO k0 m0))))]⟩ ?_ ?_
    · obtain ⟨L, hL⟩ : ∃ L, ppO k0 m0 = L := ⟨_, rfl⟩
      rw [hL] at pl ⊢
      simp (maxSteps := 4000000) only [↓cond_to_ite, ↓reduceIte, vc, out, Entry.toO, toOf, St.res, step, stepE, stepPick, stepG, stepO, stepC, eff, look, rem, St.put, St.setMem, setMems, St.after, St.eval, cst, val1, okNew, newHs, allHs, rdOf, Reg.item, Reg.next, slotOf, entryRow, binInt, boolOf, binBool, effBin, effUn, effPick, effExtract, subPre, argOf, resA, resL, resV, argsPre, argOk, callWr, effCall, RC.flat, callGo, calleeHs, effBin2, callCo, effCall2, argCo, wrHs, disj, AV.hs, A0.hs, Entry.hs, hA, specOf, t_bool, Option.getD_some, Nat.reduceBEq, List.map_cons, List.map_nil, List.getElem?_cons_zero, List.getElem?_cons_succ, Option.bind_some, Nat.add_zero, Nat.reduceMul, true_and, and_true, List.all_cons, List.all_nil, Bool.and_true, Bool.or_false, Bool.not_true, Bool.not_false, List.append_nil, List.nil_append, List.cons_append, List.flatMap_cons, List.flatMap_nil, List.contains_cons, List.contains_nil, List.filter_cons, List.filter_nil, beq_self_eq_true, and_self, Bool.false_eq_true, reduceIte, Try.f3, heads, tailC, List.map_cons, List.map_nil, fBig0, fDrawCo, fCorn, fSCorn, fSteps, cIsIdoneal, fIsIdoneal, fPrincRes, fIsPrimeF, fPIn, cDrawPP, fDrawPP, cProperP, fProperP, cSProperP, fSProperP, cPSameP, fPSameP, cGreatD, fGreatD, bne_self_eq_false, yK, yM, hL, fp_length]
      exact ⟨hm, Nat.le_trans pl (by decide), ⟨[], by simp only [Cov, covOk, covFr, covMem, entEq, rn, nodupB, A0.ren, AV.ren, Entry.ren, Entry.norm, look, St.eval, A0.norm, AV.norm, Option.getD_some, Option.getD_none, cond_true, cond_false, Nat.reduceBEq, List.map_cons, List.map_nil, List.all_nil, Bool.and_true, Bool.not_false, List.contains_nil, beq_self_eq_true, and_self]⟩⟩
    refine .vc 1000 ?_
    cases e1 : ppC k0 m0 with
    | false =>
      simp (maxSteps := 4000000) only [↓cond_to_ite, ↓reduceIte, vc, out, finD, St.drop, vwAt, Entry.vwO, RC.vwO, Entry.toO, toOf, St.res, step, stepE, stepPick, stepG, stepO, stepC, eff, look, rem, St.put, setMems, St.after, St.eval, cst, val1, okNew, Reg.item, Reg.next, Reg.skip, slotOf, effPick, nodupB, argOk, disj, resOf, resAll, compEq, compsEq, rowHs, outHds, outsEq, shapeOk, finOk, comps, A0.norm, Option.getD_some, Nat.reduceBEq, List.getElem?_cons_zero, List.getElem?_cons_succ, Option.map_some, Option.bind_some, Nat.zero_add, List.length_cons, List.length_nil, List.all_nil, Bool.and_true, Bool.not_false, List.contains_nil, beq_self_eq_true, and_self, List.toList_toArray, Bool.false_eq_true, reduceIte, Try.f3, tailC, onB]
    | true =>
      have e1' := e1
      unfold ppC at e1'
      rw [Bool.and_eq_true] at e1'
      obtain ⟨hf, hs⟩ := e1'
      have hk := facB_in hf
      have hm1 := inI_1 hs
      have w2 : wrap64 (2 * k0) = 2 * k0 := wrap_id (by omega) (by omega)
      have a1 : areB m0 = true := areB_iff.2 (by omega)
      have a2 : areB (2 * k0) = true := areB_iff.2 (by omega)
      cases e2 : idoB k0 with
      | false =>
        simp (maxSteps := 4000000) only [↓cond_to_ite, ↓reduceIte, vc, out, finD, St.drop, vwAt, Entry.vwO, RC.vwO, Entry.toO, toOf, St.res, step, stepE, stepPick, stepG, stepO, stepC, eff, look, rem, St.put, setMems, St.after, St.eval, cst, val1, okNew, Reg.item, Reg.next, Reg.skip, slotOf, effPick, nodupB, argOk, disj, resOf, resAll, compEq, compsEq, rowHs, outHds, outsEq, shapeOk, finOk, comps, A0.norm, Option.getD_some, Nat.reduceBEq, List.getElem?_cons_zero, List.getElem?_cons_succ, Option.map_some, Option.bind_some, Nat.zero_add, List.length_cons, List.length_nil, List.all_nil, Bool.and_true, Bool.and_false, Bool.not_false, List.contains_nil, beq_self_eq_true, and_self, List.toList_toArray, Bool.false_eq_true, reduceIte, Try.f3, tailC, onB, hf, w2, a1, a2]
      | true =>
        by_cases g1 : gcdI m0 (2 * k0) = 1
        · have d1 : (gcdI m0 (2 * k0) == 1) = true := beq_iff_eq.2 g1
          by_cases g2 : m0 > 1
          · have d2 : decide (m0 > 1) = true := decide_eq_true g2
            by_cases g3 : ((ppO k0 m0).length : Int) > 0
            · have d3 : decide (((ppO k0 m0).length : Int) > 0) = true := decide_eq_true g3
              have hpf : prfB m0 = true := by unfold prfB; rw [a1, decide_eq_false (show ¬ m0 < 1 by omega)]; rfl
              obtain ⟨k, rfl⟩ : ∃ k : Nat, k0 = k := ⟨k0.toNat, by omega⟩
              obtain ⟨m1, rfl⟩ : ∃ k : Nat, m0 = k := ⟨m0.toNat, by omega⟩
              obtain ⟨fc2, fcp⟩ := fc_two (m := m1) (by omega) (by omega)
              have hgc : Nat.gcd m1 (2 * k) = 1 := by
                rw [gcdI_eq (by omega) (by omega)] at g1
                have : Int.gcd (m1 : Int) (2 * (k : Int)) = Nat.gcd m1 (2 * k) := rfl
                omega
              have hw := ways_law (k := k) (m := m1) (by omega) e2 (by omega) hgc (by
                rw [← ppO_yes e1]
                intro h
                rw [h] at g3
                simp at g3)
              rw [← ppO_yes e1] at hw
              have hfl : (fcL (m1 : Int)).length ≤ 100000 := by
                have := Nat.lt_two_pow_self (n := (fcL (m1 : Int)).length)
                omega
              obtain ⟨f, hfc⟩ : ∃ f, fcL (m1 : Int) = f := ⟨_, rfl⟩
              rw [hfc] at hw hfl fc2 fcp
              obtain ⟨L, hL⟩ : ∃ L, ppO (k : Int) (m1 : Int) = L := ⟨_, rfl⟩
              rw [hL] at hw pl d3
              rw [hL]
              simp (maxSteps := 4000000) only [↓cond_to_ite, ↓reduceIte, vc, out, Entry.toO, toOf, St.res, step, stepE, stepPick, stepG, stepO, stepC, eff, look, rem, St.put, St.setMem, setMems, St.after, St.eval, cst, val1, okNew, newHs, allHs, rdOf, Reg.item, Reg.next, slotOf, entryRow, binInt, effBin, effPick, effExtract, elemSz, lenOf, subPre, argOf, resA, resL, resV, argsPre, argOk, callWr, effCall, RC.flat, callGo, calleeHs, lenOf2, effBin2, effCall2, wrHs, disj, AV.hs, A0.hs, Entry.hs, RC.len, hA, specOf, t_int, t_implPoint, ts_int, ts_implPoint, Option.getD_some, Nat.reduceBEq, List.map_cons, List.map_nil, List.getElem?_cons_zero, List.getElem?_cons_succ, Option.map_some, Option.bind_some, Nat.add_zero, Nat.reduceMul, true_and, List.all_cons, List.all_nil, Bool.and_true, Bool.or_false, Bool.not_false, List.append_nil, List.nil_append, List.cons_append, List.flatMap_cons, List.flatMap_nil, List.contains_cons, List.contains_nil, List.filter_cons, List.filter_nil, beq_self_eq_true, and_self, List.toList_toArray, Option.isSome_some, Bool.false_eq_true, reduceIte, Try.f3, tailC, List.map_cons, List.map_nil, fBig0, fDrawCo, fCorn, fSCorn, fSteps, fIsIdoneal, fPrincRes, fIsPrimeF, fPIn, fDrawPP, fProperP, fSProperP, fPSameP, fGreatD, cPrimeF, fPrimeF, onB, onL, hf, w2, a1, a2, d1, d2, fp_length, d3, hpf, hfc]
              clear e1 hf hs hk hm1 w2 a1 a2 e2 g1 g2 g3 d1 d2 d3 hpf hgc hfl pl hL hfc yG yN yP yK yM
              refine lp_intro (fun i : Nat => ⟨[(19, .one (.i (k : Int))), (21, .one (.row 180)), (28, .one (.row 235)), (29, .one (.b true)), (30, .one (.i ((wL 0 1 (f.take i) : Nat) : Int))), (239, .one (.i (f.length : Int))), (240, .one (.i (i : Int)))], [(180, .row (.recs 51 2 (fp L))), (235, .row (.ints 3 f))]⟩)
                (fun i => i ≤ f.length) (fun i => f.length - i) 0 [] (Nat.zero_le _) (by simp only [Cov, covOk, covFr, covMem, entEq, rn, nodupB, A0.ren, AV.ren, Entry.ren, Entry.norm, look, St.eval, A0.norm, AV.norm, Option.getD_some, Option.getD_none, cond_true, cond_false, Nat.reduceBEq, List.map_cons, List.map_nil, List.take_zero, true_and, and_true, List.all_nil, Bool.and_true, Bool.or_false, Bool.not_false, List.contains_cons, List.contains_nil, beq_self_eq_true, A0.i.injEq, AV.one.injEq, and_self]; exact ⟨rfl, rfl⟩) fun i hi J hJ => ⟨1000, ?_⟩
              by_cases g : i < f.length
              · obtain ⟨g4, hws, r1, hc⟩ := wy_step fc2 fcp g
                rcases hc with ⟨c1, htk⟩ | ⟨x, y, c1, z1, hx, hy, r2, r3, hc⟩
                · simp (maxSteps := 4000000) only [↓cond_to_ite, ↓reduceIte, vc, out, Entry.toO, toOf, St.res, step, stepE, stepPick, stepG, stepO, stepC, eff, look, rem, St.put, setMems, St.after, St.eval, cst, val1, okNew, allHs, rdOf, outHs, Reg.item, Reg.next, Reg.skip, slotOf, binInt, effBin, effPick, effBin2, wrHs, AV.hs, A0.hs, Entry.hs, Option.getD_some, Nat.reduceBEq, List.map_cons, List.map_nil, List.getElem?_cons_zero, List.getElem?_cons_succ, Option.bind_some, true_and, List.append_nil, List.nil_append, List.cons_append, List.flatMap_cons, List.flatMap_nil, beq_self_eq_true, Bool.false_eq_true, reduceIte, g4, c1]
                  exact ⟨by kernel_rfl, hJ _ (i + 1) [] g (Nat.sub_succ_lt_self _ _ g) (by simp only [Cov, covOk, covFr, covMem, entEq, rn, nodupB, A0.ren, AV.ren, Entry.ren, Entry.norm, look, St.eval, A0.norm, AV.norm, Option.getD_some, Option.getD_none, cond_true, cond_false, Nat.reduceBEq, List.map_cons, List.map_nil, List.all_nil, Bool.and_true, Bool.or_false, Bool.not_false, List.contains_cons, List.contains_nil, beq_self_eq_true, and_self, hws, htk])⟩
                · rcases hc with ⟨c2, htk⟩ | ⟨c2, w5⟩
                  · simp (maxSteps := 4000000) only [↓cond_to_ite, ↓reduceIte, vc, out, Entry.toO, toOf, St.res, step, stepE, stepPick, stepG, stepO, stepC, eff, look, rem, St.put, setMems, St.after, St.eval, cst, val1, okNew, allHs, rdOf, outHs, Reg.item, Reg.next, slotOf, entryRow, loadR, effLoad, binInt, effBin, effPick, idxS, effIndex, RC.flat, effLoad2, inHs, effLoad3, effIndex2, effBin2, wrHs, AV.hs, A0.hs, Entry.hs, RC.sz, RC.len, t_int, ts_int, Option.getD_some, Nat.reduceBEq, List.map_cons, List.map_nil, List.getElem?_cons_zero, List.getElem?_cons_succ, Option.bind_some, true_and, Bool.and_true, List.append_nil, List.nil_append, List.cons_append, List.flatMap_cons, List.flatMap_nil, beq_self_eq_true, Bool.false_eq_true, reduceIte, g4, c1, Int.toNat_natCast, z1, hx, hy, c2]
                    exact ⟨r1, g, r2, r3, by kernel_rfl, hJ _ (i + 1) [] g (Nat.sub_succ_lt_self _ _ g) (by simp only [Cov, covOk, covFr, covMem, entEq, rn, nodupB, A0.ren, AV.ren, Entry.ren, Entry.norm, look, St.eval, A0.norm, AV.norm, Option.getD_some, Option.getD_none, cond_true, cond_false, Nat.reduceBEq, List.map_cons, List.map_nil, List.all_nil, Bool.and_true, Bool.or_false, Bool.not_false, List.contains_cons, List.contains_nil, beq_self_eq_true, and_self, hws, htk])⟩
                  · simp (maxSteps := 4000000) only [↓cond_to_ite, ↓reduceIte, vc, out, Entry.toO, toOf, St.res, step, stepE, stepPick, stepG, stepO, stepC, eff, look, rem, St.put, setMems, St.after, St.eval, cst, val1, okNew, allHs, rdOf, outHs, Reg.item, Reg.next, slotOf, entryRow, loadR, effLoad, binInt, effBin, effPick, idxS, effIndex, RC.flat, effLoad2, inHs, effLoad3, effIndex2, effBin2, wrHs, AV.hs, A0.hs, Entry.hs, RC.sz, RC.len, t_int, ts_int, Option.getD_some, Nat.reduceBEq, List.map_cons, List.map_nil, List.getElem?_cons_zero, List.getElem?_cons_succ, Option.bind_some, true_and, Bool.and_true, List.append_nil, List.nil_append, List.cons_append, List.flatMap_cons, List.flatMap_nil, beq_self_eq_true, Bool.false_eq_true, reduceIte, g4, c1, Int.toNat_natCast, z1, hx, hy, c2]
                    exact ⟨r1, g, r2, r3, by kernel_rfl, hJ _ (i + 1) [] g (Nat.sub_succ_lt_self _ _ g) (by simp only [Cov, covOk, covFr, covMem, entEq, rn, nodupB, A0.ren, AV.ren, Entry.ren, Entry.norm, look, St.eval, A0.norm, AV.norm, Option.getD_some, Option.getD_none, cond_true, cond_false, Nat.reduceBEq, List.map_cons, List.map_nil, List.all_nil, Bool.and_true, Bool.or_false, Bool.not_false, List.contains_cons, List.contains_nil, beq_self_eq_true, and_self, hws, w5])⟩
              · obtain rfl : i = f.length := Nat.le_antisymm hi (Nat.le_of_not_lt g)
                have g4 : decide ((f.length : Int) < (f.length : Int)) = false := decide_eq_false (Int.lt_irrefl _)
                rw [List.take_length]
                rcases wy_end hw (wy_all fcp) with ⟨c1, w5⟩ | ⟨c1, w5⟩
                · simp (maxSteps := 4000000) only [↓cond_to_ite, ↓reduceIte, vc, out, finD, St.drop, vwAt, Entry.vwO, RC.vwO, Entry.toO, toOf, St.res, step, stepE, stepPick, stepG, stepO, stepC, eff, look, rem, St.put, setMems, St.after, St.eval, cst, val1, okNew, Reg.item, Reg.next, slotOf, entryRow, binInt, effBin, effUn, effPick, elemSz, lenOf, nodupB, argOk, RC.flat, lenOf2, effBin2, disj, RC.len, resOf, resAll, compEq, compsEq, rowHs, outHds, outsEq, shapeOk, finOk, comps, A0.norm, t_implPoint, ts_implPoint, Option.getD_some, Nat.reduceBEq, List.getElem?_cons_zero, List.getElem?_cons_succ, Option.map_some, Option.bind_some, Nat.zero_add, List.length_cons, List.length_nil, List.all_nil, Bool.and_true, Bool.not_true, Bool.not_false, List.contains_nil, beq_self_eq_true, and_self, Option.isSome_some, Bool.false_eq_true, reduceIte, bne_self_eq_false, g4, c1, w5, fp_length]
                · simp (maxSteps := 4000000) only [↓cond_to_ite, ↓reduceIte, vc, out, finD, St.drop, vwAt, Entry.vwO, RC.vwO, Entry.toO, toOf, St.res, step, stepE, stepPick, stepG, stepO, stepC, eff, look, rem, St.put, setMems, St.after, St.eval, cst, val1, okNew, Reg.item, Reg.next, slotOf, entryRow, binInt, effBin, effUn, effPick, elemSz, lenOf, nodupB, argOk, RC.flat, lenOf2, effBin2, disj, RC.len, resOf, resAll, compEq, compsEq, rowHs, outHds, outsEq, shapeOk, finOk, comps, A0.norm, t_implPoint, ts_implPoint, Option.getD_some, Nat.reduceBEq, List.getElem?_cons_zero, List.getElem?_cons_succ, Option.map_some, Option.bind_some, Nat.zero_add, List.length_cons, List.length_nil, List.all_nil, Bool.and_true, Bool.not_true, Bool.not_false, List.contains_nil, beq_self_eq_true, and_self, Option.isSome_some, Bool.false_eq_true, reduceIte, g4, c1, fp_length, w5]
            · have d3 : decide (((ppO k0 m0).length : Int) > 0) = false := decide_eq_false g3
              simp (maxSteps := 4000000) only [↓cond_to_ite, ↓reduceIte, vc, out, finD, St.drop, vwAt, Entry.vwO, RC.vwO, Entry.toO, toOf, St.res, step, stepE, stepPick, stepG, stepO, stepC, eff, look, rem, St.put, setMems, St.after, St.eval, cst, val1, okNew, Reg.item, Reg.next, slotOf, entryRow, binInt, effBin, effPick, elemSz, lenOf, nodupB, argOk, RC.flat, lenOf2, effBin2, disj, RC.len, resOf, resAll, compEq, compsEq, rowHs, outHds, outsEq, shapeOk, finOk, comps, A0.norm, t_implPoint, ts_implPoint, Option.getD_some, Nat.reduceBEq, List.getElem?_cons_zero, List.getElem?_cons_succ, Option.map_some, Option.bind_some, Nat.zero_add, List.length_cons, List.length_nil, List.all_nil, Bool.and_true, Bool.not_false, List.contains_nil, beq_self_eq_true, and_self, List.toList_toArray, Option.isSome_some, Bool.false_eq_true, reduceIte, Try.f3, tailC, onB, hf, w2, a1, a2, d1, d2, fp_length, d3]
          · have d2 : decide (m0 > 1) = false := decide_eq_false g2
            simp (maxSteps := 4000000) only [↓cond_to_ite, ↓reduceIte, vc, out, finD, St.drop, vwAt, Entry.vwO, RC.vwO, Entry.toO, toOf, St.res, step, stepE, stepPick, stepG, stepO, stepC, eff, look, rem, St.put, setMems, St.after, St.eval, cst, val1, okNew, Reg.item, Reg.next, Reg.skip, slotOf, binInt, effBin, effPick, nodupB, argOk, effBin2, disj, resOf, resAll, compEq, compsEq, rowHs, outHds, outsEq, shapeOk, finOk, comps, A0.norm, Option.getD_some, Nat.reduceBEq, List.getElem?_cons_zero, List.getElem?_cons_succ, Option.map_some, Option.bind_some, Nat.zero_add, List.length_cons, List.length_nil, List.all_nil, Bool.and_true, Bool.not_false, List.contains_nil, beq_self_eq_true, and_self, List.toList_toArray, Bool.false_eq_true, reduceIte, Try.f3, tailC, onB, hf, w2, a1, a2, d1, d2]
        · have d1 : (gcdI m0 (2 * k0) == 1) = false := beq_eq_false_iff_ne.2 g1
          simp (maxSteps := 4000000) only [↓cond_to_ite, ↓reduceIte, vc, out, finD, St.drop, vwAt, Entry.vwO, RC.vwO, Entry.toO, toOf, St.res, step, stepE, stepPick, stepG, stepO, stepC, eff, look, rem, St.put, setMems, St.after, St.eval, cst, val1, okNew, Reg.item, Reg.next, Reg.skip, slotOf, binInt, effBin, effPick, nodupB, argOk, effBin2, disj, resOf, resAll, compEq, compsEq, rowHs, outHds, outsEq, shapeOk, finOk, comps, A0.norm, Option.getD_some, Nat.reduceBEq, List.getElem?_cons_zero, List.getElem?_cons_succ, Option.map_some, Option.bind_some, Nat.zero_add, List.length_cons, List.length_nil, List.all_nil, Bool.and_true, Bool.not_false, List.contains_nil, beq_self_eq_true, and_self, List.toList_toArray, Bool.false_eq_true, reduceIte, Try.f3, tailC, onB, hf, w2, a1, a2, d1]
end Go.Proofs.Ytacomnelongbjab

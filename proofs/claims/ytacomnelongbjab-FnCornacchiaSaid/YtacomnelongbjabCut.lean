/-
  A walk in parts: between two parts the state is weakened to a chosen one. Conditions: none; this text proves nothing of the program.
-/
import Derived.Test.YtacomnelongbjabSet
namespace Go.Proofs.Ytacomnelongbjab
open Go Go.RowKit
/-- the first n statements of a chain, and what is left -/
def heads : Nat → Code → List Code
  | n + 1, .seq a b => a :: heads n b
  | _, _ => []
def tailC : Nat → Code → Code
  | n + 1, .seq _ b => tailC n b
  | _, x => x
inductive VcC (pins : List Nat) (tab : Tab) (spec : Spec) (fin : St → Prop) (d : Nat) : List Item → St → Prop
  | vc {k : List Item} {S : St} (n : Nat) (h : vc pins tab spec fin (lpN pins tab spec fin d) n k S) : VcC pins tab spec fin d k S
  | cut {x : Code} {k : List Item} {S : St} (n m : Nat) (M : St) (h1 : vc pins tab spec fin (lpN pins tab spec fin d) m ((heads n x).map Item.code ++ .back (fun T => ∃ π, Cov pins π T M) :: k) S)
      (h2 : VcC pins tab spec fin d (.code (tailC n x) :: k) M) : VcC pins tab spec fin d (.code x :: k) S
section
variable {c : Ctx} {Q0 : Exit → Act → World → Prop}
theorem kont_heads : ∀ (n : Nat) (x : Code) (k K1 : List Item), (∀ e a w, Kont c Q0 K1 e a w → Kont c Q0 (.code (tailC n x) :: k) e a w) →
    ∀ e a w, Kont c Q0 ((heads n x).map Item.code ++ K1) e a w → Kont c Q0 (.code x :: k) e a w
  | 0, x, k, K1, H => fun e a w h => H e a w (by unfold heads at h; exact h)
  | n + 1, .seq x y, k, K1, H => fun e a w h => by
    have ih := kont_heads n y k K1 H
    cases e with
    | normal =>
      have h1 : x.wp c.P (Kont c Q0 ((heads n y).map Item.code ++ K1)) a w := h
      exact wp_seq (wp_mono h1 fun e a' w' hq => ih e a' w' hq)
    | exit id => exact ih (.exit id) a w h
    | goto l => exact ih (.goto l) a w h
    | ret => exact ih .ret a w h
    | panic ch => exact ih (.panic ch) a w h
    | outgrown => exact ih .outgrown a w h
  | n + 1, .region .., k, K1, H => H
  | n + 1, .cond .., k, K1, H => H
  | n + 1, .block .., k, K1, H => H
  | n + 1, .loop .., k, K1, H => H
  | n + 1, .exit .., k, K1, H => H
  | n + 1, .ret, k, K1, H => H
  | n + 1, .skip, k, K1, H => H
  | n + 1, .rangeFunc .., k, K1, H => H
  | n + 1, .scope .., k, K1, H => H
  | n + 1, .label .., k, K1, H => H
  | n + 1, .goto .., k, K1, H => H
  | n + 1, .refuse .., k, K1, H => H
theorem heads_ok {N : Nat} : ∀ (n : Nat) (x : Code), dstB N x = true → ((heads n x).map Item.code).all (Item.okB N) = true ∧ dstB N (tailC n x) = true
  | 0, x, h => ⟨by simp [heads], h⟩
  | n + 1, .seq x y, h => by
    have hb : dstB N x = true ∧ dstB N y = true := by simpa [dstB] using h
    obtain ⟨h1, h2⟩ := heads_ok n y hb.2
    refine ⟨?_, h2⟩
    show (Item.code x :: (heads n y).map Item.code).all (Item.okB N) = true
    rw [List.all_cons, h1, Bool.and_true]
    exact hb.1
  | n + 1, .region .., h => ⟨rfl, h⟩
  | n + 1, .cond .., h => ⟨rfl, h⟩
  | n + 1, .block .., h => ⟨rfl, h⟩
  | n + 1, .loop .., h => ⟨rfl, h⟩
  | n + 1, .exit .., h => ⟨rfl, h⟩
  | n + 1, .ret, h => ⟨rfl, h⟩
  | n + 1, .skip, h => ⟨rfl, h⟩
  | n + 1, .rangeFunc .., h => ⟨rfl, h⟩
  | n + 1, .scope .., h => ⟨rfl, h⟩
  | n + 1, .label .., h => ⟨rfl, h⟩
  | n + 1, .goto .., h => ⟨rfl, h⟩
  | n + 1, .refuse .., h => ⟨rfl, h⟩
variable {pins : List Nat} {tab : Tab} {spec : Spec} {fin : St → Prop}
theorem vcc_sound (hT : TabOk c.P tab) (hspec : SpecOk c.P spec) (hp : pins = c.pins.map (·.1)) (hm : c.P.follows .mixedOrders = true)
    (hfin : ∀ S a w, fin S → Sat c (den S) a w → Q0 .normal a w ∧ Q0 .ret a w) {d : Nat} {k : List Item} {S : St} (h : VcC pins tab spec fin d k S) :
    k.all (Item.okB c.N) = true → ∀ a w, Sat c (den S) a w → Kont c Q0 k .normal a w := by
  induction h with
  | vc n h =>
    intro hok a w hs
    exact (vc_sound hT hspec hp hm hfin (lpN_sound hT hspec hp hm hfin d) n _ _ h hok a w hs).kont
  | @cut x k S n m M h1 h2 ih =>
    intro hok a w hs
    have hx : dstB c.N x = true ∧ k.all (Item.okB c.N) = true := by
      rw [List.all_cons, Bool.and_eq_true] at hok
      exact hok
    obtain ⟨o1, o2⟩ := heads_ok n x hx.1
    have ok1 : ((heads n x).map Item.code ++ .back (fun T => ∃ π, Cov pins π T M) :: k).all (Item.okB c.N) = true := by
      rw [List.all_append, o1, List.all_cons, hx.2]; rfl
    have ok2 : (Item.code (tailC n x) :: k).all (Item.okB c.N) = true := by
      rw [List.all_cons, hx.2, Bool.and_true]; exact o2
    have h3 := (vc_sound hT hspec hp hm hfin (lpN_sound hT hspec hp hm hfin d) m _ _ h1 ok1 a w hs).kont
    refine kont_heads n x k _ (fun e a' w' hq => ?_) .normal a w h3
    cases e with
    | normal =>
      obtain ⟨T, ⟨π, hc⟩, hs'⟩ := hq
      exact ih ok2 a' w' (sat_cov hp hc hs')
    | exit id => exact hq
    | goto l => exact hq
    | ret => exact hq
    | panic ch => exact hq
    | outgrown => exact hq
end
/-- A function's contract out of a walk in parts. -/
theorem ctr_cut {P : Program} {tab : Tab} {f : Nat} {fn : Func} {spec : Spec} {g : Ctr} (hm : P.follows .mixedOrders = true) (hT : TabOk P tab) (hspec : SpecOk P spec) (hf : P.funcs[f]? = some fn) (hn : nameOk fn = true) (hd : dstB fn.ntmps (fn.body.getD .skip) = true)
    (h : ∀ args ce, g args = some ce → (Nat.ble args.length fn.ntmps && noCur args) = true ∧ (ce.pre → ∃ d, VcC (ce.outs.map fun p => hA p.1) tab spec (finD (ce.outs.map fun p => hA p.1) tab fn.results.toList ce) d [.code (fn.body.getD .skip)] (initSt args ce.outs))) : CtrOk P f g := by
  simp only [nameOk, Bool.and_eq_true, Bool.not_eq_true'] at hn
  obtain ⟨b, hb⟩ := Option.isSome_iff_exists.1 hn.1
  refine ⟨fun args ce he => ?_, fn, hf, hn.1, hn.2⟩
  obtain ⟨hl, h2⟩ := h args ce he
  rw [hb] at h2 hd
  rw [Bool.and_eq_true] at hl
  refine FnOk.of0 ?_ hl.2
  intro hpre w0 vals ha
  obtain ⟨d, hv⟩ := h2 hpre
  have hpins : (ce.outs.map fun p => hA p.1) = (ctxOf P w0 ce.outs vals fn.ntmps).pins.map (·.1) := by simp [ctxOf]
  have hfin : ∀ (S : St) (a : Act) (w : World), finD (ce.outs.map fun p => hA p.1) tab fn.results.toList ce S → Sat (ctxOf P w0 ce.outs vals fn.ntmps) (den S) a w →
      bodyPost P fn (fun e w' => ∃ v, e = .returned v ∧ RetOk w0 w' vals ce v) .normal a w ∧ bodyPost P fn (fun e w' => ∃ v, e = .returned v ∧ RetOk w0 w' vals ce v) .ret a w := by
    intro S a w hS hs
    obtain ⟨h1, v, h2, h3⟩ := fin_ret hT ha hS (sat_drop hpins hs)
    exact ⟨⟨h1, v, h2, v, rfl, h3⟩, ⟨h1, v, h2, v, rfl, h3⟩⟩
  have h1 := vcc_sound (c := ctxOf P w0 ce.outs vals fn.ntmps) (Q0 := bodyPost P fn (fun e w' => ∃ v, e = .returned v ∧ RetOk w0 w' vals ce v)) hT hspec hpins hm hfin hv
    (ok_cons hd rfl) _ w0 (init_sat (N := fn.ntmps) (Nat.le_of_ble_eq_true hl.1) ha)
  exact calls_of_wp hf hb h1
end Go.Proofs.Ytacomnelongbjab

/-
  From a law's contract to what the statement's frame asks of its walk. Conditions: none; this text proves nothing of the program.
-/
import Derived.Test.YtacomnelongbjabSet
import Derived.Below
namespace Go.Proofs.Ytacomnelongbjab
open Go Go.RowKit

theorem below_of {w w' : World} {vals : List Value} {v : Value} {res : AV} {p : Prop} (h : RetOk w w' vals ⟨p, res, []⟩ v) : Below w.heap.size w w' :=
  ⟨h.chg.os, h.chg.tape, h.chg.output, h.chg.size, fun k hk => h.chg.block k hk (fun ⟨q, hq, _⟩ => by cases hq)⟩
theorem true_of {w w' : World} {vals : List Value} {v : Value} {p : Prop} {outs : List (Nat × Option RC)} (h : RetOk w w' vals ⟨p, .one (.b true), outs⟩ v) : v = .bool true := by
  obtain ⟨us, hus, _, hat, _⟩ := h.res
  obtain ⟨u, hu, hr⟩ := hat 0 (.b true) rfl
  simp only at hus
  obtain ⟨u0, rfl, rfl⟩ := hus
  simp only [List.getElem?_cons_zero, Option.some.injEq] at hu
  subst hu
  rw [hr.2]; rfl
/-- arguments that are no slices -/
theorem args_plain {w : World} {args : List A0} (h : args.all argOk = true) (hn : ∀ a ∈ args, ∀ r, a ≠ .rw r) (hb : ∀ a ∈ args, ∀ l, a ≠ .byt l := by simp) : ArgsOk w [] args (args.map (A0.conc noρ)) := by
  refine ⟨by simp, fun j a ha => ⟨a.conc noρ, by simp [ha], ?_⟩, fun p hp => (by cases hp), fun p hp => (by cases hp)⟩
  have hm := List.mem_of_getElem? ha
  have hok := List.all_eq_true.1 h a hm
  unfold ArgRel
  split
  · rename_i r; exact absurd rfl (hn _ hm r)
  · rename_i l; exact absurd rfl (hb _ hm l)
  · exact ⟨hok, rfl⟩
def flatA : A0 → Bool
  | .rw r => r.flat
  | _ => true
/-- THE WALK OF A LAW out of its contract. -/
theorem law_walk {P : Program} {f : Nat} {g : Ctr} {args : List A0} {vals : Array Value} {p : Prop} (h : CtrOk P f g) (hg : g args = some ⟨p, .one (.b true), []⟩) (hp : p) (w : World) (ha : ArgsOk w [] args vals.toList) (hfl : args.all flatA = true := by rfl) :
    Calls P f vals w fun e w' => e = .returned (.bool true) ∧ Below w.heap.size w w' := by
  have hth : vals.toList.map hdV = vals.toList := by
    refine (List.map_congr_left fun v hv => ?_).trans (List.map_id _)
    obtain ⟨j, hj⟩ := List.getElem?_of_mem hv
    have hjl : j < args.length := by rw [← ha.len]; exact (List.getElem?_eq_some_iff.1 hj).1
    obtain ⟨v', hv', hr⟩ := ha.rel j args[j] (by simp [hjl])
    rw [hj] at hv'; cases hv'
    have hf := List.all_eq_true.1 hfl args[j] (List.getElem_mem hjl)
    unfold ArgRel at hr
    split at hr
    · rename_i r heq
      rw [heq] at hf
      have hf' : r.flat = true := hf
      rw [if_neg (by simp)] at hr
      obtain ⟨_, A, n, cap, hv', _⟩ := (ReadsRow.flat hf').1 hr
      rw [hv']; rfl
    · exact CodeAt.thin hr
    · rename_i hnr _
      rw [hr.2]
      exact conc_thin hr.1 (fun r e => hnr r e)
  have := (h.1 args _ hg).go hp w vals.toList ha
  rw [hth] at this
  refine Calls.mono this fun e w' ⟨v, he, hr⟩ => ?_
  rw [he, true_of hr]
  exact ⟨rfl, below_of hr⟩
end Go.Proofs.Ytacomnelongbjab

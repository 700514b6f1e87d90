/-
  From a law's contract to what the statement's frame asks of its walk. Conditions: none; this text proves nothing of the program.
-/
import Derived.Test.YthjmjacniemfiabSet
import Derived.Below
namespace Go.Proofs.Ythjmjacniemfiab
open Go Go.RowKit

theorem below_of {w w' : World} {vals : List Value} {v : Value} {res : AV} {p : Prop} (h : RetOk w w' vals ⟨p, res, []⟩ v) : Below w.heap.size w w' :=
  ⟨h.chg.os, h.chg.tape, h.chg.output, h.chg.size, fun k hk => h.chg.block k hk (fun ⟨q, hq, _⟩ => by cases hq)⟩
theorem true_of {w w' : World} {vals : List Value} {v : Value} {p : Prop} {outs : List (Nat × Option RC)} (h : RetOk w w' vals ⟨p, .one (.b true), outs⟩ v) : v = .bool true := by
  obtain ⟨us, hus, _, hat, _⟩ := h.res
  obtain ⟨u, hu, hr⟩ := hat 0 (.b true) rfl
  simp only at hus
  subst hus
  simp only [List.getElem?_cons_zero, Option.some.injEq] at hu
  subst hu
  exact hr.2
/-- arguments that are no slices -/
theorem args_plain {w : World} {args : List A0} (h : args.all argOk = true) (hn : ∀ a ∈ args, ∀ r, a ≠ .rw r) : ArgsOk w [] args (args.map (A0.conc noρ)) := by
  refine ⟨by simp, fun j a ha => ⟨a.conc noρ, by simp [ha], ?_⟩, fun p hp => (by cases hp), fun p hp => (by cases hp)⟩
  have hm := List.mem_of_getElem? ha
  have hok := List.all_eq_true.1 h a hm
  unfold ArgRel
  split
  · rename_i r; exact absurd rfl (hn _ hm r)
  · exact ⟨hok, rfl⟩
/-- THE WALK OF A LAW out of its contract. -/
theorem law_walk {P : Program} {f : Nat} {g : Ctr} {args : List A0} {vals : Array Value} {p : Prop} (h : CtrOk P f g) (hg : g args = some ⟨p, .one (.b true), []⟩) (hp : p) (w : World) (ha : ArgsOk w [] args vals.toList) :
    Calls P f vals w fun e w' => e = .returned (.bool true) ∧ Below w.heap.size w w' := by
  have := h.1 args _ hg hp w vals.toList ha
  refine Calls.mono this fun e w' ⟨v, he, hr⟩ => ?_
  rw [he, true_of hr]
  exact ⟨rfl, below_of hr⟩
end Go.Proofs.Ythjmjacniemfiab

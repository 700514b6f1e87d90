/-
  THE PROOF OF 'Rows.FnCornacchiaSaid': the frame as the guide's shell writes it, over the contract of the law's function. Conditions: none.
-/
import Derived.Test.YtacomnelongbjabRows
import Derived.WalkKit
import Derived.ProofKit
import Derived.OpenShut
import Derived.ShutString
import Derived.ChangeOld
import Derived.Below
import Derived.Lib.SmallJoins
import Derived.Test.YtacomnelongbjabLaw
import Derived.Test.YtacomnelongbjabCcl
namespace Go.Proofs.Ytacomnelongbjab.fnCornacchia
open Go.ChangeShapes Go.WideShapes Go.ChangeAt Go.RowKit Go.Joins
open Go.ChangeMaps (open_string shut_string)
set_option linter.unusedVariables false

theorem own : ownKnob Try.prog.godebug = none := by kernel_rfl
theorem laidOut : laidOutB Try.prog = true := by kernel_rfl

theorem ob (vals : List Value) : OutBlk [] vals = fun _ => False := by
  funext k
  exact eq_false fun ⟨q, hq, _⟩ => by cases hq
theorem args_nil (w : World) : ArgsOk w [] [] [] := ⟨rfl, fun j a h => by simp at h, fun p hp => (by cases hp), fun p hp => (by cases hp)⟩
theorem args_cons {w : World} {a : A0} {v : Value} {args : List A0} {vals : List Value} (h : ArgsOk w [] args vals) (hv : ArgRel w (fun _ => False) false a v) : ArgsOk w [] (a :: args) (v :: vals) := by
  refine ⟨by simp [h.len], fun j b hb => ?_, fun p hp => (by cases hp), fun p hp => (by cases hp)⟩
  rw [ob]
  cases j with
  | zero =>
    simp only [List.getElem?_cons_zero, Option.some.injEq] at hb
    subst hb
    exact ⟨v, rfl, hv⟩
  | succ j =>
    obtain ⟨v', h1, h2⟩ := h.rel j b (by simpa using hb)
    rw [ob] at h2
    exact ⟨v', by simpa using h1, h2⟩
theorem nil_reads (w : World) (e : Nat) : ReadsRow w (fun k => k < w.heap.size ∧ ¬ False) (.ints e []) (.slice none 0 0) :=
  (ReadsRow.flat rfl).2 ⟨trivial, none, 0, 0, rfl, rfl, Nat.le_refl _, Nat.zero_le _, fun h => absurd h (by simp)⟩
theorem row_reads {w : World} {e : Nat} {a : Addr} {len cap : Nat} {zs : List Int} (hz : len ≤ zs.length) (hle : len ≤ cap) (hmax : cap ≤ maxLen) (hcell : ∀ i, i < zs.length → w.cell? (a.add i) = some (.int .i64 (zs.getD i 0))) :
    ReadsRow w (fun k => k < w.heap.size ∧ ¬ False) (.ints e (zs.take len)) (.slice (some a) len cap) := by
  refine (ReadsRow.flat rfl).2 ⟨trivial, some a, len, cap, rfl, ?_, hle, hmax, fun h => ⟨a, rfl, ⟨?_, fun h => h⟩, fun j u hu => ?_⟩⟩
  · show len = (zs.take len).length
    rw [List.length_take]; omega
  · have h0 := hcell 0 (by omega)
    have h1 : ∀ {b : Addr} {v : Value}, w.cell? b = some v → b.block < w.heap.size := by
      intro b v hb
      unfold World.cell? at hb
      cases hh : w.heap[b.block]? with
      | none => rw [hh] at hb; cases hb
      | some x => exact (Array.getElem?_eq_some_iff.1 hh).1
    exact h1 h0
  · have hu' : ((zs.take len).map vI)[j]? = some u := hu
    rw [List.getElem?_map] at hu'
    obtain ⟨n, hn, rfl⟩ := Option.map_eq_some_iff.1 hu'
    have hj : j < len ∧ j < zs.length := by
      have := (List.getElem?_eq_some_iff.1 hn).1
      rw [List.length_take] at this
      omega
    rw [List.getElem?_take, if_pos hj.1] at hn
    rw [hcell j hj.2, List.getD_eq_getElem?_getD, hn]
    rfl
theorem nil_code (w : World) : CodeAt w (fun k => k < w.heap.size ∧ ¬ False) [] (.slice none 0 0) :=
  ⟨by simp, none, 0, 0, rfl, rfl, Nat.le_refl _, Nat.zero_le _, fun h => absurd h (by simp)⟩
theorem row_code {w : World} {a : Addr} {len cap : Nat} {zs : List Int} (hz : len ≤ zs.length) (hle : len ≤ cap) (hmax : cap ≤ maxLen) (hcell : ∀ i, i < zs.length → w.cell? (a.add i) = some (.int .u8 (zs.getD i 0))) (hwf : ∀ n ∈ zs, (Lit.int .u8 n).wf = true) :
    CodeAt w (fun k => k < w.heap.size ∧ ¬ False) (zs.take len) (.slice (some a) len cap) := by
  refine ⟨fun x hx => ?_, some a, len, cap, rfl, ?_, hle, hmax, fun h => ⟨a, rfl, ⟨?_, fun h => h⟩, fun j u hu => ?_⟩⟩
  · have h1 := hwf x (List.mem_of_mem_take hx)
    simp only [Lit.wf, Bool.and_eq_true, decide_eq_true_eq] at h1
    have m1 : IntKind.u8.min = 0 := by decide
    have m2 : IntKind.u8.max = 255 := by decide
    omega
  · rw [List.length_take]; omega
  · have h0 := hcell 0 (by omega)
    have h1 : ∀ {b : Addr} {v : Value}, w.cell? b = some v → b.block < w.heap.size := by
      intro b v hb
      unfold World.cell? at hb
      cases hh : w.heap[b.block]? with
      | none => rw [hh] at hb; cases hb
      | some x => exact (Array.getElem?_eq_some_iff.1 hh).1
    exact h1 h0
  · have hj : j < len ∧ j < zs.length := by
      have := (List.getElem?_eq_some_iff.1 hu).1
      rw [List.length_take] at this
      omega
    rw [List.getElem?_take, if_pos hj.1] at hu
    rw [hcell j hj.2, List.getD_eq_getElem?_getD, hu]
    rfl
theorem walk (a0 : List Int) (u0 : Value) (a1 : List Int) (u1 : Value) (w : World) (hr0 : CodeAt w (fun k => k < w.heap.size ∧ ¬ False) a0 u0) (hr1 : CodeAt w (fun k => k < w.heap.size ∧ ¬ False) a1 u1) :
    Calls Try.prog 3 #[u0, u1] w fun e w' => e = .returned (.bool true) ∧ Below w.heap.size w w' :=
  law_walk (args := [.byt a0, .byt a1]) okLawCorn rfl ⟨hr0.1, hr1.1⟩ w (args_cons (args_cons (args_nil w) hr1) hr0)

set_option maxRecDepth 100000 in
theorem lifted (os : Os) (started : os.Started) (H : Type) (enc : TypeId × Value → H) :
    ReturnsInHanded {} Try.checked os 3 .any (Rows.fnCornacchiaSpec.pre6 enc Try.prog Try.f3 Rows.fnCornacchiaRow.domain false) (Rows.fnCornacchiaSpec.post enc Try.prog Try.f3 false true false false) := by
  refine returnsInHanded_of_change (C := Try.checked) own started (by kernel_rfl) Try.func3
    (ChangeSpec.witness6 (enc := enc) (C := Try.checked) false ⟨#[], #[.slice none 0 0, .slice none 0 0], []⟩ 8 (by kernel_rfl) (by kernel_rfl) (by kernel_rfl) (by kernel_rfl)) ?_
  intro W base args ds gs before hval0 hW hcnd _
  have hval : ∀ (j : Nat) t v, Try.f3.params[j]? = some t → args[j]? = some v → Value.okWide Try.prog W .any base t v := hval0
  have hW' := hW
  obtain ⟨p, q, hA0, hV, rfl, hfz, hnd⟩ := hW
  have hA : DataW.TrodAll enc Try.prog W 0 (fun _ => true) true Try.f3.params.toList args.toList ds p := hA0
  rw [Try.params3] at hA hval
  obtain ⟨v0, vs0, d0, ds0, p0, q0, hargs, rfl, rfl, h0, r0⟩ := trodAll_cons hA
  obtain ⟨v1, vs1, d1, ds1, p1, q1, rfl, rfl, rfl, h1, r1⟩ := trodAll_cons r0
  obtain ⟨rfl, rfl, rfl⟩ := trodAll_nil r1
  obtain rfl : args = #[v0, v1] := by cases args; simp_all
  obtain ⟨rfl, rfl⟩ := trodVars_none hV
  have k0 := h0
  have lt0 : ∀ x ∈ p0, x.block < W.heap.size := by obtain ⟨m, hm⟩ := k0; exact DataW.trod_lt m _ _ _ hm
  have k1 := h1
  have lt1 : ∀ x ∈ p1, x.block < W.heap.size := by obtain ⟨m, hm⟩ := k1; exact DataW.trod_lt m _ _ _ hm
  obtain ⟨sa0, sn0, sc0, rfl⟩ := Go.WideShapes.okWide_slice Try.underlying22 (hval 0 22 v0 rfl rfl)
  obtain ⟨fu0, hf0⟩ := h0
  obtain ⟨a0, hr0⟩ : ∃ l : List Int, CodeAt W (fun k => k < W.heap.size ∧ ¬ False) l (.slice sa0 sn0 sc0) := by
    rcases Go.ChangeShapes.open_ints Try.underlying22 Try.underlying5 (by kernel_rfl) hf0 with ⟨hcs, _⟩ | ⟨a, len, cap, zs, hcs, _, hle, hmax, hall, _, hcell, hwf⟩
    · simp [Value.cells] at hcs
      obtain ⟨rfl, rfl, rfl⟩ := hcs
      exact ⟨[], nil_code W⟩
    · simp [Value.cells] at hcs
      obtain ⟨rfl, rfl, rfl⟩ := hcs
      exact ⟨zs.take _, row_code (by simp at hall; omega) hle hmax hcell hwf⟩
  obtain ⟨sa1, sn1, sc1, rfl⟩ := Go.WideShapes.okWide_slice Try.underlying22 (hval 1 22 v1 rfl rfl)
  obtain ⟨fu1, hf1⟩ := h1
  obtain ⟨a1, hr1⟩ : ∃ l : List Int, CodeAt W (fun k => k < W.heap.size ∧ ¬ False) l (.slice sa1 sn1 sc1) := by
    rcases Go.ChangeShapes.open_ints Try.underlying22 Try.underlying5 (by kernel_rfl) hf1 with ⟨hcs, _⟩ | ⟨a, len, cap, zs, hcs, _, hle, hmax, hall, _, hcell, hwf⟩
    · simp [Value.cells] at hcs
      obtain ⟨rfl, rfl, rfl⟩ := hcs
      exact ⟨[], nil_code W⟩
    · simp [Value.cells] at hcs
      obtain ⟨rfl, rfl, rfl⟩ := hcs
      exact ⟨zs.take _, row_code (by simp at hall; omega) hle hmax hcell hwf⟩
  clear hA0 hval0
  refine (walk a0 _ a1 _ W hr0 hr1).mono fun e W' ⟨he, bel⟩ => ?_
  subst he
  exact ⟨_, rfl, _, _, _, [], _, [], hW', trodAll_mk1 (shut_bool Try.underlying4 _), (trodAll_cons_mk (Below.trod laidOut (by kernel_rfl) (of_decide_eq_true (by kernel_rfl)) k0 bel lt0) (trodAll_cons_mk (Below.trod laidOut (by kernel_rfl) (of_decide_eq_true (by kernel_rfl)) k1 bel lt1) trodAll_mk0)), rfl, bel.frame _, fun h => by cases h⟩

theorem over : Rows.fnCornacchiaRow.holds Try.pinned (OpenSpec.ofChange Rows.fnCornacchiaSpec) :=
  OpenClaim.holds_of_wide 3 Try.f3 rfl rfl rfl rfl rfl rfl rfl ⟨rfl, rfl, rfl, rfl, rfl⟩ rfl rfl rfl rfl rfl (by kernel_rfl) Try.func3 (by kernel_rfl)
    (of_decide_eq_true (by kernel_rfl)) (by unfold Func.isWrapper; first | (rw [if_pos (by decide +kernel)]; kernel_rfl) | (rw [if_neg (by decide +kernel)]; exact ⟨rfl, rfl⟩))
    (fun os started H enc _ => lifted os started H enc)

/-- THE STATEMENT -/
theorem proved : Rows.FnCornacchiaSaid := over
#print axioms proved
end Go.Proofs.Ytacomnelongbjab.fnCornacchia

/-
  Contracts put together, and the program's types as the machine's table. Conditions: none; closed facts of the program's table alone.
-/
import Derived.Test.YtacomnelongbjabFcu
import Derived.Test.YtacomnelongbjabProg
namespace Go.Proofs.Ytacomnelongbjab
open Go Go.RowKit

theorem ble_dec (a b : Nat) : Nat.ble a b = decide (a ≤ b) := by
  rw [Bool.eq_iff_iff, Nat.ble_eq, decide_eq_true_iff]
theorem blt_dec (a b : Nat) : Nat.blt a b = decide (a + 1 ≤ b) := ble_dec (a + 1) b
theorem bif_prop (b : Bool) (p q : Prop) : (bif b then p else q) ↔ (b = true → p) ∧ (b = false → q) := by
  cases b <;> simp
section
variable {f : List Item → St → Prop} {fin : St → Prop} {lp : Code → List Item → St → Prop}
theorem out_go {p : Prop} {k : List Item} {S : St} : out f fin lp (.go p k S) = (p ∧ f k S) := rfl
theorem out_two {b : Bool} {k1 k2 : List Item} {S1 S2 : St} : out f fin lp (.two b k1 S1 k2 S2) = (bif b then f k1 S1 else f k2 S2) := rfl
theorem out_fin {S : St} : out f fin lp (.fin S) = fin S := rfl
theorem out_lp {x : Code} {k : List Item} {S : St} : out f fin lp (.lp x k S) = lp x k S := rfl
theorem out_back {J : St → Prop} {S : St} : out f fin lp (.back J S) = J S := rfl
end
abbrev Ctr := List A0 → Option CEff
def specOf (l : List (Nat × Ctr)) : Spec := fun f args => match look f l with
  | some g => g args
  | none => none
def CtrOk (P : Program) (f : Nat) (g : Ctr) : Prop := (∀ args ce, g args = some ce → FnOk P f args ce) ∧ ∃ fn, P.funcs[f]? = some fn ∧ fn.body.isSome = true ∧ (fn.name == "runtime.NumGoroutine") = false
theorem SpecOk.nil {P : Program} : SpecOk P (specOf []) := fun f args ce h => by simp [specOf, look] at h
theorem SpecOk.cons {P : Program} {f : Nat} {g : Ctr} {l : List (Nat × Ctr)} (h : CtrOk P f g) (hl : SpecOk P (specOf l)) : SpecOk P (specOf ((f, g) :: l)) := by
  intro f' args ce he
  unfold specOf look at he
  by_cases hf : f = f'
  · subst hf
    simp only [beq_self_eq_true, cond_true] at he
    exact ⟨h.1 args ce he, h.2⟩
  · have : (f == f') = false := by simpa using hf
    simp only [this, cond_false] at he
    exact hl f' args ce (by unfold specOf; exact he)

def nameOk (fn : Func) : Bool := fn.body.isSome && !(fn.name == "runtime.NumGoroutine")
/-- A function's contract: for every case of it, its body's verification condition. -/
theorem ctr_of {P : Program} {tab : Tab} {f : Nat} {fn : Func} {spec : Spec} {g : Ctr} (hm : P.follows .mixedOrders = true) (hT : TabOk P tab) (hspec : SpecOk P spec) (hf : P.funcs[f]? = some fn) (hn : nameOk fn = true) (hd : dstB fn.ntmps (fn.body.getD .skip) = true)
    (h : ∀ args ce, g args = some ce → (Nat.ble args.length fn.ntmps && noCur args) = true ∧ (ce.pre → ∃ d n, vc (ce.outs.map fun p => hA p.1) tab spec (finD (ce.outs.map fun p => hA p.1) tab fn.results.toList ce) (lpN (ce.outs.map fun p => hA p.1) tab spec (finD (ce.outs.map fun p => hA p.1) tab fn.results.toList ce) d) n [.code (fn.body.getD .skip)] (initSt args ce.outs))) : CtrOk P f g := by
  simp only [nameOk, Bool.and_eq_true, Bool.not_eq_true'] at hn
  obtain ⟨b, hb⟩ := Option.isSome_iff_exists.1 hn.1
  refine ⟨fun args ce he => ?_, fn, hf, hn.1, hn.2⟩
  obtain ⟨h1, h2⟩ := h args ce he
  rw [hb] at h2 hd
  exact fn_ok hm hT hspec hf hb hd h1 h2

/-- A cursor's method: a contract out of what each call of it does. -/
theorem cu_of {P : Program} {tab : Tab} {f : Nat} {fn : Func} {spec : Spec} {l : List Int} {a0 s0 a1 s1 : Int} {rest : List A0} {ce : CEff} (hm : P.follows .mixedOrders = true) (hT : TabOk P tab) (hspec : SpecOk P spec) (hf : P.funcs[f]? = some fn) (hn : nameOk fn = true) (hd : dstB fn.ntmps (fn.body.getD .skip) = true) (hl : (Nat.ble (rest.length + 1) fn.ntmps && rest.all cuArg) = true) (d n : Nat)
    (h : vc [hA 0] tab spec (finC tab fn.results.toList l ce.res a1 s1) (lpN [hA 0] tab spec (finC tab fn.results.toList l ce.res a1 s1) d) n [.code (fn.body.getD .skip)] (initC l a0 s0 rest)) : FnCu P f l a0 s0 rest ce a1 s1 := by
  simp only [nameOk, Bool.and_eq_true, Bool.not_eq_true'] at hn
  obtain ⟨b, hb⟩ := Option.isSome_iff_exists.1 hn.1
  rw [hb] at h hd
  exact fn_cu hm hT hspec hf hb hd hl fun _ => ⟨d, n, h⟩
theorem ctr_cu {P : Program} {f : Nat} {fn : Func} {g : Ctr} (hf : P.funcs[f]? = some fn) (hn : nameOk fn = true)
    (h : ∀ args ce, g args = some ce → ∃ l a0 s0 rest a1 s1, args = .cur l a0 s0 :: rest ∧ ce.outs = [(0, some (.ints 0 [a1, s1]))] ∧ FnCu P f l a0 s0 rest ce a1 s1) : CtrOk P f g := by
  simp only [nameOk, Bool.and_eq_true, Bool.not_eq_true'] at hn
  refine ⟨fun args ce he => ?_, fn, hf, hn.1, hn.2⟩
  obtain ⟨l, a0, s0, rest, a1, s1, rfl, ho, hc⟩ := h args ce he
  refine ⟨fn_cu0, fun l' a0' s0' rest' a1' s1' h1 h2 _ => ?_⟩
  simp only [List.cons.injEq, A0.cur.injEq] at h1
  obtain ⟨⟨rfl, rfl, rfl⟩, rfl⟩ := h1
  rw [ho] at h2
  simp only [List.cons.injEq, Prod.mk.injEq, Option.some.injEq, RC.ints.injEq, and_true, true_and] at h2
  obtain ⟨rfl, rfl⟩ := h2
  exact hc
/-- What a draw gives: its numbers, and the cursor's place and seed behind it. -/
abbrev DR := (Nat → Int) × Int × Int
/-! ### the program's types -/
def tab : Tab :=
  [(3, ⟨.int, 1, 8⟩),
   (4, ⟨.bool, 1, 1⟩),
   (66, ⟨.struct [(0, 1), (1, 1), (2, 1)], 3, 24⟩),
   (51, ⟨.struct [(0, 1), (1, 1)], 2, 16⟩),
   (28, ⟨.slice 3, 1, 24⟩),
   (52, ⟨.slice 4, 1, 24⟩),
   (58, ⟨.slice 66, 1, 24⟩),
   (36, ⟨.slice 51, 1, 24⟩),
   (5, ⟨.uk .u8, 1, 1⟩),
   (43, ⟨.uk .u64, 1, 8⟩),
   (22, ⟨.slice 5, 1, 24⟩),
   (45, ⟨.cur, 3, 40⟩)]
theorem t_int : look 3 tab = some ⟨.int, 1, 8⟩ := rfl
theorem t_bool : look 4 tab = some ⟨.bool, 1, 1⟩ := rfl
theorem t_implForm : look 66 tab = some ⟨.struct [(0, 1), (1, 1), (2, 1)], 3, 24⟩ := rfl
theorem t_implPoint : look 51 tab = some ⟨.struct [(0, 1), (1, 1)], 2, 16⟩ := rfl
theorem ts_int : look 28 tab = some ⟨.slice 3, 1, 24⟩ := rfl
theorem ts_bool : look 52 tab = some ⟨.slice 4, 1, 24⟩ := rfl
theorem ts_implForm : look 58 tab = some ⟨.slice 66, 1, 24⟩ := rfl
theorem ts_implPoint : look 36 tab = some ⟨.slice 51, 1, 24⟩ := rfl
theorem t_u8 : look 5 tab = some ⟨.uk .u8, 1, 1⟩ := rfl
theorem t_u64 : look 43 tab = some ⟨.uk .u64, 1, 8⟩ := rfl
theorem ts_u8 : look 22 tab = some ⟨.slice 5, 1, 24⟩ := rfl
theorem t_l1Cur : look 45 tab = some ⟨.cur, 3, 40⟩ := rfl
theorem lp_intro {pins : List Nat} {tab : Tab} {spec : Spec} {fin : St → Prop} {d : Nat} {b : Code} {k : List Item} {S : St} {α : Type} (mk : α → St) (I : α → Prop) (μ : α → Nat) (x0 : α) (π : List (Nat × Nat)) (hI : I x0) (hc : Cov pins π S (mk x0))
    (h : ∀ x, I x → ∀ J : St → Prop, (∀ S' y π, I y → μ y < μ x → Cov pins π S' (mk y) → J S') → ∃ n, vc pins tab spec fin (lpN pins tab spec fin d) n (.code b :: .back J :: k) (mk x)) : lpN pins tab spec fin (d + 1) (.loop b) k S :=
  ⟨α, mk, I, μ, ⟨x0, π, [], none, hI, trivial, rfl, hc⟩, fun x hx J hJ => h x hx J fun S' y π hy hm hc => hJ S' y π hy hm (.inl hc)⟩
/-- the same where slots that hold nil become rows: 'sd' has the slot, the new handle and the row for each -/
theorem lp_seed {pins : List Nat} {tab : Tab} {spec : Spec} {fin : St → Prop} {d : Nat} {b : Code} {k : List Item} {S : St} {α : Type} (sd : List (Nat × Nat × RC)) (mk : α → St) (I : α → Prop) (μ : α → Nat) (x0 : α) (π : List (Nat × Nat)) (hsd : seedsOk pins S sd = true) (hI : I x0) (hc : Cov pins π (seeds S sd) (mk x0))
    (h : ∀ x, I x → ∀ J : St → Prop, (∀ S' y π, I y → μ y < μ x → Cov pins π S' (mk y) → J S') → ∃ n, vc pins tab spec fin (lpN pins tab spec fin d) n (.code b :: .back J :: k) (mk x)) : lpN pins tab spec fin (d + 1) (.loop b) k S :=
  ⟨α, mk, I, μ, ⟨x0, π, sd, none, hI, trivial, hsd, hc⟩, fun x hx J hJ => h x hx J fun S' y π hy hm hc => hJ S' y π hy hm (.inl hc)⟩
/-- the same where a part of a row is read in the loop and the row is appended to: 'vs' has the slot that holds the part, and the new handle -/
theorem lp_view {pins : List Nat} {tab : Tab} {spec : Spec} {fin : St → Prop} {d : Nat} {b : Code} {k : List Item} {S : St} {α : Type} (vs : Nat × Nat) (mk : α → St) (I : α → Prop) (μ : α → Nat) (x0 : α) (π : List (Nat × Nat)) (hvs : viewOk pins S vs) (hI : I x0) (hc : Cov pins π (viewS S vs) (mk x0))
    (h : ∀ x, I x → ∀ J : St → Prop, (∀ S' y π, I y → μ y < μ x → Cov pins π S' (mk y) → J S') → ∃ n, vc pins tab spec fin (lpN pins tab spec fin d) n (.code b :: .back J :: k) (mk x)) : lpN pins tab spec fin (d + 1) (.loop b) k S :=
  ⟨α, mk, I, μ, ⟨x0, π, [], some vs, hI, hvs, rfl, hc⟩, fun x hx J hJ => h x hx J fun S' y π hy hm hc => hJ S' y π hy hm (.inl hc)⟩
/-- the same where a round ends with a part of a row that is no longer read -/
theorem lp_drop {pins : List Nat} {tab : Tab} {spec : Spec} {fin : St → Prop} {d : Nat} {b : Code} {k : List Item} {S : St} {α : Type} (sd : List (Nat × Nat × RC)) (mk : α → St) (I : α → Prop) (μ : α → Nat) (x0 : α) (π : List (Nat × Nat)) (hsd : seedsOk pins S sd = true) (hI : I x0) (hc : Cov pins π (seeds S sd) (mk x0))
    (h : ∀ x, I x → ∀ J : St → Prop, (∀ S' y π, I y → μ y < μ x → Cov pins π (S'.drop pins) (mk y) → J S') → ∃ n, vc pins tab spec fin (lpN pins tab spec fin d) n (.code b :: .back J :: k) (mk x)) : lpN pins tab spec fin (d + 1) (.loop b) k S :=
  ⟨α, mk, I, μ, ⟨x0, π, sd, none, hI, trivial, hsd, hc⟩, fun x hx J hJ => h x hx J fun S' y π hy hm hc => hJ S' y π hy hm (.inr hc)⟩
theorem flatB_2 : flatB 2 [(0, 1), (1, 1)] = true := rfl
theorem flatB_3 : flatB 3 [(0, 1), (1, 1), (2, 1)] = true := rfl
theorem flatB_4 : flatB 4 [(0, 1), (1, 1), (2, 1), (3, 1)] = true := rfl
theorem range_2 : List.range 2 = [0, 1] := rfl
theorem range_3 : List.range 3 = [0, 1, 2] := rfl
theorem range_4 : List.range 4 = [0, 1, 2, 3] := rfl
theorem range_8 : List.range 8 = [0, 1, 2, 3, 4, 5, 6, 7] := rfl
theorem tab_ok : TabOk Try.prog tab := TabOk.of (by kernel_rfl)
theorem mixed : Try.prog.follows .mixedOrders = true := by kernel_rfl
end Go.Proofs.Ytacomnelongbjab

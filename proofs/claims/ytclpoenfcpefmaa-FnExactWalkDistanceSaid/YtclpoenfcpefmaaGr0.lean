/-
  Contracts of a class group's list and of the map of its places, and of places in a list, on both sides. Conditions: none.
-/
import Derived.Test.YtclpoenfcpefmaaUn
import Derived.Test.YtclpoenfcpefmaaGea
import Derived.Test.YtclpoenfcpefmaaIte
namespace Go.Proofs.Ytclpoenfcpefmaa
open Go Go.RowKit
set_option maxRecDepth 100000
set_option linter.unusedSimpArgs false
set_option linter.unusedVariables false
set_option maxHeartbeats 4000000

theorem prim_gcd {f : F3} (h : Prim f) : Int.gcd f.1 (Int.gcd f.2.1 f.2.2 : Nat) = 1 := by
  obtain ⟨x, y, z, hz⟩ := h
  have d1 : ((Int.gcd f.1 (Int.gcd f.2.1 f.2.2 : Nat) : Nat) : Int) ∣ f.1 := Int.gcd_dvd_left ..
  have d0 : ((Int.gcd f.1 (Int.gcd f.2.1 f.2.2 : Nat) : Nat) : Int) ∣ ((Int.gcd f.2.1 f.2.2 : Nat) : Int) := Int.gcd_dvd_right ..
  have d2 := Int.dvd_trans d0 (Int.gcd_dvd_left (a := f.2.1) (b := f.2.2))
  have d3 := Int.dvd_trans d0 (Int.gcd_dvd_right (a := f.2.1) (b := f.2.2))
  have d : ((Int.gcd f.1 (Int.gcd f.2.1 f.2.2 : Nat) : Nat) : Int) ∣ 1 := by
    rw [← hz]
    exact Int.dvd_add (Int.dvd_add (Int.dvd_mul_of_dvd_right d1) (Int.dvd_mul_of_dvd_right d2)) (Int.dvd_mul_of_dvd_right d3)
  have := Int.le_of_dvd (by omega) d
  have h0 : Int.gcd f.1 (Int.gcd f.2.1 f.2.2 : Nat) ≠ 0 := fun h => by
    rw [h] at d
    have := Int.zero_dvd.1 d
    omega
  omega
theorem rp_mem {D : Int} {g : F3} (h : RP D g) : g ∈ redF D := by
  have ha := h.a25
  have hb := h.red.abs
  have hc := h.c700
  refine (mem_redF ⟨h.lo, h.hi⟩).2 ⟨h.red, ?_⟩
  have hg := prim_gcd h.prim
  have k := gcd_le (a := g.2.1) (b := g.2.2) (by omega) (by omega)
  unfold primB
  rw [gcdI_eq (a := g.2.1) (by omega) (by omega), gcdI_eq (by omega) (by omega), hg]
  rfl
/-! ### places in a list -/
def ixM (L : List F3) : List (List Int × Int) := L.zipIdx.map fun p => (p.1.l, (p.2 : Int))
theorem l_inj {x y : F3} : x.l = y.l ↔ x = y := by
  obtain ⟨a, b, c⟩ := x
  obtain ⟨a', b', c'⟩ := y
  simp [F3.l]
theorem l_beq (x y : F3) : (x.l == y.l) = decide (x = y) := by
  rw [Bool.eq_iff_iff, beq_iff_eq, decide_eq_true_iff, l_inj]
theorem getL_ixk (x : F3) : ∀ (L : List F3) (k : Nat), x ∈ L → getL (0 : Int) x.l ((L.zipIdx k).map fun p => (p.1.l, (p.2 : Int))) = ((k + L.idxOf x : Nat) : Int)
  | [], _, h => by cases h
  | y :: L, k, h => by
    simp only [List.zipIdx_cons, List.map_cons, getL, l_beq, List.idxOf_cons]
    by_cases hy : y = x
    · subst hy; simp
    · have hb : (y == x) = false := by simpa using hy
      have hm : x ∈ L := by
        rcases List.mem_cons.1 h with h | h
        · exact absurd h.symm hy
        · exact h
      rw [hb, decide_eq_false hy, cond_false, cond_false, getL_ixk x L (k + 1) hm]
      congr 1
      omega
theorem getL_ix {L : List F3} {a b c : Int} (h : (a, b, c) ∈ L) : getL (0 : Int) [a, b, c] (ixM L) = ((L.idxOf (a, b, c) : Nat) : Int) := by
  have := getL_ixk (a, b, c) L 0 h
  rw [Nat.zero_add] at this
  exact this
theorem putL_new {α : Type} (x : F3) (v : α) : ∀ (l : List (List Int × α)), (∀ p ∈ l, p.1 ≠ x.l) → putL x.l v l = l ++ [(x.l, v)]
  | [], _ => rfl
  | p :: l, h => by
    have hp : (p.1 == x.l) = false := by simpa using h p (by simp)
    simp only [putL, hp, cond_false, putL_new x v l fun q hq => h q (by simp [hq]), List.cons_append]
theorem nd_not {L : List F3} (hn : L.Nodup) {k : Nat} (hk : k < (fl L).length) : nth3 (fl L) k ∉ L.take k := by
  have ht := unfl_take (fl L) hk
  rw [unfl_fl] at ht
  have h1 : (L.take (k + 1)).Nodup := hn.sublist (List.take_sublist _ _)
  rw [ht] at h1
  intro hm
  exact (List.nodup_append.1 h1).2.2 _ hm _ (by simp) rfl
theorem ixM_take {L : List F3} (hn : L.Nodup) {k : Nat} (hk : k < (fl L).length) : putL [(nth3 (fl L) k).1, (nth3 (fl L) k).2.1, (nth3 (fl L) k).2.2] (k : Int) (ixM (L.take k)) = ixM (L.take (k + 1)) := by
  have ht := unfl_take (fl L) hk
  rw [unfl_fl] at ht
  have hkl : k < L.length := by rwa [fl_length] at hk
  have hlen : (L.take k).length = k := by rw [List.length_take]; omega
  have hnot := nd_not hn hk
  have e : ixM (L.take (k + 1)) = ixM (L.take k) ++ [((nth3 (fl L) k).l, (k : Int))] := by
    rw [ht]
    unfold ixM
    rw [List.zipIdx_append, List.map_append, hlen]
    simp
  rw [e]
  refine putL_new (nth3 (fl L) k) (k : Int) _ fun p hp => ?_
  unfold ixM at hp
  obtain ⟨q, hq, rfl⟩ := List.mem_map.1 hp
  intro he
  have h3 : q.1 = nth3 (fl L) k := l_inj.1 he
  have h4 : q.1 ∈ L.take k := by
    obtain ⟨_, h5, h6⟩ := List.mem_zipIdx hq
    rw [h6]; exact List.getElem_mem _
  exact hnot (h3 ▸ h4)
/-! ### the list of classes -/
theorem mem_redF_rp {d : Int} (hd : -2000 ≤ d ∧ d ≤ -3) {x : F3} : x ∈ redF d ↔ RP d x := by
  refine ⟨fun h => ?_, rp_mem⟩
  obtain ⟨h1, h2⟩ := (mem_redF hd).1 h
  have h3 := h1.small hd.1
  obtain ⟨a, b, c⟩ := x
  simp only at h3
  unfold primB at h2
  simp only [beq_iff_eq] at h2
  have k := gcd_le (a := b) (b := c) (by omega) (by omega)
  rw [gcdI_eq (a := b) (by omega) (by omega), gcdI_eq (by omega) (by omega)] at h2
  exact ⟨h1, prim_of (by omega), hd.1, hd.2⟩
theorem allB_nodup (d a b : Int) : (allB d a b).Nodup := by
  fun_induction allB d a b with
  | case1 b h ih =>
    refine List.nodup_append.2 ⟨by split <;> simp, ih, fun x hx y hy he => ?_⟩
    subst he
    have h2 := (mem_allB (d := d) (a := a) (x := x) (b + 1)).1 hy
    split at hx
    · rw [List.mem_singleton] at hx
      subst hx
      simp only at h2
      omega
    · cases hx
  | case2 b h => simp
theorem allA_nodup (d a : Int) (ha : 0 < a) : (allA d a).Nodup := by
  fun_induction allA d a with
  | case1 a h ih =>
    refine List.nodup_append.2 ⟨allB_nodup _ _ _, ih (by omega), fun x hx y hy he => ?_⟩
    subst he
    have h1 := (mem_allA (a + 1) (by omega)).1 hy
    have h2 := (mem_allB _).1 hx
    omega
  | case2 a h => simp
theorem redF_nodup (d : Int) : (redF d).Nodup := (allA_nodup d 1 (by omega)).filter _
theorem nth_mem {d : Int} (h : negB d = true) {i : Nat} (hi : i < (fl (redF d)).length) : RP d (nth3 (fl (redF d)) i) := by
  have := unfl_mem (fl (redF d)) hi
  rw [unfl_fl] at this
  exact (mem_redF_rp (negB_in h)).1 this
theorem rp_rd3 {D : Int} {x : F3} (h : RP D x) : (rdA x.1 x.2.1 x.2.2, rdB x.1 x.2.1 x.2.2, rdC x.1 x.2.1 x.2.2) = x := by
  have h1 : (rdA x.1 x.2.1 x.2.2, rdB x.1 x.2.1 x.2.2, rdC x.1 x.2.1 x.2.2) = rdx x := rd3_eq h.dom
  rw [h1]
  exact rdx_of_red (red_of h.red (by have := h.a25; omega))
/-! ### the walks -/
-- (not in this seat: GroupOf)
theorem idx_at {l : List (List Int)} {x : F3} {n : Nat} (hn : n < l.length) (he : nth3 l n = x) (ht : x ∉ (unfl l).take n) : (unfl l).idxOf x = n := by
  have hl : n < (unfl l).length := by rw [unfl_length]; exact hn
  have h1 : (unfl l)[n] = x := by
    have := unfl_at hn
    rw [List.getElem?_eq_getElem hl] at this
    rw [← he]; exact Option.some.inj this
  have e : unfl l = (unfl l).take n ++ x :: (unfl l).drop (n + 1) := by
    conv => lhs; rw [← List.take_append_drop n (unfl l)]
    rw [List.drop_eq_getElem_cons hl, h1]
  rw [e, List.idxOf_append, if_neg ht, List.idxOf_cons, List.length_take]
  simp
  omega
-- (not in this seat: GrIndex)
end Go.Proofs.Ytclpoenfcpefmaa

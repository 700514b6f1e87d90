/-
  Each effect of the abstract machine is sound: append, make. Conditions: none; this text proves nothing of the program.
-/
import Derived.Test.YthjmjacniemfiabGidx
namespace Go.Proofs.Ythjmjacniemfiab
open Go Go.RowKit

theorem RC.slice_len {r : RC} {l k : Nat} (h : l ≤ k) (h2 : k ≤ r.len) : (r.slice l k).len = k - l := by
  cases r <;> simp [RC.slice, RC.len] at h2 ⊢ <;> omega
theorem RC.slice_wf {r : RC} (l k : Nat) (h : r.wf) : (r.slice l k).wf := by
  cases r with
  | ints e m => trivial
  | bools e m => trivial
  | recs e n m => exact ⟨h.1, fun x hx => h.2 x (List.mem_of_mem_take (List.mem_of_mem_drop hx))⟩
theorem RC.slice_sz (r : RC) (l k : Nat) : (r.slice l k).sz = r.sz := by cases r <;> rfl
theorem RC.slice_elem (r : RC) (l k : Nat) : (r.slice l k).elem = r.elem := by cases r <;> rfl
theorem RC.slice_cells {r : RC} {l k : Nat} (hwf : r.wf) : (r.slice l k).cells = (r.cells.take (k * r.sz)).drop (l * r.sz) := by
  cases r with
  | ints e m => simp [RC.slice, RC.cells, RC.sz, List.map_take, List.map_drop]
  | bools e m => simp [RC.slice, RC.cells, RC.sz, List.map_take, List.map_drop]
  | recs e n m =>
    simp only [RC.slice, RC.cells, RC.sz]
    rw [flat_take m hwf.2 k, flat_drop (m.take k) (fun x hx => hwf.2 x (List.mem_of_mem_take hx)) l]
theorem RC.one {r : RC} : ∀ u ∈ r.cells, u.oneCell' = true := by
  intro u hu
  cases r with
  | ints e m => exact one_vI u hu
  | bools e m =>
    obtain ⟨n, _, rfl⟩ := List.mem_map.1 hu
    rfl
  | recs e n m =>
    obtain ⟨x, _, hx⟩ := List.mem_flatMap.1 hu
    exact one_vI u hx
theorem RC.app_spec {r s t : RC} (h : r.app s = some t) (hr : r.wf) (hs : s.wf) : t.wf ∧ t.elem = r.elem ∧ t.sz = r.sz ∧ t.len = r.len + s.len ∧ t.cells = r.cells ++ s.cells ∧ s.sz = r.sz := by
  cases r <;> cases s <;> simp only [RC.app, reduceCtorEq, Option.some.injEq] at h
  · subst h; exact ⟨trivial, rfl, rfl, by simp [RC.len], by simp [RC.cells], rfl⟩
  · rename_i e k l e' k' m
    cases hb : k == k' with
    | false => rw [hb] at h; cases h
    | true =>
      rw [hb] at h
      simp only [cond_true, Option.some.injEq] at h; subst h
      have hk : k = k' := by simpa using hb
      subst hk
      refine ⟨⟨hr.1, fun x hx => ?_⟩, rfl, rfl, by simp [RC.len], by simp [RC.cells], rfl⟩
      simp only [List.mem_append] at hx
      rcases hx with h | h
      · exact hr.2 x h
      · exact hs.2 x h
  · subst h; exact ⟨trivial, rfl, rfl, by simp [RC.len], by simp [RC.cells], rfl⟩

section
variable {c : Ctx} {ops : Array Oper} {o : Oper} {S : St} {R : List Nat}

/-- What a slice value that reads as a row is. -/
theorem read_at {S' : SS} {ρ : Nat → Value} {a : Act} {w : World} {x : AV} {r' : RC} (hag : Agree ops o R (den S) S') (hs : SatR c S' ρ a.tmps w) (hR : ∀ h ∈ x.hs, h ∈ R) (hr : readOf S x = some r') (hp : subPre S x) {v : Value} (hv : x.rel ρ v) :
    r'.wf ∧ ∃ A n cap, v = .slice A n cap ∧ n = r'.len ∧ n ≤ cap ∧ cap ≤ maxLen ∧ (A = none → n = 0) ∧ (∀ ad, A = some ad → ∀ j u, r'.cells[j]? = some u → w.cell? (ad.add j) = some u) := by
  unfold readOf at hr
  split at hr
  · rename_i h e n
    split at hr
    case h_2 => cases hr
    rename_i t l hl
    cases hb : (l.length == n && Nat.ble n 1000) with
    | false => rw [hb] at hr; cases hr
    | true =>
    rw [hb] at hr
    simp only [cond_true, Option.some.injEq] at hr; subst hr
    simp only [Bool.and_eq_true, beq_iff_eq] at hb
    have hn1 := Nat.le_of_ble_eq_true hb.2
    have hm := mem_at hag (hR h (by simp [AV.hs, A0.hs])) hl
    obtain ⟨g, hv1, _, hg⟩ := hs.mem h _ hm
    have hvv : v = cutOf (ρ h) n := hv
    rw [hv1] at hvv
    refine ⟨trivial, some ⟨g, 0, none⟩, n, n, hvv, hb.1.symm, Nat.le_refl _, by unfold maxLen; omega, fun hA => (by cases hA), fun ad hA j u hu => ?_⟩
    simp only [Option.some.injEq] at hA
    subst hA
    have hj : j < l.length := by
      have := (List.getElem?_eq_some_iff.1 hu).1
      simpa [RC.cells] using this
    rw [add_lit, Nat.zero_add, ibox_cell hg j hj, ← hu]
    simp [RC.cells, hj]
  · rename_i h
    obtain ⟨en, hen, hen2⟩ := entryRow_look hr
    have hm := mem_at hag (hR h (by simp [AV.hs, A0.hs])) hen
    rw [en_norm hen2] at hm
    obtain ⟨hwf, A, n, cap, h1, h2, h3, h4, h5⟩ := row_at hs hm hen2
    refine ⟨hwf, A, n, cap, Eq.trans (show v = ρ h from hv) h1, h2, h3, h4, fun hA => ?_, fun ad hA j u hu => ?_⟩
    · rcases Nat.eq_zero_or_pos n with h0 | h0
      · exact h0
      · obtain ⟨ad, hA', _⟩ := h5 h0
        rw [hA] at hA'; cases hA'
    · have hl := RC.cells_length hwf
      have hlt := (List.getElem?_eq_some_iff.1 hu).1
      have hpos : 0 < n := by
        rcases Nat.eq_zero_or_pos n with h0 | h0
        · rw [hl, ← h2, h0] at hlt; simp at hlt
        · exact h0
      obtain ⟨ad', hA', hc⟩ := h5 hpos
      rw [hA] at hA'; cases hA'
      exact hc j u hu
  · rename_i h sz l k
    split at hr
    case h_2 => cases hr
    rename_i rc hrc
    cases hb : sz == rc.sz with
    | false => rw [hb] at hr; cases hr
    | true =>
    rw [hb] at hr
    simp only [cond_true, Option.some.injEq] at hr; subst hr
    have hsz : sz = rc.sz := by simpa using hb
    subst hsz
    have hp' : l ≤ k ∧ k ≤ rc.len := by simpa [subPre, hrc] using hp
    obtain ⟨en, hen, hen2⟩ := entryRow_look hrc
    have hm := mem_at hag (hR h (by simp [AV.hs, A0.hs])) hen
    rw [en_norm hen2] at hm
    obtain ⟨hwf, A, n, cap, h1, h2, h3, h4, h5⟩ := row_at hs hm hen2
    have hvv : v = subOf (ρ h) rc.sz l k := hv
    rw [h1] at hvv
    have hlen := RC.slice_len hp'.1 hp'.2
    refine ⟨RC.slice_wf l k hwf, _, _, _, hvv, hlen.symm, by omega, by omega, fun hA => ?_, fun ad hA j u hu => ?_⟩
    · rcases Nat.eq_zero_or_pos n with h0 | h0
      · omega
      · obtain ⟨ad, hA', _⟩ := h5 h0
        rw [hA'] at hA
        split at hA
        · cases hA
        · cases hA
    · rw [RC.slice_cells hwf] at hu
      have hlt := (List.getElem?_eq_some_iff.1 hu).1
      have hl := RC.cells_length hwf
      simp only [List.length_drop, List.length_take] at hlt
      have hkn : k * rc.sz ≤ rc.len * rc.sz := Nat.mul_le_mul_right _ hp'.2
      have hlk : l ≠ k := by
        intro e
        subst e
        omega
      have hpos : 0 < n := by omega
      obtain ⟨ad', hA', hc⟩ := h5 hpos
      rw [hA', if_neg (by omega)] at hA
      simp only [Option.map_some, Option.some.injEq] at hA
      rw [← hA, add_add]
      refine hc _ u ?_
      rw [List.getElem?_drop, List.getElem?_take_of_lt (by omega)] at hu
      exact hu
  · cases hr

theorem ti_zero_sz {e : Nat} {ei : TI} {i : TypeInfo} {z : Value} (hT : tiB c.P e ei = true) (hi : c.P.info? e = some i) (hz : i.zero = some z) (hs : ∀ x, ei.k ≠ .slice x) : z.cells.size = i.size := by
  obtain ⟨k, sz, b⟩ := ei
  cases k with
  | int => obtain ⟨_, _, i', hi', h1, _, h2⟩ := tiB_int hT; rw [hi] at hi'; cases hi'; rw [hz] at h2; cases h2; rw [h1]; rfl
  | bool => obtain ⟨_, _, i', hi', h1, _, h2⟩ := tiB_bool hT; rw [hi] at hi'; cases hi'; rw [hz] at h2; cases h2; rw [h1]; rfl
  | struct fs => obtain ⟨_, i', _, hi', h1, _, h2, _⟩ := tiB_struct hT; rw [hi] at hi'; cases hi'; rw [hz] at h2; cases h2; rw [h1]; simp [Value.cells]
  | array n e => obtain ⟨i', _, _, hi', h1, _, h2, _⟩ := tiB_array hT; rw [hi] at hi'; cases hi'; rw [hz] at h2; cases h2; rw [h1]; simp [Value.cells]
  | slice x => exact absurd rfl (hs x)

theorem run_append_of_nil {P : Program} {w : World} {t ty e : Nat} {i : TypeInfo} {size : Nat} (ht : P.underlying t = some (.slice e)) (hi : P.info? e = some i)
    (v : Value) (n : Nat) (xs : List Value) (hown : w.ownsRow 0 e size v n xs) (cc : Nat) : (Builtin.append_ #[t, t] ty #[v, .slice none 0 cc]).run P w = .ok v w := by
  rcases hown.2 with ⟨rfl, rfl⟩ | ⟨g, cap, cur, rfl, _, _, hnc, _⟩
  · simp [Builtin.append_, run_underlying ht, sizeOf, typeInfo, hi, Builtin.lenOf, Builtin.firstCells]
  · simp [Builtin.append_, run_underlying ht, sizeOf, typeInfo, hi, Builtin.lenOf, Builtin.firstCells, hnc, storeCells]

/-- append, whatever the source is -/
theorem run_app {P : Program} {w : World} {t ty e : Nat} {i : TypeInfo} {z : Value} (ht : P.underlying t = some (.slice e)) (hi : P.info? e = some i) (hz : i.zero = some z) (hzs : z.cells.size = i.size) (hsz : 0 < i.size) (hb : i.bytes ≤ 1000)
    {v : Value} {n : Nat} {xs : List Value} (hown : w.ownsRow 0 e i.size v n xs) {A : Option Addr} {m cc : Nat} {news : List Value} (hl : news.length = m * i.size) (hn0 : A = none → m = 0) (hnews : ∀ ad, A = some ad → ∀ j u, news[j]? = some u → w.cell? (ad.add j) = some u)
    (h1 : ∀ u ∈ news, u.oneCell' = true) (hlen : n + m ≤ maxRow) :
    ∃ v' w', (Builtin.append_ #[t, t] ty #[v, .slice A m cc]).run P w = .ok v' w' ∧ w'.ownsRow 0 e i.size v' (n + m) (xs ++ news) ∧ w.grownBy w' v.ownBlock ∧ (v'.ownBlock = v.ownBlock ∨ v'.ownBlock = some w.heap.size) := by
  unfold maxRow at hlen
  cases A with
  | none =>
    have hm := hn0 rfl
    subst hm
    have hn : news = [] := List.eq_nil_of_length_eq_zero (by simpa using hl)
    subst hn
    exact ⟨v, w, run_append_of_nil ht hi v n xs hown cc, by simpa using hown, ⟨rfl, rfl, rfl, Nat.le_refl _, fun _ _ _ => rfl⟩, .inl rfl⟩
  | some ad =>
    obtain ⟨v', w', h2, h3, h4, _, h5⟩ := run_append_own_at (P := P) w 0 t ty e i z i.size i.bytes ht hi hz rfl rfl hzs hsz v n xs hown ad m cc news hl (hnews ad rfl) h1 (by unfold maxLen; omega)
      (by have : (n + m) * i.bytes ≤ 100000000000 * 1000 := Nat.mul_le_mul hlen hb
          omega) (Nat.zero_le _)
    exact ⟨v', w', h2, h3, h4, h5⟩

theorem ownBlock_blk {v : Value} {e n : Nat} {sz : Nat} {xs : List Value} {w : World} (h : w.ownsRow 0 e sz v n xs) : v.ownBlock = blkOf v := by
  rcases h.2 with ⟨rfl, _⟩ | ⟨g, cap, cur, rfl, _⟩ <;> rfl
end

theorem good_append {c : Ctx} {ops : Array Oper} {o : Oper} {S : St} {tab : Tab} (hT : TabOk c.P tab) {args : Array Operand} {ts : Array Nat} {t : Nat} {s x : Operand} {e : Eff} (hN : ∀ d, o.dst = some d → d < c.N) (hw : Wanted c ops o S) (hop : o.op = .call ⟨.builtin .append, args, ts⟩) (ha : args.toList = [s, x]) (hts : ts.toList = [t, t])
    (he : effAppend tab t S o.dst (S.eval s) (S.eval x) = some e) (hp : e.pre) : Good c ops o (den S) ((S.eval s).hs ++ (S.eval x).hs) e.val.norm (normWr e.wr) := by
  have haa : args = #[s, x] := by apply Array.ext'; simpa using ha
  have htt : ts = #[t, t] := by apply Array.ext'; simpa using hts
  subst haa; subst htt
  have hsin : s ∈ o.op.operands.toList := by simp [hop, Op.operands, Call.operands]
  have hxin : x ∈ o.op.operands.toList := by simp [hop, Op.operands, Call.operands]
  unfold effAppend at he
  split at he
  case h_2 => cases he
  rename_i d hd
  split at he
  case h_2 => cases he
  rename_i r' hr'
  split at he
  case h_2 => cases he
  rename_i el _ _ hti
  split at he
  case h_2 => cases he
  rename_i ei hle
  cases hb : (ei.sz == r'.sz && (plainTI ei && Nat.blt 0 ei.sz)) with
  | false => rw [hb] at he; cases he
  | true =>
  rw [hb] at he
  simp only [cond_true] at he
  simp only [Bool.and_eq_true, beq_iff_eq, Nat.blt_eq] at hb
  obtain ⟨hes, hpl, hpos⟩ := hb
  have hu := tiB_slice (hT _ _ hti)
  have hTe := hT _ _ hle
  obtain ⟨i, _, hi, hud, his, hib, hib2⟩ := tiB_info hTe
  -- the source
  have src : subPre S (S.eval x) → ∀ (S' : SS) (ρ : Nat → Value) (a : Act) (w : World), Agree ops o ((S.eval s).hs ++ (S.eval x).hs) (den S) S' → SatR c S' ρ a.tmps w → r'.wf ∧ ∃ A n cap, a.eval x = .slice A n cap ∧ n = r'.len ∧ (A = none → n = 0) ∧ (∀ ad, A = some ad → ∀ j u, r'.cells[j]? = some u → w.cell? (ad.add j) = some u) := by
    intro hsp S' ρ a w hag hs
    obtain ⟨h1, A, n, cap, h2, h3, _, _, h4, h5⟩ := read_at hag hs (fun h hh => List.mem_append_right _ hh) hr' hsp (eval_rel hag hs hxin)
    exact ⟨h1, A, n, cap, h2, h3, h4, h5⟩
  have kslice : ∀ y, ei.k ≠ .slice y := by
    intro y hy
    unfold plainTI at hpl
    rw [hy] at hpl
    cases hpl
  obtain ⟨z, hz⟩ := ti_zero hTe hi kslice
  have hzs := ti_zero_sz hTe hi hz kslice
  -- what the row's slot holds, whatever it is: a slice that owns a row
  have main : ∀ (r r'' : RC) (hwr : Wr), e = ⟨r''.len ≤ maxRow ∧ subPre S (S.eval x), .one (.row d), hwr⟩ → (r.elem = el ∧ r.sz = ei.sz ∧ (r'.wf → r.wf → r''.wf ∧ r''.elem = r.elem ∧ r''.sz = r.sz ∧ r''.len = r.len + r'.len ∧ r''.cells = r.cells ++ r'.cells)) →
      d ∉ (S.eval s).hs ++ (S.eval x).hs → ((∃ h, S.eval s = .one (.row h) ∧ look h S.mem = some (.row r) ∧ hwr = [(h, none), (d, some (.row r''))] ∧ h ≠ d) ∨ (S.eval s = .one .nil ∧ hwr = [(d, some (.row r''))] ∧ r.len = 0 ∧ r.cells = [] ∧ r.wf)) →
      Good c ops o (den S) ((S.eval s).hs ++ (S.eval x).hs) e.val.norm (normWr e.wr) := by
    intro r r'' hwr hee ⟨hre, hrs, happ⟩ hdR hcase
    subst hee
    obtain ⟨hp1, hp2⟩ : r''.len ≤ maxRow ∧ subPre S (S.eval x) := hp
    refine good_of hN hw fun S' ρ a w hag hfr hs hdl => ?_
    have hsr := eval_rel hag hs hsin
    -- the slice that is appended to owns its row
    have hown : r.wf ∧ w.ownsRow 0 r.elem r.sz (a.eval s) r.len r.cells ∧ (∀ k, blkOf (a.eval s) = some k → c.own k) := by
      rcases hcase with ⟨h, hse, hlk, _, _⟩ | ⟨hse, _, h0, hc0, hwf⟩
      · have hm := mem_at hag (h := h) (by simp [hse, AV.hs, A0.hs]) hlk
        have hh : OwnsRow w c.own r (ρ h) := hs.mem h _ hm
        rw [hse] at hsr
        have hsv : a.eval s = ρ h := hsr
        rw [hsv]
        exact hh
      · rw [hse] at hsr
        have hsv : a.eval s = .slice none 0 0 := hsr
        rw [hsv, h0, hc0]
        exact ⟨hwf, World.ownsRow_nil w 0 _ _, fun k hk => by simp [blkOf] at hk⟩
    obtain ⟨hwf, hown1, hown2⟩ := hown
    obtain ⟨hwf', A, m, cap, hxv, hml, hn0, hnews⟩ := src hp2 S' ρ a w hag hs
    obtain ⟨hw'', he'', hs'', hl'', hc''⟩ := happ hwf' hwf
    have hrlen : r.len + m ≤ maxRow := by rw [hml, ← hl'']; exact hp1
    obtain ⟨v', w', hrun, how, hgr, hbk⟩ := run_app (P := c.P) (ty := o.type) hu hi hz hzs (by omega) (by omega) (n := r.len) (xs := r.cells) (v := a.eval s) (A := A) (m := m) (cc := cap) (news := r'.cells)
      (by rw [hre, hrs, ← his] at hown1; exact hown1) (by rw [RC.cells_length hwf', hml, his, hes]) hn0 hnews RC.one hrlen
    rw [hml, ← hl'', ← hc''] at how
    have hob : (a.eval s).ownBlock = blkOf (a.eval s) := ownBlock_blk hown1
    have hob' : v'.ownBlock = blkOf v' := ownBlock_blk how
    have hown'' : OwnsRow w' c.own r'' v' := by
      refine ⟨hw'', ?_, fun k hk => ?_⟩
      · rw [he'', hs'', hre, hrs, ← his]; exact how
      · rw [← hob'] at hk
        rcases hbk with h | h
        · rw [h, hob] at hk; exact hown2 k hk
        · rw [h] at hk; simp at hk; subst hk; exact .inl hs.frame.size
    have hfd : S'.Fresh c d := hfr d (by rcases hcase with ⟨h, _, _, hh, _⟩ | ⟨_, hh, _⟩ <;> simp [hh, wrHs, normWr]) hdR
    refine ⟨v', w', upd ρ d v', .inl ?_, ?_⟩
    · simp only [execOp, hop, resolve, Sem.run_bind, Sem.run_pure, Result.andThen_ok, invoke, builtin, List.map_toArray, List.map_cons, List.map_nil, hxv, hrun]
    · rw [hd]
      have hwrd : ∀ y, y ∉ wrHs (normWr hwr) → y ≠ d := by
        intro y hy e
        subst e
        rcases hcase with ⟨h, _, _, hh, _⟩ | ⟨_, hh, _⟩ <;> simp [hh, wrHs, normWr] at hy
      have hlookd : ∀ y e', look y (normWr hwr) = some (some e') → y = d ∧ e' = .row r'' := by
        intro y e' hy
        rcases hcase with ⟨h, _, _, hh, hne⟩ | ⟨_, hh, _⟩
        · rw [hh] at hy
          simp only [normWr, List.map_cons, List.map_nil, Option.map_none, Option.map_some, look] at hy
          by_cases h1 : h = y
          · simp [h1] at hy
          · have h1' : (h == y) = false := by simpa using h1
            by_cases h2 : d = y
            · subst h2; simp [h1', Entry.norm] at hy; exact ⟨rfl, hy.symm⟩
            · have h2' : (d == y) = false := by simpa using h2
              simp [h1', h2'] at hy
        · rw [hh] at hy
          simp only [normWr, List.map_cons, List.map_nil, Option.map_some, look] at hy
          by_cases h2 : d = y
          · subst h2; simp [Entry.norm] at hy; exact ⟨rfl, hy.symm⟩
          · have h2' : (d == y) = false := by simpa using h2
            simp [h2'] at hy
      -- another entry of one's own does not lie in the block that is written
      have hother : ∀ y e', S'.mem y = some e' → e'.isOwn = true → y ∉ wrHs (normWr hwr) → ∀ k, blkOf (ρ y) = some k → some k ≠ (a.eval s).ownBlock := by
        intro y e' hy ho' hnot k hk hke
        rcases hcase with ⟨h, hse, hlk, hh, _⟩ | ⟨hse, hh, _⟩
        · have hm := mem_at hag (h := h) (by simp [hse, AV.hs, A0.hs]) hlk
          rw [hse] at hsr
          have hsv : a.eval s = ρ h := hsr
          have hyh : y ≠ h := by intro e; subst e; simp [hh, wrHs, normWr] at hnot
          rw [hob, hsv] at hke
          exact hs.sep y h e' _ hy hm ho' rfl hyh k hk hke.symm
        · rw [hse] at hsr
          have hsv : a.eval s = .slice none 0 0 := hsr
          rw [hsv] at hke
          simp [Value.ownBlock] at hke
      refine hs.step (D := fun k => some k = (a.eval s).ownBlock) (fun y hy => by cases hy; exact hdl d hd) (Chg.grown hgr) (fun k hk => hown2 k (by rw [← hob]; exact hk.symm)) (fun y hne => ?_) (fun y hy => upd_ne (hwrd y hy)) hother (fun y e' hy => ?_) (fun y e' hy ho' k hk => ⟨fun y2 e2 hy2 ho2 hnot hk2 => ?_, fun y2 e2 hy2 ho2 hne => ?_⟩) ?_
      · by_cases h : y = d
        · subst h; exact hfd
        · exact absurd (upd_ne h) hne
      · obtain ⟨rfl, rfl⟩ := hlookd y e' hy
        show OwnsRow w' c.own r'' (upd ρ y v' y)
        rw [upd_same]; exact hown''
      · obtain ⟨rfl, rfl⟩ := hlookd y e' hy
        rw [upd_same, ← hob'] at hk
        rcases hbk with h | h
        · exact hother y2 e2 hy2 ho2 hnot k hk2 (by rw [← h]; exact hk.symm)
        · rw [h] at hk
          have := hs.blk_lt hy2 ho2 hk2
          simp at hk; omega
      · obtain ⟨h1, _⟩ := hlookd y e' hy
        obtain ⟨h2, _⟩ := hlookd y2 e2 hy2
        exact absurd (h2.trans h1.symm) hne
      · simp [AV.norm, A0.norm, AV.rel, A0.rel, A0.conc, upd_same]
  unfold appTo at he
  split at he
  · rename_i h hse
    split at he
    case h_2 => cases he
    rename_i r hlk
    split at he
    case h_2 => cases he
    rename_i r'' happ
    cases hc1 : ((S.eval x).hs.contains h || (d == h || (S.eval x).hs.contains d)) with
    | true => rw [hc1] at he; cases he
    | false =>
    rw [hc1] at he
    simp only [cond_false] at he
    cases hc2 : (r.elem == el && r.sz == ei.sz) with
    | false => rw [hc2] at he; cases he
    | true =>
    rw [hc2] at he
    simp only [cond_true, Option.some.injEq] at he
    simp only [Bool.and_eq_true, beq_iff_eq] at hc2
    simp only [Bool.or_eq_false_iff, beq_eq_false_iff_ne, ne_eq, List.contains_eq_mem, decide_eq_false_iff_not] at hc1
    refine main r r'' _ he.symm ⟨hc2.1, hc2.2, fun h1 h2 => by obtain ⟨p1, p2, p3, p4, p5, _⟩ := RC.app_spec happ h2 h1; exact ⟨p1, p2, p3, p4, p5⟩⟩ ?_ (.inl ⟨h, hse, hlk, rfl, fun e => hc1.2.1 e.symm⟩)
    rw [hse]
    simp only [AV.hs, A0.hs, List.mem_append, List.mem_singleton, not_or]
    exact ⟨hc1.2.1, hc1.2.2⟩
  · rename_i hse
    cases hc2 : (r'.elem == el && !(S.eval x).hs.contains d) with
    | false => rw [hc2] at he; cases he
    | true =>
    rw [hc2] at he
    simp only [cond_true, Option.some.injEq] at he
    simp only [Bool.and_eq_true, beq_iff_eq, Bool.not_eq_true', List.contains_eq_mem, decide_eq_false_iff_not] at hc2
    have hemp : r'.empty.elem = r'.elem ∧ r'.empty.sz = r'.sz ∧ r'.empty.len = 0 ∧ r'.empty.cells = [] ∧ (r'.wf → r'.empty.wf) := by
      cases r' with
      | ints e l => exact ⟨rfl, rfl, rfl, rfl, fun _ => trivial⟩
      | bools e l => exact ⟨rfl, rfl, rfl, rfl, fun _ => trivial⟩
      | recs e k l => exact ⟨rfl, rfl, rfl, rfl, fun h => ⟨h.1, by simp⟩⟩
    obtain ⟨e1, e2, e3, e4, e5⟩ := hemp
    have hwf' : r'.wf ∨ ¬ r'.wf := Classical.em _
    rcases hwf' with hwf' | hwf'
    · refine main r'.empty r' _ he.symm ⟨e1.trans hc2.1, e2.trans hes.symm, fun h1 h2 => ⟨h1, e1.symm, e2.symm, by rw [e3]; omega, by rw [e4]; rfl⟩⟩ ?_ (.inr ⟨hse, rfl, e3, e4, e5 hwf'⟩)
      rw [hse]
      simp only [AV.hs, A0.hs, List.nil_append]
      exact hc2.2
    · -- a source that is no row at all is met by no state
      subst he
      obtain ⟨hp1, hp2⟩ : r'.len ≤ maxRow ∧ subPre S (S.eval x) := hp
      refine good_of hN hw fun S' ρ a w hag hfr hs hdl => ?_
      exact absurd (src hp2 S' ρ a w hag hs).1 hwf'
  · cases he
end Go.Proofs.Ythjmjacniemfiab

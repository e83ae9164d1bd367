/- Regions that draw their order, in which some operations read rows that others leave alone: what is read, and the rule. Plain theorems, no condition. -/
import Derived.Test.YtomfmdfamlmfiaaGreatC4
import Derived.Deep.Slices
import Derived.ChangeStays
import Derived.OpenShut
import Derived.WalkKit
import Derived.ProofKit
set_option linter.unusedVariables false
set_option linter.unusedSimpArgs false
namespace Go.Fw
section
variable {P : Program} {T : Nat → Option TI} {S : State} {o : Oper} {rs : List Nat}
/-- The operation yields a value told by x, the same one as long as what may be read, and rows rs, stand. -/
def VOR (P : Program) (o : Oper) (S : State) (rs : List Nat) (x : A) : Prop :=
  ∀ (E : Env P) (G : Nat → Prop) (gs : Gh) (a : Act) (w : World), Inv E G gs S a.tmps w →
    ∃ v, (∀ w', AgreeR G gs rs w w' → (execOp a.eval o).run P w' = .ok (.value v) w') ∧ TRel w G S.rows gs x v []
theorem VOG.r {x : A} (h : VOG P o S x) : VOR P o S rs x := fun E G gs a w hi => by
  obtain ⟨v, h1, h2⟩ := h E G gs a w hi
  exact ⟨v, fun w' hw' => h1 w' fun b hb => hw' b (.inl hb), h2⟩
theorem VOR_load_pt {t : TypeId} {x : Operand} {r j q : Nat} {row : Row} {y z : A} (ho : o.op = .load t x) (hx : okO x = true) (he : ev S x = .pt r j q) (hr : rowAt S.rows r = some row) (hrs : r ∈ rs)
    (hy : row.xs[j]? = some y) (ha : aggT P t = some false) (hz : y.cells[q]? = some z) (hno : noOwn z = true) : VOR P o S rs z := by
  refine fun E G gs a w hi => ?_
  have h1 := ev_rel hi x hx
  rw [he] at h1
  obtain ⟨row', b, hr', hb, hv⟩ := pt_inv h1
  rw [hr] at hr'
  obtain rfl := Option.some.inj hr'
  have hq : q < y.cells.length := by
    rcases Nat.lt_or_ge q y.cells.length with h | h
    · exact h
    · rw [List.getElem?_eq_none h] at hz; simp at hz
  have hw : y.width = row.n := by
    obtain ⟨b', _, hrc⟩ := row_real hi hr (by
      intro h0
      rw [List.eq_nil_of_length_eq_zero h0] at hy
      simp at hy) (.inr ⟨_, hb⟩)
    obtain ⟨_, _, _, _, _, _, _, h5, _⟩ := hrc.ex
    exact h5 y (List.mem_of_getElem? hy)
  unfold A.width at hw
  have hseg : (y.cells.drop q).take 1 = [z] := by
    rw [List.drop_eq_getElem_cons hq]
    rw [List.getElem?_eq_getElem hq] at hz
    simp only [Option.some.injEq] at hz
    simp [hz]
  obtain ⟨b1, cur, e, cs, g0, g1, g2, g3, g4⟩ := row_seg hi hr hy (o := q) (s := 1) (by omega) (by rw [hseg]; simpa using hno) (.inr ⟨_, hb⟩)
  rw [hb] at g0
  obtain rfl := Option.some.inj g0
  rw [hseg] at g3
  obtain ⟨v, hv1, hv2⟩ := g3.get 0 z rfl
  have hcur : cur[j * row.n + q]? = some v := by
    rw [← g2] at hv1
    rw [List.getElem?_take_of_lt (by omega), List.getElem?_drop] at hv1
    simpa using hv1
  exact ⟨v, fun w' hw' => by simp [execOp, ho, Instr.loadAt, hv, Instr.sureAddr, run_loadVar_cell ha ((hw' _ (.inr ⟨r, hrs, by simp [Gh.all, hb]⟩)).trans g1) hcur], hv2⟩
theorem VOR_load_ptAgg {t : TypeId} {x : Operand} {r j q s : Nat} {row : Row} {y : A} (ho : o.op = .load t x) (hx : okO x = true) (he : ev S x = .pt r j q) (hr : rowAt S.rows r = some row) (hrs : r ∈ rs)
    (hy : row.xs[j]? = some y) (ha : aggT P t = some true) (hs : szT P t = some s) (hq : q + s ≤ row.n) (hno : ((y.cells.drop q).take s).all noOwn = true) : VOR P o S rs (.agg ((y.cells.drop q).take s)) := by
  refine fun E G gs a w hi => ?_
  have h1 := ev_rel hi x hx
  rw [he] at h1
  obtain ⟨row', b, hr', hb, hv⟩ := pt_inv h1
  rw [hr] at hr'
  obtain rfl := Option.some.inj hr'
  obtain ⟨b1, cur, e, cs, g0, g1, g2, g3, g4⟩ := row_seg hi hr hy hq hno (.inr ⟨_, hb⟩)
  rw [hb] at g0
  obtain rfl := Option.some.inj g0
  exact ⟨.agg cs.toArray, fun w' hw' => by simp [execOp, ho, Instr.loadAt, hv, Instr.sureAddr, run_loadVar_agg ha hs ((hw' _ (.inr ⟨r, hrs, by simp [Gh.all, hb]⟩)).trans g1) g2 g4], .agg g3⟩
theorem VOR_fieldAddr_pt {t : TypeId} {x : Operand} {i r j q off s : Nat} {g : Bool} (ho : o.op = .fieldAddr t x i) (hx : okO x = true) (he : ev S x = .pt r j q)
    (hf : fieldT P t i = some (off, s, g)) (hs : s ≠ 0) : VOR P o S rs (.pt r j (q + off)) := by
  refine fun E G gs a w hi => ?_
  have h1 := ev_rel hi x hx
  rw [he] at h1
  obtain ⟨row, b, hr, hb, hv⟩ := pt_inv h1
  unfold fieldT at hf
  split at hf <;> try simp at hf
  rename_i fs hu
  split at hf <;> try simp at hf
  rename_i f hfi
  split at hf <;> try simp at hf
  rename_i s' g' hsz hag
  obtain ⟨rfl, rfl, rfl⟩ := hf
  refine ⟨.pointer (some ⟨b, j * row.n + (q + f.offset), none⟩), ?_, .pt hr hb rfl⟩
  intro w' hw'
  simp [execOp, ho, Instr.fieldAt, run_underlying hu, hfi, hv, Instr.sureAddr, fieldPlace, run_sizeOf hsz, hs, add_none, Nat.add_assoc]
theorem VOR_fieldAddr_rp {t : TypeId} {x : Operand} {xs : List A} {i off s : Nat} {g : Bool} (ho : o.op = .fieldAddr t x i) (hx : okO x = true) (he : ev S x = .rp xs)
    (hf : fieldT P t i = some (off, s, g)) (hs : s ≠ 0) : VOR P o S rs (.rp (xs.drop off)) := by
  refine fun E G gs a w hi => ?_
  have h1 := ev_rel hi x hx
  rw [he] at h1
  obtain ⟨b, k, cur, e, fr, hv, hh, hg, hl⟩ := rp_inv h1
  unfold fieldT at hf
  split at hf <;> try simp at hf
  rename_i fs hu
  split at hf <;> try simp at hf
  rename_i f hfi
  split at hf <;> try simp at hf
  rename_i s' g' hsz hag
  obtain ⟨rfl, rfl, rfl⟩ := hf
  refine ⟨.pointer (some ⟨b, k + f.offset, none⟩), ?_, .of (.rp hh hg rfl ?_)⟩
  · intro w' hw'
    simp [execOp, ho, Instr.fieldAt, run_underlying hu, hfi, hv, Instr.sureAddr, fieldPlace, run_sizeOf hsz, hs, add_none]
  · have := hl.drop0 f.offset
    rw [List.drop_take, List.drop_drop] at this
    simpa using this
theorem VOR_indexAddr_vw {t e : TypeId} {x y : Operand} {r off len : Nat} {k : IntKind} {i : Int} {row : Row} (ho : o.op = .indexAddr t x y) (hx : okO x = true) (hy : okO y = true)
    (h1 : ev S x = .vw r off len) (h2 : ev S y = .sc (.int k i)) (hr : rowAt S.rows r = some row) (he : elemT P t = some e) (hs : szT P e = some row.n) (h0 : 0 ≤ i) (hl : i < len)
    : VOR P o S rs (.pt r (off + i.toNat) 0) := by
  refine fun E G gs a w hi => ?_
  have e1 := ev_rel hi x hx
  have e2 := ev_rel hi y hy
  rw [h1] at e1
  rw [h2] at e2
  obtain ⟨row', kk, cap, cur, et, b, hr', hob, g1, g2, g3, g4, g5, g6, hv⟩ := (vw_inv e1).resolve_right (by
    intro ⟨_, _, _, _, _, h0, _⟩
    omega)
  rw [hr] at hr'
  obtain rfl := Option.some.inj hr'
  have hv2 := (sc_inv e2).1
  have hk : kk = off * row.n := by rcases g6 with h | h <;> omega
  subst hk
  refine ⟨_, ?_, .pt hr hob rfl⟩
  intro w' hw'
  simp [execOp, ho, hv, hv2, Instr.indexAt, asIntOf, run_underlying (elemT_inv he), h0, hl, run_sizeOf hs, add_none, Nat.add_mul]
theorem VOR_indexAddr_sl {t e : TypeId} {x y : Operand} {n : Nat} {xs : List A} {k : IntKind} {i : Int} {z : A} (ho : o.op = .indexAddr t x y) (hx : okO x = true) (hy : okO y = true)
    (h1 : ev S x = .sl false n xs) (h2 : ev S y = .sc (.int k i)) (he : elemT P t = some e) (hs : szT P e = some n) (h0 : 0 ≤ i) (hz : xs[i.toNat]? = some z)
    : VOR P o S rs (.rp z.cells) := by
  refine fun E G gs a w hi => ?_
  have e1 := ev_rel hi x hx
  have e2 := ev_rel hi y hy
  rw [h1] at e1
  rw [h2] at e2
  have hv2 := (sc_inv e2).1
  have hl : i.toNat < xs.length := by
    rcases Nat.lt_or_ge i.toNat xs.length with h | h
    · exact h
    · rw [List.getElem?_eq_none h] at hz; simp at hz
  rcases slf_inv e1 with ⟨_, rfl⟩ | ⟨b, kk, cap, cur, et, fr, hv, hh, hg, hw, hrel, hcap, hm⟩
  · simp at hl
  · refine ⟨.pointer (some ⟨b, kk + i.toNat * n, none⟩), ?_, .of (.rp hh hg rfl ?_)⟩
    · have : i < (xs.length : Int) := by omega
      intro w' hw'
      simp [execOp, ho, hv, hv2, Instr.indexAt, asIntOf, run_underlying (elemT_inv he), h0, this, run_sizeOf hs, add_none]
    · have h3 := (hrel.drop0 (i.toNat * n)).take0 n
      have hseg := flat_seg hw hz 0 n (by omega)
      simp only [Nat.add_zero, List.drop_zero] at hseg
      have hzw := hw z (List.mem_of_getElem? hz)
      unfold A.width at hzw
      rw [hseg, ← hzw, List.take_length, hzw] at h3
      have hle : (i.toNat + 1) * n ≤ xs.length * n := Nat.mul_le_mul_right _ hl
      rw [Nat.add_mul] at hle
      rw [List.drop_take, List.take_take, Nat.min_eq_left (by omega), List.drop_drop] at h3
      rw [hzw]
      exact h3
theorem VOR_nilCheck_pt {x : Operand} {r j q : Nat} (ho : o.op = .nilCheck x) (hx : okO x = true) (he : ev S x = .pt r j q)
    : VOR P o S rs (.pt r j q) := by
  refine fun E G gs a w hi => ?_
  have h1 := ev_rel hi x hx
  rw [he] at h1
  obtain ⟨row, b, hr, hb, hv⟩ := pt_inv h1
  exact ⟨_, fun w' hw' => by simp [execOp, ho, hv], hv ▸ h1⟩
theorem VOR_nilCheck_rp {x : Operand} {xs : List A} (ho : o.op = .nilCheck x) (hx : okO x = true) (he : ev S x = .rp xs)
    : VOR P o S rs (.rp xs) := by
  refine fun E G gs a w hi => ?_
  have h1 := ev_rel hi x hx
  rw [he] at h1
  obtain ⟨b, k, cur, e, fr, hv, hh, hg, hl⟩ := rp_inv h1
  exact ⟨_, fun w' hw' => by simp [execOp, ho, hv], hv ▸ h1⟩
theorem vFieldAddrR_ok {k : A → Prop} (hT : TabOK P T) {t : TypeId} {x : Operand} {i : Nat} (ho : o.op = .fieldAddr t x i) (h : vFieldAddr T t i (ev S x) k) : ∃ z, VOR P o S rs z ∧ k z := by
  unfold vFieldAddr at h
  split at h <;> try exact h.elim
  rename_i ti hi
  have hti := tiOf_ok (hT _ _ hi)
  split at h <;> try exact h.elim
  rename_i off s g hf
  split at h <;> try exact h.elim
  rename_i hs
  split at h <;> try exact h.elim
  · rename_i r j q hx
    exact ⟨_, VOR_fieldAddr_pt ho rfl hx (hti.fs _ _ hf) hs, h⟩
  · rename_i xs hx
    exact ⟨_, VOR_fieldAddr_rp ho rfl hx (hti.fs _ _ hf) hs, h⟩
theorem VOR_indexAddr_pa {t : TypeId} {x y : Operand} {r j q n s : Nat} {k : IntKind} {i : Int} (ho : o.op = .indexAddr t x y) (hx : okO x = true) (hy : okO y = true)
    (h1 : ev S x = .pt r j q) (h2 : ev S y = .sc (.int k i)) (ha : arT P t = some (n, s)) (h0 : 0 ≤ i) (hl : i < n) : VOR P o S rs (.pt r j (q + i.toNat * s)) := by
  refine fun E G gs a w hi => ?_
  have e1 := ev_rel hi x hx
  have e2 := ev_rel hi y hy
  rw [h1] at e1
  rw [h2] at e2
  obtain ⟨row, b, hr, hb, hv⟩ := pt_inv e1
  have hv2 := (sc_inv e2).1
  unfold arT at ha
  split at ha
  case h_2 => cases ha
  rename_i n' e hu
  obtain ⟨s', hs, hns⟩ := Option.map_eq_some_iff.1 ha
  obtain ⟨rfl, rfl⟩ := Prod.mk.inj hns
  refine ⟨.pointer (some ⟨b, j * row.n + (q + i.toNat * s'), none⟩), ?_, .pt hr hb rfl⟩
  intro w' hw'
  simp [execOp, ho, hv, hv2, Instr.indexAt, asIntOf, run_underlying hu, Instr.sureAddr, h0, hl, run_sizeOf hs, add_none, Nat.add_assoc]
theorem vIndexAddrR_ok {k : A → Prop} (hT : TabOK P T) {t : TypeId} {x y : Operand} (ho : o.op = .indexAddr t x y) (h : vIndexAddr std T t S (ev S x) (ev S y) k) : ∃ z, VOR P o S rs z ∧ k z := by
  unfold vIndexAddr at h
  split at h <;> try exact h.elim
  · rename_i e ti k i hs hy
    obtain ⟨he, hti⟩ := szEl_ok hT hs
    split at h <;> try exact h.elim
    · rename_i r off len hx
      split at h <;> try exact h.elim
      rename_i row hr
      split at h <;> try exact h.elim
      rename_i hn
      exact ⟨_, VOR_indexAddr_vw ho rfl rfl hx hy hr he (by rw [hti.sz, hn]) h.1.h.1 h.1.h.2, h.2⟩
    · rename_i n xs hx
      split at h <;> try exact h.elim
      rename_i hn
      obtain ⟨h1, z, hz, h⟩ := h
      exact ⟨_, VOR_indexAddr_sl ho rfl rfl hx hy he (by rw [hti.sz, hn]) h1.h hz, h⟩
  · rename_i k i hs hy
    split at h <;> try exact h.elim
    rename_i ti ht
    split at h <;> try exact h.elim
    rename_i n s ha
    split at h <;> try exact h.elim
    rename_i r j q hx
    exact ⟨_, VOR_indexAddr_pa ho rfl rfl hx hy (by rw [(tiOf_ok (hT _ _ ht)).ar]; exact ha) h.1.h.1 h.1.h.2, h.2⟩
theorem vNilCheckR_ok {k : A → Prop} {x : Operand} (ho : o.op = .nilCheck x) (h : vNilCheck (ev S x) k) : ∃ z, VOR P o S rs z ∧ k z := by
  unfold vNilCheck at h
  split at h <;> try exact h.elim
  · rename_i hx; exact ⟨_, VOR_nilCheck_pt ho rfl hx, h⟩
  · rename_i hx; exact ⟨_, VOR_nilCheck_rp ho rfl hx, h⟩
def vLoadR (T : Nat → Option TI) (t : TypeId) (S : State) (rs : List Nat) (x : A) (k : A → Prop) : Prop :=
  match T t with
  | some i => (match x with
    | .rp xs => if i.ag then (if i.sz ≤ xs.length then k (.agg (xs.take i.sz)) else False) else (match xs[0]? with
      | some z => k z
      | none => False)
    | .pt r j q => if rs.contains r then (match rowAt S.rows r with
      | some row => (match row.lk with
        | true => (match row.xs[j]? with
          | some y => vCell i row.n y q k
          | none => False)
        | false => ∃ y, row.xs[j]? = some y ∧ vCell i row.n y q k)
      | none => False) else False
    | _ => False)
  | none => False
theorem vLoadR_ok {k : A → Prop} (hT : TabOK P T) {t : TypeId} {x : Operand} (ho : o.op = .load t x) (h : vLoadR T t S rs (ev S x) k) : ∃ z, VOR P o S rs z ∧ k z := by
  unfold vLoadR at h
  split at h <;> try exact h.elim
  rename_i i hi
  have hti := tiOf_ok (hT _ _ hi)
  split at h <;> try exact h.elim
  · rename_i xs hx
    split at h
    · rename_i hag
      split at h <;> try exact h.elim
      rename_i hle
      exact ⟨_, (VOG_load_rpAgg ho rfl hx (by rw [hti.ag, hag]) hti.sz hle).r, h⟩
    · rename_i hag
      split at h <;> try exact h.elim
      rename_i z hz
      exact ⟨_, (VOG_load_rp ho rfl hx (by rw [hti.ag]; simpa using hag) hz).r, h⟩
  · rename_i r j q hx
    split at h <;> try exact h.elim
    rename_i hrs
    have hrs : r ∈ rs := by simpa using hrs
    split at h <;> try exact h.elim
    rename_i row hr
    have cell : ∀ y, row.xs[j]? = some y → vCell i row.n y q k → ∃ z, VOR P o S rs z ∧ k z := fun y hy h => by
      unfold vCell at h
      split at h
      · rename_i hag
        split at h <;> try exact h.elim
        rename_i hq
        split at h <;> try exact h.elim
        rename_i hno
        exact ⟨_, VOR_load_ptAgg ho rfl hx hr hrs hy (by rw [hti.ag, hag]) hti.sz hq hno, h⟩
      · rename_i hag
        split at h <;> try exact h.elim
        rename_i z hz
        split at h <;> try exact h.elim
        rename_i hno
        exact ⟨_, VOR_load_pt ho rfl hx hr hrs hy (by rw [hti.ag]; simpa using hag) hz hno, h⟩
    split at h
    · split at h <;> try exact h.elim
      rename_i y hy
      exact cell y hy h
    · obtain ⟨y, hy, h⟩ := h
      exact cell y hy h
/-- What an operation reads of rows rs, or of what nobody writes. -/
def vROp (Ω : Opq) (T : Nat → Option TI) (rs : List Nat) (o : Oper) (S : State) (k : A → Prop) : Prop :=
  match o.op with
  | .load t x => vLoadR T t S rs (ev S x) k
  | .fieldAddr t x i => vFieldAddr T t i (ev S x) k
  | .nilCheck x => vNilCheck (ev S x) k
  | .indexAddr t x y => vIndexAddr Ω T t S (ev S x) (ev S y) k
  | _ => vGOp Ω T o S k
theorem vROp_ok (hT : TabOK P T) {k : A → Prop} (h : vROp std T rs o S k) : ∃ z, VOR P o S rs z ∧ k z := by
  unfold vROp at h
  split at h
  · rename_i ho; exact vLoadR_ok hT ho h
  · rename_i ho; exact vFieldAddrR_ok hT ho h
  · rename_i ho; exact vNilCheckR_ok ho h
  · rename_i ho; exact vIndexAddrR_ok hT ho h
  · obtain ⟨z, h1, h2⟩ := vGOp_ok hT h
    exact ⟨z, h1.r, h2⟩
variable {ops : List Oper} {Q : Exit → Act → World → Prop} {kp : Nat → Bool} {Sc : World → Prop}
theorem put_rows (S : State) (d : Option Nat) (z : A) : (S.put d z).rows = S.rows := by
  cases d with
  | none => rfl
  | some d => simp only [State.put]; split <;> rfl
end
end Go.Fw

/- Calls that write into one box of plain data and hand back something of which a relation speaks. Plain theorems, no condition. -/
set_option linter.unusedVariables false
set_option linter.unusedSimpArgs false
namespace Go.Fw
section
variable {P : Program} {T : Nat → Option TI} {S : State} {Ω : Opq}
/-- Rows from n on are not asked for any more. -/
def cutT (n : Nat) (t : List (Nat × A)) : List (Nat × A) := t.map fun p => (p.1, if onlyR (List.range n) p.2 then p.2 else .un)
theorem lk_cutT (n : Nat) : ∀ (t : List (Nat × A)) (i : Nat), lk (cutT n t) i = if onlyR (List.range n) (lk t i) then lk t i else .un
  | [], i => by simp [cutT, lk, onlyR]
  | (k, x) :: l, i => by
    have ih := lk_cutT n l i
    simp only [cutT] at ih
    simp only [cutT, List.map_cons, lk]
    split
    · rfl
    · exact ih
def rowsOnly (n : Nat) : List (Option Row) → Bool
  | [] => true
  | none :: l => rowsOnly n l
  | some row :: l => rowOnly (List.range n) row && rowsOnly n l
theorem rowsOnly_at {n : Nat} : ∀ {l : List (Option Row)} {r : Nat} {row : Row}, rowsOnly n l = true → rowAt l r = some row → rowOnly (List.range n) row = true
  | [], r, row, _, h => by simp [rowAt] at h
  | none :: l, 0, row, _, h => by simp [rowAt] at h
  | some row' :: l, 0, row, h1, h => by
    simp [rowAt] at h
    subst h
    simp only [rowsOnly, Bool.and_eq_true] at h1
    exact h1.1
  | none :: l, r + 1, row, h1, h => rowsOnly_at (l := l) (r := r) h1 (by simpa [rowAt] using h)
  | some row' :: l, r + 1, row, h1, h => by
    simp only [rowsOnly, Bool.and_eq_true] at h1
    exact rowsOnly_at (l := l) (r := r) h1.2 (by simpa [rowAt] using h)
theorem rowAt_take {l : List (Option Row)} {n r : Nat} : rowAt (l.take n) r = if r < n then rowAt l r else none := by
  unfold rowAt
  rw [List.getElem?_take]
  split <;> rfl
theorem Sbs.cut (n : Nat) (h : rowsOnly n (S.rows.take n) = true) : Sbs S ⟨cutT n S.t, S.N, S.rows.take n⟩ := by
  intro P E a w ⟨hd, G, gs, hi⟩
  have hrat : ∀ r row, rowAt (S.rows.take n) r = some row → rowAt S.rows r = some row := fun r row hr => by
    rw [rowAt_take] at hr
    split at hr
    · exact hr
    · cases hr
  have hle : ∀ r ∈ List.range n, RowLe w w S.rows (S.rows.take n) gs gs r := fun r hr => RowLe.refl_of fun row hrw => by
    rw [List.mem_range] at hr
    exact ⟨by rw [rowAt_take, if_pos hr]; exact hrw, rfl, fun _ _ => rfl⟩
  refine ⟨hd, G, gs, hi.keep, hi.os, hi.tape, hi.output, hi.size, hi.sz, hi.gsub, hi.gnew, hi.glt, fun r row hr => ?_, fun r row hr => hi.nod r row (hrat r row hr), fun r row hr => hi.own r row (hrat r row hr),
    fun r r' row row' hr hr' => hi.dis r r' row row' (hrat r row hr) (hrat r' row' hr'), fun i => ?_⟩
  · exact (hi.row r row (hrat r row hr)).on (fun b hb => ⟨hb, rfl⟩) hle (rowsOnly_at h hr) fun _ _ => rfl
  · show TRel w G (S.rows.take n) gs (lk (cutT n S.t) i) _ []
    rw [lk_cutT]
    split
    · rename_i ho
      exact (hi.tmp i).on (fun b hb => ⟨hb, rfl⟩) hle ho (by simp)
    · exact .un
/-! An own row of data, from now on only read. -/
mutual
def thaw (r n : Nat) (xs : List A) : A → A
  | .vw r' off len => if r' = r then .sl false n ((xs.drop off).take len) else .vw r' off len
  | .pt r' j o => if r' = r then .rp ((flat xs).drop (j * n + o)) else .pt r' j o
  | .agg ys => .agg (thawL r n xs ys)
  | .tup ys => .tup (thawL r n xs ys)
  | .clo g ys => .clo g (thawL r n xs ys)
  | .un => .un
  | .sc v => .sc v
  | .nil => .nil
  | .sl o m ys => .sl o m ys
  | .rp ys => .rp ys
  | .bx ys => .bx ys
  | .mp q => if q = r then .rmp xs else .mp q
  | .rmp ys => .rmp ys
  | .al v y => .al v (thaw r n xs y)
def thawL (r n : Nat) (xs : List A) : List A → List A
  | [] => []
  | y :: ys => thaw r n xs y :: thawL r n xs ys
end
theorem thawL_eq (r n : Nat) (xs : List A) : ∀ ys : List A, thawL r n xs ys = ys.map (thaw r n xs)
  | [] => rfl
  | y :: ys => by rw [thawL, thawL_eq r n xs ys]; rfl
theorem thaw_agg (r n : Nat) (xs ys : List A) : thaw r n xs (.agg ys) = .agg (ys.map (thaw r n xs)) := by rw [thaw, thawL_eq]
theorem thaw_tup (r n : Nat) (xs ys : List A) : thaw r n xs (.tup ys) = .tup (ys.map (thaw r n xs)) := by rw [thaw, thawL_eq]
theorem thaw_clo (r n g : Nat) (xs ys : List A) : thaw r n xs (.clo g ys) = .clo g (ys.map (thaw r n xs)) := by rw [thaw, thawL_eq]
theorem Rel.thaw {w : World} {G : Nat → Prop} {x : A} {v : Value} {F : List Nat} (h : Rel w G x v F) (r n : Nat) (xs : List A) : Fw.thaw r n xs x = x := by
  refine Rel.rec (motive_1 := fun x v F _ => Fw.thaw r n xs x = x) (motive_2 := fun ys vs F _ => ys.map (Fw.thaw r n xs) = ys)
    ?_ ?_ ?_ ?_ ?_ ?_ ?_ ?_ ?_ ?_ ?_ ?_ ?_ ?_ ?_ h
  · intros; rw [Fw.thaw]
  · intros; rw [Fw.thaw]
  · intros; rw [Fw.thaw]
  · intros; rw [Fw.thaw]
  · intros; rw [Fw.thaw]
  · intros; rw [Fw.thaw]
  · intros; rw [Fw.thaw]
  · intro xs cs F hl ih; rw [thaw_agg, ih]
  · intro xs cs F hl ih; rw [thaw_tup, ih]
  · intros; rw [Fw.thaw]
  · intros; rw [Fw.thaw]
  · intro g caps cs F hl ih; rw [thaw_clo, ih]
  · intros; rw [Fw.thaw]
  · rfl
  · intro x v F xs vs Fs h hl ih ih'; rw [List.map_cons, ih, ih']
/-- What is known of a row whose blocks are G's from now on. -/
structure Thawed (w : World) (G G' : Nat → Prop) (rows rows' : List (Option Row)) (gs gs' : Gh) (r : Nat) (row : Row) (ys : List A) : Prop where
  sub : ∀ b, G b → G' b
  ro : ∀ b, (gs r).1 = some b → G' b
  ob : ∀ c, (gs r).1 = some c → RowCells w G' rows gs { row with xs := ys } c []
  mp : ∀ b, gs r = (none, [b]) → Rel w G' (.rmp ys) (.map (some b)) []
  len : ys.length = row.xs.length
  lk : row.lk = false
  at_ : rowAt rows r = some row
  other : ∀ q row', q ≠ r → rowAt rows q = some row' → rowAt rows' q = some row' ∨ ∃ row2, rowAt rows' q = some row2 ∧ row2.n = row'.n ∧ row2.xs.length = row'.xs.length
  gsq : ∀ q, q ≠ r → gs' q = gs q
theorem TRel.thaw {w : World} {G G' : Nat → Prop} {rows rows' : List (Option Row)} {gs gs' : Gh} {r : Nat} {row : Row} {ys : List A} (ht : Thawed w G G' rows rows' gs gs' r row ys) {x : A} {v : Value} {F : List Nat} (h : TRel w G rows gs x v F) :
    TRel w G' rows' gs' (Fw.thaw r row.n ys x) v F := by
  refine TRel.rec (motive_1 := fun x v F _ => TRel w G' rows' gs' (Fw.thaw r row.n ys x) v F) (motive_2 := fun xs vs F _ => TRelL w G' rows' gs' (xs.map (Fw.thaw r row.n ys)) vs F) ?_ ?_ ?_ ?_ ?_ ?_ ?_ ?_ ?_ ?_ ?_ ?_ h
  · intros; rw [Fw.thaw]; exact .un
  · intro x v F h; rw [h.thaw]; exact .of (h.move_ (fun b hb => ⟨ht.sub b hb, rfl⟩) fun _ _ => rfl)
  · intro q off len k cap c row' cur e h1 h2 h3 h4 h5 h6 h7 h8
    rw [Fw.thaw]
    split
    · rename_i hq
      subst hq
      rw [ht.at_] at h1
      obtain rfl := Option.some.inj h1
      obtain ⟨cur', e', cap', g1, g2, g3, g4, g5, g6, g7⟩ := (ht.ob _ h2).ex
      rw [h4] at g1
      obtain ⟨rfl, -, -⟩ : cur = cur' ∧ e = e' ∧ True := by simpa using g1
      unfold CellsRel at g7
      dsimp only at g3 g5 g6 g7
      rw [if_neg (by rw [ht.lk]; simp)] at g7
      have hwd : ∀ x ∈ ys, x.width = row.n := g5
      have hlen : ys.length = row.xs.length := ht.len
      have hl2 : (ys.drop off).take len = (ys.take (off + len)).drop off := by rw [List.drop_take]; congr 1; omega
      have h9 := (g7.take0 ((off + len) * row.n)).drop0 (off * row.n)
      rw [flat_take (off + len) hwd, flat_drop off (fun x hx => hwd x (List.mem_of_mem_take hx)), ← hl2] at h9
      have e9 : List.drop (off * row.n) (List.take ((off + len) * row.n) (List.take (ys.length * row.n) cur.toList)) = (cur.toList.drop (off * row.n)).take (len * row.n) := by
        have hle : (off + len) * row.n ≤ ys.length * row.n := Nat.mul_le_mul_right _ (by rw [hlen]; exact h3)
        rw [List.take_take, Nat.min_eq_left hle, List.drop_take, Nat.add_mul, Nat.add_sub_cancel_left]
      rw [e9] at h9
      have hll : len = ((ys.drop off).take len).length := by simp; omega
      refine .of (.ro h4 (ht.ro c h2) (fun x hx => hwd x (List.mem_of_mem_drop (List.mem_of_mem_take hx))) hll rfl ?_ (by omega) (by omega))
      rcases h8 with rfl | ⟨h8, _⟩
      · exact h9
      · have h0 : len = 0 := by omega
        subst h0
        simpa [flat] using RelL.nil
    · rename_i hq
      rcases ht.other q row' hq h1 with h9 | ⟨row2, h9, h10, h11⟩
      · exact .vw h9 (by rw [ht.gsq q hq]; exact h2) h3 h4 h5 h6 h7 h8
      · exact .vw h9 (by rw [ht.gsq q hq]; exact h2) (by omega) h4 (by rw [h10]; exact h5) h6 (by omega) (by rw [h10]; exact h8)
  · intro q row' h1 h2 h3
    rw [Fw.thaw]
    split
    · simpa using TRel.of Rel.nils
    · rename_i hq
      rcases ht.other q row' hq h1 with h9 | ⟨row2, h9, h10, h11⟩
      · exact .vwn h9 (by rw [ht.gsq q hq]; exact h2) h3
      · exact .vwn h9 (by rw [ht.gsq q hq]; exact h2) (List.eq_nil_of_length_eq_zero (by rw [h11, h3]; rfl))
  · intro q j o k c row' h1 h2 h3
    rw [Fw.thaw]
    split
    · rename_i hq
      subst hq
      rw [ht.at_] at h1
      obtain rfl := Option.some.inj h1
      obtain ⟨cur', e', cap', g1, g2, g3, g4, g5, g6, g7⟩ := (ht.ob _ h2).ex
      unfold CellsRel at g7
      dsimp only at g3 g5 g6 g7
      rw [if_neg (by rw [ht.lk]; simp)] at g7
      have h9 := g7.drop0 (j * row.n + o)
      have hfl := flat_length (n := row.n) (xs := ys) g5
      subst h3
      refine .of (.rp g1 (ht.ro c h2) rfl ?_)
      rw [List.length_drop, hfl, ← List.drop_take]
      exact h9
    · rename_i hq
      rcases ht.other q row' hq h1 with h9 | ⟨row2, h9, h10, h11⟩
      · exact .pt h9 (by rw [ht.gsq q hq]; exact h2) h3
      · exact .pt h9 (by rw [ht.gsq q hq]; exact h2) (by rw [h10]; exact h3)
  · intro xs cs F hl ih; rw [thaw_agg]; exact .agg ih
  · intro xs cs F hl ih; rw [thaw_tup]; exact .tup ih
  · intro g caps cs F hl ih; rw [thaw_clo]; exact .clo ih
  · intro q b row' h1 h2
    rw [Fw.thaw]
    split
    · rename_i hq
      subst hq
      exact .of (ht.mp b h2)
    · rename_i hq
      rcases ht.other q row' hq h1 with h9 | ⟨row2, h9, h10, h11⟩
      · exact .mp h9 (by rw [ht.gsq q hq]; exact h2)
      · exact .mp h9 (by rw [ht.gsq q hq]; exact h2)
  · intro x v F h ih; rw [Fw.thaw]; exact .al ih
  · exact .nil
  · intro x v F xs vs Fs h hl ih ih'; exact .cons ih ih'
def thawRow (r n : Nat) (xs : List A) (row : Row) : Row := if row.lk then { row with xs := row.xs.map (thaw r n xs) } else row
def thawT (r n : Nat) (xs : List A) (t : List (Nat × A)) : List (Nat × A) := t.map fun p => (p.1, thaw r n xs p.2)
theorem lk_thawT (r n : Nat) (xs : List A) : ∀ (t : List (Nat × A)) (i : Nat), lk (thawT r n xs t) i = thaw r n xs (lk t i)
  | [], i => by show A.un = thaw r n xs .un; rw [thaw]
  | (k, x) :: l, i => by
    have ih := lk_thawT r n xs l i
    simp only [thawT] at ih
    simp only [thawT, List.map_cons, lk]
    split
    · rfl
    · exact ih
theorem thaw_cells (r n : Nat) (xs : List A) (x : A) : (thaw r n xs x).cells = x.cells.map (thaw r n xs) := by
  have e1 : ∀ q o l, (if q = r then A.sl false n ((xs.drop o).take l) else A.vw q o l).cells = [if q = r then A.sl false n ((xs.drop o).take l) else A.vw q o l] := fun q o l => by split <;> rfl
  have e2 : ∀ q o l, (if q = r then A.rp ((flat xs).drop (o * n + l)) else A.pt q o l).cells = [if q = r then A.rp ((flat xs).drop (o * n + l)) else A.pt q o l] := fun q o l => by split <;> rfl
  cases x with
  | vw q o l => simp only [A.cells, List.map_cons, List.map_nil, thaw, e1]; exact e1 q o l
  | pt q o l => simp only [A.cells, List.map_cons, List.map_nil, thaw, e2]; exact e2 q o l
  | mp q => by_cases hq : q = r <;> simp [A.cells, thaw, hq]
  | _ => simp only [thaw, thawL_eq, A.cells, List.map_cons, List.map_nil]
theorem thaw_width (r n : Nat) (xs : List A) (x : A) : (thaw r n xs x).width = x.width := by simp [A.width, thaw_cells]
theorem thaw_flat (r n : Nat) (xs ys : List A) : flat (ys.map (thaw r n xs)) = (flat ys).map (thaw r n xs) := by
  induction ys with
  | nil => rfl
  | cons x ys ih => simp only [flat, List.map_cons, List.flatMap_cons, List.map_append] at *; rw [ih, thaw_cells]
def State.thaw (S : State) (r n : Nat) (ys : List A) : State := ⟨thawT r n ys S.t, S.N, (S.rows.map (Option.map (thawRow r n ys))).set r none⟩
/-- An own row of data is only read from now on: what led into it tells what it holds. -/
theorem Sbs.thawY {r : Nat} {row : Row} {ys : List A} (hr : rowAt S.rows r = some row) (hlk : row.lk = false) (hyl : ys.length = row.xs.length)
    (hys : (∀ x ∈ row.xs, x.width = row.n) → (∀ x ∈ ys, x.width = row.n))
    (hre : ∀ (w : World) (G G' : Nat → Prop) (vs : List Value) (F : List Nat), RelL w G (flat row.xs) vs F → (∀ b, G b → G' b) → (∀ b ∈ F, G' b) → RelL w G' (flat ys) vs []) : Sbs S (S.thaw r row.n ys) := by
  intro P E ac w ⟨hd, G, gs, hi⟩
  have hal := rowAt_lt hr
  have hrat : ∀ q, rowAt (S.thaw r row.n ys).rows q = if q = r then none else (rowAt S.rows q).map (thawRow r row.n ys) := fun q => by
    show rowAt ((S.rows.map (Option.map (thawRow r row.n ys))).set r none) q = _
    rw [rowAt_set _ _ _ _ (by simpa using hal)]
    split
    · rfl
    · simp only [rowAt, List.getElem?_map]
      cases h : S.rows[q]? with
      | none => rfl
      | some o => cases o <;> rfl
  have hGsub : ∀ b, G b → G b ∨ b ∈ gs.all r := fun b h => .inl h
  have hob : ∀ c, (gs r).1 = some c → RowCells w (fun b => G b ∨ b ∈ gs.all r) S.rows gs { row with xs := ys } c [] := fun c hc => by
    have h := hi.row r row hr
    have hin2 : ∀ b ∈ (gs r).2, b ∈ gs.all r := fun b hb => by simp [Gh.all, hb]
    rw [hc] at h
    generalize (gs r).2 = F at h hin2
    obtain ⟨b, rfl⟩ : ∃ b, b = c := ⟨_, rfl⟩
    · skip
      obtain ⟨cur, e, cap, h1, h2, h3, h4, h5, h6, h7⟩ := RowCells.ex h
      refine ⟨cur, e, cap, h1, h2, by dsimp only; rw [hyl]; exact h3, h4, hys h5, by dsimp only; rw [hyl]; exact h6, ?_⟩
      · unfold CellsRel at h7 ⊢
        dsimp only
        rw [if_neg (by rw [hlk]; simp)] at h7 ⊢
        rw [hyl]
        exact hre w G (fun b => G b ∨ b ∈ gs.all r) _ _ h7 hGsub (fun b hb => .inr (hin2 b hb))
  have hmp : ∀ b, gs r = (none, [b]) → Rel w (fun b => G b ∨ b ∈ gs.all r) (.rmp ys) (.map (some b)) [] := fun b hb => by
    have h := hi.row r row hr
    rw [hb] at h
    rcases h with ⟨_, h⟩ | h
    · cases h
    · obtain ⟨b', clock, ents, e1, h1, h2, h3, h4, h5⟩ := h.ex
      obtain rfl : b = b' := by simpa using e1
      refine .rmp h1 (.inr (by simp [Gh.all, hb])) (fun x hx => ?_) (hre w G (fun b => G b ∨ b ∈ gs.all r) _ _ h5 hGsub (by simp))
      have := hys (fun x hx => by rw [h4 x hx, h3]) x hx
      rw [this, h3]
  have ht : Thawed w G (fun b => G b ∨ b ∈ gs.all r) S.rows (S.thaw r row.n ys).rows gs (gs.add r none []) r row ys := by
    refine ⟨hGsub, fun b hb => .inr (by simp [Gh.all, hb]), hob, hmp, hyl, hlk, hr, fun q row' hq hq2 => ?_, fun q hq => by simp [Gh.add, hq]⟩
    rw [hrat, if_neg hq, hq2]
    refine .inr ⟨_, rfl, ?_, ?_⟩ <;> unfold thawRow <;> split <;> simp
  have hgs : ∀ q, q ≠ r → (gs.add r none []) q = gs q := fun q hq => by simp [Gh.add, hq]
  have hall : ∀ q, q ≠ r → (gs.add r none []).all q = gs.all q := fun q hq => by simp only [Gh.all, hgs q hq]
  have hcase : ∀ q row', rowAt (S.thaw r row.n ys).rows q = some row' → q ≠ r ∧ ∃ row0, rowAt S.rows q = some row0 ∧ row' = thawRow r row.n ys row0 := fun q row' h => by
    rw [hrat] at h
    split at h
    · cases h
    · rename_i hq
      obtain ⟨row0, q1, q2⟩ := Option.map_eq_some_iff.1 h
      exact ⟨hq, row0, q1, q2.symm⟩
  refine ⟨hd, fun b => G b ∨ b ∈ gs.all r, gs.add r none [], hi.keep, hi.os, hi.tape, hi.output, hi.size, hi.sz, fun b hb => .inl (hi.gsub b hb), fun b hb => ?_, hi.glt.move (fun b h => .inl h) (fun _ _ => rfl) (fun b hb => ?_), fun q row' hq => ?_, fun q row' hq => ?_, fun q row' hq b hb => ?_, fun q q' row' row'' hq hq' hne => ?_, fun i => ?_⟩
  · rcases hb with hb | hb
    · exact hi.gnew b hb
    · exact .inr (hi.own r row hr b hb).2
  · rcases hb with hb | hb
    · exact hi.glt b hb
    · exact hi.block_lt hr b hb
  · obtain ⟨hqr, row0, h0, rfl⟩ := hcase q row' hq
    have hrow := hi.row q row0 h0
    rw [hgs q hqr]
    generalize (gs q).1 = ob at hrow
    cases ob with
    | none =>
      rcases hrow with ⟨q1, q2⟩ | hm
      · refine .inl ⟨?_, q2⟩
        unfold thawRow
        split <;> simp [q1]
      · refine .inr ?_
        have e : thawRow r row.n ys row0 = row0 := by obtain ⟨_, _, _, _, _, h1, _⟩ := hm.ex; unfold thawRow; rw [if_neg (by simp [h1])]
        rw [e]
        exact hm.step (fun b hb => ⟨.inl hb, rfl⟩) fun _ _ => rfl
    | some c =>
      obtain ⟨cur, ee, cap, h1, h2, h3, h4, h5, h6, h7⟩ := RowCells.ex hrow
      unfold CellsRel at h7
      by_cases hl : row0.lk = true
      · have e1 : thawRow r row.n ys row0 = { row0 with xs := row0.xs.map (Fw.thaw r row.n ys) } := by unfold thawRow; rw [if_pos hl]
        rw [e1]
        refine ⟨cur, ee, cap, h1, h2, by simpa using h3, h4, ?_, by simpa using h6, ?_⟩
        · intro x hx
          obtain ⟨y, hy, rfl⟩ := List.mem_map.1 hx
          rw [thaw_width]; exact h5 y hy
        · unfold CellsRel
          rw [if_pos hl] at h7
          show if row0.lk = true then _ else _
          rw [if_pos hl, thaw_flat]
          have : ∀ {xs : List A} {vs : List Value} {F : List Nat}, TRelL w G S.rows gs xs vs F → TRelL w (fun b => G b ∨ b ∈ gs.all r) (S.thaw r row.n ys).rows (gs.add r none []) (xs.map (Fw.thaw r row.n ys)) vs F := by
            intro xs vs F h
            induction xs generalizing vs F with
            | nil => cases h; exact .nil
            | cons x xs ih => cases h with | cons h hl => exact .cons (h.thaw ht) (ih hl)
          simpa using this h7
      · have e1 : thawRow r row.n ys row0 = row0 := by unfold thawRow; rw [if_neg hl]
        rw [e1]
        refine ⟨cur, ee, cap, h1, h2, h3, h4, h5, h6, ?_⟩
        unfold CellsRel
        rw [if_neg hl] at h7 ⊢
        exact h7.move_ (fun b hb => ⟨.inl hb, rfl⟩) fun _ _ => rfl
  · obtain ⟨hqr, row0, h0, rfl⟩ := hcase q row' hq
    rw [hall q hqr]; exact hi.nod q row0 h0
  · obtain ⟨hqr, row0, h0, rfl⟩ := hcase q row' hq
    rw [hall q hqr] at hb
    obtain ⟨q1, q2⟩ := hi.own q row0 h0 b hb
    exact ⟨fun h => h.elim q1 fun h => hi.dis q r row0 row h0 hr hqr b hb h, q2⟩
  · obtain ⟨hqr, row0, h0, rfl⟩ := hcase q row' hq
    obtain ⟨hqr', row1, h1, rfl⟩ := hcase q' row'' hq'
    rw [hall q hqr, hall q' hqr']
    exact hi.dis q q' row0 row1 h0 h1 hne
  · show TRel w _ (S.thaw r row.n ys).rows _ (lk (thawT r row.n ys S.t) i) _ []
    rw [lk_thawT]
    exact (hi.tmp i).thaw ht
/-- The same where nothing is held alone. -/
theorem Sbs.thaw0 {r : Nat} {row : Row} (hr : rowAt S.rows r = some row) (hlk : row.lk = false) (hno : (flat row.xs).all noOwn = true) : Sbs S (S.thaw r row.n row.xs) :=
  Sbs.thawY hr hlk rfl (fun h => h) fun w G G' vs F h h1 h2 => by
    obtain rfl := h.noOwn hno
    exact RelL.move_ (fun b hb => ⟨h1 b hb, rfl⟩) h (fun _ _ => rfl)
/- Row a is told as row b from now on. -/
mutual
def ren (a b : Nat) : A → A
  | .vw r off len => if r = a then .vw b off len else .vw r off len
  | .pt r j o => if r = a then .pt b j o else .pt r j o
  | .agg xs => .agg (renL a b xs)
  | .tup xs => .tup (renL a b xs)
  | .clo g xs => .clo g (renL a b xs)
  | .un => .un
  | .sc v => .sc v
  | .nil => .nil
  | .sl o n xs => .sl o n xs
  | .rp xs => .rp xs
  | .bx xs => .bx xs
  | .mp r => if r = a then .mp b else .mp r
  | .rmp xs => .rmp xs
  | .al v x => .al v (ren a b x)
def renL (a b : Nat) : List A → List A
  | [] => []
  | x :: xs => ren a b x :: renL a b xs
end
theorem renL_eq (a b : Nat) : ∀ xs : List A, renL a b xs = xs.map (ren a b)
  | [] => rfl
  | x :: xs => by rw [renL, renL_eq a b xs]; rfl
theorem ren_agg (a b : Nat) (xs : List A) : ren a b (.agg xs) = .agg (xs.map (ren a b)) := by rw [ren, renL_eq]
theorem ren_tup (a b : Nat) (xs : List A) : ren a b (.tup xs) = .tup (xs.map (ren a b)) := by rw [ren, renL_eq]
theorem ren_clo (a b g : Nat) (xs : List A) : ren a b (.clo g xs) = .clo g (xs.map (ren a b)) := by rw [ren, renL_eq]
theorem Rel.ren {w : World} {G : Nat → Prop} {x : A} {v : Value} {F : List Nat} (h : Rel w G x v F) (a b : Nat) : Fw.ren a b x = x := by
  refine Rel.rec (motive_1 := fun x v F _ => Fw.ren a b x = x) (motive_2 := fun xs vs F _ => xs.map (Fw.ren a b) = xs)
    ?_ ?_ ?_ ?_ ?_ ?_ ?_ ?_ ?_ ?_ ?_ ?_ ?_ ?_ ?_ h
  · intros; rw [Fw.ren]
  · intros; rw [Fw.ren]
  · intros; rw [Fw.ren]
  · intros; rw [Fw.ren]
  · intros; rw [Fw.ren]
  · intros; rw [Fw.ren]
  · intros; rw [Fw.ren]
  · intro xs cs F hl ih; rw [ren_agg, ih]
  · intro xs cs F hl ih; rw [ren_tup, ih]
  · intros; rw [Fw.ren]
  · intros; rw [Fw.ren]
  · intro g caps cs F hl ih; rw [ren_clo, ih]
  · intros; rw [Fw.ren]
  · rfl
  · intro x v F xs vs Fs h hl ih ih'; rw [List.map_cons, ih, ih']
theorem TRel.ren {w : World} {G : Nat → Prop} {rows rows' : List (Option Row)} {gs gs' : Gh} {a b : Nat} (hr : ∀ r row, rowAt rows r = some row → ∃ row', rowAt rows' (if r = a then b else r) = some row' ∧ gs' (if r = a then b else r) = gs r ∧ row'.n = row.n ∧ row'.xs.length = row.xs.length)
    {x : A} {v : Value} {F : List Nat} (h : TRel w G rows gs x v F) : TRel w G rows' gs' (Fw.ren a b x) v F := by
  refine TRel.rec (motive_1 := fun x v F _ => TRel w G rows' gs' (Fw.ren a b x) v F) (motive_2 := fun xs vs F _ => TRelL w G rows' gs' (xs.map (Fw.ren a b)) vs F) ?_ ?_ ?_ ?_ ?_ ?_ ?_ ?_ ?_ ?_ ?_ ?_ h
  · intros; rw [Fw.ren]; exact .un
  · intro x v F h; rw [h.ren]; exact .of h
  · intro r off len k cap c row cur e h1 h2 h3 h4 h5 h6 h7 h8
    obtain ⟨row', q1, q2, q3, q4⟩ := hr r row h1
    have : Fw.ren a b (.vw r off len) = .vw (if r = a then b else r) off len := by rw [Fw.ren]; split <;> rfl
    rw [this]
    exact .vw q1 (by rw [q2]; exact h2) (by omega) h4 (by rw [h5, q3]) h6 (by omega) (by rw [q3]; exact h8)
  · intro r row h1 h2 h3
    obtain ⟨row', q1, q2, q3, q4⟩ := hr r row h1
    have : Fw.ren a b (.vw r 0 0) = .vw (if r = a then b else r) 0 0 := by rw [Fw.ren]; split <;> rfl
    rw [this]
    exact .vwn q1 (by rw [q2]; exact h2) (by rw [h3] at q4; exact List.eq_nil_of_length_eq_zero q4)
  · intro r j o k c row h1 h2 h3
    obtain ⟨row', q1, q2, q3, q4⟩ := hr r row h1
    have : Fw.ren a b (.pt r j o) = .pt (if r = a then b else r) j o := by rw [Fw.ren]; split <;> rfl
    rw [this]
    exact .pt q1 (by rw [q2]; exact h2) (by rw [q3]; exact h3)
  · intro xs cs F hl ih; rw [ren_agg]; exact .agg ih
  · intro xs cs F hl ih; rw [ren_tup]; exact .tup ih
  · intro g caps cs F hl ih; rw [ren_clo]; exact .clo ih
  · intro r c row h1 h2
    obtain ⟨row', q1, q2, q3, q4⟩ := hr r row h1
    have : Fw.ren a b (.mp r) = .mp (if r = a then b else r) := by rw [Fw.ren]; split <;> rfl
    rw [this]
    exact .mp q1 (by rw [q2]; exact h2)
  · intro x v F h ih; rw [Fw.ren]; exact .al ih
  · exact .nil
  · intro x v F xs vs Fs h hl ih ih'; exact .cons ih ih'
theorem TRelL.ren {w : World} {G : Nat → Prop} {rows rows' : List (Option Row)} {gs gs' : Gh} {a b : Nat} (hr : ∀ r row, rowAt rows r = some row → ∃ row', rowAt rows' (if r = a then b else r) = some row' ∧ gs' (if r = a then b else r) = gs r ∧ row'.n = row.n ∧ row'.xs.length = row.xs.length) :
    ∀ {xs : List A} {vs : List Value} {F : List Nat}, TRelL w G rows gs xs vs F → TRelL w G rows' gs' (xs.map (Fw.ren a b)) vs F
  | _, _, _, .nil => .nil
  | _, _, _, .cons h hl => .cons (h.ren hr) (hl.ren hr)
def renRow (a b : Nat) (row : Row) : Row := if row.lk then { row with xs := row.xs.map (ren a b) } else row
def renRows (a b : Nat) (rows : List (Option Row)) : List (Option Row) := rows.map (Option.map (renRow a b))
def renT (a b : Nat) (t : List (Nat × A)) : List (Nat × A) := t.map fun p => (p.1, ren a b p.2)
theorem lk_renT (a b : Nat) : ∀ (t : List (Nat × A)) (i : Nat), lk (renT a b t) i = ren a b (lk t i)
  | [], i => by show A.un = ren a b .un; rw [ren]
  | (k, x) :: l, i => by
    have ih := lk_renT a b l i
    simp only [renT] at ih
    simp only [renT, List.map_cons, lk]
    split
    · rfl
    · exact ih
theorem rowAt_renRows (a b : Nat) (rows : List (Option Row)) (i : Nat) : rowAt (renRows a b rows) i = (rowAt rows i).map (renRow a b) := by
  simp only [rowAt, renRows, List.getElem?_map]
  cases h : rows[i]? with
  | none => rfl
  | some o => cases o <;> rfl
theorem renRow_n (a b : Nat) (row : Row) : (renRow a b row).n = row.n := by unfold renRow; split <;> rfl
theorem renRow_len (a b : Nat) (row : Row) : (renRow a b row).xs.length = row.xs.length := by unfold renRow; split <;> simp
theorem ren_cells (a b : Nat) (x : A) : (ren a b x).cells = x.cells.map (ren a b) := by
  have e1 : ∀ r o l, ren a b (.vw r o l) = .vw (if r = a then b else r) o l := fun r o l => by rw [ren]; split <;> rfl
  have e2 : ∀ r o l, ren a b (.pt r o l) = .pt (if r = a then b else r) o l := fun r o l => by rw [ren]; split <;> rfl
  cases x with
  | vw r o l => simp only [A.cells, List.map_cons, List.map_nil, e1]
  | pt r o l => simp only [A.cells, List.map_cons, List.map_nil, e2]
  | mp r => by_cases hq : r = a <;> simp [A.cells, ren, hq]
  | _ => simp only [ren, renL_eq, A.cells, List.map_cons, List.map_nil]
theorem ren_width (a b : Nat) (x : A) : (ren a b x).width = x.width := by simp [A.width, ren_cells]
theorem ren_flat (a b : Nat) (xs : List A) : flat (xs.map (ren a b)) = (flat xs).map (ren a b) := by
  induction xs with
  | nil => rfl
  | cons x xs ih => simp only [flat, List.map_cons, List.flatMap_cons, List.map_append] at *; rw [ih, ren_cells]
/-- Row a becomes row b, where none stood. -/
def State.mv (S : State) (a b : Nat) : State := ⟨renT a b S.t, S.N, ((renRows a b S.rows).set b (((rowAt S.rows a).map (renRow a b)))).set a none⟩
theorem Sbs.mv {a b : Nat} {row : Row} (ha : rowAt S.rows a = some row) (hb : rowAt S.rows b = none) (hlt : b < S.rows.length) : Sbs S (S.mv a b) := by
  intro P E ac w ⟨hd, G, gs, hi⟩
  have hab : a ≠ b := fun e => by rw [e, hb] at ha; cases ha
  have hal := rowAt_lt ha
  have hlen : (renRows a b S.rows).length = S.rows.length := by simp [renRows]
  have hrat : ∀ r, rowAt (S.mv a b).rows r = if r = a then none else if r = b then (rowAt S.rows a).map (renRow a b) else (rowAt S.rows r).map (renRow a b) := fun r => by
    show rowAt (((renRows a b S.rows).set b _).set a none) r = _
    rw [rowAt_set _ _ _ _ (by rw [List.length_set, hlen]; exact hal)]
    split
    · rfl
    · rw [rowAt_set _ _ _ _ (by rw [hlen]; exact hlt)]
      split
      · rfl
      · rw [rowAt_renRows]
  have hcase : ∀ r row', rowAt (S.mv a b).rows r = some row' → ∃ r0 row0, rowAt S.rows r0 = some row0 ∧ row' = renRow a b row0 ∧ r = (if r0 = a then b else r0) ∧ r0 ≠ b ∧ r ≠ a := fun r row' h => by
    rw [hrat] at h
    split at h
    · cases h
    · rename_i h1
      split at h
      · rename_i h2
        rw [ha] at h
        exact ⟨a, row, ha, (Option.some.inj h).symm, by rw [if_pos rfl]; exact h2, hab, h1⟩
      · rename_i h2
        obtain ⟨row0, q1, q2⟩ := Option.map_eq_some_iff.1 h
        exact ⟨r, row0, q1, q2.symm, by rw [if_neg h1], h2, h1⟩
  have hgs : ∀ r0, r0 ≠ b → (fun r => if r = b then gs a else gs r) (if r0 = a then b else r0) = gs r0 := fun r0 h0 => by
    dsimp only
    by_cases h : r0 = a
    · subst h; simp
    · rw [if_neg h, if_neg h0]
  have hren : ∀ r row0, rowAt S.rows r = some row0 → ∃ row', rowAt (S.mv a b).rows (if r = a then b else r) = some row' ∧ (fun r => if r = b then gs a else gs r) (if r = a then b else r) = gs r ∧ row'.n = row0.n ∧ row'.xs.length = row0.xs.length := fun r row0 h => by
    have hrb : r ≠ b := fun e => by rw [e, hb] at h; cases h
    refine ⟨renRow a b row0, ?_, hgs r hrb, renRow_n .., renRow_len ..⟩
    rw [hrat]
    by_cases hra : r = a
    · subst hra
      rw [if_pos rfl, if_neg (fun e => hab e.symm), if_pos rfl, h]; rfl
    · rw [if_neg hra, if_neg hra, if_neg hrb, h]; rfl
  have hall : ∀ r0, r0 ≠ b → Gh.all (fun r => if r = b then gs a else gs r) (if r0 = a then b else r0) = gs.all r0 := fun r0 h0 => by
    have := hgs r0 h0
    simp only [Gh.all] at *
    rw [this]
  refine ⟨hd, G, fun r => if r = b then gs a else gs r, hi.keep, hi.os, hi.tape, hi.output, hi.size, hi.sz, hi.gsub, hi.gnew, hi.glt, fun r row' hr => ?_, fun r row' hr => ?_, fun r row' hr => ?_, fun r r' row' row'' hr hr' hne => ?_, fun i => ?_⟩
  · obtain ⟨r0, row0, h0, rfl, rfl, hb0, hra⟩ := hcase r row' hr
    have hrow := hi.row r0 row0 h0
    have e : (if (if r0 = a then b else r0) = b then gs a else gs (if r0 = a then b else r0)) = gs r0 := hgs r0 hb0
    rw [e]
    generalize (gs r0).1 = ob at hrow
    cases ob with
    | none =>
      rcases hrow with ⟨q1, q2⟩ | hm
      · refine .inl ⟨?_, q2⟩
        unfold renRow
        split <;> simp [q1]
      · refine .inr ?_
        have e : renRow a b row0 = row0 := by obtain ⟨_, _, _, _, _, h1, _⟩ := hm.ex; unfold renRow; rw [if_neg (by simp [h1])]
        rw [e]; exact hm
    | some c =>
      obtain ⟨cur, ee, cap, h1, h2, h3, h4, h5, h6, h7⟩ := hrow.ex
      unfold CellsRel at h7
      by_cases hl : row0.lk = true
      · have e1 : renRow a b row0 = { row0 with xs := row0.xs.map (ren a b) } := by unfold renRow; rw [if_pos hl]
        rw [e1]
        refine ⟨cur, ee, cap, h1, h2, by simpa using h3, h4, ?_, by simpa using h6, ?_⟩
        · intro x hx
          obtain ⟨y, hy, rfl⟩ := List.mem_map.1 hx
          rw [ren_width]; exact h5 y hy
        · unfold CellsRel
          rw [if_pos hl] at h7
          show if row0.lk = true then _ else _
          rw [if_pos hl, ren_flat]
          simpa using h7.ren hren
      · have e1 : renRow a b row0 = row0 := by unfold renRow; rw [if_neg hl]
        rw [e1]
        refine ⟨cur, ee, cap, h1, h2, h3, h4, h5, h6, ?_⟩
        unfold CellsRel
        rw [if_neg hl] at h7 ⊢
        exact h7
  · obtain ⟨r0, row0, h0, rfl, rfl, hb0, hra⟩ := hcase r row' hr
    rw [hall r0 hb0]; exact hi.nod r0 row0 h0
  · obtain ⟨r0, row0, h0, rfl, rfl, hb0, hra⟩ := hcase r row' hr
    rw [hall r0 hb0]; exact hi.own r0 row0 h0
  · obtain ⟨r0, row0, h0, rfl, rfl, hb0, hra⟩ := hcase r row' hr
    obtain ⟨r1, row1, h1, rfl, rfl, hb1, hra1⟩ := hcase r' row'' hr'
    rw [hall r0 hb0, hall r1 hb1]
    exact hi.dis r0 r1 row0 row1 h0 h1 fun e => hne (by rw [e])
  · show TRel w G (S.mv a b).rows _ (lk (renT a b S.t) i) _ []
    rw [lk_renT]
    exact (hi.tmp i).ren hren
end
end Go.Fw

/- Maps: what is made, laid in and looked up. Plain theorems, no condition. -/
set_option linter.unusedVariables false
set_option linter.unusedSimpArgs false
namespace Go.Fw
/-- What stands at a number in a map's entries. -/
def mfind (k : Int) : List A → Option A
  | [] => none
  | x :: l => match x with
    | .agg [.sc (.int _ j), z] => if k = j then some z else mfind k l
    | _ => mfind k l
/-- Entries of a map whose keys are integers of a kind. -/
def mok (kk : IntKind) : List A → Prop
  | [] => True
  | x :: l => (∃ j z, x = .agg [.sc (.int kk j), z] ∧ noOwn z = true) ∧ mok kk l
def lkA (ok : Bool) (r : Option A) (z : A) : A := match ok, r with
  | true, some x => .tup [x, .sc (.bool true)]
  | true, none => .tup [z, .sc (.bool false)]
  | false, some x => x
  | false, none => z
def lkV (ok : Bool) (r : Option (Nat × Value)) (z : Value) : Value := match ok, r with
  | true, some p => .tuple #[p.2, .bool true]
  | true, none => .tuple #[z, .bool false]
  | false, some p => p.2
  | false, none => z
section
variable {P : Program} {T : Nat → Option TI} {S : State} {E : Env P} {G : Nat → Prop} {gs : Gh} {a : Act} {w : World}

theorem findNow_ok {kk : IntKind} {k : Int} {d : TypeDesc} (hd : d = .int kk) : ∀ (xs : List A) (es : List MapEntry) (i : Nat), mok kk xs → RelL w G (flat xs) (es.flatMap fun e => [e.key, e.val]) [] →
    ∃ r, Instr.findNow d (.int kk k) es i = some r ∧ (match mfind k xs with | none => r = none | some z => ∃ j v, r = some (j, v) ∧ Rel w G z v [])
  | [], es, i, _, h => by
    have := h.length
    cases es with
    | nil => exact ⟨none, rfl, rfl⟩
    | cons e es => simp [flat] at this
  | x :: xs, es, i, hm, h => by
    obtain ⟨⟨j, z, rfl, hz⟩, hm⟩ := hm
    cases es with
    | nil => have := h.length; simp [flat, A.cells] at this
    | cons e es =>
      have e1 : flat (A.agg [.sc (.int kk j), z] :: xs) = .sc (.int kk j) :: z :: flat xs := by simp [flat, A.cells]
      rw [e1] at h
      simp only [List.flatMap_cons, List.cons_append, List.nil_append] at h
      generalize hF : ([] : List Nat) = F at h
      cases h with
      | cons h1 h2 =>
        rename_i F1 F2
        obtain ⟨rfl, rfl⟩ : F1 = [] ∧ F2 = [] := by simpa using hF.symm
        generalize hF' : ([] : List Nat) = F' at h2
        cases h2 with
        | cons h2 h3 =>
          rename_i F1 F2
          obtain ⟨rfl, rfl⟩ : F1 = [] ∧ F2 = [] := by simpa using hF'.symm
          have hk : e.key = .int kk j := by
            generalize e.key = v at h1
            cases h1; rfl
          obtain ⟨r, q1, q2⟩ := findNow_ok hd xs es (i + 1) hm h3
          subst hd
          by_cases hkj : k = j
          · subst hkj
            refine ⟨some (i, e.val), ?_, ?_⟩
            · unfold Instr.findNow
              simp [Instr.sameNow, hk]
            · simp only [mfind, if_pos]
              exact ⟨_, _, rfl, h2⟩
          · refine ⟨r, ?_, ?_⟩
            · unfold Instr.findNow
              have : (k == j) = false := by simpa using hkj
              simp only [Instr.sameNow, hk, if_pos, this]
              exact q1
            · simp only [mfind, if_neg hkj]
              exact q2

theorem run_checkKey {kt : TypeId} {kk : IntKind} (hk : P.underlying kt = some (.int kk)) (b : Bool) (k : Int) (w : World) : (Instr.checkKey b 10000 kt (.int kk k)).run P w = .ok () w := by
  have : ∀ n, (Instr.checkKey b (n + 1) kt (.int kk k)).run P w = .ok () w := fun n => by
    simp only [Instr.checkKey, Sem.run_bind, run_underlying hk w, Result.andThen_ok]
    rfl
  exact this 9999
theorem run_findKey {kt : TypeId} {kk : IntKind} (hk : P.underlying kt = some (.int kk)) {k : Int} {es : List MapEntry} {r : Option (Nat × Value)} (h : Instr.findNow (.int kk) (.int kk k) es 0 = some r) (w : World) :
    (Instr.findKey kt (.int kk k) es).run P w = .ok r w := by
  simp only [Instr.findKey, Sem.run_bind, run_underlying hk w, Result.andThen_ok, h]
  rfl
theorem run_getMap {b clock : Nat} {es : Array MapEntry} (h : w.heap[b]? = some (.map es clock)) : (getObj b).run P w = .ok (.map es clock) w := by
  simp [getObj, Sem.run, h]
theorem run_lookup {t kt et : TypeId} {kk : IntKind} {k : Int} {z0 : Value} (ht : P.underlying t = some (.map kt et)) (hk : P.underlying kt = some (.int kk)) (hz : zeroT P et = some z0) {b clock : Nat} {es : Array MapEntry}
    (hb : w.heap[b]? = some (.map es clock)) {r : Option (Nat × Value)} (hr : Instr.findNow (.int kk) (.int kk k) es.toList 0 = some r) (ok : Bool) :
    (Instr.lookup t (.map (some b)) (.int kk k) ok).run P w = .ok (lkV ok r z0) w := by
  simp only [Instr.lookup, Sem.run_bind, run_underlying ht w, Result.andThen_ok, run_getMap hb, Sem.run_pure, run_checkKey hk, run_findKey hk hr]
  cases r with
  | none =>
    simp only [Sem.run_bind, run_zero hz, Result.andThen_ok, Sem.run_pure]
    cases ok <;> rfl
  | some p => obtain ⟨i, v⟩ := p; cases ok <;> rfl
theorem map_real {tmps : Array Value} (hi : Inv E G gs S tmps w) {r : Nat} {row : Row} {v : Value} {F : List Nat} (hr : rowAt S.rows r = some row) (hv : TRel w G S.rows gs (.mp r) v F) :
    ∃ b clock ents, v = .map (some b) ∧ gs r = (none, [b]) ∧ w.heap[b]? = some (.map ents clock) ∧ row.lk = false ∧ row.n = 2 ∧ (∀ x ∈ row.xs, x.width = 2) ∧ RelL w G (flat row.xs) (entV ents) [] := by
  cases hv with
  | of h => cases h
  | mp hr' hb =>
    rw [hr] at hr'
    obtain rfl := Option.some.inj hr'
    have h := hi.row r row hr
    rw [hb] at h
    rcases h with ⟨_, h⟩ | h
    · cases h
    · obtain ⟨b', clock, ents, e1, h1, h2, h3, h4, h5⟩ := h.ex
      obtain rfl := List.head_eq_of_cons_eq e1
      exact ⟨_, clock, ents, rfl, hb, h1, h2, h3, h4, h5⟩
/-- What is looked up. -/
theorem VOK_lookup {o : Oper} {t kt et : TypeId} {x y : Operand} {ok : Bool} {kk : IntKind} {k : Int} {z0 : Value} {es : List A} (ho : o.op = .lookup t x y ok) (ht : P.underlying t = some (.map kt et)) (hk : P.underlying kt = some (.int kk))
    (hz : zeroT P et = some z0) (hzo : okV z0 = true) (hx : ev S x = .rmp es ∨ ∃ r row, ev S x = .mp r ∧ rowAt S.rows r = some row ∧ row.xs = es) (hy : ev S y = .sc (.int kk k)) (hm : mok kk es) : VOK P o S (lkA ok (mfind k es) (constA z0)) := by
  refine fun E G gs a w hi => ?_
  have e1 := ev_rel hi x rfl
  have e2 := ev_rel hi y rfl
  rw [hy] at e2
  have v2 := (sc_inv e2).1
  obtain ⟨b, clock, ents, v1, hb, hrel⟩ : ∃ b clock ents, a.eval x = .map (some b) ∧ w.heap[b]? = some (.map ents clock) ∧ RelL w G (flat es) (entV ents) [] := by
    rcases hx with hx | ⟨r, row, hx, hr, rfl⟩
    · rw [hx] at e1
      generalize a.eval x = v at e1
      cases e1 with
      | of h => cases h with | rmp hh hg hw hl => exact ⟨_, _, _, rfl, hh, hl⟩
    · rw [hx] at e1
      obtain ⟨b, clock, ents, q1, _, q2, _, _, _, q3⟩ := map_real hi hr e1
      exact ⟨b, clock, ents, q1, q2, q3⟩
  obtain ⟨r, q1, q2⟩ := findNow_ok (k := k) rfl es ents.toList 0 hm hrel
  refine ⟨lkV ok r z0, fun w' hw' => ?_, ?_⟩
  · have hb' := keep_at hw' hb
    have := run_lookup (w := w') ht hk hz hb' q1 ok
    simp [execOp, ho, v1, v2, this]
  · have hzr : TRel w G S.rows gs (constA z0) z0 [] := .of (rel_constA hzo)
    cases hf : mfind k es with
    | none =>
      rw [hf] at q2
      obtain rfl := q2
      cases ok with
      | true => exact .tup (cs := [z0, .bool false]) (.cons (F := []) hzr (.cons (F := []) (.of (.sc rfl)) .nil))
      | false => exact hzr
    | some z =>
      rw [hf] at q2
      obtain ⟨j, v, rfl, hv⟩ := q2
      cases ok with
      | true => exact .tup (cs := [v, .bool true]) (.cons (F := []) (.of hv) (.cons (F := []) (.of (.sc rfl)) .nil))
      | false => exact .of hv

theorem opOK_makeMap {o : Oper} {K : State → Prop} {t : TypeId} (ho : o.op = .makeMap t none) (hK : K ((S.addRow ⟨2, [], false⟩).put o.dst (.mp S.rows.length))) : opOK P o S K := by
  intro E a w next Q hs hn
  obtain ⟨hd, G, gs, hi⟩ := hs
  have hr : (execOp a.eval o).run P w = .ok (.value (.map (some w.heap.size))) (w.alloc (.map #[] 0)) := by
    simp [execOp, ho, Instr.makeMap]
  have hi' : Inv E G (gs.add S.rows.length none [w.heap.size]) (S.addRow ⟨2, [], false⟩) a.tmps (w.alloc (.map #[] 0)) := by
    refine hi.adopt rfl rfl rfl (by simp) (fun b hb => heap_alloc_lt w _ hb) (fun _ h => h) (fun _ h => .inl h) (fun b hb => by have := hi.glt b hb; simp; omega) (by simp) ?_ ?_ ?_
    · intro b hb
      have hb : b = w.heap.size := by simpa using hb
      subst hb
      exact ⟨fun h => by have := hi.glt _ h; omega, .inr hi.size⟩
    · intro r row' hr b hb hb'
      have hb' : b = w.heap.size := by simpa using hb'
      subst hb'
      have := hi.block_lt hr _ hb
      omega
    · intro rows' gs' _
      exact .inr ⟨w.heap.size, 0, #[], rfl, heap_alloc_self w _, rfl, rfl, by simp, by simpa [flat, entV] using RelL.nil⟩
  unfold Oper.wp
  rw [hr]
  refine hn _ _ _ hK ⟨by rw [put_defers]; exact hd, G, _, Inv.put (S := S.addRow _) hi' ?_ o.dst⟩
  refine .mp (row := ⟨2, [], false⟩) ?_ (by simp [Gh.add])
  show rowAt (S.rows ++ [some _]) S.rows.length = _
  rw [rowAt_push, if_pos rfl]

/-- What is told stands, where one map is turned. -/
theorem TRel.stepM {w w' : World} {G : Nat → Prop} {rows rows' : List (Option Row)} {gs : Gh} {r b0 : Nat} (hg : gs r = (none, [b0])) (hG : ∀ c, G c → w'.heap[c]? = w.heap[c]?)
    (hq : ∀ q row, q ≠ r → rowAt rows q = some row → rowAt rows' q = some row ∧ ∀ c, (gs q).1 = some c → w'.heap[c]? = w.heap[c]?) (hr : ∃ row', rowAt rows' r = some row') {x : A} {v : Value} {F : List Nat}
    (h : TRel w G rows gs x v F) (hF : ∀ c ∈ F, w'.heap[c]? = w.heap[c]?) : TRel w' G rows' gs x v F := by
  refine TRel.rec (motive_1 := fun x v F _ => (∀ b ∈ F, w'.heap[b]? = w.heap[b]?) → TRel w' G rows' gs x v F)
    (motive_2 := fun xs vs F _ => (∀ b ∈ F, w'.heap[b]? = w.heap[b]?) → TRelL w' G rows' gs xs vs F) ?_ ?_ ?_ ?_ ?_ ?_ ?_ ?_ ?_ ?_ ?_ ?_ h hF
  · intros; exact .un
  · intro x v F h hF; exact .of (h.move_ (fun b hb => ⟨hb, hG b hb⟩) hF)
  · intro q off len k cap b row cur e hr hob hl hh hs hm hc hk _
    have hne : q ≠ r := fun e => by rw [e, hg] at hob; cases hob
    obtain ⟨h1, h2⟩ := hq q row hne hr
    exact .vw h1 hob hl (by rw [h2 b hob]; exact hh) hs hm hc hk
  · intro q row hr hob hxs _
    have hne : q ≠ r := fun e => by rw [e, hg] at hob; cases hob
    exact .vwn (hq q row hne hr).1 hob hxs
  · intro q j o k b row hr hob hk _
    have hne : q ≠ r := fun e => by rw [e, hg] at hob; cases hob
    exact .pt (hq q row hne hr).1 hob hk
  · intro xs cs F hl ih hF; exact .agg (ih hF)
  · intro xs cs F hl ih hF; exact .tup (ih hF)
  · intro g caps cs F hl ih hF; exact .clo (ih hF)
  · intro q b row hr' hob _
    by_cases hne : q = r
    · subst hne
      obtain ⟨row', hr⟩ := hr
      exact .mp hr hob
    · exact .mp (hq q row hne hr').1 hob
  · intro x v F h ih hF; exact .al (ih hF)
  · intros; exact .nil
  · intro x v F xs vs Fs h hl ih ih' hF
    exact .cons (ih fun b hb => hF b (by simp [hb])) (ih' fun b hb => hF b (by simp [hb]))
theorem TRelL.stepM {w w' : World} {G : Nat → Prop} {rows rows' : List (Option Row)} {gs : Gh} {r b0 : Nat} (hg : gs r = (none, [b0])) (hG : ∀ c, G c → w'.heap[c]? = w.heap[c]?)
    (hq : ∀ q row, q ≠ r → rowAt rows q = some row → rowAt rows' q = some row ∧ ∀ c, (gs q).1 = some c → w'.heap[c]? = w.heap[c]?) (hr : ∃ row', rowAt rows' r = some row') :
    ∀ {xs : List A} {vs : List Value} {F : List Nat}, TRelL w G rows gs xs vs F → (∀ c ∈ F, w'.heap[c]? = w.heap[c]?) → TRelL w' G rows' gs xs vs F
  | _, _, _, .nil, _ => .nil
  | _, _, _, .cons h hl, hF => .cons (h.stepM hg hG hq hr fun b hb => hF b (by simp [hb])) (hl.stepM hg hG hq hr fun b hb => hF b (by simp [hb]))
/-- A map's block is turned. -/
theorem Inv.setMap {tmps : Array Value} (hi : Inv E G gs S tmps w) {r b clock clock' : Nat} {row row' : Row} {ents ents' : Array MapEntry} (hr : rowAt S.rows r = some row) (hg : gs r = (none, [b])) (hh : w.heap[b]? = some (.map ents clock))
    (hlk : row'.lk = false) (hn : row'.n = 2) (hw : ∀ x ∈ row'.xs, x.width = 2) (hl : RelL w G (flat row'.xs) (entV ents') []) :
    Inv E G gs (S.setRow r row') tmps { w with heap := w.heap.setIfInBounds b (.map ents' clock') } := by
  have hbl : b < w.heap.size := (Array.getElem?_eq_some_iff.1 hh).1
  have hball : b ∈ gs.all r := by simp [Gh.all, hg]
  obtain ⟨w', hw'⟩ : ∃ w' : World, w' = { w with heap := w.heap.setIfInBounds b (.map ents' clock') } := ⟨_, rfl⟩
  have hold : ∀ k, k ≠ b → w'.heap[k]? = w.heap[k]? := fun k hk => by rw [hw']; simp [Array.getElem?_setIfInBounds, Ne.symm hk]
  have hnew : w'.heap[b]? = some (.map ents' clock') := by rw [hw']; simp [Array.getElem?_setIfInBounds, hbl]
  have hsz : w'.heap.size = w.heap.size := by rw [hw']; simp
  have hG : ∀ c, G c → w'.heap[c]? = w.heap[c]? := fun c hc => hold c fun h => by subst h; exact (hi.own r row hr c hball).1 hc
  have hblk : ∀ q row0, q ≠ r → rowAt S.rows q = some row0 → ∀ c ∈ gs.all q, w'.heap[c]? = w.heap[c]? := fun q row0 hne h0 c hc => hold c fun h => by
    subst h; exact hi.dis q r row0 row h0 hr hne c hc hball
  have hrat : ∀ q, rowAt (S.setRow r row').rows q = if q = r then some row' else rowAt S.rows q := fun q => rowAt_setRow hr
  have hq : ∀ q row0, q ≠ r → rowAt S.rows q = some row0 → rowAt (S.setRow r row').rows q = some row0 ∧ ∀ c, (gs q).1 = some c → w'.heap[c]? = w.heap[c]? := fun q row0 hne h0 =>
    ⟨by rw [hrat, if_neg hne]; exact h0, fun c hc => hblk q row0 hne h0 c (by simp [Gh.all, hc])⟩
  have hself : ∃ row2, rowAt (S.setRow r row').rows r = some row2 := ⟨row', by rw [hrat, if_pos rfl]⟩
  have hcase : ∀ q row2, rowAt (S.setRow r row').rows q = some row2 → (q = r ∧ row2 = row') ∨ (q ≠ r ∧ rowAt S.rows q = some row2) := fun q row2 h => by
    rw [hrat] at h
    split at h
    · rename_i e; exact .inl ⟨e, (Option.some.inj h).symm⟩
    · rename_i e; exact .inr ⟨e, h⟩
  have hex : ∀ q row2, rowAt (S.setRow r row').rows q = some row2 → ∃ row0, rowAt S.rows q = some row0 := fun q row2 h => by
    rcases hcase q row2 h with ⟨rfl, _⟩ | ⟨_, h0⟩
    · exact ⟨_, hr⟩
    · exact ⟨_, h0⟩
  rw [← hw']
  refine ⟨fun c hc hf => ?_, by rw [hw']; exact hi.os, by rw [hw']; exact hi.tape, by rw [hw']; exact hi.output, by rw [hsz]; exact hi.size, hi.sz, hi.gsub, hi.gnew, hi.glt.move (fun b h => h) hG (fun c hc => by rw [hsz]; exact hi.glt c hc), fun q row2 hq2 => ?_, fun q row2 hq2 => ?_, fun q row2 hq2 => ?_, fun q1 q2 row1 row2 h1 h2 hne => ?_, fun i => (hi.tmp i).stepM hg hG hq hself (by simp)⟩
  · rw [hold c fun h => ?_]
    · exact hi.keep c hc hf
    · subst h
      rcases (hi.own r row hr c hball).2 with h | h
      · exact hf h
      · omega
  · rcases hcase q row2 hq2 with ⟨rfl, rfl⟩ | ⟨hne, h0⟩
    · rw [hg]
      exact .inr ⟨b, clock', ents', rfl, hnew, hlk, hn, hw, RelL.move_ (fun c hc => ⟨hc, hG c hc⟩) hl (by simp)⟩
    · have hrow := hi.row q row2 h0
      have hbk := hblk q row2 hne h0
      unfold Gh.all at hbk
      generalize (gs q).1 = ob at hrow hbk
      cases ob with
      | none => exact hrow.imp id fun hm => hm.step (fun c hc => ⟨hc, hG c hc⟩) fun c hc => hbk c (by simp [hc])
      | some c =>
        obtain ⟨cur, e, cap, h1, h2, h3, h4, h5, h6, h7⟩ := RowCells.ex hrow
        refine ⟨cur, e, cap, by rw [hbk c (by simp)]; exact h1, h2, h3, h4, h5, h6, ?_⟩
        have hF' : ∀ d ∈ (gs q).2, w'.heap[d]? = w.heap[d]? := fun d hd => hbk d (by simp [hd])
        unfold CellsRel at *
        split
        · rename_i hl; rw [if_pos hl] at h7; exact h7.stepM hg hG hq hself hF'
        · rename_i hl; rw [if_neg hl] at h7; exact RelL.move_ (fun c hc => ⟨hc, hG c hc⟩) h7 hF'
  · obtain ⟨row0, h0⟩ := hex q row2 hq2
    exact hi.nod q row0 h0
  · obtain ⟨row0, h0⟩ := hex q row2 hq2
    exact hi.own q row0 h0
  · obtain ⟨row0, h0⟩ := hex q1 row1 h1
    obtain ⟨row0', h0'⟩ := hex q2 row2 h2
    exact hi.dis q1 q2 row0 row0' h0 h0' hne

/-- Something is laid into a map at a number at which nothing stands. -/
theorem opOK_mapUpdate {o : Oper} {K : State → Prop} {t kt et : TypeId} {m x y : Operand} {kk : IntKind} {k : Int} {r : Nat} {row : Row} (ho : o.op = .mapUpdate t m x y ∨ o.op = .insert t m x y) (ht : P.underlying t = some (.map kt et)) (hk : P.underlying kt = some (.int kk))
    (hm : ev S m = .mp r) (hr : rowAt S.rows r = some row) (hx : ev S x = .sc (.int kk k)) (hw : (ev S y).cells = [ev S y]) (hd : isData (ev S y) = true) (hno : noOwn (ev S y) = true) (hok : okCell (ev S y) = true) (hmk : mok kk row.xs) (hf : mfind k row.xs = none)
    (hK : K ((S.setRow r { row with xs := row.xs ++ [.agg [.sc (.int kk k), ev S y]] }).put o.dst .un)) : opOK P o S K := by
  intro E a w next Q hs hn
  obtain ⟨hdf, G, gs, hi⟩ := hs
  have e1 := ev_rel hi m rfl
  rw [hm] at e1
  obtain ⟨b, clock, ents, v1, hg, hh, hlk, hn2, hw2, hl⟩ := map_real hi hr e1
  have e2 := ev_rel hi x rfl
  rw [hx] at e2
  obtain ⟨v2, hv2⟩ := sc_inv e2
  have e3 := (TRelL.cons (F := []) (Fs := []) (ev_rel hi y rfl) .nil).data (by simpa using hd)
  have e3' : Rel w G (ev S y) (a.eval y) [] := by
    generalize hF : ([] ++ [] : List Nat) = F at e3
    cases e3 with
    | cons h1 h2 =>
      rename_i F1 F2
      obtain ⟨rfl, rfl⟩ : F1 = [] ∧ F2 = [] := by simpa using hF.symm
      exact h1
  obtain ⟨q, q1, q2⟩ := findNow_ok (k := k) rfl row.xs ents.toList 0 hmk hl
  rw [hf] at q2
  obtain rfl := q2
  have hrun : (execOp a.eval o).run P w = .ok .skip { w with heap := w.heap.setIfInBounds b (.map (ents.push { key := .int kk k, val := a.eval y, born := clock }) (clock + 1)) } := by
    have hb' : b < w.heap.size := (Array.getElem?_eq_some_iff.1 hh).1
    rcases ho with ho | ho <;>
      simp [execOp, ho, Instr.mapUpdate, v1, v2, run_underlying ht, run_getMap hh, run_checkKey hk, run_findKey hk q1, setObj, Sem.run, hh]
  have hinv := hi.setMap (clock' := clock + 1) (row' := { row with xs := row.xs ++ [.agg [.sc (.int kk k), ev S y]] }) (ents' := ents.push { key := .int kk k, val := a.eval y, born := clock }) hr hg hh hlk hn2 (fun z hz => by
      rcases List.mem_append.1 hz with hz | hz
      · exact hw2 z hz
      · obtain rfl : z = .agg [.sc (.int kk k), ev S y] := by simpa using hz
        rfl) (by
      have h1 : flat (row.xs ++ [A.agg [.sc (.int kk k), ev S y]]) = flat row.xs ++ [.sc (.int kk k), ev S y] := by simp [flat, A.cells]
      have h2 : entV (ents.push { key := .int kk k, val := a.eval y, born := clock }) = entV ents ++ [.int kk k, a.eval y] := by simp [entV]
      show RelL w G (flat (row.xs ++ [A.agg [.sc (.int kk k), ev S y]])) _ []
      rw [h1, h2]
      have := hl.append (RelL.cons (F := []) (Rel.sc (w := w) (G := G) (v := .int kk k) rfl) (RelL.cons (F := []) e3' .nil))
      simpa using this)
  unfold Oper.wp
  rw [hrun]
  exact hn _ _ _ hK ⟨by rw [put_defers]; exact hdf, G, _, Inv.put (S := S.setRow r _) hinv .un o.dst⟩
theorem HardX.sbs {o : Oper} {S' : State} {K : State → Prop} (hs : Sbs S S') (h : HardX P o S' K) : HardX P o S K := ⟨fun E a w next Q h1 h2 => h.h E a w next Q (hs P E a w h1) h2⟩
/-- A look into an own map. -/
theorem hard_look {o : Oper} {K : State → Prop} {t kt et : TypeId} {x y : Operand} {ok : Bool} {kk : IntKind} {k : Int} {z0 : Value} {r : Nat} {row : Row} {z : A} (ho : o.op = .lookup t x y ok) (ht : P.underlying t = some (.map kt et)) (hk : P.underlying kt = some (.int kk))
    (hz : zeroT P et = some z0) (hzo : okV z0 = true) (hx : ev S x = .mp r) (hr : rowAt S.rows r = some row) (hy : ev S y = .sc (.int kk k)) (hm : mok kk row.xs) (hf : lkA ok (mfind k row.xs) (constA z0) = z) (hK : K (S.put o.dst z)) : HardX P o S K :=
  ⟨opOK_of (VOK_lookup ho ht hk hz hzo (.inr ⟨r, row, hx, hr, rfl⟩) hy hm) (by rw [hf]; exact hK)⟩
/-- A look into a map that is only read. -/
theorem hard_lookR {o : Oper} {K : State → Prop} {t kt et : TypeId} {x y : Operand} {ok : Bool} {kk : IntKind} {k : Int} {z0 : Value} {es : List A} {z : A} (ho : o.op = .lookup t x y ok) (ht : P.underlying t = some (.map kt et)) (hk : P.underlying kt = some (.int kk))
    (hz : zeroT P et = some z0) (hzo : okV z0 = true) (hx : ev S x = .rmp es) (hy : ev S y = .sc (.int kk k)) (hm : mok kk es) (hf : lkA ok (mfind k es) (constA z0) = z) (hK : K (S.put o.dst z)) : HardX P o S K :=
  ⟨opOK_of (VOK_lookup ho ht hk hz hzo (.inl hx) hy hm) (by rw [hf]; exact hK)⟩
/-- Something is laid into a map at a number at which nothing stands. -/
theorem hard_upd {o : Oper} {K : State → Prop} {t kt et : TypeId} {m x y : Operand} {kk : IntKind} {k : Int} {r : Nat} {row : Row} {z : A} (ho : o.op = .mapUpdate t m x y ∨ o.op = .insert t m x y) (ht : P.underlying t = some (.map kt et)) (hk : P.underlying kt = some (.int kk))
    (hm : ev S m = .mp r) (hr : rowAt S.rows r = some row) (hx : ev S x = .sc (.int kk k)) (hy : ev S y = z) (hw : z.cells = [z]) (hd : isData z = true) (hno : noOwn z = true) (hok : okCell z = true) (hmk : mok kk row.xs) (hf : mfind k row.xs = none)
    (hK : ∀ zs, zs = row.xs ++ [.agg [.sc (.int kk k), z]] → K ((S.setRow r ⟨row.n, zs, row.lk⟩).put o.dst .un)) : HardX P o S K := by
  subst hy
  exact ⟨opOK_mapUpdate ho ht hk hm hr hx hw hd hno hok hmk hf (hK _ rfl)⟩
theorem mfind_app {kk : IntKind} {k : Int} {z : A} : ∀ {xs : List A}, mok kk xs → mfind k xs = none → mfind k (xs ++ [.agg [.sc (.int kk k), z]]) = some z
  | [], _, _ => by simp [mfind]
  | x :: xs, hm, h => by
    obtain ⟨⟨j, y, rfl, _⟩, hm⟩ := hm
    simp only [mfind] at h
    split at h
    · cases h
    · rename_i hne
      have := mfind_app (z := z) hm h
      simp only [List.cons_append, mfind, if_neg hne]
      exact this
end
end Go.Fw

/- Regions that draw their order, taken by a plan: operations that only read, calls, orders, guards. Plain theorems, no condition. -/
set_option linter.unusedVariables false
set_option linter.unusedSimpArgs false
namespace Go.Fw
/-- A plan: q: an operation that only reads; s: the one that must come; two: one of two. -/
inductive Pln where
  | fin
  | q (n : Nat) (p : Pln)
  | s (n : Nat) (p : Pln)
  | two (n : Nat) (p : Pln) (m : Nat) (r : Pln)
def Pln.depth : Pln → Nat
  | .fin => 0
  | .q _ p => p.depth + 1
  | .s _ p => p.depth + 1
  | .two _ p _ _ => p.depth + 1
def Pln.qs : List Nat → Pln → Pln
  | [], p => p
  | n :: ns, p => .q n (Pln.qs ns p)
section
variable {P : Program} {T : Nat → Option TI} {S : State} {Ω : Opq}
def planB (ops : Array Oper) : Pln → Array Bool → Bool
  | .fin, l => (Region.ready .any ops l).isEmpty
  | .q n p, l => (Region.ready .any ops l).contains n && Region.free .any ops l n && planB ops p (l.setIfInBounds n true)
  | .s n p, l => decide (Region.ready .any ops l = [n]) && planB ops p (l.setIfInBounds n true)
  | .two n p m r, l => decide (Region.ready .any ops l = [n, m]) && decide (p.depth = r.depth) && planB ops p (l.setIfInBounds n true) && planB ops r (l.setIfInBounds m true)
def planOK (ops : Array Oper) (p : Pln) : Bool := Region.noSelect ops && decide (p.depth = ops.size) && planB ops p (Array.replicate ops.size false)
def vPOp (Ω : Opq) (P : Program) (T : Nat → Option TI) (o : Oper) (S : State) (k : A → Prop) : Prop :=
  match o.op with
  | .move x => k (ev S x)
  | .assign x => k (ev S x)
  | .pick c x y => vPick Ω (ev S c) (ev S x) (ev S y) k
  | .unOp op _ x => vUn Ω op (ev S x) k
  | .binOp op t x y _ => vBinA Ω P T op t (ev S x) (ev S y) k
  | .load t x => vLoad T t S (ev S x) k
  | .fieldAddr t x i => vFieldAddr T t i (ev S x) k
  | .field t x i => vField T t i (ev S x) k
  | .indexAddr t x y => vIndexAddr Ω T t S (ev S x) (ev S y) k
  | .index t x y => vIndex Ω T t (ev S x) (ev S y) k
  | .extract x i => vExtract (ev S x) i k
  | .nilCheck x => vNilCheck (ev S x) k
  | .build t parts => vBuild T t (parts.toList.map fun p => (p.1, ev S p.2)) k
  | .slice t x lo hi none => vSlice Ω T t S (ev S x) (lo.map (ev S)) (hi.map (ev S)) k
  | .convert src dst x => vConv Ω T src dst S (ev S x) k
  | .makeFunc f first caps => vMakeFn f (first.toList.map (ev S)) (caps.toList.map (ev S)) k
  | .call c => (match c.callee, c.args.toList, c.argTypes.toList with
    | .builtin .len, [x], [t] => vLen Ω T t (ev S x) k
    | _, _, _ => False)
  | _ => False
/-- Under a guard: done, or passed over. -/
def vGd (ops : List Oper) (o : Oper) (S : State) (X Y : State → Prop) : Prop :=
  match o.guard with
  | none => X S
  | some (j, b) =>
    match guardAt ops j with
    | none => False
    | some i => if i < S.N then (match lk S.t i with
      | .sc (.bool p) => brB p
          (fun _ => match b with
            | true => X (S.put (some i) (.sc (.bool true)))
            | false => Y (S.put (some i) (.sc (.bool true))))
          (fun _ => match b with
            | true => Y (S.put (some i) (.sc (.bool false)))
            | false => X (S.put (some i) (.sc (.bool false))))
      | .tup [] => Y S
      | _ => False) else False
/-- What a guard says. -/
theorem vGd_ok {ops : List Oper} {o : Oper} {X Y : State → Prop} (h : vGd ops o S X Y) {E : Env P} {G : Nat → Prop} {gs : Gh} {a : Act} {w : World} (hi : Inv E G gs S a.tmps w) :
    ∃ S', S'.rows = S.rows ∧ Inv E G gs S' a.tmps w ∧ ((Region.wanted o (yielded ops.toArray a.tmps) = true ∧ X S') ∨ (Region.wanted o (yielded ops.toArray a.tmps) = false ∧ Y S')) := by
  unfold vGd at h
  split at h
  · rename_i hg; exact ⟨S, rfl, hi, .inl ⟨by simp [Region.wanted, hg], h⟩⟩
  · rename_i j b hg
    split at h <;> try exact h.elim
    rename_i i hat
    split at h <;> try exact h.elim
    rename_i hN
    have hsz : i < a.tmps.size := by rw [hi.sz]; exact hN
    have h1 : ((ops.toArray[j]?).bind (·.dst)) = some i := by simpa [guardAt] using hat
    split at h <;> try exact h.elim
    case h_2 hp =>
      have ht := hi.tmp i
      rw [hp, hi.vat_tmp hN] at ht
      obtain ⟨cs, hv, hcs⟩ := tup_inv ht
      have hcs0 : cs = #[] := Array.eq_empty_of_size_eq_zero (by simpa using hcs.length)
      subst hcs0
      have hy : yielded ops.toArray a.tmps j = none := by
        unfold yielded
        rw [h1]
        rw [Array.getD_eq_getD_getElem?, Array.getElem?_eq_getElem hsz] at hv
        simp only [Option.getD_some] at hv
        simp [Array.getElem?_eq_getElem hsz, hv]
      exact ⟨S, rfl, hi, .inr ⟨by simp [Region.wanted, hg, hy], h⟩⟩
    rename_i p hp
    have hy : ∀ q, p = q → yielded ops.toArray a.tmps j = some q ∧ Inv E G gs (S.put (some i) (.sc (.bool q))) a.tmps w := fun q hq => by
      subst hq
      have ht := hi.tmp i
      have ht' := ht
      rw [hp, hi.vat_tmp hN] at ht
      have hv := (sc_inv ht).1
      refine ⟨?_, hi.retell (by rw [hp] at ht'; exact ht') hN⟩
      unfold yielded
      rw [h1]
      rw [Array.getD_eq_getD_getElem?, Array.getElem?_eq_getElem hsz] at hv
      simp only [Option.getD_some] at hv
      simp [Array.getElem?_eq_getElem hsz, hv]
    obtain ⟨ht, hf⟩ := brB_ok h
    cases p with
    | true =>
      obtain ⟨hy1, hy2⟩ := hy true rfl
      have := ht rfl
      cases b with
      | true => exact ⟨_, put_rows _ _ _, hy2, .inl ⟨by simp [Region.wanted, hg, hy1], this⟩⟩
      | false => exact ⟨_, put_rows _ _ _, hy2, .inr ⟨by simp [Region.wanted, hg, hy1], this⟩⟩
    | false =>
      obtain ⟨hy1, hy2⟩ := hy false rfl
      have := hf rfl
      cases b with
      | true => exact ⟨_, put_rows _ _ _, hy2, .inr ⟨by simp [Region.wanted, hg, hy1], this⟩⟩
      | false => exact ⟨_, put_rows _ _ _, hy2, .inl ⟨by simp [Region.wanted, hg, hy1], this⟩⟩
theorem wpAnyH_mono {ops : Array Oper} {Q : Exit → Act → World → Prop} {Sc Sc' : World → Prop} (h : ∀ w, Sc w → Sc' w) : ∀ (n : Nat) (l : Array Bool) (a : Act) (w : World), wpAnyH P .any ops Q Sc n l a w → wpAnyH P .any ops Q Sc' n l a w
  | 0, _, _, _, hh => hh
  | n + 1, _, _, _, hh => ⟨hh.1, fun i hi => wpOp_mono (fun a' w' h' => ⟨h _ h'.1, wpAnyH_mono h n _ a' w' h'.2⟩) (hh.2 i hi)⟩
theorem envAt_put (E : Env P) (G : Nat → Prop) (gs : Gh) (S : State) (w : World) (d : Option Nat) (z : A) : envAt E G gs (S.put d z) w = envAt E G gs S w := by
  unfold envAt
  rw [put_rows]
theorem plan_step (hT : TabOK P T) {ops : List Oper} {Q : Exit → Act → World → Prop} {E : Env P} {n : Nat} {o : Oper} {mv : Option Nat} {X : Oper → State → Prop} {Y : State → Prop} (ho : ops[n]? = some o) {S : State} {a : Act} {w : World}
    (h : vGd ops o S (fun S => vOp std P T mv o S fun S' => X o S') Y) (hs : SInv E S a w) {K' : Act → World → Prop} (hX : ∀ S' a' w', X o S' → SInv E S' a' w' → K' a' w') (hY : ∀ S' , Y S' → SInv E S' a w → K' (a.put o.dst undef) w) : wpOp P ops.toArray Q n K' a w := by
  obtain ⟨hd, G, gs, hi⟩ := hs
  obtain ⟨S', hrows, hi', hV⟩ := vGd_ok h hi
  unfold wpOp
  rw [show ops.toArray[n]? = some o by simpa using ho]
  simp only
  rcases hV with ⟨hw, hv⟩ | ⟨hw, hv⟩
  · rw [if_pos hw]
    exact .inl (vOp_ok hT hv E a w _ _ ⟨hd, G, gs, hi'⟩ fun S' a' w' hK hs' => hX S' a' w' hK hs')
  · rw [if_neg (by simp [hw])]
    exact hY S' hv ⟨hd, G, gs, hi'⟩
theorem skip_put {E : Env P} {S : State} {a : Act} {w : World} (hs : SInv E S a w) (d : Option Nat) : SInv E (S.put d (.tup [])) (a.put d undef) w := by
  obtain ⟨hd, G, gs, hi⟩ := hs
  exact ⟨by rw [put_defers]; exact hd, G, gs, hi.put (tup_undef _ _ _) d⟩
end
end Go.Fw

/- Regions that draw their order, taken by a plan, rows or none: operations that only read what may be read by all, calls, orders, guards. Plain theorems, no condition. -/
set_option linter.unusedVariables false
set_option linter.unusedSimpArgs false
namespace Go.Fw
section
variable {P : Program} {T : Nat → Option TI} {S : State} {Ω : Opq}
theorem VOR_extract {o : Oper} {rs : List Nat} {x : Operand} {i : Nat} {xs : List A} {z : A} (ho : o.op = .extract x i) (hx : okO x = true) (he : ev S x = .tup xs) (hz : xs[i]? = some z) : VOR P o S rs z := by
  refine fun E G gs a w hi => ?_
  have h1 := ev_rel hi x hx
  rw [he] at h1
  obtain ⟨cs, hv, hr⟩ := tup_inv h1
  obtain ⟨v, hv1, hv2⟩ := hr.get i z hz
  have hv1' : cs[i]? = some v := by simpa using hv1
  exact ⟨v, fun w' hw' => by simp [execOp, ho, hv, Instr.extract, hv1'], hv2⟩
theorem vExtractR_ok {o : Oper} {rs : List Nat} {k : A → Prop} {x : Operand} {i : Nat} (ho : o.op = .extract x i) (h : vExtract (ev S x) i k) : ∃ z, VOR P o S rs z ∧ k z := by
  have hk : okO x = true := by cases x <;> rfl
  unfold vExtract at h
  split at h <;> try exact h.elim
  rename_i xs he
  split at h <;> try exact h.elim
  rename_i z hz
  exact ⟨z, VOR_extract ho hk he hz, h⟩
theorem VOR_slice_str {o : Oper} {rs : List Nat} {t : TypeId} {x : Operand} {lo hi : Option Operand} {s : ByteArray} {l h : Nat} (ho : o.op = .slice t x lo hi none) (hx : okO x = true) (hlo : okOpt lo = true) (hhi : okOpt hi = true)
    (ht : isStrT P t = true) (he : ev S x = .sc (.string s)) (h1 : bnd (lo.map (ev S)) 0 = some (l : Int)) (h2 : bnd (hi.map (ev S)) (bs s).length = some (h : Int)) (hlh : l ≤ h) (hhl : h ≤ (bs s).length)
    : VOR P o S rs (.sc (.string (mkS (((bs s).take h).drop l)))) := by
  refine fun E G gs a w hinv => ⟨_, ?_, .of (.sc rfl)⟩
  have e1 := ev_rel hinv x hx
  rw [he] at e1
  have v1 := (sc_inv e1).1
  have hu : P.underlying t = some .string := by
    unfold isStrT at ht
    split at ht
    · assumption
    · simp at ht
  obtain ⟨a1, a2⟩ := opt_rel hinv lo hlo
  obtain ⟨b1, b2⟩ := opt_rel hinv hi hhi
  rw [bs_length] at h2 hhl
  have hb := slice_bounds (P := P) (isS := false) (lo.map a.eval) (hi.map a.eval) _ _ h1 h2 a1 a2 b1 b2 hlh hhl (Nat.le_refl _)
  have e : s.extract l h = mkS (((bs s).take h).drop l) := by
    apply ByteArray.ext
    apply Array.ext'
    simp [mkS, bs, ByteArray.data_extract, List.extract_eq_take_drop, List.drop_take]
  intro w' hw'
  simp [execOp, ho, v1, Instr.sliceAt, run_underlying hu, Instr.slice, hb, e]
def vEOp (Ω : Opq) (T : Nat → Option TI) (o : Oper) (S : State) (k : A → Prop) : Prop :=
  match o.op with
  | .extract x i => vExtract (ev S x) i k
  | .slice t x lo hi none => (match T t, ev S x with
    | some ti, .sc (.string s) => if ti.str then vLo Ω (lo.map (ev S)) 0 fun c1 l => vLo Ω (hi.map (ev S)) (Ω.lenS (bs s)) fun c2 h => Ob (fun _ => c1 () ∧ c2 () ∧ l ≤ h ∧ h ≤ (bs s).length) ∧ k (.sc (.string (mkS (Ω.segS l h (bs s))))) else False
    | _, _ => vROp Ω T [] o S k)
  | _ => vROp Ω T [] o S k
theorem vEOp_ok (hT : TabOK P T) {o : Oper} {k : A → Prop} (h : vEOp std T o S k) : ∃ z, VOR P o S [] z ∧ k z := by
  have ok : ∀ x : Option Operand, okOpt x = true := fun x => by cases x <;> rfl
  unfold vEOp at h
  split at h
  · rename_i ho; exact vExtractR_ok ho h
  · rename_i t x lo hi ho
    split at h
    · rename_i ti s hi' hx
      have hti := tiOf_ok (hT _ _ hi')
      split at h <;> try exact h.elim
      rename_i hs
      obtain ⟨c1, l, h, g1⟩ := vLo_ok h
      obtain ⟨c2, u, h, g2⟩ := vLo_ok h
      obtain ⟨h0, h⟩ := h
      obtain ⟨h1, h2, h3, h4⟩ := h0.h
      exact ⟨_, VOR_slice_str ho (by cases x <;> rfl) (ok _) (ok _) (by rw [hti.str]; exact hs) hx (g1 h1) (g2 h2) h3 h4, h⟩
    · exact vROp_ok hT h
  · exact vROp_ok hT h
/-- Who was just made: a load in between leaves it. -/
def madeK (mv : Option Nat) (o : Oper) : Option Nat :=
  match o.op with
  | .load _ _ => mv
  | _ => madeBy o
def vPl (Ω : Opq) (P : Program) (T : Nat → Option TI) (ops : List Oper) : Pln → Option Nat → State → (State → Prop) → Prop
  | .fin, _, S, K => K S
  | .q n p, mv, S, K => (match ops[n]? with
    | some o => vGd ops o S (fun S => vEOp Ω T o S fun z => vPl Ω P T ops p mv (S.put o.dst z) K) (fun S => vPl Ω P T ops p mv (S.put o.dst (.tup [])) K)
    | none => False)
  | .s n p, mv, S, K => (match ops[n]? with
    | some o => vGd ops o S (fun S => vOp Ω P T mv o S fun S' => vPl Ω P T ops p (madeK mv o) S' K) (fun S => vPl Ω P T ops p none (S.put o.dst (.tup [])) K)
    | none => False)
  | .two n p m r, mv, S, K => (match ops[n]?, ops[m]? with
    | some o, some o' => vGd ops o S (fun S => vOp Ω P T mv o S fun S' => vPl Ω P T ops p (madeK mv o) S' K) (fun S => vPl Ω P T ops p none (S.put o.dst (.tup [])) K) ∧
        vGd ops o' S (fun S => vOp Ω P T mv o' S fun S' => vPl Ω P T ops r (madeK mv o') S' K) (fun S => vPl Ω P T ops r none (S.put o'.dst (.tup [])) K)
    | _, _ => False)
theorem pl_ok (hT : TabOK P T) {ops : List Oper} {E0 : Env P} (hsel : Region.noSelect ops.toArray = true) {K : State → Prop} : ∀ (p : Pln) (l : Array Bool) (mv : Option Nat) (S : State) (a : Act) (w : World) (E : Env P) (Sc : World → Prop), planB ops.toArray p l = true →
    vPl std P T ops p mv S K → SInv E S a w → (∀ S a w, SInv E S a w → SInv E0 S a w) → (∀ S a w, SInv E S a w → Sc w) →
    wpAnyH P .any ops.toArray (fun e a' w' => e = .normal ∧ ∃ S', SInv E0 S' a' w' ∧ K S') Sc p.depth l a w
  | .fin, l, mv, S, a, w, E, Sc, hB, h, hs, hb, hSc => ⟨by simpa [planB] using hB, rfl, S, hb _ _ _ hs, h⟩
  | .q n p, l, mv, S, a, w, E, Sc, hB, h, hs, hb, hSc => by
    simp only [planB, Bool.and_eq_true] at hB
    unfold vPl at h
    split at h <;> try exact h.elim
    rename_i o ho
    obtain ⟨hd, G, gs, hi⟩ := hs
    obtain ⟨S', hrows, hi', hX⟩ := vGd_ok h hi
    have hag : ∀ S2 a2 w2, SInv (envAt E G gs S' w) S2 a2 w2 → Agree G w w2 := fun S2 a2 w2 ⟨_, G2, gs2, hi2⟩ => hi'.agree hi2
    have hback : ∀ S2 a2 w2, SInv (envAt E G gs S' w) S2 a2 w2 → SInv E S2 a2 w2 := fun S2 a2 w2 ⟨h1, G2, gs2, hi2⟩ => ⟨h1, G2, gs2, hi'.back hi2⟩
    refine wpAnyH_mono (Sc := fun w' => Sc w' ∧ Agree G w w') (fun _ h => h.1) _ _ _ _ ?_
    have hself : Sc w ∧ Agree G w w := ⟨hSc _ _ _ ⟨hd, G, gs, hi⟩, fun _ _ => rfl⟩
    have ho' : ops.toArray[n]? = some o := by simpa using ho
    rcases hX with ⟨hw, hv⟩ | ⟨hw, hv⟩
    · obtain ⟨z, h1, h2⟩ := vEOp_ok hT hv
      obtain ⟨v, h3, h4⟩ := h1 E G gs a w hi'
      refine wpAnyH_take (oi := o) (v := v) ho' hsel hB.1.2 hB.1.1 (fun c a w h => absurd h.1 (by simp)) (.inl ⟨hw, fun w' hw' => h3 w' fun b hb => hw'.2 b (hb.elim id fun ⟨r, hr, _⟩ => by cases hr)⟩) hself ?_
      exact pl_ok hT hsel p _ mv _ _ w (envAt E G gs S' w) _ hB.2 h2 ⟨by rw [put_defers]; exact hd, G, gs, envAt_put E G gs S' w o.dst z ▸ (hi'.put h4 o.dst).at⟩ (fun S a w h => hb _ _ _ (hback _ _ _ h)) (fun S a w h => ⟨hSc _ _ _ (hback _ _ _ h), hag _ _ _ h⟩)
    · refine wpAnyH_take (oi := o) (v := undef) ho' hsel hB.1.2 hB.1.1 (fun c a w h => absurd h.1 (by simp)) (.inr ⟨hw, rfl⟩) hself ?_
      exact pl_ok hT hsel p _ mv _ _ w (envAt E G gs S' w) _ hB.2 hv ⟨by rw [put_defers]; exact hd, G, gs, envAt_put E G gs S' w o.dst (.tup []) ▸ (hi'.put (tup_undef _ _ _) o.dst).at⟩ (fun S a w h => hb _ _ _ (hback _ _ _ h)) (fun S a w h => ⟨hSc _ _ _ (hback _ _ _ h), hag _ _ _ h⟩)
  | .s n p, l, mv, S, a, w, E, Sc, hB, h, hs, hb, hSc => by
    simp only [planB, Bool.and_eq_true, decide_eq_true_eq] at hB
    unfold vPl at h
    split at h <;> try exact h.elim
    rename_i o ho
    refine wpAnyH_all hB.1 (by simp) fun i hi => ?_
    obtain rfl : i = n := by simpa using hi
    exact plan_step hT (X := fun o S' => vPl std P T ops p (madeK mv o) S' K) ho h hs (fun S' a' w' hK hs' => ⟨hSc _ _ _ hs', pl_ok hT hsel p _ _ S' a' w' E Sc hB.2 hK hs' hb hSc⟩)
      fun S' hK hs' => ⟨hSc _ _ _ hs', pl_ok hT hsel p _ _ _ _ w E Sc hB.2 hK (skip_put hs' o.dst) hb hSc⟩
  | .two n p m r, l, mv, S, a, w, E, Sc, hB, h, hs, hb, hSc => by
    simp only [planB, Bool.and_eq_true, decide_eq_true_eq] at hB
    unfold vPl at h
    split at h <;> try exact h.elim
    rename_i o o' ho ho'
    refine wpAnyH_all hB.1.1.1 (by simp) fun i hi => ?_
    have hin : i = n ∨ i = m := by simpa using hi
    rcases hin with rfl | rfl
    · exact plan_step hT (X := fun o S' => vPl std P T ops p (madeK mv o) S' K) ho h.1 hs (fun S' a' w' hK hs' => ⟨hSc _ _ _ hs', pl_ok hT hsel p _ _ S' a' w' E Sc hB.1.2 hK hs' hb hSc⟩)
        fun S' hK hs' => ⟨hSc _ _ _ hs', pl_ok hT hsel p _ _ _ _ w E Sc hB.1.2 hK (skip_put hs' o.dst) hb hSc⟩
    · have := plan_step (Q := fun e a' w' => e = .normal ∧ ∃ S', SInv E0 S' a' w' ∧ K S') (K' := fun a' w' => Sc w' ∧ wpAnyH P .any ops.toArray (fun e a' w' => e = .normal ∧ ∃ S', SInv E0 S' a' w' ∧ K S') Sc r.depth (l.setIfInBounds i true) a' w') hT (X := fun o S' => vPl std P T ops r (madeK mv o) S' K) ho' h.2 hs (fun S' a' w' hK hs' => ⟨hSc _ _ _ hs', pl_ok hT hsel r _ _ S' a' w' E Sc hB.2 hK hs' hb hSc⟩)
        fun S' hK hs' => ⟨hSc _ _ _ hs', pl_ok hT hsel r _ _ _ _ w E Sc hB.2 hK (skip_put hs' o'.dst) hb hSc⟩
      rw [← hB.1.1.2] at this
      exact this
/-- A region that draws its order, by a plan; there may be rows. -/
theorem VC_pl (hT : TabOK P T) (hΩ : Ω = std) (hm : P.follows .mixedOrders = true) (p : Pln) {id : Nat} {ops : Array Oper} {K : Exit → State → Prop} (hB : planOK ops p = true)
    (h : vPl Ω P T ops.toList p none S (K .normal)) : VC P (.region id ops true) S K := by
  subst hΩ
  intro E a w hs
  have hops : ops = ops.toList.toArray := by simp
  rw [hops] at hB ⊢
  obtain ⟨hd, G, gs, hi⟩ := hs
  simp only [planOK, Bool.and_eq_true, decide_eq_true_eq] at hB
  obtain ⟨⟨hsel, hsz⟩, hB⟩ := hB
  have hw1 : Go.RowKit.Below w.heap.size w { w with drawn := w.drawn + 1 } := ⟨rfl, rfl, rfl, Nat.le_refl _, fun _ _ => rfl⟩
  have hi1 : Inv E G gs S a.tmps { w with drawn := w.drawn + 1 } := hi.below hw1 (fun _ h => h) (fun _ h => .inl h) (fun b h => Nat.lt_of_lt_of_le (hi.glt b h) hw1.size)
  have hwp : (Code.region id ops.toList.toArray true).wp P (fun e a' w' => e = .normal ∧ ∃ S', SInv E S' a' w' ∧ K .normal S') a w := by
    refine wp_region_held (S := fun _ => True) hm ?_
    have := pl_ok (E0 := E) hT hsel p _ none S a _ E (fun _ => True) hB h ⟨hd, G, gs, hi1⟩ (fun _ _ _ h => h) (fun _ _ _ _ => trivial)
    rw [hsz] at this
    exact this
  refine wp_mono hwp ?_
  rintro e a' w' ⟨rfl, S', hs', hK'⟩
  exact ⟨S', hs', hK'⟩
end
end Go.Fw

/- The program's table of ways, walked. Plain theorems. -/
set_option linter.unusedVariables false
set_option linter.unusedSimpArgs false
namespace Go.Proofs.YtomfmdfamlmfiaaGreat
open Go Go.Fw
set_option maxRecDepth 100000
/-- An entry of the table. -/
def entA (p : Int × List Int) : A := .agg [i64 p.1, .sl false 1 (p.2.map i64)]
theorem mok_ent : ∀ es : List (Int × List Int), mok .i64 (es.map entA)
  | [] => trivial
  | p :: es => ⟨⟨p.1, .sl false 1 (p.2.map i64), rfl, rfl⟩, mok_ent es⟩
theorem mfind_ent : ∀ (es : List (Int × List Int)) (k : Int), mfind k (es.map entA) = (getK es k).map fun v => .sl false 1 (v.map i64)
  | [], k => rfl
  | p :: es, k => by
    have ih := mfind_ent es k
    show (if k = p.1 then some (A.sl false 1 (p.2.map i64)) else mfind k (es.map entA)) = Option.map _ (if k = p.1 then some p.2 else getK es k)
    by_cases h : k = p.1
    · rw [if_pos h, if_pos h]; rfl
    · rw [if_neg h, if_neg h]; exact ih
theorem tabW_const {asks : Int → Bool} {lea : Int → Int → Bool} {set : List Int} {n : Nat} (h : (tabW asks lea set n).2 = []) : ∀ d, tabW asks lea set (n + d) = tabW asks lea set n
  | 0 => rfl
  | d + 1 => by
    have ih := tabW_const h d
    show (tabW asks lea set (n + d)).2.foldl (rowW lea set) ((tabW asks lea set (n + d)).1, []) = _
    rw [ih, h]
    show ((tabW asks lea set n).1, []) = _
    rw [← h]
theorem len_sub {α : Type} [DecidableEq α] : ∀ {l m : List α}, l.Nodup → (∀ x ∈ l, x ∈ m) → l.length ≤ m.length
  | [], m, _, _ => Nat.zero_le _
  | x :: l, m, hn, h => by
    rw [List.nodup_cons] at hn
    have h1 := h x (by simp)
    have ih := len_sub (m := m.erase x) hn.2 fun y hy => (List.mem_erase_of_ne (fun e => by subst e; exact hn.1 hy)).2 (h y (.tail _ hy))
    rw [List.length_erase_of_mem h1] at ih
    have := List.length_pos_of_mem h1
    simp only [List.length_cons]
    omega
theorem tabW_len {asks : Int → Bool} {lea : Int → Int → Bool} {set : List Int} (hset : set.Pairwise (· < ·)) (n : Nat) : (tabW asks lea set n).2.length ≤ set.length := by
  have ht := tabW_ok (asks := asks) (lea := lea) hset n
  have := len_sub (l := (tabW asks lea set n).2) (m := set.map (wayD asks lea set n)) (ht.sort.imp fun {a b} h e => by subst e; rw [lessL_irr] at h; cases h) fun v hv => by
    obtain ⟨k, h1, _, rfl⟩ := (ht.mem v).1 hv
    exact List.mem_map_of_mem h1
  simpa using this
theorem rowW_len (lea : Int → Int → Bool) (set : List Int) : ∀ (ws : List (List Int)) (st : List (Int × List Int) × List (List Int)), st.2.length ≤ (ws.foldl (rowW lea set) st).2.length
  | [], _ => Nat.le_refl _
  | w :: ws, st => by
    refine Nat.le_trans ?_ (rowW_len lea set ws (rowW lea set st w))
    show _ ≤ (st.2 ++ _).length
    simp
/-- The walk told with its end otherwise. -/
theorem PCtr.walkE {P : Program} {T : Nat → Option TI} (hT : TabOK P T) {Ω : Opq} (hΩ : Ω = std) {g : Nat} {c : Code} {N : Nat} {rs : List ResultVar} {xs : List A} {x : A} (hf : FnAt P g c N rs) (hN : Nat.ble xs.length N = true) {K0 : Exit → State → Prop}
    (hK0 : ∀ e S', K0 e S' → ∃ S'', Sbs S' S'' ∧ outV Ω T rs x e S'') (h : vC Ω P T c (entryS N xs) K0) : PCtr P g xs x :=
  PCtr.of hf (Nat.le_of_ble_eq_true hN) (VC.post (vstart hT hΩ h) fun e S' h => let ⟨S'', h1, h2⟩ := hK0 e S' h; ⟨S'', h1, outV_ok hT (hΩ ▸ h2)⟩)
/-- The end of a function that hands a map of its own back. -/
structure EndM (R : List A) (r q : Nat) (e : Exit) (S : State) : Prop where
  e : e = .normal ∨ e = .ret
  t : ev S (.tmp q) = .mp r
  r : Fw.rowAt S.rows r = some ⟨2, R, false⟩
theorem EndM.out {Ω : Opq} {T : Nat → Option TI} {R : List A} {r q : Nat} {e : Exit} {S : State} (h : EndM R r q e S) (hno : (flat R).all noOwn = true) : ∃ S'', Sbs S S'' ∧ outV Ω T [.tmp q] (.rmp R) e S'' := by
  have hs := Sbs.thaw0 h.r rfl hno
  refine ⟨_, hs, ?_⟩
  have hev : ev (S.thaw r 2 R) (.tmp q) = .rmp R := by
    have ht := h.t
    show (if q < S.N then lk (thawT r 2 R S.t) q else .un) = _
    have ht' : (if q < S.N then lk S.t q else .un) = .mp r := ht
    split
    · rename_i hq
      rw [if_pos hq] at ht'
      rw [lk_thawT, ht']
      show (if r = r then A.rmp R else .mp r) = _
      rw [if_pos rfl]
    · rename_i hq
      rw [if_neg hq] at ht'; cases ht'
  have : vOut Ω T (S.thaw r 2 R) [.tmp q] (.rmp R) := by
    unfold vOut
    simp only [vRes]
    rw [hev]
    exact .same
  rcases h.e with h | h <;> rw [h] <;> exact this
theorem take_nin {s : List Int} (hso : s.Pairwise (· < ·)) {j : Nat} {c : Int} (h : s[j]? = some c) : c ∉ s.take j := fun hc => by
  obtain ⟨i, hi⟩ := List.mem_iff_getElem?.1 hc
  rw [List.getElem?_take] at hi
  split at hi
  · rename_i hij
    have h1 := List.getElem?_eq_some_iff.1 hi
    have h2 := List.getElem?_eq_some_iff.1 h
    have := List.pairwise_iff_getElem.1 hso i j h1.1 h2.1 hij
    rw [h1.2, h2.2] at this
    omega
  · cases hi
theorem brT {p : Bool} {X Y : Prop} (h : p = true) (hx : X) : match (generalizing := false) p with | true => X | false => Y := by subst h; exact hx
theorem brF {p : Bool} {X Y : Prop} (h : p = false) (hy : Y) : match (generalizing := false) p with | true => X | false => Y := by subst h; exact hy
theorem notFT {Ω : Opq} (hΩ : Ω = std) : Ω.not false = true := by subst hΩ; rfl
theorem notTF {Ω : Opq} (hΩ : Ω = std) : Ω.not true = false := by subst hΩ; rfl
def asksB (l : List Pck) (a : List Trm) (k : Int) : Bool := a.any (givesB (pk l k))
def leaB (l : List Pck) (j k : Int) : Bool := nedB l k j
/-- The program's table. -/
def tabP (l : List Pck) (s : List Int) (a : List Trm) : List (Int × List Int) := (tabW (asksB l a) (leaB l) s s.length).1
theorem mapTy : ∃ kt et, PP.underlying 78 = some (.map kt et) ∧ PP.underlying kt = some (.int .i64) ∧ zeroT PP et = some (.slice none 0 0) := ⟨2, 23, by kernel_rfl, by kernel_rfl, by kernel_rfl⟩


set_option maxHeartbeats 400000 in
theorem c_ways (l : List Pck) (s : List Int) (a : List Trm) (hl : l.length ≤ 1048576) (hs : s.length ≤ 1048576) (ha : a.length ≤ 1048576) (ho : ∀ o ∈ l, o.Small) (hk : ∀ k ∈ s, inB k 0 ((l.length : Int) - 1) = true) (hso : s.Pairwise (· < ·)) :
    PCtr PP n_impl_ways [encP l, .sl false 1 (s.map i64), .sl false 7 (a.map Trm.enc)] (.rmp ((tabP l s a).map entA)) := by
  obtain ⟨Ω, hΩ⟩ : ∃ Ω, Ω = std := ⟨_, rfl⟩
  have hcg : ∀ k ∈ s, (0 ≤ k ∧ (l.map (Pck.enc false))[k.toNat]? = some ((pk l k).enc false)) ∧ PCtr PP n_impl_Pack_givesOne [(pk l k).enc false, .sl false 7 (a.map Trm.enc)] (boo (asksB l a k)) := fun k h => by
    obtain ⟨h1, h2, h3, h4⟩ := pk_at (hk k h)
    exact ⟨⟨h1, by rw [List.getElem?_map, h3]; rfl⟩, c_givesOne (pk l k) a (ho _ h4).p ha⟩
  have hcl : ∀ j ∈ s, ∀ k ∈ s, PCtr PP n_impl_leans [encP l, i64 j, i64 k] (boo (leaB l j k)) := fun j hj k hk' => c_leans l j k hl ho (hk j hj) (hk k hk')
  have hcc := fun (v : List Int) (h : v.length ≤ 1048576) => c_Clone v h
  obtain ⟨kt, et, ht, hkt, hz⟩ := mapTy
  obtain ⟨B, hB⟩ : ∃ B, B = asksB l a := ⟨_, rfl⟩
  obtain ⟨L, hL⟩ : ∃ L, L = leaB l := ⟨_, rfl⟩
  unfold tabP
  rw [← hB] at hcg ⊢
  rw [← hL] at hcl ⊢
  obtain ⟨xs, hxs⟩ : ∃ xs, xs = s.map i64 := ⟨_, rfl⟩
  have hlen : xs.length = s.length := by rw [hxs, List.length_map]
  obtain ⟨cs, hcs⟩ : ∃ cs, cs = l.map (Pck.enc false) := ⟨_, rfl⟩
  obtain ⟨zs, hzs⟩ : ∃ zs, zs = a.map Trm.enc := ⟨_, rfl⟩
  unfold encP at *
  rw [← hcs, ← hzs] at hcg
  rw [← hcs] at hcl
  rw [← hcs, ← hxs, ← hzs]
  have htab := tab
  have hmo := hmo
  have hRn : (flat ((tabW B L s s.length).1.map entA)).all noOwn = true := by
    rw [List.all_eq_true]
    intro x hx
    obtain ⟨y, hy, hx⟩ := List.mem_flatMap.1 hx
    obtain ⟨p, _, rfl⟩ := List.mem_map.1 hy
    simp only [entA, A.cells, List.mem_cons, List.not_mem_nil, or_false] at hx
    rcases hx with rfl | rfl <;> rfl
  generalize hR : (tabW B L s s.length).1.map entA = R at hRn ⊢
  refine PCtr.walkE tab hΩ fn_impl_ways rfl (K0 := EndM R 0 6) (fun e S' h => h.out hRn) ?_
  clear hRn
  generalize PP = P at *
  cbv
  refine ⟨opOK_makeMap rfl ?_⟩
  cbv
  obtain ⟨F, hF⟩ : ∃ F : Nat → List Int, F = fun j => (s.take j).filter B := ⟨_, rfl⟩
  have hFat : ∀ j c, s[j]? = some c → F (j + 1) = F j ++ (if B c then [c] else []) := fun j c h => by
    rw [hF]
    simp only
    rw [List.take_add_one, h, List.filter_append]
    congr 1
    cases hb : B c <;> simp [hb]
  have hFn : F s.length = s.filter B := by rw [hF]; simp only; rw [List.take_length]
  have hF0 : F 0 = [] := by rw [hF]; rfl
  have hFl : ∀ j, (F j).length ≤ s.length := fun j => by rw [hF]; exact Nat.le_trans (List.length_filter_le _ _) (by simp; omega)
  have hFno : ∀ j c, s[j]? = some c → c ∉ F j := fun j c h hc => by
    rw [hF] at hc
    exact take_nin hso h (List.mem_filter.1 hc).1
  obtain ⟨es, hes⟩ : ∃ es : Nat → List A, es = fun j => ((F j).map fun k => (k, [k])).map entA := ⟨_, rfl⟩
  obtain ⟨ys, hys⟩ : ∃ ys : Nat → List A, ys = fun j => (F j).map fun k => .sl false 1 [i64 k] := ⟨_, rfl⟩
  have hyl : ∀ j, (ys j).length = (F j).length := fun j => by rw [hys]; simp
  have hem : ∀ j, mok .i64 (es j) := fun j => by rw [hes]; exact mok_ent _
  have hef : ∀ j c, s[j]? = some c → mfind c (es j) = none := fun j c h => by
    rw [hes]
    simp only
    rw [mfind_ent, getK_map (fun k => [k]), if_neg (hFno j c h)]
    rfl
  refine loopX htab hΩ (fun i : Nat => ⟨[(0, .sl false 8 cs), (1, .sl false 1 xs), (2, .sl false 7 zs), (7, .mp 0), (8, .vw 1 0 (F i).length), (20, .sl false 1 xs), (21, i64 (Ω.int (Ω.len xs))), (22, i64 (Ω.int i))], 95,
      [some ⟨2, es i, false⟩, some ⟨1, ys i, false⟩]⟩) (fun i => i ≤ s.length) (fun i => s.length - i) 0 (Nat.zero_le _)
    (Sbs.mk rfl (by rw [hes, hys]; simp only; rw [hF0]; rfl) ⟨rfl, rfl, rfl, rfl, by rw [hF0]; rfl, rfl, rfl, zeroI hΩ, trivial⟩) ?_
  intro i hi
  have hFli := hFl i
  have hyli := hyl i
  have hFai := hFat i
  have hemi := hem i
  have hefi := hef i
  obtain ⟨m, hm⟩ : ∃ m, (F i).length = m := ⟨_, rfl⟩
  rw [hm] at hFli hyli ⊢
  cbv
  refine br (fun h => ?_) (fun h => ?_) <;> cbv
  · replace h := ltI hΩ h
    obtain ⟨k, hk'⟩ := at_of (cs := s) (show i < s.length by omega)
    have hkm := List.mem_of_getElem? hk'
    obtain ⟨⟨hp2, hp1⟩, hp4⟩ := hcg k hkm
    obtain ⟨ps1, ds1, bs1, hen1, hps1, hds1, hbs1⟩ := enc_raw (pk l k)
    rw [hen1] at hp1 hp4
    generalize pk l k = o at *
    refine ⟨⟨nnI hΩ⟩, _, rdI hΩ hxs hk', ?_⟩
    cbv
    refine ⟨⟨hp2⟩, _, hp1, ?_⟩
    cbv
    refine call_pure hΩ 5 hp4 rfl (fits _) rfl rfl ?_
    cbv
    refine br (fun hb => ?_) (fun hb => ?_) <;> cbv
    · refine HardX.sbs (Sbs.thaw0 (r := 2) rfl rfl rfl) ?_
      refine hard_upd (r := 0) (.inl rfl) ht hkt rfl rfl rfl rfl rfl rfl rfl rfl hemi (hefi k hk') ?_
      intro us hus
      replace hus : us = es i ++ [.agg [.sc (.int .i64 k), .sl false 1 [i64 k]]] := hus
      have hus1 : us = es (i + 1) := by rw [hus, hes]; simp only; rw [hFai k hk', hb]; simp [entA]; rfl
      subst hus1
      cbv
      refine hard_look (r := 0) rfl ht hkt hz rfl rfl rfl rfl (hem (i + 1)) (by rw [hus, mfind_app hemi (hefi k hk')]) ?_
      have hya : Ω.app (Ω.take m (ys i)) [.sl false 1 [i64 k]] = ys (i + 1) := by
        have e : Ω.take m (ys i) = ys i := by subst hΩ; exact List.take_of_length_le (by omega)
        rw [e, hys]
        simp only
        rw [hFai k hk', hb]
        subst hΩ
        show _ ++ _ = _
        simp
      have hyn : Ω.plus m (Ω.len [A.sl false 1 [i64 k]]) = (F (i + 1)).length := by
        rw [hFai k hk', hb, List.length_append, hm]
        subst hΩ
        rfl
      cbv
      refine ⟨⟨rfl, by simp [flat, A.cells, okCell], ?_, ?_⟩, i + 1, by omega, by omega, Sbs.trans (Sbs.cut 2 rfl) (Sbs.mk rfl (congrArg (fun y => [some (Row.mk 2 (es (i + 1)) false), some (Row.mk 1 y false)]) hya) ⟨rfl, rfl, rfl, rfl, congrArg (A.vw 1 0) hyn, rfl, rfl, incI hΩ (by omega), trivial⟩)⟩
      · show (m + 1) * 24 ≤ 140737488355328
        omega
      · show m + 1 ≤ maxLen
        unfold maxLen
        omega
    · have hFe : F (i + 1) = F i := by rw [hFai k hk', hb]; simp
      have he1 : es i = es (i + 1) := by rw [hes]; simp only; rw [hFe]
      have hy1 : ys i = ys (i + 1) := by rw [hys]; simp only; rw [hFe]
      have hn1 : m = (F (i + 1)).length := by rw [hFe, hm]
      refine ⟨i + 1, by omega, by omega, Sbs.mk rfl ?_ ⟨rfl, rfl, rfl, rfl, congrArg (A.vw 1 0) hn1, rfl, rfl, incI hΩ (by omega), trivial⟩⟩
      show [some (Row.mk 2 (es i) false), some (Row.mk 1 (ys i) false)] = [some (Row.mk 2 (es (i + 1)) false), some (Row.mk 1 (ys (i + 1)) false)]
      rw [← he1, ← hy1]
  have hni : i = s.length := by have := geI hΩ h; omega
  subst hni
  have hW : ∀ n, TabWOK B L s n := fun n => tabW_ok hso n
  have hWl : ∀ n w, w ∈ (tabW B L s n).2 → n < s.length ∧ w.length = n + 1 ∧ lastW w ∈ s ∧ w.getLast? = some (lastW w) := fun n w hw => by
    obtain ⟨k, h1, h2, rfl⟩ := ((hW n).mem w).1 hw
    refine ⟨lvD_lt h1 h2, wayD_len h2, ?_, ?_⟩
    · rw [lastW_wayD]; exact h1
    · rw [lastW_wayD]; exact wayD_last n k
  have hWn : ∀ n, (tabW B L s n).2.length ≤ s.length := fun n => tabW_len hso n
  obtain ⟨Mo, hMo⟩ : ∃ Mo : List (Int × List Int) → List A, Mo = fun o => o.map entA := ⟨_, rfl⟩
  obtain ⟨Nx, hNx⟩ : ∃ Nx : List (List Int) → List A, Nx = fun o => o.map fun v => .sl false 1 (v.map i64) := ⟨_, rfl⟩
  have hNl : ∀ x, (Nx x).length = x.length := fun x => by rw [hNx]; simp
  have hmM : ∀ o, mok .i64 (Mo o) := fun o => by rw [hMo]; exact mok_ent o
  have hfM : ∀ o k, mfind k (Mo o) = (getK o k).map fun v => .sl false 1 (v.map i64) := fun o k => by rw [hMo]; exact mfind_ent o k
  obtain ⟨To, hTo⟩ : ∃ To : Nat → List A, To = fun n => Mo (tabW B L s n).1 := ⟨_, rfl⟩
  obtain ⟨Tl, hTl⟩ : ∃ Tl : Nat → List A, Tl = fun n => Nx (tabW B L s n).2 := ⟨_, rfl⟩
  obtain ⟨Tn, hTn⟩ : ∃ Tn : Nat → Nat, Tn = fun n => (tabW B L s n).2.length := ⟨_, rfl⟩
  have hRM : R = To s.length := by rw [hTo, hMo]; exact hR.symm
  have he0 : es s.length = To 0 := by rw [hes, hTo, hMo]; simp only; rw [hFn]; rfl
  have hy0 : ys s.length = Tl 0 := by rw [hys, hTl, hNx]; simp only; rw [hFn]; show _ = List.map _ (List.map _ _); rw [List.map_map]; rfl
  have hm0 : m = Tn 0 := by rw [← hm, hFn, hTn]; show _ = (List.map _ _).length; rw [List.length_map]
  refine loopX htab hΩ (fun n : Nat => ⟨[(0, .sl false 8 cs), (1, .sl false 1 xs), (2, .sl false 7 zs), (7, .mp 0), (8, .vw 1 0 (Tn n))], 95,
      [some ⟨2, To n, false⟩, some ⟨1, Tl n, false⟩]⟩) (fun n => n ≤ s.length) (fun n => s.length - n) 0 (Nat.zero_le _)
    (Sbs.mk rfl (by
      show [some (Row.mk 2 (es s.length) false), some (Row.mk 1 (ys s.length) false)] = [some (Row.mk 2 (To 0) false), some (Row.mk 1 (Tl 0) false)]
      rw [he0, hy0]) ⟨rfl, rfl, rfl, rfl, congrArg (A.vw 1 0) hm0, trivial⟩) ?_
  intro n hn
  have hWl := hWl n
  have hWn1 := hWn (n + 1)
  obtain ⟨o0, ho0⟩ : ∃ o, o = (tabW B L s n).1 := ⟨_, rfl⟩
  obtain ⟨lv, hlv⟩ : ∃ o, o = (tabW B L s n).2 := ⟨_, rfl⟩
  have hend : lv = [] → R = To n := fun h => by
    have := tabW_const (by rw [← hlv]; exact h) (s.length - n)
    rw [show n + (s.length - n) = s.length by omega] at this
    rw [hRM, hTo]
    simp only
    rw [this]
  have hstep : lv.foldl (rowW L s) (o0, []) = tabW B L s (n + 1) := by rw [ho0, hlv]; rfl
  have hle : lv ≠ [] → n < s.length := fun h => tabW_lt hso (by rw [← hlv]; exact h)
  have hWn0 := hWn n
  rw [← hlv] at hWn0 hWl
  have ht1 : To (n + 1) = Mo (lv.foldl (rowW L s) (o0, [])).1 := by rw [hTo, hstep]
  have ht2 : Tl (n + 1) = Nx (lv.foldl (rowW L s) (o0, [])).2 := by rw [hTl, hstep]
  have ht3 : Tn (n + 1) = (lv.foldl (rowW L s) (o0, [])).2.length := by rw [hTn, hstep]
  have hwn1 : (lv.foldl (rowW L s) (o0, [])).2.length ≤ s.length := by rw [hstep]; exact hWn1
  have ht4 : To n = Mo o0 := by rw [hTo, ho0]
  have ht5 : Tl n = Nx lv := by rw [hTl, hlv]
  obtain ⟨nl, hnl⟩ : ∃ nl, nl = lv.length := ⟨_, rfl⟩
  have ht6 : Tn n = nl := by rw [hTn, hnl, hlv]
  rw [ht4, ht5, ht6]
  clear hWn hF hFat hFn hF0 hFl hFno hes hys hyl hem hef hFai hemi hefi hyli hFli h he0 hy0 hm0 hm hi hR hRM hTo hTl hTn ho0 hlv hstep hWn1
  cbv
  refine br (fun h => ?_) (fun h => ?_) <;> cbv
  · have hlv0 : lv ≠ [] := fun e => by
      rw [e] at hnl
      subst hnl
      have := gtI_t hΩ h
      subst hΩ
      have h2 : (0 : Int) < ((0 : Nat) : Int) := this
      omega
    have hns := hle hlv0
    obtain ⟨St, hSt⟩ : ∃ St : Nat → List (Int × List Int) × List (List Int), St = fun j => (lv.take j).foldl (rowW L s) (o0, []) := ⟨_, rfl⟩
    have hSt1 : ∀ j w, lv[j]? = some w → St (j + 1) = rowW L s (St j) w := fun j w h => by
      rw [hSt]
      simp only
      rw [List.take_add_one, h, List.foldl_append]
      rfl
    have hSt0 : St 0 = (o0, []) := by rw [hSt]; rfl
    have hStn : St nl = lv.foldl (rowW L s) (o0, []) := by rw [hSt]; simp only; rw [List.take_of_length_le (by omega)]
    have hStl : ∀ j, (St j).2.length ≤ s.length := fun j => by
      refine Nat.le_trans ?_ hwn1
      rw [hSt]
      simp only
      conv => rhs; rw [← List.take_append_drop j lv, List.foldl_append]
      exact rowW_len L s _ _
    rw [← hStn] at ht1 ht2 ht3
    obtain ⟨So, hSo⟩ : ∃ So : Nat → List A, So = fun j => Mo (St j).1 := ⟨_, rfl⟩
    obtain ⟨Sx, hSx⟩ : ∃ Sx : Nat → List A, Sx = fun j => Nx (St j).2 := ⟨_, rfl⟩
    obtain ⟨Sn, hSn⟩ : ∃ Sn : Nat → Nat, Sn = fun j => (St j).2.length := ⟨_, rfl⟩
    have hs1 : So 0 = Mo o0 := by rw [hSo]; simp only; rw [hSt0]
    have hs2 : Sx 0 = [] := by rw [hSx]; simp only; rw [hSt0, hNx]; rfl
    have hs3 : Sn 0 = 0 := by rw [hSn]; simp only; rw [hSt0]; rfl
    have hs4 : So nl = To (n + 1) := by rw [ht1, hSo]
    have hs5 : Sx nl = Tl (n + 1) := by rw [ht2, hSx]
    have hs6 : Sn nl = Tn (n + 1) := by rw [ht3, hSn]
    refine loopX htab hΩ (fun j : Nat => ⟨[(0, .sl false 8 cs), (1, .sl false 1 xs), (2, .sl false 7 zs), (7, .mp 0), (8, .vw 1 0 nl), (11, .vw 2 0 (Sn j)), (47, .vw 1 0 nl), (48, i64 (Ω.int nl)), (49, i64 (Ω.int j))], 95,
        [some ⟨2, So j, false⟩, some ⟨1, Nx lv, false⟩, some ⟨1, Sx j, false⟩]⟩) (fun j => j ≤ nl) (fun j => nl - j) 0 (Nat.zero_le _)
      (Sbs.mk rfl (by
        show [some (Row.mk 2 (Mo o0) false), some (Row.mk 1 (Nx lv) false), some (Row.mk 1 [] false)] = [some (Row.mk 2 (So 0) false), some (Row.mk 1 (Nx lv) false), some (Row.mk 1 (Sx 0) false)]
        rw [hs1, hs2]) ⟨rfl, rfl, rfl, rfl, rfl, congrArg (A.vw 2 0) hs3.symm, rfl, rfl, zeroI hΩ, trivial⟩) ?_
    intro j hj
    cbv
    refine br (fun h => ?_) (fun h => ?_) <;> cbv
    · have hjl : j < nl := by subst hΩ; have h2 : ((j : Nat) : Int) < (nl : Nat) := lt_t h; omega
      obtain ⟨w, hw⟩ := at_of (cs := lv) (show j < lv.length by omega)
      have hread : (Nx lv)[Ω.plus 0 (Ω.nat (Ω.int j))]? = some (.sl false 1 (w.map i64)) := by
        subst hΩ
        show (Nx lv)[0 + j]? = _
        rw [Nat.zero_add, hNx]
        simp only
        rw [List.getElem?_map, hw]; rfl
      obtain ⟨_, hwl, hwm, hwl2⟩ := hWl w (List.mem_of_getElem? hw)
      obtain ⟨ws, hws⟩ : ∃ ws, ws = w.map i64 := ⟨_, rfl⟩
      rw [← hws] at hread
      refine ⟨⟨nnI hΩ, by subst hΩ; exact Int.ofNat_lt.2 hjl⟩, _, hread, ?_⟩
      cbv
      have hwsl : ws.length = n + 1 := by rw [hws, List.length_map]; exact hwl
      have hsub : Ω.ar .sub .i64 (Ω.int (Ω.len ws)) 1 = (n : Int) := by
        subst hΩ
        show IntKind.i64.wrap ((ws.length : Int) - 1) = _
        rw [hwsl]
        have : ((n + 1 : Nat) : Int) - 1 = n := by omega
        rw [this]
        exact wrap64 (by omega) (by omega)
      have hlast : ws[n]? = some (i64 (lastW w)) := by
        rw [hws, List.getElem?_map]
        have : w[n]? = some (lastW w) := by rw [← hwl2, List.getLast?_eq_getElem?, hwl]; rfl
        rw [this]; rfl
      obtain ⟨o, hoo⟩ : ∃ o, o = (St j).1 := ⟨_, rfl⟩
      obtain ⟨x, hsx⟩ : ∃ x, x = (St j).2 := ⟨_, rfl⟩
      obtain ⟨q, hq⟩ : ∃ q : Int → Bool, q = fun k => (getK o k).isNone && L (lastW w) k := ⟨_, rfl⟩
      obtain ⟨H, hH⟩ : ∃ H : Nat → List Int, H = fun i => (s.take i).filter q := ⟨_, rfl⟩
      have hHat : ∀ i c, s[i]? = some c → H (i + 1) = H i ++ (if q c then [c] else []) := fun i c h => by
        rw [hH]
        simp only
        rw [List.take_add_one, h, List.filter_append]
        congr 1
        cases hb : q c <;> simp [hb]
      have hH0 : H 0 = [] := by rw [hH]; rfl
      have hHn : H s.length = newK L s o w := by rw [hH]; simp only; rw [List.take_length, hq]; rfl
      have hHno : ∀ i c, s[i]? = some c → c ∉ H i := fun i c h hc => by
        rw [hH] at hc
        exact take_nin hso h (List.mem_filter.1 hc).1
      have hHl : ∀ i, (H i).length ≤ (H s.length).length := fun i => by
        rw [hH]
        simp only
        rw [List.take_length]
        exact ((List.take_sublist i s).filter q).length_le
      have hfull : St (j + 1) = (o ++ (H s.length).map (fun k => (k, w ++ [k])), x ++ (H s.length).map fun k => w ++ [k]) := by
        rw [hSt1 j w hw, hHn, hoo, hsx]; rfl
      have hxl : ∀ i, x.length + (H i).length ≤ s.length := fun i => by
        have h1 := hStl (j + 1)
        rw [hfull] at h1
        simp only [List.length_append, List.length_map] at h1
        have := hHl i
        omega
      obtain ⟨Oi, hOi⟩ : ∃ Oi : Nat → List A, Oi = fun i => Mo (o ++ (H i).map fun k => (k, w ++ [k])) := ⟨_, rfl⟩
      obtain ⟨Xi, hXi⟩ : ∃ Xi : Nat → List A, Xi = fun i => Nx (x ++ (H i).map fun k => w ++ [k]) := ⟨_, rfl⟩
      obtain ⟨Ni, hNi⟩ : ∃ Ni : Nat → Nat, Ni = fun i => x.length + (H i).length := ⟨_, rfl⟩
      have g1 : So j = Oi 0 := by rw [hSo, hOi]; simp only; rw [hH0, ← hoo]; simp
      have g2 : Sx j = Xi 0 := by rw [hSx, hXi]; simp only; rw [hH0, ← hsx]; simp
      have g3 : Sn j = Ni 0 := by rw [hSn, hNi]; simp only; rw [hH0, ← hsx]; simp
      have g4 : Oi s.length = So (j + 1) := by rw [hSo, hOi]; simp only; rw [hfull]
      have g5 : Xi s.length = Sx (j + 1) := by rw [hSx, hXi]; simp only; rw [hfull]
      have g6 : Ni s.length = Sn (j + 1) := by rw [hSn, hNi]; simp only; rw [hfull]; simp
      have hOm : ∀ i, mok .i64 (Oi i) := fun i => by rw [hOi]; exact hmM _
      have hOf : ∀ i k, s[i]? = some k → mfind k (Oi i) = (getK o k).map fun v => .sl false 1 (v.map i64) := fun i k h => by
        rw [hOi]
        simp only
        rw [hfM, getK_append, getK_map (fun k => w ++ [k]), if_neg (hHno i k h), Option.or_none]
      have hXl : ∀ i, (Xi i).length = Ni i := fun i => by rw [hXi, hNi]; simp only; rw [hNl]; simp
      have hNl2 : ∀ i, Ni i ≤ s.length := fun i => by rw [hNi]; exact hxl i
      have hstp : ∀ i k, s[i]? = some k → q k = true → Oi (i + 1) = Oi i ++ [.agg [.sc (.int .i64 k), .sl false 1 ((w ++ [k]).map i64)]] ∧ Xi (i + 1) = Xi i ++ [.sl false 1 ((w ++ [k]).map i64)] ∧ Ni (i + 1) = Ni i + 1 := fun i k h hqk => by
        rw [hOi, hXi, hNi, hMo, hNx]
        simp only
        rw [hHat i k h, if_pos hqk]
        refine ⟨?_, ?_, ?_⟩
        · simp [entA]; rfl
        · simp
        · simp; omega
      have hnst : ∀ i k, s[i]? = some k → q k = false → Oi (i + 1) = Oi i ∧ Xi (i + 1) = Xi i ∧ Ni (i + 1) = Ni i := fun i k h hqk => by
        rw [hOi, hXi, hNi]
        simp only
        rw [hHat i k h, if_neg (by simp [hqk]), List.append_nil]
        exact ⟨rfl, rfl, rfl⟩
      have hcc := hcc w (by omega)
      have hcl := hcl (lastW w) hwm
      unfold ints at hcc
      rw [← hws] at hcc
      have hwsr : roFree (.sl true 1 ws) = true := by rw [hws]; exact roF_I w
      have hwa : ∀ k, (w ++ [k]).map i64 = ws ++ [i64 k] := fun k => by rw [hws]; simp
      have hlw : Ω.len ws = n + 1 := by rw [← hwsl]; subst hΩ; rfl
      have hsub0 : 0 ≤ Ω.ar .sub .i64 (Ω.int (Ω.len ws)) 1 := by rw [hsub]; omega
      replace hlast : ws[(Ω.ar .sub .i64 (Ω.int (Ω.len ws)) 1).toNat]? = some (i64 (lastW w)) := by rw [hsub]; exact hlast
      have hqe : ∀ k, q k = ((getK o k).isNone && L (lastW w) k) := fun k => by rw [hq]
      generalize lastW w = lw at *
      clear hHat hH0 hHn hHno hHl hfull hxl hOi hXi hNi hH hq
      refine loopX htab hΩ (fun i : Nat => ⟨[(0, .sl false 8 cs), (1, .sl false 1 xs), (2, .sl false 7 zs), (7, .mp 0), (8, .vw 1 0 nl), (11, .vw 2 0 (Ni i)), (13, .sl false 1 ws), (47, .vw 1 0 nl), (48, i64 (Ω.int nl)), (49, i64 (Ω.int j)), (53, .sl false 1 xs), (54, i64 (Ω.int (Ω.len xs))), (55, i64 (Ω.int i))], 95,
          [some ⟨2, Oi i, false⟩, some ⟨1, Nx lv, false⟩, some ⟨1, Xi i, false⟩]⟩) (fun i => i ≤ s.length) (fun i => s.length - i) 0 (Nat.zero_le _)
        (Sbs.mk rfl (by
          show [some (Row.mk 2 (So j) false), some (Row.mk 1 (Nx lv) false), some (Row.mk 1 (Sx j) false)] = [some (Row.mk 2 (Oi 0) false), some (Row.mk 1 (Nx lv) false), some (Row.mk 1 (Xi 0) false)]
          rw [g1, g2]) ⟨rfl, rfl, rfl, rfl, rfl, congrArg (A.vw 2 0) g3, rfl, rfl, rfl, rfl, rfl, rfl, zeroI hΩ, trivial⟩) ?_
      intro i hi
      have hOmi := hOm i
      have hOfi := hOf i
      have hXli := hXl i
      have hNli := hNl2 i
      have hstpi := hstp i
      have hnsti := hnst i
      obtain ⟨m, hm⟩ : ∃ m, Ni i = m := ⟨_, rfl⟩
      rw [hm] at hXli hNli ⊢
      cbv
      refine br (fun h => ?_) (fun h => ?_) <;> cbv
      · replace h := ltI hΩ h
        obtain ⟨k, hk'⟩ := at_of (cs := s) (show i < s.length by omega)
        have hkm := List.mem_of_getElem? hk'
        refine ⟨⟨nnI hΩ⟩, _, rdI hΩ hxs hk', ?_⟩
        cbv
        have hOfi := hOfi k hk'
        cases hg : getK o k with
        | some v =>
          rw [hg] at hOfi
          have hqk : q k = false := by rw [hqe, hg]; rfl
          obtain ⟨e1, e2, e3⟩ := hnsti k hk' hqk
          obtain ⟨vs, hvs⟩ : ∃ vs, vs = v.map i64 := ⟨_, rfl⟩
          replace hOfi : mfind k (Oi i) = some (.sl false 1 vs) := by rw [hOfi, hvs]; rfl
          clear hvs
          refine hard_look (r := 0) (ok := true) (z := .tup [.sl false 1 vs, .sc (.bool true)]) rfl ht hkt hz rfl rfl rfl rfl hOmi (by show lkA true (mfind k (Oi i)) _ = _; rw [hOfi]; rfl) ?_
          cbv
          refine brF (notTF hΩ) ?_
          cbv
          refine ⟨i + 1, by omega, by omega, Sbs.mk rfl (by
            show [some (Row.mk 2 (Oi i) false), some (Row.mk 1 (Nx lv) false), some (Row.mk 1 (Xi i) false)] = [some (Row.mk 2 (Oi (i + 1)) false), some (Row.mk 1 (Nx lv) false), some (Row.mk 1 (Xi (i + 1)) false)]
            rw [e1, e2]) ⟨rfl, rfl, rfl, rfl, rfl, congrArg (A.vw 2 0) (hm.symm.trans e3.symm), rfl, rfl, rfl, rfl, rfl, rfl, incI hΩ (by omega), trivial⟩⟩
        | none =>
          rw [hg] at hOfi
          replace hOfi : mfind k (Oi i) = none := by rw [hOfi]; rfl
          refine hard_look (r := 0) (ok := true) (z := .tup [.nil, .sc (.bool false)]) rfl ht hkt hz rfl rfl rfl rfl hOmi (by show lkA true (mfind k (Oi i)) _ = _; rw [hOfi]; rfl) ?_
          cbv
          refine brT (notFT hΩ) ?_
          cbv
          refine ⟨⟨hsub0⟩, _, hlast, ?_⟩
          cbv
          refine call_pure hΩ 3 (hcl k hkm) rfl (fits _) rfl rfl ?_
          cbv
          refine br (fun h2 => ?_) (fun h2 => ?_) <;> cbv
          · have hqk : q k = true := by rw [hqe, hg]; subst hΩ; simpa [std] using h2
            obtain ⟨e1, e2, e3⟩ := hstpi k hk' hqk
            rw [hwa] at e1 e2
            obtain ⟨vk, hvk⟩ : ∃ vk, vk = ws ++ [i64 k] := ⟨_, rfl⟩
            rw [← hvk] at e1 e2
            have hap : Ω.app (Ω.take (Ω.len ws) ws) [i64 k] = vk := by
              rw [hvk]
              subst hΩ
              show ws.take ws.length ++ _ = _
              rw [List.take_length]
            have hvn : (flat (Ω.app (Ω.take (Ω.len ws) ws) [i64 k])).all noOwn = true := by
              rw [hap, hvk, hws]
              have : (flat ((w ++ [k]).map i64)).all noOwn = true := by
                rw [List.all_eq_true]
                intro y hy
                obtain ⟨z, hz', hy⟩ := List.mem_flatMap.1 hy
                obtain ⟨p, _, rfl⟩ := List.mem_map.1 hz'
                rw [show y = i64 p from List.mem_singleton.1 hy]; rfl
              simpa using this
            have hseg : ((Ω.app (Ω.take (Ω.len ws) ws) [i64 k]).drop 0).take (Ω.plus (Ω.len ws) (Ω.len [i64 k])) = vk := by
              rw [hap, List.drop_zero]
              refine List.take_of_length_le ?_
              rw [hvk]
              subst hΩ
              show (ws ++ [i64 k]).length ≤ ws.length + 1
              simp
            have hxa : Ω.app (Ω.take m (Xi i)) [.sl false 1 vk] = Xi (i + 1) := by
              rw [e2]
              subst hΩ
              show (Xi i).take m ++ _ = _
              rw [List.take_of_length_le (by omega)]
            have hxn : Ω.plus m (Ω.len [A.sl false 1 vk]) = Ni (i + 1) := by
              rw [e3, hm]
              subst hΩ
              rfl
            have hNi1 := hNl2 (i + 1)
            rw [e3, hm] at hNi1
            refine call_pure hΩ 3 hcc rfl (fits _) hwsr rfl ?_
            cbv
            refine ⟨⟨rfl, by simp [flat, A.cells, okCell], ?_, ?_⟩, ?_⟩
            · show (Ω.len ws + 1) * 8 ≤ 140737488355328
              rw [hlw]; omega
            · show Ω.len ws + 1 ≤ maxLen
              rw [hlw]; unfold maxLen; omega
            refine HardX.sbs (S' := ⟨[(0, .sl false 8 cs), (1, .sl false 1 xs), (2, .sl false 7 zs), (7, .mp 0), (8, .vw 1 0 nl), (11, .vw 2 0 m), (13, .sl false 1 ws), (47, .vw 1 0 nl), (48, i64 (Ω.int nl)), (49, i64 (Ω.int j)), (53, .sl false 1 xs), (54, i64 (Ω.int (Ω.len xs))), (55, i64 (Ω.int i)), (15, i64 k), (78, .mp 0), (79, i64 k), (84, .sl false 1 vk)], 95,
                [some ⟨2, Oi i, false⟩, some ⟨1, Nx lv, false⟩, some ⟨1, Xi i, false⟩]⟩)
              (Sbs.trans (Sbs.thaw0 (r := 3) rfl rfl hvn) (Sbs.trans (Sbs.cut 3 rfl) (Sbs.mk rfl rfl ⟨rfl, rfl, rfl, rfl, rfl, rfl, rfl, rfl, rfl, rfl, rfl, rfl, rfl, rfl, rfl, rfl, congrArg (A.sl false 1) hseg, trivial⟩))) ?_
            refine hard_upd (r := 0) (z := .sl false 1 vk) (.inl rfl) ht hkt rfl rfl rfl rfl rfl rfl rfl rfl hOmi hOfi ?_
            intro us hus
            replace hus : us = Oi i ++ [.agg [.sc (.int .i64 k), .sl false 1 vk]] := hus
            have hfn : mfind k us = some (.sl false 1 vk) := by rw [hus]; exact mfind_app hOmi hOfi
            rw [← e1] at hus
            subst hus
            cbv
            refine hard_look (r := 0) (z := .sl false 1 vk) rfl ht hkt hz rfl rfl rfl rfl (hOm (i + 1)) (by show lkA false (mfind k (Oi (i + 1))) _ = _; rw [hfn]; rfl) ?_
            cbv
            refine ⟨⟨rfl, by simp [flat, A.cells, okCell], ?_, ?_⟩, i + 1, by omega, by omega, Sbs.trans (Sbs.cut 3 rfl) (Sbs.mk rfl (congrArg (fun y => [some (Row.mk 2 (Oi (i + 1)) false), some (Row.mk 1 (Nx lv) false), some (Row.mk 1 y false)]) hxa) ⟨rfl, rfl, rfl, rfl, rfl, congrArg (A.vw 2 0) hxn, rfl, rfl, rfl, rfl, rfl, rfl, incI hΩ (by omega), trivial⟩)⟩
            · show (m + 1) * 24 ≤ 140737488355328
              omega
            · show m + 1 ≤ maxLen
              unfold maxLen; omega
          · have hqk : q k = false := by rw [hqe, hg]; subst hΩ; simpa [std] using h2
            obtain ⟨e1, e2, e3⟩ := hnsti k hk' hqk
            refine ⟨i + 1, by omega, by omega, Sbs.mk rfl (by
              show [some (Row.mk 2 (Oi i) false), some (Row.mk 1 (Nx lv) false), some (Row.mk 1 (Xi i) false)] = [some (Row.mk 2 (Oi (i + 1)) false), some (Row.mk 1 (Nx lv) false), some (Row.mk 1 (Xi (i + 1)) false)]
              rw [e1, e2]) ⟨rfl, rfl, rfl, rfl, rfl, congrArg (A.vw 2 0) (hm.symm.trans e3.symm), rfl, rfl, rfl, rfl, rfl, rfl, incI hΩ (by omega), trivial⟩⟩
      · have hin : i = s.length := by have := geI hΩ h; omega
        subst hin
        rw [← hm] at *
        refine ⟨j + 1, by omega, by omega, Sbs.mk rfl (by
          show [some (Row.mk 2 (Oi s.length) false), some (Row.mk 1 (Nx lv) false), some (Row.mk 1 (Xi s.length) false)] = [some (Row.mk 2 (So (j + 1)) false), some (Row.mk 1 (Nx lv) false), some (Row.mk 1 (Sx (j + 1)) false)]
          rw [g4, g5]) ⟨rfl, rfl, rfl, rfl, rfl, congrArg (A.vw 2 0) g6, rfl, rfl, incI hΩ (by omega), trivial⟩⟩
    · have hjn : j = nl := by
        have : ¬ (Ω.int j < Ω.int nl) := by subst hΩ; exact fun h' => by have := lt_f h; omega
        subst hΩ
        have h2 : ¬ (((j : Nat) : Int) < ((nl : Nat) : Int)) := this
        omega
      subst hjn
      refine ⟨n + 1, by omega, by omega, Sbs.trans (Sbs.drop (r := 1) rfl) (Sbs.trans (Sbs.mv (a := 2) (b := 1) rfl rfl (Nat.lt_of_lt_of_eq (show 1 < 3 by omega) rfl)) (Sbs.trans (Sbs.cut 2 rfl) (Sbs.mk rfl (by
        show [some (Row.mk 2 (So j) false), some (Row.mk 1 (Sx j) false)] = [some (Row.mk 2 (To (n + 1)) false), some (Row.mk 1 (Tl (n + 1)) false)]
        rw [hs4, hs5]) ⟨rfl, rfl, rfl, rfl, congrArg (A.vw 1 0) hs6, trivial⟩)))⟩
  · have hlv0 : lv = [] := List.eq_nil_of_length_eq_zero (by
      have := gtI_f hΩ h
      subst hΩ
      have h2 : ((nl : Nat) : Int) ≤ 0 := this
      omega)
    have hR := hend hlv0
    rw [hR, ht4]
    exact ⟨.inr rfl, rfl, rfl⟩
end Go.Proofs.YtomfmdfamlmfiaaGreat

/- The reference's ways, walked: who is asked for, places, which list is less, how far. Plain theorems. -/
set_option linter.unusedVariables false
set_option linter.unusedSimpArgs false
namespace Go.Proofs.YtomfmdfamlmfiaaGreat
open Go Go.Fw
set_option maxRecDepth 100000
theorem c_l13Asks (l : List Pck) (bs : List Trm) (k : Int) (hl : l.length ≤ 1048576) (hb : bs.length ≤ 1048576) (hs : ∀ o ∈ l, o.Small) (hk : inB k 0 ((l.length : Int) - 1) = true) : PCtr PP n_spec_l13Asks [encP l, .sl false 7 (bs.map Trm.enc), i64 k] (boo (bs.any (givesB (pk l k)))) := by
  obtain ⟨Ω, hΩ⟩ : ∃ Ω, Ω = std := ⟨_, rfl⟩
  obtain ⟨r, hr⟩ : ∃ r, r = bs.any (givesB (pk l k)) := ⟨_, rfl⟩
  rw [← hr]
  obtain ⟨xs, hxs⟩ : ∃ xs, xs = l.map (Pck.enc false) := ⟨_, rfl⟩
  have hlen : xs.length = l.length := by rw [hxs, List.length_map]
  unfold encP at *
  rw [← hxs]
  obtain ⟨ys, hys⟩ : ∃ ys, ys = bs.map Trm.enc := ⟨_, rfl⟩
  have hylen : ys.length = bs.length := by rw [hys, List.length_map]
  rw [← hys]
  obtain ⟨hk0, hkl, hka, hkm⟩ := pk_at hk
  obtain ⟨ps2, ds2, bs2, hen2, hps2, hds2, hbs2⟩ := enc_raw (pk l k)
  have hx2 : xs[k.toNat]? = some (Pck.enc false (pk l k)) := by rw [hxs, List.getElem?_map, hka]; rfl
  rw [hen2] at hx2
  have hg := fun t => c_l2Gives (pk l k) t (by have := (hs _ hkm).p; omega)
  rw [hen2] at hg
  generalize givesB (pk l k) = G at *
  clear hka hkm hps2 hds2 hbs2 hen2
  generalize pk l k = pp at *
  have htab := tab
  have hmo := hmo
  have hve := verEq
  refine PCtr.walk tab hΩ fn_spec_l13Asks rfl ?_
  generalize PP = P at *
  cbv
  refine loopX htab hΩ (fun i : Nat => ⟨[(0, .sl false 8 xs), (1, .sl false 7 ys), (2, .sc (.int .i64 k)), (7, .sc (.int .i64 (Ω.int i)))], 23, []⟩) (fun i => i ≤ bs.length ∧ r = (bs.drop i).any G) (fun i => bs.length - i) 0
    ⟨Nat.zero_le _, hr⟩ (Sbs.mk rfl rfl ⟨rfl, rfl, rfl, zeroI hΩ, trivial⟩) ?_
  rintro i ⟨hi, he⟩
  cbv
  refine br (fun h => ?_) (fun h => ?_) <;> cbv
  · replace h := ltI hΩ h
    obtain ⟨c, hcc⟩ := at_of (cs := bs) (by omega : i < bs.length)
    rw [any_at _ hcc] at he
    refine ⟨VC_drawn htab hΩ hmo (by kernel_rfl) ?_⟩
    cbv
    refine ⟨⟨hk0⟩, _, hx2, ?_⟩
    cbv
    refine ⟨⟨nnI hΩ⟩, _, rdI hΩ hys hcc, ?_⟩
    cbv
    refine QCall_pure (k := 3) (hg c) rfl (fits _) rfl ?_
    cbv
    refine br (fun g => ?_) (fun g => ?_) <;> cbv
    · exact .of (congrArg boo (by rw [he, show G c = true from g]; rfl))
    · rw [show G c = false from g, Bool.false_or] at he
      exact ⟨i + 1, ⟨by omega, he⟩, by omega, Sbs.mk rfl rfl ⟨rfl, rfl, rfl, incI hΩ (by omega), trivial⟩⟩
  · replace h := geI hΩ h
    exact .of (congrArg boo (by rw [he, List.drop_of_length_le (by omega)]; rfl))
/-- A row of n numbers. -/
def mkR (n : Nat) (f : Nat → Int) : List A := (List.range n).map fun q => i64 (f q)
theorem mkR_len (n : Nat) (f : Nat → Int) : (mkR n f).length = n := by simp [mkR]
theorem mkR_get {n : Nat} (f : Nat → Int) {q : Nat} (h : q < n) : (mkR n f)[q]? = some (i64 (f q)) := by simp [mkR, h]
theorem mkR_ext {n : Nat} {f g : Nat → Int} (h : ∀ q, q < n → f q = g q) : mkR n f = mkR n g := by
  unfold mkR
  refine List.map_congr_left fun q hq => ?_
  rw [h q (List.mem_range.1 hq)]
theorem mkR_set {n i : Nat} {f g : Nat → Int} {v : Int} (h1 : ∀ q, q < n → q ≠ i → f q = g q) (h2 : i < n → g i = v) : (mkR n f).set i (i64 v) = mkR n g := by
  refine List.ext_getElem? fun q => ?_
  by_cases hq : q < n
  · rw [mkR_get g hq, List.getElem?_set]
    by_cases hqi : i = q
    · subst hqi
      rw [if_pos rfl, if_pos (by rw [mkR_len]; exact hq), h2 hq]
    · rw [if_neg hqi, mkR_get f hq, h1 q hq (Ne.symm hqi)]
  · rw [List.getElem?_eq_none (by rw [List.length_set, mkR_len]; omega), List.getElem?_eq_none (by rw [mkR_len]; omega)]
theorem mkR_na (n : Nat) (f : Nat → Int) : ∀ y ∈ mkR n f, vStore.isAggA y = false := fun y hy => by
  obtain ⟨q, _, rfl⟩ := List.mem_map.1 hy
  rfl
theorem mkR_rep (n : Nat) : List.replicate n (i64 0) = mkR n fun _ => 0 := by
  refine List.ext_getElem? fun q => ?_
  by_cases hq : q < n
  · rw [mkR_get _ hq]; simp [hq]
  · rw [List.getElem?_eq_none (by simp; omega), List.getElem?_eq_none (by rw [mkR_len]; omega)]
theorem mkR_map (s : List Int) (f : Int → Int) : (s.map f).map i64 = mkR s.length fun q => f (s.getD q 0) := by
  refine List.ext_getElem? fun q => ?_
  by_cases hq : q < s.length
  · rw [mkR_get _ hq]; simp [hq]
  · rw [List.getElem?_eq_none (by simp; omega), List.getElem?_eq_none (by rw [mkR_len]; omega)]
/-- What stands for the i-th in the middle of a round, where the first k have been looked at. -/
def curF (B : Int → Bool) (L : Int → Int → Bool) (s : List Int) (m i k : Nat) : Int :=
  if farV B L s m (s.getD i 0) < 0 ∧ (s.take k).any (fun j => decide (farV B L s m j = m + 1) && L j (s.getD i 0)) = true then m + 2 else farV B L s m (s.getD i 0)
def cellF (B : Int → Bool) (L : Int → Int → Bool) (s : List Int) (m i k q : Nat) : Int :=
  if q < i then farV B L s (m + 1) (s.getD q 0) else if q = i then curF B L s m i k else farV B L s m (s.getD q 0)
theorem farV_rise (B : Int → Bool) (L : Int → Int → Bool) (s : List Int) (m : Nat) (c : Int) : farV B L s (m + 1) c = m + 1 ↔ farV B L s m c = m + 1 := by
  show (if farV B L s m c < 0 ∧ _ then ((m : Int) + 2) else farV B L s m c) = _ ↔ _
  split
  · rename_i h
    constructor
    · intro h'; omega
    · intro h'; omega
  · exact Iff.rfl
theorem curF_succ {B : Int → Bool} {L : Int → Int → Bool} {s : List Int} {m i k : Nat} {c d : Int} (hc : s[k]? = some c) (hd : s[i]? = some d) :
    curF B L s m i (k + 1) = if curF B L s m i k < 0 ∧ cellF B L s m i k k = m + 1 ∧ L c d = true then ((m : Int) + 2) else curF B L s m i k := by
  have hc' : s.getD k 0 = c := by rw [List.getD_eq_getElem?_getD, hc]; rfl
  have hd' : s.getD i 0 = d := by rw [List.getD_eq_getElem?_getD, hd]; rfl
  have hany : (s.take (k + 1)).any (fun j => decide (farV B L s m j = m + 1) && L j d) = ((s.take k).any (fun j => decide (farV B L s m j = m + 1) && L j d) || (decide (farV B L s m c = m + 1) && L c d)) := by
    rw [List.take_add_one, hc, List.any_append]
    simp
  unfold cellF curF
  rw [hd', hany, hc']
  generalize (s.take k).any (fun j => decide (farV B L s m j = m + 1) && L j d) = an
  have hr := farV_rise B L s m c
  by_cases hC : farV B L s m d < 0
  · cases an with
    | true =>
      simp only [hC, Bool.true_or, and_self, if_true]
      rw [if_neg (fun h => by have := h.1; omega)]
    | false =>
      have hcell : ((if k < i then farV B L s (m + 1) c else if k = i then farV B L s m d else farV B L s m c) = m + 1) ↔ farV B L s m c = m + 1 := by
        by_cases h1 : k < i
        · rw [if_pos h1]; exact hr
        · rw [if_neg h1]
          by_cases h2 : k = i
          · subst h2
            rw [hc] at hd
            obtain rfl := Option.some.inj hd
            rw [if_pos rfl]
          · rw [if_neg h2]
      simp only [Bool.false_or, Bool.false_eq_true, and_false, if_false]
      by_cases h3 : farV B L s m c = m + 1
      · simp only [hcell.2 h3]
        simp [hC, h3]
      · rw [if_neg (fun h => by
          have := h.2
          rw [Bool.and_eq_true, decide_eq_true_eq] at this
          exact h3 this.1), if_neg (fun h => h3 (hcell.1 h.2.1))]
  · simp [hC]
theorem curF_zero (B : Int → Bool) (L : Int → Int → Bool) (s : List Int) (m i : Nat) : curF B L s m i 0 = farV B L s m (s.getD i 0) := by simp [curF]
theorem curF_all (B : Int → Bool) (L : Int → Int → Bool) (s : List Int) (m i : Nat) : curF B L s m i s.length = farV B L s (m + 1) (s.getD i 0) := by
  unfold curF
  rw [List.take_length]
  rfl
/-- How far all of a set are. -/
def farL (l : List Pck) (s : List Int) (a : List Trm) : List Int := s.map (farV (asksB l a) (leaB l) s s.length)


set_option maxHeartbeats 1000000 in
theorem c_l13Far (l : List Pck) (s : List Int) (a : List Trm) (hl : l.length ≤ 1048576) (hs : s.length ≤ 1048576) (ha : a.length ≤ 1048576) (ho : ∀ o ∈ l, o.Small) (hk : ∀ k ∈ s, inB k 0 ((l.length : Int) - 1) = true) :
    PCtr PP n_spec_l13Far [encP l, .sl false 1 (s.map i64), .sl false 7 (a.map Trm.enc)] (ints (farL l s a)) := by
  obtain ⟨Ω, hΩ⟩ : ∃ Ω, Ω = std := ⟨_, rfl⟩
  have hca : ∀ k ∈ s, PCtr PP n_spec_l13Asks [encP l, .sl false 7 (a.map Trm.enc), i64 k] (boo (asksB l a k)) := fun k h => c_l13Asks l a k hl ha ho (hk k h)
  have hcl : ∀ j ∈ s, ∀ k ∈ s, PCtr PP n_spec_l13Leans [encP l, i64 j, i64 k] (boo (leaB l j k)) := fun j hj k hk' => c_l13Leans l j k hl ho (hk j hj) (hk k hk')
  obtain ⟨B, hB⟩ : ∃ B, B = asksB l a := ⟨_, rfl⟩
  obtain ⟨L, hL⟩ : ∃ L, L = leaB l := ⟨_, rfl⟩
  unfold farL ints
  rw [← hB] at hca ⊢
  rw [← hL] at hcl ⊢
  obtain ⟨xs, hxs⟩ : ∃ xs, xs = s.map i64 := ⟨_, rfl⟩
  have hlen : xs.length = s.length := by rw [hxs, List.length_map]
  obtain ⟨cs, hcs⟩ : ∃ cs, cs = l.map (Pck.enc false) := ⟨_, rfl⟩
  obtain ⟨zs, hzs⟩ : ∃ zs, zs = a.map Trm.enc := ⟨_, rfl⟩
  unfold encP at *
  rw [← hcs, ← hzs] at hca
  rw [← hcs] at hcl
  rw [← hcs, ← hxs, ← hzs]
  have htab := tab
  have hmo := hmo
  obtain ⟨n, hn⟩ : ∃ n, n = s.length := ⟨_, rfl⟩
  obtain ⟨V, hV⟩ : ∃ V : Nat → Nat → Int, V = fun m q => farV B L s m (s.getD q 0) := ⟨_, rfl⟩
  have hat : ∀ q k, s[q]? = some k → s.getD q 0 = k := fun q k h => by rw [List.getD_eq_getElem?_getD, h]; rfl
  obtain ⟨Z, hZ⟩ : ∃ Z, Z = mkR n (V n) := ⟨_, rfl⟩
  have hZl : Z.length = n := by rw [hZ]; exact mkR_len _ _
  have hR : (s.map (farV B L s s.length)).map i64 = Z := by rw [mkR_map, hZ, hV, hn]
  rw [hR]
  have hat0 : ∀ q, q < n → ∃ k, s[q]? = some k ∧ s.getD q 0 = k := fun q h => by
    obtain ⟨k, hk⟩ := at_of (cs := s) (show q < s.length by omega)
    exact ⟨k, hk, hat q k hk⟩
  have hV0 : ∀ q k, s[q]? = some k → V 0 q = if B k then 1 else -1 := fun q k h => by rw [hV]; simp only; rw [hat q k h]; rfl
  obtain ⟨RA, hRA⟩ : ∃ RA : Nat → List A, RA = fun i => mkR n fun q => if q < i then V 0 q else 0 := ⟨_, rfl⟩
  obtain ⟨RB, hRB⟩ : ∃ RB : Nat → List A, RB = fun i => mkR n fun q => if q = i then -1 else if q < i then V 0 q else 0 := ⟨_, rfl⟩
  have hRA0 : List.replicate n (i64 0) = RA 0 := by rw [mkR_rep, hRA]; exact mkR_ext fun q _ => by simp
  have hRAl : ∀ i, (RA i).length = n := fun i => by rw [hRA]; exact mkR_len _ _
  have hRBl : ∀ i, (RB i).length = n := fun i => by rw [hRB]; exact mkR_len _ _
  have hRAn : ∀ i, ∀ y ∈ RA i, vStore.isAggA y = false := fun i => by rw [hRA]; exact mkR_na _ _
  have hRBn : ∀ i, ∀ y ∈ RB i, vStore.isAggA y = false := fun i => by rw [hRB]; exact mkR_na _ _
  have hRAs : ∀ i, (RA i).set i (i64 (-1)) = RB i := fun i => by
    rw [hRA, hRB]
    exact mkR_set (fun q _ h => by simp [h]) fun _ => by simp
  have hRBt : ∀ i k, s[i]? = some k → B k = true → (RB i).set i (i64 1) = RA (i + 1) := fun i k h hb => by
    rw [hRA, hRB]
    refine mkR_set (fun q _ h => ?_) fun _ => ?_
    · rw [if_neg h]
      by_cases hq : q < i
      · rw [if_pos hq, if_pos (by omega)]
      · rw [if_neg hq, if_neg (by omega)]
    · rw [if_pos (by omega), hV0 i k h, if_pos hb]
  have hRBf : ∀ i k, s[i]? = some k → B k = false → RB i = RA (i + 1) := fun i k h hb => by
    rw [hRA, hRB]
    refine mkR_ext fun q _ => ?_
    by_cases hq : q = i
    · subst hq
      rw [if_pos rfl, if_pos (by omega), hV0 q k h, if_neg (by simp [hb])]
    · rw [if_neg hq]
      by_cases hq : q < i
      · rw [if_pos hq, if_pos (by omega)]
      · rw [if_neg hq, if_neg (by omega)]
  have hRAe : RA n = mkR n (V 0) := by rw [hRA]; exact mkR_ext fun q h => by rw [if_pos h]
  have hlo : Ω.nat (Ω.int (Ω.len xs)) = n := by subst hΩ; show ((xs.length : Int)).toNat = _; rw [hlen, hn]; rfl
  have hlo2 : (Ω.int (Ω.len xs)) = Ω.int n := by subst hΩ; show ((xs.length : Nat) : Int) = _; rw [hlen, hn]; rfl
  have hlo3 : (Ω.int (Ω.len xs)).toNat = n := by subst hΩ; show ((xs.length : Int)).toNat = _; rw [hlen, hn]; rfl
  have hrep : Ω.rep (Ω.nat (Ω.int (Ω.len xs))) (i64 0) = RA 0 := by rw [← hRA0, hlo]; subst hΩ; rfl
  refine PCtr.walk tab hΩ fn_spec_l13Far rfl ?_
  generalize PP = P at *
  cbv
  refine ⟨⟨rfl, nnI hΩ, by show 8 * (Ω.int (Ω.len xs)).toNat ≤ _; rw [hlo3]; omega, by show (Ω.int (Ω.len xs)).toNat ≤ maxLen; rw [hlo3]; unfold maxLen; omega⟩, ?_⟩
  refine loopX htab hΩ (fun i : Nat => ⟨[(0, .sl false 8 cs), (1, .sl false 1 xs), (2, .sl false 7 zs), (7, .vw 0 0 n), (8, i64 (Ω.int i))], 83, [some ⟨1, RA i, false⟩]⟩) (fun i => i ≤ n) (fun i => n - i) 0 (Nat.zero_le _)
    (Sbs.mk rfl (congrArg (fun y => [some (Row.mk 1 y false)]) hrep) ⟨rfl, rfl, rfl, congrArg (A.vw 0 0) hlo, zeroI hΩ, trivial⟩) ?_
  intro i hi
  have hRAli := hRAl i
  have hRBli := hRBl i
  have hRAni := hRAn i
  have hRBni := hRBn i
  have hse : Ω.set (RA i) (Ω.plus 0 (Ω.nat (Ω.int i))) (i64 (-1)) = RB i := by
    rw [← hRAs i]
    subst hΩ
    show (RA i).set (0 + i) _ = _
    rw [Nat.zero_add]
  cbv
  refine br (fun h => ?_) (fun h => ?_) <;> cbv
  · replace h := ltI hΩ h
    obtain ⟨k, hk'⟩ := at_of (cs := s) (show i < s.length by omega)
    have hset : B k = true → Ω.set (Ω.set (RA i) (Ω.plus 0 (Ω.nat (Ω.int i))) (i64 (-1))) (Ω.plus 0 (Ω.nat (Ω.int i))) (i64 1) = RA (i + 1) := fun hb => by
      rw [hse, ← hRBt i k hk' hb]
      subst hΩ
      show (RB i).set (0 + i) _ = _
      rw [Nat.zero_add]
    refine ⟨⟨ixI hΩ (by omega)⟩, ⟨by subst hΩ; show 0 + i < (RA i).length; omega, hRAni⟩, ?_⟩
    refine ⟨⟨nnI hΩ⟩, _, rdI hΩ hxs hk', ?_⟩
    cbv
    refine call_pure hΩ 3 (hca k (List.mem_of_getElem? hk')) rfl (fits _) rfl rfl ?_
    cbv
    refine br (fun hb => ?_) (fun hb => ?_) <;> cbv
    · refine ⟨⟨ixI hΩ (by omega)⟩, ⟨by
          show Ω.plus 0 (Ω.nat (Ω.int i)) < (Ω.set (RA i) (Ω.plus 0 (Ω.nat (Ω.int i))) (i64 (-1))).length
          rw [hse]
          subst hΩ
          show 0 + i < (RB i).length
          omega, by
          show ∀ y ∈ Ω.set (RA i) (Ω.plus 0 (Ω.nat (Ω.int i))) (i64 (-1)), vStore.isAggA y = false
          rw [hse]; exact hRBni⟩, i + 1, by omega, by omega, Sbs.mk rfl (congrArg (fun y => [some (Row.mk 1 y false)]) (hset hb)) ⟨rfl, rfl, rfl, rfl, incI hΩ (by omega), trivial⟩⟩
    · exact ⟨i + 1, by omega, by omega, Sbs.mk rfl (congrArg (fun y => [some (Row.mk 1 y false)]) (hse.trans (hRBf i k hk' hb))) ⟨rfl, rfl, rfl, rfl, incI hΩ (by omega), trivial⟩⟩
  have hin : n = i := by have := geI hΩ h; omega
  subst hin
  clear hRAl hRBl hRAn hRBn hRAs hRBt hRBf hRA0 hRB hRA hse hRAli hRBli hRAni hRBni hca
  obtain ⟨RV, hRV⟩ : ∃ RV : Nat → List A, RV = fun m => mkR n (V m) := ⟨_, rfl⟩
  have hRV0 : RA n = RV 0 := by rw [hRAe, hRV]
  have hRVn : RV n = Z := by rw [hRV, hZ]
  obtain ⟨RC, hRC⟩ : ∃ RC : Nat → Nat → List A, RC = fun m i => mkR n fun q => if q < i then V (m + 1) q else V m q := ⟨_, rfl⟩
  obtain ⟨RD, hRD⟩ : ∃ RD : Nat → Nat → Nat → List A, RD = fun m i k => mkR n (cellF B L s m i k) := ⟨_, rfl⟩
  have hC0 : ∀ m, RV m = RC m 0 := fun m => by rw [hRV, hRC]; exact mkR_ext fun q _ => by simp
  have hCn : ∀ m, RC m n = RV (m + 1) := fun m => by rw [hRV, hRC]; exact mkR_ext fun q hq => by rw [if_pos hq]
  have hD0 : ∀ m i, RC m i = RD m i 0 := fun m i => by
    rw [hRC, hRD, hV]
    refine mkR_ext fun q _ => ?_
    unfold cellF
    by_cases h1 : q < i
    · rw [if_pos h1, if_pos h1]
    · rw [if_neg h1, if_neg h1]
      by_cases h2 : q = i
      · subst h2; rw [if_pos rfl, curF_zero]
      · rw [if_neg h2]
  have hDn : ∀ m i, RD m i n = RC m (i + 1) := fun m i => by
    rw [hRC, hRD, hV, hn]
    refine mkR_ext fun q _ => ?_
    unfold cellF
    by_cases h1 : q < i
    · rw [if_pos h1, if_pos (by omega)]
    · rw [if_neg h1]
      by_cases h2 : q = i
      · subst h2; rw [if_pos rfl, if_pos (by omega), curF_all]
      · rw [if_neg h2, if_neg (by omega)]
  have hDat : ∀ m i k q, q < n → (RD m i k)[q]? = some (i64 (cellF B L s m i k q)) := fun m i k q h => by rw [hRD]; exact mkR_get _ h
  have hDl : ∀ m i k, (RD m i k).length = n := fun m i k => by rw [hRD]; exact mkR_len _ _
  have hDna : ∀ m i k, ∀ y ∈ RD m i k, vStore.isAggA y = false := fun m i k => by rw [hRD]; exact mkR_na _ _
  have hDyes : ∀ m i k c d, s[k]? = some c → s[i]? = some d → cellF B L s m i k i < 0 → cellF B L s m i k k = m + 1 → L c d = true → (RD m i k).set i (i64 (m + 2)) = RD m i (k + 1) := fun m i k c d h1 h2 h3 h4 h5 => by
    rw [hRD]
    have e : cellF B L s m i k i = curF B L s m i k := by unfold cellF; rw [if_neg (by omega), if_pos rfl]
    refine mkR_set (fun q _ hq => ?_) fun _ => ?_
    · unfold cellF; rw [if_neg hq, if_neg hq]
    · have : cellF B L s m i (k + 1) i = curF B L s m i (k + 1) := by unfold cellF; rw [if_neg (by omega), if_pos rfl]
      rw [this, curF_succ h1 h2, if_pos ⟨by rw [← e]; exact h3, h4, h5⟩]
  have hDno : ∀ m i k c d, s[k]? = some c → s[i]? = some d → ¬ (cellF B L s m i k i < 0 ∧ cellF B L s m i k k = m + 1 ∧ L c d = true) → RD m i k = RD m i (k + 1) := fun m i k c d h1 h2 h3 => by
    rw [hRD]
    have e : cellF B L s m i k i = curF B L s m i k := by unfold cellF; rw [if_neg (by omega), if_pos rfl]
    refine mkR_ext fun q _ => ?_
    unfold cellF
    by_cases h4 : q < i
    · rw [if_pos h4, if_pos h4]
    · rw [if_neg h4, if_neg h4]
      by_cases h5 : q = i
      · rw [if_pos h5, if_pos h5, curF_succ h1 h2, if_neg (fun h => h3 ⟨by rw [e]; exact h.1, h.2⟩)]
      · rw [if_neg h5, if_neg h5]
  obtain ⟨kf, hkf⟩ : ∃ kf : Nat → Int, kf = fun (m : Nat) => (m : Int) + 1 := ⟨_, rfl⟩
  have hkf0 : kf 0 = 1 := by rw [hkf]; rfl
  have hkfs : ∀ m, m < 2000000 → Ω.ar .add .i64 (kf m) 1 = kf (m + 1) := fun m h => by
    rw [hkf]
    subst hΩ
    show IntKind.i64.wrap ((m : Int) + 1 + 1) = _
    rw [wrap64 (by omega) (by omega)]
    simp only
    omega
  obtain ⟨Cf, hCf⟩ : ∃ Cf : Nat → Nat → Nat → Nat → Int, Cf = fun m i k q => cellF B L s m i k q := ⟨_, rfl⟩
  have hDyes : ∀ m i k c d, s[k]? = some c → s[i]? = some d → Cf m i k i < 0 → Cf m i k k = kf m → L c d = true → (RD m i k).set i (i64 (kf (m + 1))) = RD m i (k + 1) := fun m i k c d h1 h2 h3 h4 h5 => by
    rw [hCf] at h3 h4
    rw [hkf] at h4
    have := hDyes m i k c d h1 h2 h3 h4 h5
    rw [← this, hkf]
    simp only
    congr 2
  have hDno : ∀ m i k c d, s[k]? = some c → s[i]? = some d → ¬ (Cf m i k i < 0 ∧ Cf m i k k = kf m ∧ L c d = true) → RD m i k = RD m i (k + 1) := fun m i k c d h1 h2 h3 => by
    rw [hCf, hkf] at h3
    exact hDno m i k c d h1 h2 h3
  have hDat : ∀ m i k q, q < n → (RD m i k)[q]? = some (i64 (Cf m i k q)) := fun m i k q h => by rw [hCf]; exact hDat m i k q h
  have hkfle : ∀ m, Ω.cmp .leq (kf m) (Ω.int (Ω.len xs)) = true → m < n := fun m h => by
    have h1 := leI_t hΩ h
    rw [hkf, hlo2] at h1
    subst hΩ
    have h2 : (m : Int) + 1 ≤ ((n : Nat) : Int) := h1
    omega
  have hkfgt : ∀ m, Ω.cmp .leq (kf m) (Ω.int (Ω.len xs)) = false → n ≤ m := fun m h => by
    have h1 := leI_f hΩ h
    rw [hkf, hlo2] at h1
    subst hΩ
    have h2 : ((n : Nat) : Int) < (m : Int) + 1 := h1
    omega
  clear hCf hkf hRD hRC hRV hV hV0 hR hZ hRAe
  refine loopX htab hΩ (fun m : Nat => ⟨[(0, .sl false 8 cs), (1, .sl false 1 xs), (2, .sl false 7 zs), (7, .vw 0 0 n), (9, i64 (kf m))], 83, [some ⟨1, RV m, false⟩]⟩) (fun m => m ≤ n) (fun m => n - m) 0 (Nat.zero_le _)
    (Sbs.mk rfl (congrArg (fun y => [some (Row.mk 1 y false)]) hRV0) ⟨rfl, rfl, rfl, rfl, congrArg i64 hkf0.symm, trivial⟩) ?_
  intro m hm
  have hC0 := hC0 m
  have hCn := hCn m
  have hD0 := hD0 m
  have hDn := hDn m
  have hDat := hDat m
  have hDl := hDl m
  have hDna := hDna m
  have hDyes := hDyes m
  have hDno := hDno m
  have hkfle := hkfle m
  have hkfgt := hkfgt m
  have hkfs := hkfs m (by omega)
  cbv
  refine br (fun h => ?_) (fun h => ?_) <;> cbv
  · replace h := hkfle h
    refine loopX htab hΩ (fun i : Nat => ⟨[(0, .sl false 8 cs), (1, .sl false 1 xs), (2, .sl false 7 zs), (7, .vw 0 0 n), (9, i64 (kf m)), (10, i64 (Ω.int i))], 83, [some ⟨1, RC m i, false⟩]⟩) (fun i => i ≤ n) (fun i => n - i) 0 (Nat.zero_le _)
      (Sbs.mk rfl (congrArg (fun y => [some (Row.mk 1 y false)]) hC0) ⟨rfl, rfl, rfl, rfl, rfl, zeroI hΩ, trivial⟩) ?_
    intro i hi
    have hD0 := hD0 i
    have hDn := hDn i
    have hDat := hDat i
    have hDl := hDl i
    have hDna := hDna i
    have hDyes := hDyes i
    have hDno := hDno i
    cbv
    refine br (fun h1 => ?_) (fun h1 => ?_) <;> cbv
    · replace h1 := ltI hΩ h1
      obtain ⟨d, hd⟩ := at_of (cs := s) (show i < s.length by omega)
      have hdm := List.mem_of_getElem? hd
      refine loopX htab hΩ (fun k : Nat => ⟨[(0, .sl false 8 cs), (1, .sl false 1 xs), (2, .sl false 7 zs), (7, .vw 0 0 n), (9, i64 (kf m)), (10, i64 (Ω.int i)), (11, i64 (Ω.int k))], 83, [some ⟨1, RD m i k, false⟩]⟩) (fun k => k ≤ n) (fun k => n - k) 0 (Nat.zero_le _)
        (Sbs.mk rfl (congrArg (fun y => [some (Row.mk 1 y false)]) hD0) ⟨rfl, rfl, rfl, rfl, rfl, rfl, zeroI hΩ, trivial⟩) ?_
      intro k hk1
      have hDat := hDat k
      have hDl := hDl k
      have hDna := hDna k
      have hDyes := hDyes k
      have hDno := hDno k
      have hr1 := hDat i (by omega)
      have hr2 := hDat k
      generalize Cf m i k i = p1 at *
      generalize Cf m i k k = p2 at *
      cbv
      refine br (fun h2 => ?_) (fun h2 => ?_) <;> cbv
      · replace h2 := ltI hΩ h2
        obtain ⟨c, hc⟩ := at_of (cs := s) (show k < s.length by omega)
        have hcm := List.mem_of_getElem? hc
        have hr2 := hr2 (by omega)
        have hDyes := hDyes c d hc hd
        have hDno := hDno c d hc hd
        have hlcd := hcl c hcm d hdm
        refine ⟨VC_pl htab hΩ hmo (.qs [0, 1, 2] (.s 3 (.qs [4, 5, 6, 7, 8, 10] (.s 9 (.q 11 (.s 12 (.qs [13, 14, 15, 16, 17, 18, 19, 20, 21, 22] (.s 23 (.s 24 .fin))))))))) (by kernel_rfl) ?_⟩
        cbv
        refine ⟨⟨ixI hΩ (by omega)⟩, _, atI hΩ hr1, ?_⟩
        cbv
        refine br (fun g1 => ?_) (fun g1 => ?_)
        · cbv
          refine ⟨⟨ixI hΩ (by omega)⟩, _, atI hΩ hr2, ?_⟩
          cbv
          refine br (fun g2 => ?_) (fun g2 => ?_)
          · cbv
            refine ⟨⟨nnI hΩ⟩, _, rdI hΩ hxs hc, ?_⟩
            cbv
            refine ⟨⟨nnI hΩ⟩, _, rdI hΩ hxs hd, ?_⟩
            cbv
            refine call_pure hΩ 3 hlcd rfl (fits _) rfl rfl ?_
            cbv
            refine br (fun g3 => ?_) (fun g3 => ?_) <;> cbv
            · have y1 : p1 < 0 := ltI_t hΩ g1
              have y2 : p2 = kf m := by subst hΩ; exact eq_t (show std.cmp .eql p2 (kf m) = true by simpa [std] using g2)
              have y3 : L c d = true := by subst hΩ; simpa [std] using g3
              have hset : Ω.set (RD m i k) (Ω.plus 0 (Ω.nat (Ω.int i))) (i64 (Ω.ar .add .i64 (kf m) 1)) = RD m i (k + 1) := by
                rw [hkfs, ← hDyes y1 y2 y3]
                subst hΩ
                show (RD m i k).set (0 + i) _ = _
                rw [Nat.zero_add]
              refine ⟨⟨ixI hΩ (by omega)⟩, ⟨by subst hΩ; show 0 + i < (RD m i k).length; omega, hDna⟩, k + 1, by omega, by omega, Sbs.mk rfl (congrArg (fun y => [some (Row.mk 1 y false)]) hset) ⟨rfl, rfl, rfl, rfl, rfl, rfl, incI hΩ (by omega), trivial⟩⟩
            · have y3 : L c d = false := by subst hΩ; simpa [std] using g3
              have hno := hDno fun h => by rw [y3] at h; cases h.2.2
              exact ⟨k + 1, by omega, by omega, Sbs.mk rfl (congrArg (fun y => [some (Row.mk 1 y false)]) hno) ⟨rfl, rfl, rfl, rfl, rfl, rfl, incI hΩ (by omega), trivial⟩⟩
          · cbv
            have y2 : p2 ≠ kf m := by subst hΩ; exact eq_f (show std.cmp .eql p2 (kf m) = false by simpa [std] using g2)
            have hno := hDno fun h => y2 h.2.1
            exact ⟨k + 1, by omega, by omega, Sbs.mk rfl (congrArg (fun y => [some (Row.mk 1 y false)]) hno) ⟨rfl, rfl, rfl, rfl, rfl, rfl, incI hΩ (by omega), trivial⟩⟩
        · cbv
          have y1 : ¬ p1 < 0 := Int.not_lt.2 (ltI_f hΩ g1)
          have hno := hDno fun h => y1 h.1
          exact ⟨k + 1, by omega, by omega, Sbs.mk rfl (congrArg (fun y => [some (Row.mk 1 y false)]) hno) ⟨rfl, rfl, rfl, rfl, rfl, rfl, incI hΩ (by omega), trivial⟩⟩
      · have hkn : k = n := by have := geI hΩ h2; omega
        rw [hkn, hDn]
        refine ⟨i + 1, by omega, by omega, Sbs.mk rfl rfl ⟨rfl, rfl, rfl, rfl, rfl, incI hΩ (by omega), trivial⟩⟩
    · have hkn : i = n := by have := geI hΩ h1; omega
      rw [hkn, hCn]
      exact ⟨m + 1, by omega, by omega, Sbs.mk rfl rfl ⟨rfl, rfl, rfl, rfl, congrArg i64 hkfs, trivial⟩⟩
  · have hmn : m = n := by have := hkfgt h; omega
    rw [hmn, hRVn]
    refine ⟨⟨rfl, by show n ≤ Z.length; omega⟩, .of (congrArg (A.sl true 1) ?_)⟩
    subst hΩ
    exact List.take_of_length_le (by omega)
end Go.Proofs.YtomfmdfamlmfiaaGreat

/- Walks: what can be spared. Plain theorems. -/
set_option linter.unusedVariables false
set_option linter.unusedSimpArgs false
namespace Go.Proofs.YtomfmdfamlmfiaaGreat
open Go Go.Fw
set_option maxRecDepth 100000
theorem askC_set {c : List Pck} {s : List Int} {a : List Trm} (h : askC c s a = 0) : setF c s = 0 ∧ firstF trmF a = 0 := by
  unfold askC at h
  split at h
  · rename_i h0; exact absurd h h0
  · rename_i h0
    split at h
    · simp at h
    · exact ⟨Decidable.not_not.1 h0, h⟩
theorem rise_adj {s : List Int} : ∀ (n i : Nat), s.length - i = n → riseAll s i (s.drop i) = true → ∀ j x y, i ≤ j → 1 ≤ j → s[j - 1]? = some x → s[j]? = some y → x < y
  | 0, i, hn, _, j, x, y, hij, _, _, hy => by
    have := (List.getElem?_eq_some_iff.1 hy).1
    omega
  | n + 1, i, hn, h, j, x, y, hij, h1, hx, hy => by
    have hi : i < s.length := by omega
    rw [riseAll_at (List.getElem?_eq_getElem hi), Bool.and_eq_true] at h
    by_cases hji : j = i
    · subst hji
      have h2 := h.1
      rw [Bool.or_eq_true] at h2
      rcases h2 with h2 | h2
      · have : j = 0 := by simpa using h2
        omega
      · have h3 := of_decide_eq_true h2
        rw [List.getD_eq_getElem?_getD, hx] at h3
        rw [List.getElem?_eq_getElem hi] at hy
        cases hy
        exact h3
    · exact rise_adj n (i + 1) (by omega) h.2 j x y (by omega) h1 hx hy
theorem setF_rise {c : List Pck} {s : List Int} (h : setF c s = 0) : riseAll s 0 (s.drop 0) = true := by
  unfold setF at h
  split at h
  · rename_i h0; exact absurd h h0
  · split at h
    · rename_i h1
      rw [setOk_eq, Bool.and_eq_true] at h1
      exact h1.1
    · simp at h
theorem setF_lt {c : List Pck} {s : List Int} (h : setF c s = 0) : ∀ (d i : Nat) (x y : Int), s[i]? = some x → s[i + d + 1]? = some y → x < y
  | 0, i, x, y, hx, hy => rise_adj _ 0 rfl (setF_rise h) (i + 1) x y (by omega) (by omega) hx hy
  | d + 1, i, x, y, hx, hy => by
    have hlt := (List.getElem?_eq_some_iff.1 hy).1
    obtain ⟨z, hz⟩ : ∃ z, s[i + d + 1]? = some z := ⟨_, List.getElem?_eq_getElem (by omega)⟩
    have h1 := setF_lt h d i x z hx hz
    have h2 := rise_adj _ 0 rfl (setF_rise h) (i + (d + 1) + 1) z y (by omega) (by omega) hz hy
    omega
end Go.Proofs.YtomfmdfamlmfiaaGreat

/- Who is an orphan, and why one is there: both sides walked. Plain theorems. -/
set_option linter.unusedVariables false
set_option linter.unusedSimpArgs false
namespace Go.Proofs.YtomfmdfamlmfiaaGreat
open Go Go.Fw
set_option maxRecDepth 100000
theorem setF_pw {c : List Pck} {s : List Int} (h : setF c s = 0) : s.Pairwise (· < ·) :=
  List.pairwise_iff_getElem.2 fun i j hi hj hij => setF_lt h (j - i - 1) i _ _ (List.getElem?_eq_getElem hi) (by rw [show i + (j - i - 1) + 1 = j by omega]; exact List.getElem?_eq_getElem hj)
/-- The way to k in the program's table. -/
def wayP (l : List Pck) (s : List Int) (a : List Trm) (k : Int) : List Int := (getK (tabP l s a) k).getD []
theorem wayP_eq {l : List Pck} {s : List Int} {a : List Trm} (hso : s.Pairwise (· < ·)) {k : Int} (hk : k ∈ s) : wayP l s a k = whyV (asksB l a) (leaB l) s k := by
  refine getK_why hso ?_ hk
  cases e : (tabW (asksB l a) (leaB l) s s.length).2 with
  | nil => rfl
  | cons v vs => exact absurd (tabW_lt hso (n := s.length) (by rw [e]; simp)) (by omega)
def orpS (l : List Pck) (s : List Int) (a : List Trm) : List Int := if askC l s a ≠ 0 then [] else s.filter fun k => decide (farV (asksB l a) (leaB l) s s.length k < 0)
theorem orpS_le (l : List Pck) (s : List Int) (a : List Trm) : (orpS l s a).length ≤ s.length := by
  unfold orpS
  split
  · exact Nat.zero_le _
  · exact List.length_filter_le _ _
theorem c_OrphansOf1 (es : List (Int × List Int)) (k : Int) : PCtr PP n_impl_OrphansOf_1 [i64 k, .rp [.rmp (es.map entA)]] (boo (decide (((getK es k).getD []).length = 0))) := by
  obtain ⟨Ω, hΩ⟩ : ∃ Ω, Ω = std := ⟨_, rfl⟩
  obtain ⟨kt, et, ht, hkt, hz⟩ := mapTy
  have hm := mok_ent es
  have hf := mfind_ent es k
  generalize es.map entA = xs at *
  obtain ⟨res, hres⟩ : ∃ res, res = decide (((getK es k).getD []).length = 0) := ⟨_, rfl⟩
  rw [← hres]
  have htab := tab
  refine PCtr.walk tab hΩ fn_impl_OrphansOf_1 rfl ?_
  generalize PP = P at *
  cbv
  cases hg : getK es k with
  | none =>
    rw [hg] at hf
    replace hf : mfind k xs = none := hf
    refine hard_lookR (ok := false) rfl ht hkt hz rfl rfl rfl hm (z := .nil) (by rw [hf]; rfl) ?_
    cbv
    exact .of (congrArg boo (by rw [hres, hg]; subst hΩ; rfl))
  | some v =>
    rw [hg] at hf
    obtain ⟨vs, hvs⟩ : ∃ vs, vs = v.map i64 := ⟨_, rfl⟩
    have hvl : vs.length = v.length := by rw [hvs, List.length_map]
    replace hf : mfind k xs = some (.sl false 1 vs) := by rw [hf, hvs]; rfl
    clear hvs
    refine hard_lookR (ok := false) rfl ht hkt hz rfl rfl rfl hm (z := .sl false 1 vs) (by rw [hf]; rfl) ?_
    cbv
    refine .of (congrArg boo ?_)
    rw [hres, hg]
    show Ω.cmp .eql (Ω.int (Ω.len vs)) 0 = decide (v.length = 0)
    rw [← hvl]
    subst hΩ
    show decide (((vs.length : Nat) : Int) = 0) = _
    simp
theorem c_implOrphansOf (l : List Pck) (s : List Int) (a : List Trm) (hl : l.length ≤ 1048576) (ho : ∀ o ∈ l, o.Small) (hs : s.length ≤ 1048576) (ha : a.length ≤ 1048576) : PCtr PP n_impl_OrphansOf [encP l, .sl false 1 (s.map i64), .sl false 7 (a.map Trm.enc)] (setR (askC l s a) 0 (orpS l s a)) := by
  obtain ⟨Ω, hΩ⟩ : ∃ Ω, Ω = std := ⟨_, rfl⟩
  have hc := c_asksCode l s a hl hs ha ho
  obtain ⟨k0, hk0⟩ : ∃ x, askC l s a = x := ⟨_, rfl⟩
  rw [hk0] at hc
  have hw : k0 = 0 → PCtr PP n_impl_ways [encP l, .sl false 1 (s.map i64), .sl false 7 (a.map Trm.enc)] (.rmp ((tabP l s a).map entA)) := fun e =>
    c_ways l s a hl hs ha ho (setF_in (askC_set (hk0.trans e)).1) (setF_pw (askC_set (hk0.trans e)).1)
  have hth : PCtr PP n_impl_those [.sl false 1 (s.map i64), .clo n_impl_OrphansOf_1 [.rp [.rmp ((tabP l s a).map entA)]]] (ints (s.filter fun k => decide (((getK (tabP l s a) k).getD []).length = 0))) :=
    c_those s hs _ _ _ ⟨fun _ _ => rfl, rfl, fun _ => rfl, fun k hk => c_OrphansOf1 (tabP l s a) k⟩
  have hroZ := roFInt (s.filter fun k => decide (((getK (tabP l s a) k).getD []).length = 0))
  have hS : orpS l s a = if k0 ≠ 0 then [] else s.filter fun k => decide (((getK (tabP l s a) k).getD []).length = 0) := by
    unfold orpS
    rw [hk0]
    by_cases e : k0 = 0
    · rw [if_neg (by simp [e]), if_neg (by simp [e])]
      refine List.filter_congr fun k hk => ?_
      have h1 := wayP_eq (l := l) (a := a) (setF_pw (askC_set (hk0.trans e)).1) hk
      unfold wayP at h1
      rw [h1]
      exact decide_eq_decide.2 (whyV_nil hk).symm
    · rw [if_pos e, if_pos e]
  unfold ints encP at *
  rw [hk0]
  generalize orpS l s a = Z at *
  generalize (s.filter fun k => decide (((getK (tabP l s a) k).getD []).length = 0)) = zs at *
  generalize (tabP l s a).map entA = es at *
  have htab := tab
  generalize s.map i64 = xs at *
  generalize a.map Trm.enc = tsx at *
  generalize l.map (Pck.enc false) = cs at *
  refine PCtr.walk tab hΩ fn_impl_OrphansOf rfl ?_
  generalize hA : setR k0 0 Z = R
  generalize PP = P at *
  cbv
  refine call_pure hΩ 3 hc rfl (fits _) rfl rfl ?_
  cbv
  refine br (fun g1 => ?_) (fun g1 => ?_) <;> cbv
  · have g1 : k0 ≠ 0 := neI_t hΩ g1
    have e2 : Z = [] := by rw [hS, if_pos g1]
    rw [← hA, e2]
    exact fit_nilR k0 0
  have g1 : k0 = 0 := neI_f hΩ g1
  have e2 : Z = zs := by rw [hS, g1]; rfl
  refine call_share hΩ 3 (hw g1) rfl (fits _) rfl ?_
  cbv
  obtain ⟨zz, hzz⟩ : ∃ zz, zz = zs.map i64 := ⟨_, rfl⟩
  rw [← hzz] at hth hroZ
  refine call_pure hΩ 5 hth (ro_clo2 rfl rfl) (fits _) hroZ rfl ?_
  cbv
  exact ⟨⟨rfl, by subst hΩ; exact Nat.le_refl _⟩, by rw [← hA, g1, e2]; exact fit_R hΩ 0 0 zs hzz⟩
theorem c_specOrphansOf (l : List Pck) (s : List Int) (a : List Trm) (hl : l.length ≤ 1048576) (ho : ∀ o ∈ l, o.Small) (hs : s.length ≤ 1048576) (ha : a.length ≤ 1048576) : PCtr PP n_spec_OrphansOf [encP l, .sl false 1 (s.map i64), .sl false 7 (a.map Trm.enc)] (setR (askC l s a) 0 (orpS l s a)) := by
  obtain ⟨Ω, hΩ⟩ : ∃ Ω, Ω = std := ⟨_, rfl⟩
  have hc := c_l13Asked l s a hl hs ha ho
  obtain ⟨k0, hk0⟩ : ∃ x, askC l s a = x := ⟨_, rfl⟩
  rw [hk0] at hc
  have hw : k0 = 0 → PCtr PP n_spec_l13Far [encP l, .sl false 1 (s.map i64), .sl false 7 (a.map Trm.enc)] (ints (farL l s a)) := fun e => c_l13Far l s a hl hs ha ho (setF_in (askC_set (hk0.trans e)).1)
  obtain ⟨f, hf⟩ : ∃ f : Int → Int, f = farV (asksB l a) (leaB l) s s.length := ⟨_, rfl⟩
  have hfl : farL l s a = s.map f := by unfold farL; rw [hf]
  have hS : orpS l s a = if k0 ≠ 0 then [] else s.filter fun k => decide (f k < 0) := by unfold orpS; rw [hk0, hf]
  have hroZ := roFInt (farL l s a)
  unfold ints encP at *
  obtain ⟨fs, hfs⟩ : ∃ fs, fs = (farL l s a).map i64 := ⟨_, rfl⟩
  rw [← hfs] at hw hroZ
  rw [hk0]
  have hfat : ∀ i k, s[i]? = some k → fs[Ω.plus 0 (Ω.nat (Ω.int i))]? = some (i64 (f k)) := fun i k h => by
    rw [hfs, hfl]
    subst hΩ
    show ((s.map f).map i64)[0 + i]? = _
    rw [Nat.zero_add, List.getElem?_map, List.getElem?_map, h]; rfl
  have hfsl : fs.length = s.length := by rw [hfs, hfl]; simp
  obtain ⟨nn, hnn⟩ : ∃ nn, nn = s.length := ⟨_, rfl⟩
  have hlo : Ω.len fs = nn := by rw [hnn]; subst hΩ; exact hfsl
  generalize orpS l s a = Z at *
  clear hfs hfl hf
  obtain ⟨B, hB⟩ : ∃ B : Int → Bool, B = fun k => decide (f k < 0) := ⟨_, rfl⟩
  rw [← hB] at hS
  obtain ⟨xs, hxs⟩ : ∃ xs, xs = s.map i64 := ⟨_, rfl⟩
  have hlen : xs.length = s.length := by rw [hxs, List.length_map]
  rw [← hxs] at hc hw ⊢
  generalize a.map Trm.enc = tsx at *
  generalize l.map (Pck.enc false) = cs at *
  obtain ⟨F, hF⟩ : ∃ F : Nat → List Int, F = fun j => (s.take j).filter B := ⟨_, rfl⟩
  have hFat : ∀ j c, s[j]? = some c → F (j + 1) = F j ++ (if B c then [c] else []) := fun j c h => by
    rw [hF]
    simp only
    rw [List.take_add_one, h, List.filter_append]
    congr 1
    cases hb : B c <;> simp [hb]
  have hFn : F s.length = s.filter B := by rw [hF]; simp only; rw [List.take_length]
  have hF0 : F 0 = [] := by rw [hF]; rfl
  have hFl : ∀ j, (F j).length ≤ s.length := fun j => by rw [hF]; exact Nat.le_trans (List.length_filter_le _ _) (by simp; omega)
  obtain ⟨ys, hys⟩ : ∃ ys : Nat → List A, ys = fun j => (F j).map i64 := ⟨_, rfl⟩
  have hyl : ∀ j, (ys j).length = (F j).length := fun j => by rw [hys]; simp
  have hy0 : ys 0 = [] := by rw [hys]; simp only; rw [hF0]; rfl
  have hBt : ∀ c, B c = true ↔ f c < 0 := fun c => by rw [hB]; simp
  have htab := tab
  have hmo := hmo
  refine PCtr.walk tab hΩ fn_spec_OrphansOf rfl ?_
  generalize hA : setR k0 0 Z = R
  generalize PP = P at *
  cbv
  refine call_pure hΩ 3 hc rfl (fits _) rfl rfl ?_
  cbv
  refine br (fun g1 => ?_) (fun g1 => ?_) <;> cbv
  · have g1 : k0 ≠ 0 := neI_t hΩ g1
    have e2 : Z = [] := by rw [hS, if_pos g1]
    rw [← hA, e2]
    exact fit_nilR k0 0
  have g1 : k0 = 0 := neI_f hΩ g1
  have e2 : Z = s.filter B := by rw [hS, g1]; rfl
  refine call_pure hΩ 3 (hw g1) rfl (fits _) hroZ rfl ?_
  cbv
  refine loopX htab hΩ (fun i : Nat => ⟨[(0, .sl false 8 cs), (1, .sl false 1 xs), (6, .pt 0 0 0), (8, .vw 1 0 nn), (9, .pt 2 0 0), (10, i64 (Ω.int i))], 45,
      [some ⟨3, [.agg [i64 0, i64 0, .nil]], true⟩, some ⟨1, fs, false⟩, some ⟨3, [.agg [i64 0, i64 0, .vw 3 0 (F i).length]], true⟩, some ⟨1, ys i, false⟩]⟩) (fun i => i ≤ s.length) (fun i => s.length - i) 0 (Nat.zero_le _)
    (Sbs.trans (Sbs.nilCell (r := 2) (j := 0) (q := 2) (n := 1) rfl rfl rfl) (Sbs.mk rfl (by rw [hF0, hy0]; rfl) ⟨rfl, rfl, rfl, congrArg (A.vw 1 0) hlo, rfl, zeroI hΩ, trivial⟩)) ?_
  intro i hi
  have hFli := hFl i
  have hyli := hyl i
  have hFai := hFat i
  obtain ⟨m, hm⟩ : ∃ m, (F i).length = m := ⟨_, rfl⟩
  rw [hm] at hFli hyli ⊢
  cbv
  refine br (fun h => ?_) (fun h => ?_) <;> cbv
  · replace h := ltI hΩ h
    obtain ⟨c, hcc⟩ := at_of (cs := s) (by omega : i < s.length)
    have hFc := hFai c hcc
    have yes : B c = true → [some (Row.mk 3 [.agg [i64 0, i64 0, .nil]] true), some ⟨1, fs, false⟩, some ⟨3, [.agg [i64 0, i64 0, .vw 3 0 (Ω.plus m (Ω.len [i64 c]))]], true⟩, some ⟨1, Ω.app (Ω.take m (ys i)) [i64 c], false⟩] =
        [some ⟨3, [.agg [i64 0, i64 0, .nil]], true⟩, some ⟨1, fs, false⟩, some ⟨3, [.agg [i64 0, i64 0, .vw 3 0 (F (i + 1)).length]], true⟩, some ⟨1, ys (i + 1), false⟩] := fun hb => by
      rw [hb] at hFc
      have e3 : (F (i + 1)).length = m + 1 := by rw [hFc, ← hm]; simp
      have e4 : ys (i + 1) = ys i ++ [i64 c] := by rw [hys]; simp only; rw [hFc]; simp
      rw [e3, e4]
      subst hΩ
      show [_, _, some (Row.mk 3 [A.agg [i64 0, i64 0, A.vw 3 0 (m + 1)]] true), some (Row.mk 1 ((ys i).take m ++ [i64 c]) false)] = _
      rw [List.take_of_length_le (by omega)]
    have non : B c = false → [some (Row.mk 3 [.agg [i64 0, i64 0, .nil]] true), some ⟨1, fs, false⟩, some ⟨3, [.agg [i64 0, i64 0, .vw 3 0 m]], true⟩, some ⟨1, ys i, false⟩] =
        [some ⟨3, [.agg [i64 0, i64 0, .nil]], true⟩, some ⟨1, fs, false⟩, some ⟨3, [.agg [i64 0, i64 0, .vw 3 0 (F (i + 1)).length]], true⟩, some ⟨1, ys (i + 1), false⟩] := fun hb => by
      rw [hb] at hFc
      have e3 : (F (i + 1)).length = m := by rw [hFc, ← hm]; simp
      have e4 : ys (i + 1) = ys i := by rw [hys]; simp only; rw [hFc]; simp
      rw [e3, e4]
    refine ⟨⟨ixI hΩ (show i < nn by omega)⟩, _, hfat i c hcc, ?_⟩
    cbv
    refine br (fun h => ?_) (fun h => ?_) <;> cbv
    · have hb : B c = true := (hBt c).2 (ltI_t hΩ h)
      refine ⟨VC_atail htab hΩ hmo 6 rfl rfl rfl (by kernel_rfl) ?_⟩
      cbv
      refine ⟨⟨nnI hΩ⟩, _, rdI hΩ hxs hcc, ?_⟩
      cbv
      exact ⟨⟨rfl, okAll rfl, by show (m + 1) * 8 ≤ 140737488355328; omega, by show m + 1 ≤ 9223372036854775807; omega⟩, i + 1, by omega, by omega, Sbs.trans (Sbs.lastN (rows := [_, _, _, _]) rfl) (Sbs.mk rfl (yes hb) ⟨rfl, rfl, rfl, rfl, rfl, incI hΩ (by omega), trivial⟩)⟩
    · have hb : B c = false := by
        cases e : B c with
        | false => rfl
        | true => exact absurd ((hBt c).1 e) (Int.not_lt.2 (ltI_f hΩ h))
      exact ⟨i + 1, by omega, by omega, Sbs.mk rfl (non hb) ⟨rfl, rfl, rfl, rfl, rfl, incI hΩ (by omega), trivial⟩⟩
  · have hil : i = s.length := by have := geI hΩ h; omega
    refine ⟨⟨rfl, by rw [← hyli]; exact Nat.le_refl _⟩, .of ?_⟩
    rw [← hA, g1, e2, ← hFn, ← hil]
    subst hΩ
    show A.agg [i64 0, i64 0, A.sl true 1 ((ys i).take m)] = _
    rw [List.take_of_length_le (by omega), hys]
    rfl
end Go.Proofs.YtomfmdfamlmfiaaGreat

/- The law of OrphansOf, walked. Plain theorems. -/
set_option linter.unusedVariables false
set_option linter.unusedSimpArgs false
namespace Go.Proofs.YtomfmdfamlmfiaaGreat
open Go Go.Fw
set_option maxRecDepth 100000
theorem c_lawOrphansOf (cs : List Pck) (s : List Int) (t : List Trm) (hm : cs.length ≤ maxLen) (hf : ∀ o ∈ cs, o.Fit) (hsm : s.length ≤ maxLen) (htm : t.length ≤ maxLen ∧ ∀ c ∈ t, c.n.length ≤ maxLen) : PCtr PP n_laws_FnExactOrphansOf [.sl false 8 (cs.map (Pck.enc false)), .sl false 1 (s.map i64), .sl false 7 (t.map Trm.enc)] (boo true) := by
  obtain ⟨Ω, hΩ⟩ : ∃ Ω, Ω = std := ⟨_, rfl⟩
  obtain ⟨xs, hxs⟩ : ∃ xs, xs = cs.map (Pck.enc false) := ⟨_, rfl⟩
  obtain ⟨os, hos⟩ : ∃ os, os = cs.map (Pck.enc true) := ⟨_, rfl⟩
  obtain ⟨ss, hss⟩ : ∃ ss, ss = s.map i64 := ⟨_, rfl⟩
  obtain ⟨ts, hts⟩ : ∃ ts, ts = t.map Trm.enc := ⟨_, rfl⟩
  obtain ⟨kk, hkk⟩ : ∃ kk, kk = askC cs s t := ⟨_, rfl⟩
  obtain ⟨zs, hzs⟩ : ∃ zs, zs = (orpS cs s t).map i64 := ⟨_, rfl⟩
  have hzl0 : (orpS cs s t).length ≤ s.length := orpS_le cs s t
  have hol : os.length = cs.length := by rw [hos, List.length_map]
  have hsl : ss.length = s.length := by rw [hss, List.length_map]
  have htl : ts.length = t.length := by rw [hts, List.length_map]
  have htf : ts.map frz = ts := by rw [hts, List.map_map]; exact List.map_congr_left fun c _ => rfl
  have rt : roFree (.sl true 7 ts) = true := by rw [hts]; exact roFTs t
  have hzl : zs.length = (orpS cs s t).length := by rw [hzs, List.length_map]
  have hof : os.map frz = xs := by rw [hos, hxs]; exact frz_Pcks cs
  have hsf : ss.map frz = ss := by rw [hss]; exact frz_I s
  have hzf : zs.map frz = zs := by rw [hzs]; exact frz_I _
  have ro : roFree (.sl true 8 os) = true := by rw [hos]; exact roFPs cs
  have rs : roFree (.sl true 1 ss) = true := by rw [hss]; exact roF_I s
  have rz : roFree (.agg [i64 kk, i64 0, .sl true 1 zs]) = true := by rw [hzs]; exact roF_setR _ _ _
  have h1 := c_szPackS cs 1048576 (by omega) (by omega) hm hf
  obtain ⟨l, hl, hl2⟩ : ∃ l, szS szP cs 1048576 = l ∧ (0 ≤ l → cs.length ≤ 1048576 ∧ (∀ o ∈ cs, o.Small) ∧ psum Pck.cnt cs cs.length ≤ 12582912) := ⟨_, rfl, sz_facts⟩
  obtain ⟨l2, hl2', hl3, hl4⟩ : ∃ l2, szS szT t l = l2 ∧ (0 ≤ l → 0 ≤ l2 → t.length ≤ 1048576) ∧ (0 ≤ l → PCtr PP n_laws_szTermS [.sl false 7 (t.map Trm.enc), i64 l] (i64 l2)) :=
    ⟨_, rfl, fun h0 h1 => sz_facts2 (by rw [← hl]; exact szP_le _ (by rw [hl]; exact h0)) h1, fun h0 => c_szTermS t l h0 (by rw [← hl]; exact szP_le _ (by rw [hl]; exact h0)) htm.1 htm.2⟩
  obtain ⟨n, hn⟩ : ∃ n, n = (orpS cs s t).length := ⟨_, rfl⟩
  obtain ⟨m1, hm1⟩ : ∃ m1 : Int, m1 = 1 + psum Pck.cnt cs cs.length := ⟨_, rfl⟩
  obtain ⟨m2, hm2⟩ : ∃ m2 : Int, m2 = m1 + s.length := ⟨_, rfl⟩
  obtain ⟨m4, hm4⟩ : ∃ m4 : Int, m4 = m2 + psum (fun _ => 7) t t.length := ⟨_, rfl⟩
  have hm40 : 0 ≤ m4 := by omega
  obtain ⟨m3, hm3⟩ : ∃ m3 : Int, m3 = 1 + (n : Nat) := ⟨_, rfl⟩
  obtain ⟨ms, has⟩ : ∃ ms, ms = marksI m1 s.length := ⟨_, rfl⟩
  obtain ⟨bs, hbs⟩ : ∃ bs, bs = marksI 1 n := ⟨_, rfl⟩
  have hal : ms.length = ss.length := by rw [has, hsl, marksI_length]
  have hbl : bs.length = zs.length := by rw [hbs, hzl, marksI_length, hn]
  have hbf : bs.map frz = bs := by rw [hbs]; exact marksI_frz _ _
  have hm20 : 0 ≤ m2 := by omega
  have hm30 : 0 ≤ m3 := by omega
  have H : 0 ≤ l → s.length ≤ 1048576 → 0 ≤ l2 → (PCtr PP n_laws_toTermS [.sl false 7 ts] (.sl true 7 ts) ∧ PCtr PP n_laws_eqTermS [.sl false 7 ts, .sl false 7 ts] (boo true) ∧ ECtr PP n_laws_markTermS [.sl true 7 ts, i64 m2] (i64 m4)) ∧ (PCtr PP n_laws_toPackS [.sl false 8 xs] (.sl true 8 os) ∧ PCtr PP n_laws_toInt64S [.sl false 1 ss] (.sl true 1 ss)) ∧
      (PCtr PP n_spec_OrphansOf [.sl false 8 xs, .sl false 1 ss, .sl false 7 ts] (.agg [i64 kk, i64 0, .sl true 1 zs]) ∧ PCtr PP n_impl_OrphansOf [.sl false 8 xs, .sl false 1 ss, .sl false 7 ts] (.agg [i64 kk, i64 0, .sl true 1 zs])) ∧
      (PCtr PP n_laws_eqSetResult [.agg [i64 kk, i64 0, .sl false 1 zs], .agg [i64 kk, i64 0, .sl false 1 zs]] (boo true) ∧ PCtr PP n_laws_eqPackS [.sl false 8 xs, .sl false 8 xs] (boo true) ∧ PCtr PP n_laws_eqInt64S [.sl false 1 ss, .sl false 1 ss] (boo true)) ∧
      (ECtr PP n_laws_markPackS [.sl true 8 os, i64 1] (i64 m1) ∧ MCtr PP n_laws_markInt64S [.sl true 1 ss, i64 m1] (i64 m2) [.sl true 1 ms, i64 m1]) ∧
      (MCtr PP n_laws_markSetResult [.agg [i64 kk, i64 0, .sl true 1 zs], i64 1] (i64 m3) [.agg [i64 kk, i64 0, .sl true 1 bs], i64 1] ∧ PCtr PP n_laws_heldSetResult [.agg [i64 kk, i64 0, .sl false 1 bs], i64 1] (i64 m3)) := fun h hs h2 => by
    obtain ⟨k1, k2, k3⟩ := hl2 h
    have k4 := hl3 h h2
    have d1 := c_toTermS t k4
    have d2 := c_eqTermS t k4
    have d3 := c_markTermS t m2 (by omega) (by rw [psum_const]; omega) k4
    rw [← hm4, ← hts] at d3
    rw [← hts] at d1 d2
    have a1 := c_toPackS cs k1 k2
    have a2 := c_toInt64S s hs
    have a3 := c_specOrphansOf cs s t k1 k2 hs k4
    have a4 := c_implOrphansOf cs s t k1 k2 hs k4
    have a5 := c_eqSetResult kk 0 (orpS cs s t) (by omega)
    have a6 := c_eqPackS cs k1 k2
    have a7 := c_eqInt64S s hs
    have a8 := c_markPackS cs 1 (by omega) (by omega) k1 k2
    have a9 := c_markInt64S s m1 (by omega) (by omega) hs
    have b1 := c_markSetResult kk 0 (orpS cs s t) 1 (by omega) (by omega) (by omega)
    have b2 := c_heldSetResult kk 0 n 1 (by omega) (by omega) (by omega)
    unfold setR at a3 a4
    unfold encP at a3 a4
    rw [← hkk, ← hzs, ← hxs, ← hss, ← hts] at a3 a4
    rw [← hxs] at a1 a6
    rw [← hos] at a1 a8
    rw [← hss] at a2 a7 a9
    rw [← hzs] at a5 b1
    rw [← hn, ← hm3, ← hbs] at b1
    rw [← hm3, ← hbs] at b2
    rw [← hm1] at a8
    rw [← hm2, ← has] at a9
    exact ⟨⟨d1, d2, d3⟩, ⟨a1, a2⟩, ⟨a3, a4⟩, ⟨a5, a6, a7⟩, ⟨a8, a9⟩, b1, b2⟩
  rw [hl, ← hxs] at h1
  rw [← hts] at hl4
  rw [← hxs, ← hss, ← hts]
  clear hl2 hl3 hkk hzs hxs hos hss hts
  refine PCtr.walk tab hΩ fn_laws_FnExactOrphansOf rfl ?_
  have htab := tab
  generalize PP = P at *
  cbv
  refine br (fun h => ?_) (fun hs => ?_)
  · cbv
    exact .same
  have hs1 : s.length ≤ 1048576 := by
    rw [← hsl]
    subst hΩ
    have h : (ss.length : Int) ≤ 1048576 := gt_f hs
    omega
  cbv
  refine call_pure hΩ 3 h1 rfl (fits _) rfl rfl ?_
  cbv
  refine br (fun h => ?_) (fun h => ?_)
  · cbv
    exact .same
  have hl0 := ltI_f hΩ h
  cbv
  refine call_pure hΩ 3 (hl4 hl0) rfl (fits _) rfl rfl ?_
  cbv
  refine br (fun h => ?_) (fun h => ?_)
  · cbv
    exact .same
  obtain ⟨⟨d1, d2, d3⟩, ⟨a1, a2⟩, ⟨a3, a4⟩, ⟨a5, a6, a7⟩, ⟨a8, a9⟩, b1, b2⟩ := H hl0 hs1 (ltI_f hΩ h)
  clear H
  have lo : Ω.len os = os.length := by subst hΩ; rfl
  have lt : Ω.len ts = ts.length := by subst hΩ; rfl
  have ls : Ω.len ss = ss.length := by subst hΩ; rfl
  have lz : Ω.len zs = zs.length := by subst hΩ; rfl
  have lb : Ω.len zs = bs.length := lz.trans hbl.symm
  cbv
  refine call_pure hΩ 3 a1 rfl (fits _) ro rfl ?_
  cbv
  refine call_pure hΩ 3 a2 rfl (fits _) rs rfl ?_
  cbv
  refine call_pure hΩ 3 d1 rfl (fits _) rt rfl ?_
  cbv
  refine call_pure hΩ 3 a3 (mapO3 (ro_vw rfl lo hof) (ro_vw rfl ls hsf) (ro_vw rfl lt htf)) (fits _) rz rfl ?_
  cbv
  refine call_pure hΩ 3 a1 rfl (fits _) ro rfl ?_
  cbv
  refine call_pure hΩ 3 a2 rfl (fits _) rs rfl ?_
  cbv
  refine call_pure hΩ 3 d1 rfl (fits _) rt rfl ?_
  cbv
  refine call_pure hΩ 3 a4 (mapO3 (ro_vw rfl lo hof) (ro_vw rfl ls hsf) (ro_vw rfl lt htf)) (fits _) rz rfl ?_
  cbv
  refine call_pure hΩ 3 a5 (mapO2 (ro_agg3 rfl rfl (ro_vw rfl lz hzf)) (ro_agg3 rfl rfl (ro_vw rfl lz hzf))) (fits _) rfl rfl ?_
  cbv
  refine br (fun h => (notT hΩ h).elim) (fun h => ?_)
  cbv
  refine call_pure hΩ 3 a1 rfl (fits _) ro rfl ?_
  cbv
  refine call_pure hΩ 3 a6 (mapO2 (ro_vw rfl lo hof) (ro_vw rfl lo hof)) (fits _) rfl rfl ?_
  cbv
  refine br (fun h => (notT hΩ h).elim) (fun h => ?_)
  cbv
  refine call_pure hΩ 3 a2 rfl (fits _) rs rfl ?_
  cbv
  refine call_pure hΩ 3 a7 (mapO2 (ro_vw rfl ls hsf) (ro_vw rfl ls hsf)) (fits _) rfl rfl ?_
  cbv
  refine br (fun h => (notT hΩ h).elim) (fun h => ?_)
  cbv
  refine call_pure hΩ 3 d1 rfl (fits _) rt rfl ?_
  cbv
  refine call_pure hΩ 3 d2 (mapO2 (ro_vw rfl lt htf) (ro_vw rfl lt htf)) (fits _) rfl rfl ?_
  cbv
  refine br (fun h => (notT hΩ h).elim) (fun h => ?_)
  cbv
  refine call_eat2 (row := ⟨8, os, false⟩) hΩ 3 a8 rfl rfl lo rfl (fits _) rfl rfl ?_
  cbv
  refine call_mut hΩ 3 (l := [(6, ms)] ++ ([] ++ [])) a9 (.cons (mutVw rfl ls hal) (.cons (.data rfl rfl) .nil)) (by simp) rfl ?_
  cbv
  refine call_eat2 (row := ⟨7, ts, false⟩) hΩ 3 d3 rfl rfl lt rfl (fits _) rfl rfl ?_
  cbv
  refine br (fun h => absurd (ltI_t hΩ h) (Int.not_lt.2 hm40)) (fun h => ?_)
  cbv
  refine call_pure hΩ 3 a5 (mapO2 (ro_agg3 rfl rfl (ro_vw rfl lz hzf)) (ro_agg3 rfl rfl (ro_vw rfl lz hzf))) (fits _) rfl rfl ?_
  cbv
  refine br (fun h => ?_) (fun h => ?_)
  · exfalso
    subst hΩ
    exact absurd (show (!true) = true from h) (by decide)
  cbv
  refine call_mut hΩ 3 (l := ([] ++ ([] ++ ([(8, bs)] ++ []))) ++ ([] ++ [])) b1 (.cons (.agg (.cons (.data rfl rfl) (.cons (.data rfl rfl) (.cons (mutVw rfl lz hbl) .nil)))) (.cons (.data rfl rfl) .nil)) (by simp) rfl ?_
  cbv
  refine call_pure hΩ 3 b2 (mapO2 (ro_agg3 rfl rfl (ro_vw rfl lb hbf)) rfl) (fits _) rfl rfl ?_
  cbv
  refine br (fun h => absurd (ltI_t hΩ h) (Int.not_lt.2 hm30)) (fun h => ?_)
  cbv
  refine br (fun h => (ne_self hΩ h).elim) (fun h => ?_)
  cbv
  refine call_pure hΩ 3 a1 rfl (fits _) ro rfl ?_
  cbv
  refine call_pure hΩ 3 a2 rfl (fits _) rs rfl ?_
  cbv
  refine call_pure hΩ 3 d1 rfl (fits _) rt rfl ?_
  cbv
  refine call_pure hΩ 3 a4 (mapO3 (ro_vw rfl lo hof) (ro_vw rfl ls hsf) (ro_vw rfl lt htf)) (fits _) rz rfl ?_
  cbv
  refine call_pure hΩ 3 a5 (mapO2 (ro_agg3 rfl rfl (ro_vw rfl lz hzf)) (ro_agg3 rfl rfl (ro_vw rfl lz hzf))) (fits _) rfl rfl ?_
  cbv
  refine br (fun h => (notT hΩ h).elim) (fun h => ?_)
  cbv
  refine call_pure hΩ 3 b2 (mapO2 (ro_agg3 rfl rfl (ro_vw rfl lb hbf)) rfl) (fits _) rfl rfl ?_
  cbv
  refine br (fun h => absurd (ltI_t hΩ h) (Int.not_lt.2 hm30)) (fun h => ?_)
  cbv
  refine br (fun h => (ne_self hΩ h).elim) (fun h => ?_)
  cbv
  exact .same
end Go.Proofs.YtomfmdfamlmfiaaGreat

/- What a reading of an argument says of it: it is read-only plain data. Plain theorems, no condition. -/
set_option linter.unusedVariables false
set_option linter.unusedSimpArgs false
namespace Go.Fw
/-- Types of plain data. -/
inductive Ty where
  | int (k : IntKind)
  | bool
  | str
  | sl (e : Ty)
  | st (fs : List Ty)
mutual
def Ty.n : Ty → Nat
  | .st fs => Ty.nL fs
  | .int _ => 1
  | .bool => 1
  | .str => 1
  | .sl _ => 1
def Ty.nL : List Ty → Nat
  | [] => 0
  | x :: xs => x.n + Ty.nL xs
end
def Ty.elem (e : Ty) (cs : List A) : A :=
  match e with
  | .st _ => .agg cs
  | _ => cs.headD .un
mutual
def TyOK (P : Program) : Ty → TypeId → Prop
  | .int k, t => P.underlying t = some (.int k)
  | .bool, t => P.underlying t = some .bool
  | .str, t => P.underlying t = some .string
  | .sl e, t => ∃ te, P.underlying t = some (.slice te) ∧ P.cellsOf te = e.n ∧ Nat.ble 1 e.n = true ∧ TyOK P e te
  | .st fs, t => ∃ f, P.underlying t = some (.struct f) ∧ P.cellsOf t = Ty.nL fs ∧ TysOK P 0 fs f.toList
def TysOK (P : Program) : Nat → List Ty → List Field → Prop
  | _, [], [] => True
  | o, x :: xs, f :: fs => f.offset = o ∧ P.cellsOf f.type = x.n ∧ TyOK P x f.type ∧ TysOK P (o + x.n) xs fs
  | _, _, _ => False
end
mutual
inductive Shp : Ty → List A → Prop
  | int {k : IntKind} {n : Int} (h : (Lit.int k n).wf = true) : Shp (.int k) [.sc (.int k n)]
  | bool {b : Bool} : Shp .bool [.sc (.bool b)]
  | str {s : List UInt8} (h : s.length ≤ maxLen) : Shp .str [.sc (.string (mkS s))]
  | sl {e : Ty} {ys : List A} (h : ∀ y ∈ ys, Shp e y.cells) (h2 : ∀ y ∈ ys, y = e.elem y.cells) (hl : ys.length ≤ maxLen) : Shp (.sl e) [.sl false e.n ys]
  | st {fs : List Ty} {xs : List A} (h : ShpL fs xs) : Shp (.st fs) xs
inductive ShpL : List Ty → List A → Prop
  | nil : ShpL [] []
  | cons {t : Ty} {ts : List Ty} {xs ys : List A} (h : Shp t xs) (hl : ShpL ts ys) : ShpL (t :: ts) (xs ++ ys)
end
mutual
theorem Shp.length : ∀ {t : Ty} {xs : List A}, Shp t xs → xs.length = t.n
  | _, _, .int _ => rfl
  | _, _, .bool => rfl
  | _, _, .str _ => rfl
  | _, _, .sl _ _ _ => rfl
  | _, _, .st h => by rw [Ty.n]; exact h.length
theorem ShpL.length : ∀ {ts : List Ty} {xs : List A}, ShpL ts xs → xs.length = Ty.nL ts
  | _, _, .nil => rfl
  | _, _, .cons h hl => by rw [List.length_append, h.length, hl.length, Ty.nL]
end
theorem elem_cells {e : Ty} {cs : List A} (h : Shp e cs) : (e.elem cs).cells = cs := by
  cases h <;> rfl
theorem cells_list {w : World} {base : Nat} {a : Addr} {n : Nat} {cs : List Value} (h : w.cells? base a n = some cs) (hn : 0 < n) :
    ∃ cur e fr, w.heap[a.block]? = some (.cells cur e fr) ∧ a.spot = none ∧ cs = (cur.toList.drop a.off).take n ∧ cs.length = n := by
  unfold World.cells? at h
  split at h <;> try simp at h
  have hget : ∀ (l : List Nat) (r : List Value), l.mapM (fun i => w.cell? (a.add i)) = some r → r.length = l.length ∧ ∀ (j i : Nat), l[j]? = some i → ∃ v, r[j]? = some v ∧ w.cell? (a.add i) = some v := by
    intro l
    induction l with
    | nil => intro r h; simp at h; subst h; simp
    | cons x l ih =>
      intro r h
      simp only [List.mapM_cons, Option.bind_eq_bind, Option.pure_def, Option.bind_eq_some_iff, Option.some.injEq] at h
      obtain ⟨v, hv, r', hr', rfl⟩ := h
      obtain ⟨h1, h2⟩ := ih r' hr'
      refine ⟨by simp [h1], fun j i hj => ?_⟩
      cases j with
      | zero => simp at hj; subst hj; exact ⟨v, rfl, hv⟩
      | succ j => simpa using h2 j i (by simpa using hj)
  obtain ⟨hl, hat⟩ := hget _ _ h
  rw [List.length_range] at hl
  obtain ⟨v0, _, hv0⟩ := hat 0 0 (by rw [List.getElem?_range hn])
  have hblk : ∀ i, (a.add i).block = a.block := fun i => by unfold Addr.add; split <;> rfl
  unfold World.cell? at hv0
  rw [hblk] at hv0
  split at hv0 <;> try simp at hv0
  rename_i cur e fr hh
  have hsp : a.spot = none := by
    cases hs : a.spot with
    | none => rfl
    | some s => simp [Addr.add, hs] at hv0
  refine ⟨cur, e, fr, hh, hsp, ?_, hl⟩
  have ha : a = ⟨a.block, a.off, none⟩ := by cases a; simp at hsp; subst hsp; rfl
  have hcell : ∀ i, w.cell? (a.add i) = cur[a.off + i]? := fun i => by rw [ha, add_none, cell_at hh]
  have hlen : a.off + n ≤ cur.size := by
    obtain ⟨v, _, hv⟩ := hat (n - 1) (n - 1) (by rw [List.getElem?_range (by omega)])
    rw [hcell] at hv
    have := (Array.getElem?_eq_some_iff.1 hv).1
    omega
  apply List.ext_getElem?
  intro j
  by_cases hj : j < n
  · obtain ⟨v, hv1, hv2⟩ := hat j j (by rw [List.getElem?_range hj])
    rw [hv1, List.getElem?_take_of_lt hj, List.getElem?_drop]
    rw [hcell] at hv2
    simpa using hv2.symm
  · rw [List.getElem?_eq_none (by omega), List.getElem?_eq_none (by simp; omega)]
theorem add_block (a : Addr) (i : Nat) : (a.add i).block = a.block := by unfold Addr.add; split <;> rfl
theorem rows_rel {w : World} {G : Nat → Prop} {n : Nat} {X : Nat → List A} {l : List Value} : ∀ len : Nat, (∀ i, i < len → RelL w G (X i) ((l.drop (i * n)).take n) []) → RelL w G ((List.range len).flatMap X) (l.take (len * n)) []
  | 0, _ => by simpa using RelL.nil
  | len + 1, h => by
    have h1 := rows_rel (X := X) len fun i hi => h i (by omega)
    have h2 := h1.append (h len (by omega))
    rw [List.range_succ, List.flatMap_append, Nat.succ_mul, List.take_add]
    simpa using h2
mutual
theorem trod_rel {H : Type} {enc : TypeId × Value → H} {P : Program} {w : World} {base : Nat} {sp : Nat → Bool} {held : Bool} (hsp : ∀ b, sp b = true) :
    ∀ (ty : Ty) (t : TypeId) (fuel : Nat) (cs : List Value) (x : DataW H × List MemPlace), TyOK P ty t → DataW.trod enc P w base sp held fuel t cs = some x → ∃ xs, RelL w (Old w) xs cs [] ∧ Shp ty xs
  | .int k, t, 0, cs, x, hu, h => by simp [DataW.trod] at h
  | .int k, t, fuel + 1, cs, x, hu, h => by
    have hu : P.underlying t = some (.int k) := hu
    unfold DataW.trod at h
    rw [hu] at h
    split at h <;> try simp_all
    obtain ⟨⟨rfl, hw⟩, _⟩ := h
    exact ⟨_, .cons (F := []) (Fs := []) (.sc rfl) .nil, .int hw⟩
  | .bool, t, 0, cs, x, hu, h => by simp [DataW.trod] at h
  | .bool, t, fuel + 1, cs, x, hu, h => by
    have hu : P.underlying t = some .bool := hu
    unfold DataW.trod at h
    rw [hu] at h
    split at h <;> try simp_all
    exact ⟨_, .cons (F := []) (Fs := []) (.sc rfl) .nil, .bool⟩
  | .str, t, 0, cs, x, hu, h => by simp [DataW.trod] at h
  | .str, t, fuel + 1, cs, x, hu, h => by
    have hu : P.underlying t = some .string := hu
    unfold DataW.trod at h
    rw [hu] at h
    split at h <;> try simp_all
    rename_i s
    refine ⟨[.sc (.string (mkS (bs s)))], .cons (F := []) (Fs := []) (.sc rfl) .nil, .str ?_⟩
    rw [bs_length]; exact h.1
  | .sl e, t, fuel, cs, x, hu, h => by
    obtain ⟨te, hu, hc, hpos, hte⟩ := hu
    have hpos := Nat.le_of_ble_eq_true hpos
    rcases Go.Deep.open_slice hu h with ⟨rfl, _⟩ | ⟨a, len, cap, m, n, D, Pl, rfl, _, hl, hm, hmm, _, hel⟩
    · exact ⟨[.sl false e.n []], .cons (F := []) (Fs := []) .nils .nil, .sl (by simp) (by simp) (by simp)⟩
    · rw [hsp, if_pos rfl] at hmm
      subst hmm
      rw [hc] at hel
      by_cases hm0 : m = 0
      · subst hm0
        have : len = 0 := by omega
        subst this
        exact ⟨[.sl false e.n []], .cons (F := []) (Fs := []) .roz .nil, .sl (by simp) (by simp) (by simp)⟩
      · obtain ⟨cs0, hc0, _⟩ := hel 0 (by omega)
        obtain ⟨cur, et, fr, hh, hspot, _, _⟩ := cells_list hc0 hpos
        rw [add_block] at hh
        have hspot' : a.spot = none := by
          cases hs : a.spot with
          | none => rfl
          | some s => simp [Addr.add, hs] at hspot
        have ha : a = ⟨a.block, a.off, none⟩ := by cases a; simp at hspot'; subst hspot'; rfl
        have hX : ∀ i, i < m → ∃ xs, RelL w (Old w) xs ((cur.toList.drop (a.off + i * e.n)).take e.n) [] ∧ Shp e xs := fun i hi => by
          obtain ⟨csi, hci, hti⟩ := hel i hi
          obtain ⟨cur', et', fr', hh', _, hcs, _⟩ := cells_list hci hpos
          rw [add_block, hh] at hh'
          simp only [Option.some.injEq, Obj.cells.injEq] at hh'
          obtain ⟨rfl, _, _⟩ := hh'
          obtain ⟨xs, h1, h2⟩ := trod_rel hsp e te n csi _ hte hti
          refine ⟨xs, ?_, h2⟩
          rw [hcs] at h1
          have : (a.add (i * e.n)).off = a.off + i * e.n := by rw [ha, add_none]
          rw [this] at h1
          exact h1
        let X : Nat → List A := fun i => if h : i < m then Classical.choose (hX i h) else []
        have hX1 : ∀ i, i < m → RelL w (Old w) (X i) ((cur.toList.drop (a.off + i * e.n)).take e.n) [] ∧ Shp e (X i) := fun i hi => by
          have : X i = Classical.choose (hX i hi) := by simp only [X]; rw [dif_pos hi]
          rw [this]; exact Classical.choose_spec (hX i hi)
        have hmem : ∀ y ∈ (List.range len).map fun i => e.elem (X i), Shp e y.cells ∧ y = e.elem y.cells := fun y hy => by
          obtain ⟨i, hi, rfl⟩ := List.mem_map.1 hy
          have hi := List.mem_range.1 hi
          have hs := (hX1 i (by omega)).2
          rw [elem_cells hs]
          exact ⟨hs, rfl⟩
        refine ⟨[.sl false e.n ((List.range len).map fun i => e.elem (X i))], .cons (F := []) (Fs := []) ?_ .nil, .sl (fun y hy => (hmem y hy).1) (fun y hy => (hmem y hy).2) (by simp; omega)⟩
        have hlt : a.block < w.heap.size := (Array.getElem?_eq_some_iff.1 hh).1
        rw [ha]
        refine .ro hh hlt (fun y hy => ?_) (by simp) rfl ?_ (by omega) (by omega)
        · have := (hmem y hy).1.length
          exact this
        · have hf : flat ((List.range len).map fun i => e.elem (X i)) = (List.range len).flatMap X := by
            unfold flat
            rw [List.flatMap_map]
            have : ∀ l : List Nat, (∀ i ∈ l, i < m) → l.flatMap (fun i => (e.elem (X i)).cells) = l.flatMap X := by
              intro l
              induction l with
              | nil => intro _; rfl
              | cons i l ih =>
                intro hl
                rw [List.flatMap_cons, List.flatMap_cons, ih fun j hj => hl j (by simp [hj]), elem_cells (hX1 i (hl i (by simp))).2]
            exact this _ fun i hi => by have := List.mem_range.1 hi; omega
          rw [hf]
          refine rows_rel len fun i hi => ?_
          have := (hX1 i (by omega)).1
          rw [← List.drop_drop] at this
          exact this
  | .st fs, t, 0, cs, x, hu, h => by simp [DataW.trod] at h
  | .st fs, t, fuel + 1, cs, x, hu, h => by
    obtain ⟨f, hu, hc, hfs⟩ := hu
    unfold DataW.trod at h
    rw [hu] at h
    simp only at h
    split at h <;> try simp at h
    rename_i hlen
    obtain ⟨ys, hys, _⟩ := h
    obtain ⟨xs, h1, h2⟩ := trod_rels hsp fs f.toList fuel 0 cs ys hfs (by rw [hlen, hc]; omega) hys
    exact ⟨xs, by simpa using h1, .st h2⟩
theorem trod_rels {H : Type} {enc : TypeId × Value → H} {P : Program} {w : World} {base : Nat} {sp : Nat → Bool} {held : Bool} (hsp : ∀ b, sp b = true) :
    ∀ (tys : List Ty) (fs : List Field) (fuel o : Nat) (cs : List Value) (ys : List (DataW H × List MemPlace)), TysOK P o tys fs → cs.length = o + Ty.nL tys →
      fs.mapM (fun f => DataW.trod enc P w base sp held fuel f.type ((cs.drop f.offset).take (P.cellsOf f.type))) = some ys → ∃ xs, RelL w (Old w) xs (cs.drop o) [] ∧ ShpL tys xs
  | [], [], fuel, o, cs, ys, _, hl, _ => ⟨[], by rw [List.drop_eq_nil_of_le (by rw [hl, Ty.nL]; omega)]; exact .nil, .nil⟩
  | [], _ :: _, fuel, o, cs, ys, hu, hl, h => hu.elim
  | _ :: _, [], fuel, o, cs, ys, hu, hl, h => hu.elim
  | ty :: tys, f :: fs, fuel, o, cs, ys, hu, hl, h => by
    obtain ⟨ho, hc, ht, hts⟩ := hu
    simp only [List.mapM_cons, Option.bind_eq_bind, Option.pure_def, Option.bind_eq_some_iff, Option.some.injEq] at h
    obtain ⟨y, hy, ys', hys', _⟩ := h
    rw [ho, hc] at hy
    obtain ⟨xs1, h1, h2⟩ := trod_rel hsp ty f.type fuel _ _ ht hy
    rw [Ty.nL] at hl
    obtain ⟨xs2, h3, h4⟩ := trod_rels hsp tys fs fuel (o + ty.n) cs ys' hts (by omega) hys'
    refine ⟨xs1 ++ xs2, ?_, .cons h2 h4⟩
    have := h1.append h3
    rw [← List.drop_drop, List.take_append_drop] at this
    simpa using this
end
end Go.Fw

/- The closing of a law's row. Plain theorems, no condition. -/
set_option linter.unusedVariables false
set_option linter.unusedSimpArgs false
namespace Go.Fw
open Go.ChangeShapes Go.WideShapes Go.ChangeAt Go.RowKit
def PlainT (P : Program) (t : TypeId) : Prop := ∃ ty, TyOK P ty t
theorem tys_fields {P : Program} : ∀ {tys : List Ty} {fs : List Field} {o : Nat}, TysOK P o tys fs → (∀ f ∈ fs, PlainT P f.type) ∧ Ty.nL tys = (fs.map fun f => P.cellsOf f.type).sum ∧
    ∀ (j : Nat) f, fs[j]? = some f → f.offset = o + ((fs.take j).map fun f => P.cellsOf f.type).sum
  | [], [], o, _ => ⟨by simp, rfl, by simp⟩
  | [], _ :: _, o, h => h.elim
  | _ :: _, [], o, h => h.elim
  | ty :: tys, f :: fs, o, h => by
    obtain ⟨h1, h2, h3, h4⟩ := h
    obtain ⟨g1, g2, g3⟩ := tys_fields h4
    refine ⟨fun f' hf => ?_, by rw [Ty.nL, g2, ← h2]; simp, fun j f' hj => ?_⟩
    · rcases List.mem_cons.1 hf with rfl | hf
      · exact ⟨ty, h3⟩
      · exact g1 f' hf
    · cases j with
      | zero => simp at hj; subst hj; simp [h1]
      | succ j =>
        have := g3 j f' (by simpa using hj)
        rw [this, ← h2]; simp; omega
theorem kids (P : Program) : Kids P (PlainT P) := by
  refine ⟨?_, ?_, ?_, ?_, ?_⟩
  · rintro t e ⟨ty, h⟩ hu
    cases ty with
    | sl _ => obtain ⟨te, h, _⟩ := h; rw [hu] at h; simp at h
    | st _ => obtain ⟨f, h, _⟩ := h; rw [hu] at h; simp at h
    | _ => rw [TyOK, hu] at h; simp at h
  · rintro t e ⟨ty, h⟩ hu
    cases ty with
    | sl e' => obtain ⟨te, h, _, _, h2⟩ := h; rw [hu] at h; simp at h; subst h; exact ⟨e', h2⟩
    | st _ => obtain ⟨f, h, _⟩ := h; rw [hu] at h; simp at h
    | _ => rw [TyOK, hu] at h; simp at h
  · rintro t e n ⟨ty, h⟩ hu
    cases ty with
    | sl _ => obtain ⟨te, h, _⟩ := h; rw [hu] at h; simp at h
    | st _ => obtain ⟨f, h, _⟩ := h; rw [hu] at h; simp at h
    | _ => rw [TyOK, hu] at h; simp at h
  · rintro t fs ⟨ty, h⟩ hu
    cases ty with
    | sl _ => obtain ⟨te, h, _⟩ := h; rw [hu] at h; simp at h
    | st tys =>
      obtain ⟨f, h, hc, hts⟩ := h
      rw [hu] at h
      simp at h
      subst h
      obtain ⟨g1, g2, g3⟩ := tys_fields hts
      exact ⟨g1, by rw [hc, g2], fun j f hj => by rw [g3 j f hj, Nat.zero_add]⟩
    | _ => rw [TyOK, hu] at h; simp at h
  · rintro t k e ⟨ty, h⟩ hu
    cases ty with
    | sl _ => obtain ⟨te, h, _⟩ := h; rw [hu] at h; simp at h
    | st _ => obtain ⟨f, h, _⟩ := h; rw [hu] at h; simp at h
    | _ => rw [TyOK, hu] at h; simp at h
theorem plain_sz {P : Program} {t e : TypeId} (h : PlainT P t) (hu : P.underlying t = some (.slice e)) : 0 < P.cellsOf e := by
  obtain ⟨ty, h⟩ := h
  cases ty with
  | sl _ => obtain ⟨te, h, hc, hb, _⟩ := h; rw [hu] at h; simp at h; subst h; rw [hc]; exact Nat.le_of_ble_eq_true hb
  | st _ => obtain ⟨f, h, _⟩ := h; rw [hu] at h; simp at h
  | _ => rw [TyOK, hu] at h; simp at h
section
variable {H : Type} {enc : TypeId × Value → H} {P : Program}
theorem stays_all {W W' : World} {sp' : Nat → Bool} : ∀ {ts : List TypeId} {vs : List Value} {ds : List (DataW H)} {ps : List MemPlace}, (∀ t ∈ ts, PlainT P t) → DataW.TrodAll enc P W 0 (fun _ => true) true ts vs ds ps →
    (∀ p ∈ ps, W.sameAt W' p) → (∀ p ∈ ps, sp' p.block = true) → DataW.TrodAll enc P W' 0 sp' true ts vs ds ps
  | [], [], [], ps, _, h, _, _ => h
  | t :: ts, v :: vs, d :: ds, ps, ht, h, hsame, hs => by
    obtain ⟨p, q, ⟨n, hn⟩, hl, rfl⟩ := h
    refine ⟨p, q, ⟨n, ?_⟩, stays_all (fun t h => ht t (by simp [h])) hl (fun x hx => hsame x (by simp [hx])) (fun x hx => hs x (by simp [hx])), rfl⟩
    exact DataW.trod_stays (kids P) plain_sz (by simp) (ht t (by simp)) hn (fun x hx => hsame x (by simp [hx])) (fun x hx => hs x (by simp [hx]))
theorem post_law {f : Func} {s : ChangeSpec} {apart fresh handsOn again : Bool} {W W' : World} {args : Array Value} {ds gs : List (DataW H)} {before : List MemPlace} {tb : TypeId} (hsv : s.vars = [])
    (hW : DataW.Whole enc P f.params.toList s.vars apart W args.toList ds gs before) (htys : ∀ t ∈ f.params.toList, PlainT P t) (hrt : f.resultTypes = #[tb]) (hub : P.underlying tb = some .bool)
    (hfn : s.fn H (ds ++ gs) = { results := [.lit (.bool true)], args := ds }) (hb : Below W.heap.size W W') : s.post enc P f apart fresh handsOn again W args (.bool true) W' := by
  have hW0 := hW
  obtain ⟨p, q, hA, hV, rfl, hfz, hnd⟩ := hW
  rw [hsv] at hV
  obtain ⟨rfl, rfl⟩ := trodVars_none hV
  rw [List.append_nil] at hfz hnd hW0
  have hlt := hW0.lt
  have hsame : ∀ x ∈ p, W.sameAt W' x := fun x hx => hb.same (hlt x hx)
  have hres : ∀ (b : Nat) (sp : Nat → Bool) (hd : Bool), DataW.TrodAll enc P W' b sp hd f.resultTypes.toList ((Value.bool true).resultList f.resultTypes.size) (s.fn H (ds ++ [])).results [] := fun b sp hd => by
    rw [hfn, hrt]
    exact trodAll_cons_mk (shut_bool hub _) trodAll_mk0
  have hargs : ∀ sp : Nat → Bool, (∀ x ∈ p, sp x.block = true) → DataW.TrodAll enc P W' 0 sp true f.params.toList args.toList (s.fn H (ds ++ [])).args p := fun sp hs => by
    rw [hfn]; exact stays_all htys hA hsame hs
  have hvars : ∀ sp : Nat → Bool, DataW.TrodVars enc P W' sp s.vars (s.fn H (ds ++ [])).vars [] := fun sp => by rw [hfn, hsv]; rfl
  have hold : ∀ x ∈ p, (fun b => decide (b < W.heap.size)) x.block = true := fun x hx => by simpa using hlt x hx
  refine ⟨ds, [], p, [], p, [], hW0, hres _ _ _, hargs _ hold, hvars _, World.keptBut_mono (fun x hx => ⟨hx, .inr (.inl hx)⟩) (hb.frame (· ∈ p)), fun _ => ?_⟩
  refine ⟨?_, _, _, ([] ++ p) ++ [], ⟨[] ++ p, [], trodAll_append (hargs _ (fun _ _ => rfl)) (hres 0 (fun _ => true) true), hvars _, rfl, ?_, ?_⟩, ?_⟩
  · intro j t r h1 h2
    exact ok_one (v := .bool true) hrt rfl (okWide_bool_mk hub true) j t r h1 h2
  · intro b off hp
    have hp' : MemPlace.cell b off ∈ p := by simpa using hp
    rw [hb.frozen (p := ⟨b, off, none⟩) (hlt _ hp')]
    exact hfz b off hp'
  · intro ha
    simpa using hnd ha
  · intro x hx _
    simpa using hx
end
mutual
def tyChk (P : Program) : Ty → TypeId → Bool
  | .int k, t => match P.underlying t with | some (.int k') => decide (k' = k) | _ => false
  | .bool, t => match P.underlying t with | some .bool => true | _ => false
  | .str, t => match P.underlying t with | some .string => true | _ => false
  | .sl e, t => match P.underlying t with | some (.slice te) => P.cellsOf te == e.n && (Nat.ble 1 e.n && tyChk P e te) | _ => false
  | .st fs, t => match P.underlying t with | some (.struct f) => P.cellsOf t == Ty.nL fs && tysChk P 0 fs f.toList | _ => false
def tysChk (P : Program) : Nat → List Ty → List Field → Bool
  | _, [], [] => true
  | o, x :: xs, f :: fs => f.offset == o && (P.cellsOf f.type == x.n && (tyChk P x f.type && tysChk P (o + x.n) xs fs))
  | _, _, _ => false
end
mutual
theorem tyChk_ok {P : Program} : ∀ (ty : Ty) (t : TypeId), tyChk P ty t = true → TyOK P ty t
  | .int k, t, h => by
    rw [tyChk] at h; split at h <;> try simp at h
    rename_i hu; subst h; rw [TyOK]; exact hu
  | .bool, t, h => by
    rw [tyChk] at h; split at h <;> try simp at h
    rename_i hu; rw [TyOK]; exact hu
  | .str, t, h => by
    rw [tyChk] at h; split at h <;> try simp at h
    rename_i hu; rw [TyOK]; exact hu
  | .sl e, t, h => by
    rw [tyChk] at h; split at h <;> try simp at h
    rename_i te hu; rw [TyOK]
    exact ⟨te, hu, h.1, by simpa using h.2.1, tyChk_ok e te h.2.2⟩
  | .st fs, t, h => by
    rw [tyChk] at h; split at h <;> try simp at h
    rename_i f hu; rw [TyOK]
    exact ⟨f, hu, h.1, tysChk_ok fs _ _ h.2⟩
theorem tysChk_ok {P : Program} : ∀ (tys : List Ty) (o : Nat) (fs : List Field), tysChk P o tys fs = true → TysOK P o tys fs
  | [], _, [], _ => by rw [TysOK]; trivial
  | [], _, _ :: _, h => by simp [tysChk] at h
  | _ :: _, _, [], h => by simp [tysChk] at h
  | x :: xs, o, f :: fs, h => by
    rw [tysChk] at h
    simp only [Bool.and_eq_true, beq_iff_eq] at h
    rw [TysOK]
    exact ⟨h.1, h.2.1, tyChk_ok x _ h.2.2.1, tysChk_ok xs _ fs h.2.2.2⟩
end
theorem slice_cells {P : Program} {W : World} {base : Nat} {t e : TypeId} {v : Value} (hu : P.underlying t = some (.slice e)) (h : Value.okWide P W .any base t v) : v.cells.toList = [v] := by
  unfold Value.okWide at h
  rw [hu] at h
  simp only at h
  unfold Cell.okWide at h
  rw [hu] at h
  cases v <;> first | rfl | (simp [Cell.ok, hu] at h)
end Go.Fw

/- Shapes of arguments. Plain theorems. -/
set_option linter.unusedVariables false
set_option linter.unusedSimpArgs false
namespace Go.Proofs.YtomfmdfamlmfiaaGreat
open Go Go.Fw
open Go.ChangeShapes Go.WideShapes Go.ChangeAt Go.RowKit
def tyVer : Ty := .st [.int .i64, .int .i64, .int .i64]
def tyTrm : Ty := .st [.str, tyVer, tyVer]
def tyPck : Ty := .st [.str, tyVer, .int .i64, .sl .str, .sl (.sl tyTrm), .sl tyTrm]
theorem shp_i64 {xs : List A} (h : Shp (.int .i64) xs) : ∃ x, xs = [i64 x] := by cases h; exact ⟨_, rfl⟩
theorem shp_str {xs : List A} (h : Shp .str xs) : ∃ x, xs = [str x] ∧ x.length ≤ Go.maxLen := by cases h; exact ⟨_, rfl, by assumption⟩
theorem shp_Ver {xs : List A} (h : Shp tyVer xs) : ∃ v : Ver, xs = v.cells := by
  cases h with | st h =>
  cases h with | cons h1 h =>
  cases h with | cons h2 h =>
  cases h with | cons h3 h =>
  cases h
  obtain ⟨a, rfl⟩ := shp_i64 h1
  obtain ⟨b, rfl⟩ := shp_i64 h2
  obtain ⟨c, rfl⟩ := shp_i64 h3
  exact ⟨⟨a, b, c⟩, rfl⟩
theorem shp_Trm {xs : List A} (h : Shp tyTrm xs) : ∃ v : Trm, xs = v.cells ∧ v.n.length ≤ Go.maxLen := by
  cases h with | st h =>
  cases h with | cons h1 h =>
  cases h with | cons h2 h =>
  cases h with | cons h3 h =>
  cases h
  obtain ⟨n, rfl, hn⟩ := shp_str h1
  obtain ⟨o, rfl⟩ := shp_Ver h2
  obtain ⟨w, rfl⟩ := shp_Ver h3
  exact ⟨⟨n, o, w⟩, rfl, hn⟩
theorem maps_of {α : Type} {f : α → A} {p : α → Prop} : ∀ {ys : List A}, (∀ y ∈ ys, ∃ c, y = f c ∧ p c) → ∃ cs : List α, ys = cs.map f ∧ ∀ c ∈ cs, p c
  | [], _ => ⟨[], rfl, by simp⟩
  | y :: ys, h => by
    obtain ⟨c, rfl, hc⟩ := h y (by simp)
    obtain ⟨cs, rfl, hcs⟩ := maps_of (ys := ys) fun z hz => h z (by simp [hz])
    exact ⟨c :: cs, rfl, fun z hz => by exact (List.mem_cons.1 hz).elim (fun e => e ▸ hc) (hcs z)⟩
theorem shp_sl {e : Ty} {xs : List A} (h : Shp (.sl e) xs) {α : Type} {f : α → A} {p : α → Prop} (hf : ∀ y, Shp e y.cells → y = e.elem y.cells → ∃ c, y = f c ∧ p c) : ∃ cs : List α, xs = [.sl false e.n (cs.map f)] ∧ cs.length ≤ Go.maxLen ∧ ∀ c ∈ cs, p c := by
  cases h with | sl h1 h2 hl =>
  rename_i ys
  obtain ⟨cs, rfl, hp⟩ := maps_of (f := f) (p := p) (ys := ys) fun y hy => hf y (h1 y hy) (h2 y hy)
  exact ⟨cs, rfl, by simpa using hl, hp⟩
theorem shp_strS {xs : List A} (h : Shp (.sl .str) xs) : ∃ cs : List (List UInt8), xs = [.sl false 1 (cs.map str)] ∧ cs.length ≤ Go.maxLen ∧ ∀ c ∈ cs, c.length ≤ Go.maxLen :=
  shp_sl h fun y h1 h2 => by
    obtain ⟨v, hv, hp⟩ := shp_str h1
    exact ⟨v, by rw [h2, hv]; rfl, hp⟩
theorem shp_TrmS {xs : List A} (h : Shp (.sl tyTrm) xs) : ∃ cs : List Trm, xs = [.sl false 7 (cs.map Trm.enc)] ∧ cs.length ≤ Go.maxLen ∧ ∀ c ∈ cs, c.n.length ≤ Go.maxLen :=
  shp_sl h fun y h1 h2 => by
    obtain ⟨v, hv, hp⟩ := shp_Trm h1
    exact ⟨v, by rw [h2, hv]; rfl, hp⟩
theorem shp_TrmSS {xs : List A} (h : Shp (.sl (.sl tyTrm)) xs) : ∃ cs : List (List Trm), xs = [.sl false 1 (cs.map (encTs false))] ∧ cs.length ≤ Go.maxLen ∧ ∀ c ∈ cs, c.length ≤ Go.maxLen ∧ ∀ t ∈ c, t.n.length ≤ Go.maxLen :=
  shp_sl h fun y h1 h2 => by
    obtain ⟨v, hv, hp⟩ := shp_TrmS h1
    exact ⟨v, by rw [h2, hv]; rfl, hp⟩
theorem shp_i64S {xs : List A} (h : Shp (.sl (.int .i64)) xs) : ∃ cs : List Int, xs = [.sl false 1 (cs.map i64)] ∧ cs.length ≤ Go.maxLen := by
  obtain ⟨cs, h1, h2, _⟩ := shp_sl (f := i64) (p := fun _ => True) h fun y h1 h2 => by
    obtain ⟨v, hv⟩ := shp_i64 h1
    exact ⟨v, by rw [h2, hv]; rfl, trivial⟩
  exact ⟨cs, h1, h2⟩
theorem shp_Pck {xs : List A} (h : Shp tyPck xs) : ∃ v : Pck, xs = v.cells false ∧ v.Fit := by
  cases h with | st h =>
  cases h with | cons h1 h =>
  cases h with | cons h2 h =>
  cases h with | cons h3 h =>
  cases h with | cons h4 h =>
  cases h with | cons h5 h =>
  cases h with | cons h6 h =>
  cases h
  obtain ⟨n, rfl, hn⟩ := shp_str h1
  obtain ⟨v, rfl⟩ := shp_Ver h2
  obtain ⟨s, rfl⟩ := shp_i64 h3
  obtain ⟨p, rfl, hp⟩ := shp_strS h4
  obtain ⟨d, rfl, hd⟩ := shp_TrmSS h5
  obtain ⟨b, rfl, hb⟩ := shp_TrmS h6
  exact ⟨⟨n, v, s, p, d, b⟩, rfl, ⟨hn, hp, hd, hb⟩⟩
theorem shp_PckS {xs : List A} (h : Shp (.sl tyPck) xs) : ∃ cs : List Pck, xs = [.sl false 8 (cs.map (Pck.enc false))] ∧ cs.length ≤ Go.maxLen ∧ ∀ c ∈ cs, c.Fit :=
  shp_sl h fun y h1 h2 => by
    obtain ⟨v, hv, hp⟩ := shp_Pck h1
    exact ⟨v, by rw [h2, hv]; rfl, hp⟩
end Go.Proofs.YtomfmdfamlmfiaaGreat

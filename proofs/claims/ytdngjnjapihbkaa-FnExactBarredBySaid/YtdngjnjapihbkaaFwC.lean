/- Own slices taken out of own rows; rows made zero from a place on. Plain theorems, no condition. -/
import Derived.Test.YtdngjnjapihbkaaFwB
set_option linter.unusedVariables false
set_option linter.unusedSimpArgs false
namespace Go.Fw
theorem newElem_cells' {x : A} {q : Nat} {ys : List A} (hs : q + ys.length ≤ x.width) (hn : 0 < ys.length) (hok : ∀ y ∈ ys, y.cells = [y]) : (newElem x q ys).cells = x.cells.take q ++ ys ++ x.cells.drop (q + ys.length) := by
  cases x with
  | agg xs => rfl
  | _ =>
    simp only [A.width, A.cells, List.length_singleton] at hs
    obtain rfl : q = 0 := by omega
    have h1 : ys.length = 1 := by omega
    match ys, h1 with
    | [y], _ =>
      show y.cells = _
      rw [hok y (by simp)]
      simp [A.cells]
section
variable {P : Program} {E : Env} {G : Nat → Prop} {gs : Gh} {S : State} {w : World} {tmps : Array Value}
/-- Row r told otherwise: no write; it keeps its block, and gives up some of what it holds, or takes what is free. -/
theorem Inv.recast (hi : Inv E G gs S tmps w) {r : Nat} {row row' : Row} (hr : rowAt S.rows r = some row) (hn : row'.n = row.n) (hl : row'.xs.length = row.xs.length) {b : Nat} (hb : (gs r).1 = some b) {Fy F' R : List Nat}
    (hR : Res E G gs S.rows Fy) (hsub : ∀ c ∈ F' ++ R, c ∈ (gs r).2 ∨ c ∈ Fy) (hnd : (F' ++ R).Nodup) (hrel : RowRel w G S.rows gs row' (some b) F') :
    Inv E G (gs.add r (some b) F') (S.setRow r row') tmps w ∧ Res E G (gs.add r (some b) F') (S.setRow r row').rows R ∧
      ∀ x v, TRel w G S.rows gs x v [] → TRel w G (S.setRow r row').rows (gs.add r (some b) F') x v [] := by
  have hself : (gs.add r (some b) F') r = (some b, F') := by simp [Gh.add]
  have hgs : ∀ q, q ≠ r → (gs.add r (some b) F') q = gs q := fun q h => by simp [Gh.add, h]
  have hG : ∀ c, G c → G c ∧ w.heap[c]? = w.heap[c]? := fun c h => ⟨h, rfl⟩
  have hle : ∀ q, RowLe w w S.rows (S.setRow r row').rows gs (gs.add r (some b) F') q := fun q => ⟨fun row0 h0 => by
    by_cases hq : q = r
    · subst hq
      rw [hr] at h0
      obtain rfl := Option.some.inj h0
      exact ⟨row', by rw [rowAt_setRow hr, if_pos rfl], by rw [hself, hb], hn, hl, fun b' c' e' hb' hh' => ⟨c', e', hh', rfl⟩⟩
    · exact ⟨row0, by rw [rowAt_setRow hr, if_neg hq]; exact h0, by rw [hgs q hq], rfl, rfl, fun b' c' e' hb' hh' => ⟨c', e', hh', rfl⟩⟩⟩
  have hcase : ∀ q row0, rowAt (S.setRow r row').rows q = some row0 → (q = r ∧ row0 = row') ∨ (q ≠ r ∧ rowAt S.rows q = some row0) := fun q row0 h => by
    rw [rowAt_setRow hr] at h
    split at h
    · rename_i hh; exact .inl ⟨hh, (Option.some.inj h).symm⟩
    · rename_i hh; exact .inr ⟨hh, h⟩
  have hall : ∀ q, q ≠ r → (gs.add r (some b) F').all q = gs.all q := fun q h => by simp only [Gh.all, hgs q h]
  have hall0 : (gs.add r (some b) F').all r = b :: F' := by simp [Gh.all, hself]
  have hallr : gs.all r = b :: (gs r).2 := by simp [Gh.all, hb]
  have hin : ∀ c, c ∈ F' ++ R → c ∈ gs.all r ∨ c ∈ Fy := fun c hc => by
    rw [hallr]
    rcases hsub c hc with h | h
    · exact .inl (by simp [h])
    · exact .inr h
  have hnb : b ∉ F' ++ R := fun hc => by
    have hnod := hi.nod r row hr
    rw [hallr] at hnod
    rcases hsub b hc with h | h
    · exact (List.nodup_cons.1 hnod).1 h
    · exact hR.dis r row hr b (by rw [hallr]; simp) h
  rw [List.nodup_append] at hnd
  obtain ⟨n1, n2, n3⟩ := hnd
  have hown : ∀ c, c ∈ gs.all r ∨ c ∈ Fy → ¬ G c ∧ (E.Fin c ∨ E.w0.heap.size ≤ c) := fun c h => h.elim (hi.own r row hr c) (hR.own c)
  have hdis : ∀ q row0, q ≠ r → rowAt S.rows q = some row0 → ∀ c ∈ gs.all q, ¬ (c ∈ gs.all r ∨ c ∈ Fy) := fun q row0 hq h0 c hc h => by
    rcases h with h | h
    · exact hi.dis q r row0 row h0 hr hq c hc h
    · exact hR.dis q row0 h0 c hc h
  have h0 : ∀ c ∈ b :: F', c ∈ gs.all r ∨ c ∈ Fy := fun c hc => by
    rcases List.mem_cons.1 hc with rfl | hc
    · exact .inl (by rw [hallr]; simp)
    · exact hin c (by simp [hc])
  refine ⟨⟨hi.keep, hi.os, hi.tape, hi.output, hi.size, hi.sz, hi.gsub, hi.gnew, hi.glt, fun q row0 hq => ?_, fun q row0 hq => ?_, fun q row0 hq => ?_, fun q1 q2 row1 row2 h1 h2 hne => ?_, fun i => (hi.tmp i).step hG hle (by simp)⟩,
    ⟨n2, fun c hc => hown c (hin c (by simp [hc])), fun q row0 hq c hc hcR => ?_⟩, fun x v h => h.step hG hle (by simp)⟩
  · rcases hcase q row0 hq with ⟨rfl, rfl⟩ | ⟨hne, h⟩
    · rw [hself]; exact hrel.step hG hle (fun _ _ => rfl)
    · rw [hgs q hne]; exact (hi.row q row0 h).step hG hle (fun _ _ => rfl)
  · rcases hcase q row0 hq with ⟨rfl, rfl⟩ | ⟨hne, h⟩
    · rw [hall0]; exact List.nodup_cons.2 ⟨fun h => hnb (by simp [h]), n1⟩
    · rw [hall q hne]; exact hi.nod q row0 h
  · rcases hcase q row0 hq with ⟨rfl, rfl⟩ | ⟨hne, h⟩
    · rw [hall0]; exact fun c hc => hown c (h0 c hc)
    · rw [hall q hne]; exact hi.own q row0 h
  · rcases hcase q1 row1 h1 with ⟨rfl, rfl⟩ | ⟨m1, g1⟩ <;> rcases hcase q2 row2 h2 with ⟨rfl, rfl⟩ | ⟨m2, g2⟩
    · exact absurd rfl hne
    · rw [hall0, hall q2 m2]
      exact fun c hc hc2 => hdis q2 row2 m2 g2 c hc2 (h0 c hc)
    · rw [hall0, hall q1 m1]
      exact fun c hc hc2 => hdis q1 row1 m1 g1 c hc (h0 c hc2)
    · rw [hall q1 m1, hall q2 m2]; exact hi.dis q1 q2 row1 row2 g1 g2 hne
  · rcases hcase q row0 hq with ⟨rfl, rfl⟩ | ⟨hne, h⟩
    · rw [hall0] at hc
      rcases List.mem_cons.1 hc with rfl | hc
      · exact hnb (by simp [hcR])
      · exact n3 c hc c hcR rfl
    · rw [hall q hne] at hc
      exact hdis q row0 hne h c hc (hin c (by simp [hcR]))

/-- One cell of a row of data: what it holds is taken out of it. -/
theorem Inv.takeCell (hi : Inv E G gs S tmps w) {r j q : Nat} {row : Row} {y z : A} (hr : rowAt S.rows r = some row) (hlk : row.lk = false) (hy : row.xs[j]? = some y) (hz : y.cells[q]? = some z) :
    ∃ b cur e v F1 Fz F3, (gs r).1 = some b ∧ w.heap[b]? = some (.cells cur e (0, 0)) ∧ cur[j * row.n + q]? = some v ∧ Rel w G z v Fz ∧ (gs r).2 = F1 ++ (Fz ++ F3) ∧
      Inv E G (gs.add r (some b) (F1 ++ F3)) (S.setRow r ⟨row.n, row.xs.set j (newElem y q [.un]), false⟩) tmps w ∧
        Res E G (gs.add r (some b) (F1 ++ F3)) (S.setRow r ⟨row.n, row.xs.set j (newElem y q [.un]), false⟩).rows Fz := by
  have hj : j < row.xs.length := (List.getElem?_eq_some_iff.1 hy).1
  obtain ⟨b, hb, hrc⟩ := row_real hi hr (by omega)
  obtain ⟨cur, e, cap, h1, h2, h3, h4, h5, h6, h7⟩ := hrc.ex
  have hyw := h5 y (List.mem_of_getElem? hy)
  have hq : q < y.cells.length := (List.getElem?_eq_some_iff.1 hz).1
  unfold A.width at hyw
  have hle : (j + 1) * row.n ≤ row.xs.length * row.n := Nat.mul_le_mul_right _ hj
  rw [Nat.add_mul] at hle
  have hle2 : row.xs.length * row.n ≤ cap * row.n := Nat.mul_le_mul_right _ h3
  unfold CellsRel at h7
  rw [if_neg (by simp [hlk])] at h7
  obtain ⟨F1, F4, e1, k1, k2⟩ := h7.take_ (j * row.n + q)
  obtain ⟨Fz, F3, e2, k3, k4⟩ := k2.take_ 1
  rw [List.drop_drop] at k4
  have hseg := flat_seg h5 hy q 1 (by omega)
  have hseg2 : (y.cells.drop q).take 1 = [z] := by
    rw [List.drop_eq_getElem_cons hq]
    rw [List.getElem?_eq_getElem hq] at hz
    simp only [Option.some.injEq] at hz
    simp [hz]
  rw [hseg, hseg2] at k3
  obtain ⟨v, hv⟩ : ∃ v, cur[j * row.n + q]? = some v := ⟨_, Array.getElem?_eq_getElem (by omega)⟩
  have hvs : ((cur.toList.take (row.xs.length * row.n)).drop (j * row.n + q)).take 1 = [v] := by
    rw [List.drop_take, List.take_take, Nat.min_eq_left (by omega)]
    obtain ⟨hv1, hv2⟩ := Array.getElem?_eq_some_iff.1 hv
    rw [List.drop_eq_getElem_cons (by simpa using hv1)]
    simp [hv2]
  rw [hvs] at k3
  have hzv : Rel w G z v Fz := by
    generalize hu : [v] = us at k3
    cases k3 with
    | cons a c =>
      cases c
      cases hu
      simpa using a
  have hcv : cellV v = true := h6 v (by
    have : v ∈ ((cur.toList.take (row.xs.length * row.n)).drop (j * row.n + q)).take 1 := by rw [hvs]; simp
    exact List.mem_of_mem_drop (List.mem_of_mem_take this))
  subst e2
  have hcl := newElem_cells' (x := y) (q := q) (ys := [A.un]) (by unfold A.width; simp; omega) (by simp) (by simp [A.cells])
  have hflat := flat_set h5 hy (q := q) (ys := [A.un]) (by simp; omega) hcl
  have hnod := hi.nod r row hr
  rw [show gs.all r = b :: (F1 ++ (Fz ++ F3)) by simp [Gh.all, hb, e1]] at hnod
  have hnd := (List.nodup_cons.1 hnod).2
  obtain ⟨g1, g2, _⟩ := hi.recast (Fy := []) (row' := ⟨row.n, row.xs.set j (newElem y q [.un]), false⟩) hr rfl List.length_set hb Res.nil (R := Fz) (F' := F1 ++ F3) (fun c hc => by
    rw [e1]
    simp only [List.mem_append] at hc ⊢
    rcases hc with (h | h) | h
    · exact .inl (.inl h)
    · exact .inl (.inr (.inr h))
    · exact .inl (.inr (.inl h))) (by
    rw [List.nodup_append] at hnd ⊢
    obtain ⟨m1, m2, m3⟩ := hnd
    rw [List.nodup_append] at m2
    obtain ⟨m4, m5, m6⟩ := m2
    refine ⟨List.nodup_append.2 ⟨m1, m5, fun a ha c hc h => m3 a ha c (by simp [hc]) h⟩, m4, fun a ha c hc h => ?_⟩
    subst h
    rcases List.mem_append.1 ha with ha | ha
    · exact m3 a ha a (by simp [hc]) rfl
    · exact m6 a hc a ha rfl) (by
    refine ⟨cur, e, cap, h1, h2, by simpa using h3, h4, ?_, ?_, ?_⟩
    · intro u hu
      rcases List.mem_or_eq_of_mem_set hu with hu | rfl
      · exact h5 u hu
      · show (newElem y q [.un]).cells.length = row.n
        rw [hcl]; simp; omega
    · simpa using h6
    · show CellsRel false w G S.rows gs (flat (row.xs.set j (newElem y q [.un]))) (cur.toList.take ((row.xs.set j (newElem y q [.un])).length * row.n)) (F1 ++ F3)
      unfold CellsRel
      rw [if_neg (by simp), List.length_set, hflat]
      generalize cur.toList.take (row.xs.length * row.n) = l at hvs k1 k4
      generalize j * row.n + q = p at hvs k1 k4
      have hs1 : l.drop p = [v] ++ (l.drop p).drop 1 := by rw [← hvs, List.take_append_drop]
      have hs2 : l = l.take p ++ ([v] ++ (l.drop p).drop 1) := by rw [← hs1, List.take_append_drop]
      rw [List.append_assoc]
      have := k1.append ((RelL.cons (Rel.un hcv) .nil).append k4)
      rw [← hs2] at this
      simpa using this)
  exact ⟨b, cur, e, v, F1, Fz, F3, hb, h1, hv, hzv, e1, g1, g2⟩
/-- A load of an own slice in an own row: it is a row of its own then, and the cell is not known any more. -/
theorem opOK_take {o : Oper} {K : State → Prop} {t : TypeId} {x : Operand} {r j q n : Nat} {row : Row} {y : A} {ys : List A} (ho : o.op = .load t x) (he : ev S x = .pt r j q) (hr : rowAt S.rows r = some row) (hlk : row.lk = false)
    (hy : row.xs[j]? = some y) (ha : aggT P t = some false) (hz : y.cells[q]? = some (.sl true n ys))
    (hK : K (((S.setRow r ⟨row.n, row.xs.set j (newElem y q [.un]), false⟩).addRow ⟨n, ys, false⟩).put o.dst (.vw S.rows.length 0 ys.length))) : opOK P o S K := by
  intro E a w next Q hs hn
  obtain ⟨hd, G, gs, hi⟩ := hs
  have hx := ev_rel hi x rfl
  rw [he] at hx
  obtain ⟨row', b', hr', hb', hv'⟩ := pt_inv hx
  rw [hr] at hr'
  obtain rfl := Option.some.inj hr'
  obtain ⟨b, cur, e, v, F1, Fz, F3, hb, hh, hv, hrel, hF, hi1, hR1⟩ := hi.takeCell hr hlk hy hz
  rw [hb] at hb'
  obtain rfl := Option.some.inj hb'
  have hrun : (execOp a.eval o).run P w = .ok (.value v) w := by simp [execOp, ho, Instr.loadAt, hv', Instr.sureAddr, run_loadVar_cell ha hh hv]
  have hrl : r < S.rows.length := rowAt_lt hr
  have hl1 : (S.setRow r ⟨row.n, row.xs.set j (newElem y q [.un]), false⟩).rows.length = S.rows.length := by simp [State.setRow]
  have hstep : ∃ gs2, Inv E G gs2 ((S.setRow r ⟨row.n, row.xs.set j (newElem y q [.un]), false⟩).addRow ⟨n, ys, false⟩) a.tmps w ∧
      TRel w G ((S.setRow r ⟨row.n, row.xs.set j (newElem y q [.un]), false⟩).addRow ⟨n, ys, false⟩).rows gs2 (.vw S.rows.length 0 ys.length) v [] := by
    have hrow : rowAt ((S.setRow r ⟨row.n, row.xs.set j (newElem y q [.un]), false⟩).addRow ⟨n, ys, false⟩).rows S.rows.length = some ⟨n, ys, false⟩ := by
      show rowAt ((S.setRow r ⟨row.n, row.xs.set j (newElem y q [.un]), false⟩).rows ++ [some ⟨n, ys, false⟩]) S.rows.length = _
      rw [rowAt_push, if_pos hl1.symm]
    have hself : ∀ ob F, ((gs.add r (some b) (F1 ++ F3)).add (S.setRow r ⟨row.n, row.xs.set j (newElem y q [.un]), false⟩).rows.length ob F) S.rows.length = (ob, F) := fun ob F => by
      simp [Gh.add, hl1]
    have hlt : ∀ c ∈ Fz ++ [], c < w.heap.size := fun c hc => hrel.lt c (by simpa using hc)
    have hR1' : Res E G (gs.add r (some b) (F1 ++ F3)) (S.setRow r ⟨row.n, row.xs.set j (newElem y q [.un]), false⟩).rows (Fz ++ []) := by rw [List.append_nil]; exact hR1
    cases hrel with
    | nils =>
      have := adopt_res (ob := none) (F := []) hi1 hR1' hlt rfl (row := ⟨n, [], false⟩) (fun _ _ => ⟨rfl, rfl⟩)
      exact ⟨_, this.inv, .vwn hrow (by rw [hself]) rfl⟩
    | ow hh2 hw hlen hc hl hcap hm hs hv0 =>
      rename_i b2 len cap cur2 e2 cs F
      subst hlen
      subst hc
      have := adopt_res (ob := some b2) (F := F) hi1 hR1' hlt rfl (row := ⟨n, ys, false⟩) (fun rows' gs' => ⟨cur2, e2, cap, hh2, hs, hcap, hm, hw, hv0, hl⟩)
      refine ⟨_, this.inv, ?_⟩
      have hv := TRel.vw (w := w) (G := G) (gs := (gs.add r (some b) (F1 ++ F3)).add (S.setRow r ⟨row.n, row.xs.set j (newElem y q [.un]), false⟩).rows.length (some b2) F) (off := 0) (len := ys.length) (k := 0) hrow (by rw [hself]) (by simp) hh2 hs hm hcap (.inl (by simp))
      simpa using hv
  obtain ⟨gs2, hi2, hvw⟩ := hstep
  unfold Oper.wp
  rw [hrun]
  exact hn _ _ _ hK ⟨by rw [put_defers]; exact hd, G, _, hi2.put hvw o.dst⟩
def isAggB : A → Bool
  | .agg _ => true
  | _ => false
def isAggV : Value → Bool
  | .agg _ => true
  | _ => false
theorem setRow_same {r : Nat} {row : Row} (hr : rowAt S.rows r = some row) : S.setRow r row = S := by
  unfold State.setRow
  have hl := rowAt_lt hr
  have : S.rows[r]? = some (some row) := by
    unfold rowAt at hr
    cases h : S.rows[r]? with
    | none => rw [h] at hr; simp at hr
    | some x => rw [h] at hr; simp only [Option.getD_some] at hr; rw [hr]
  have e : S.rows.set r (some row) = S.rows := by
    apply List.ext_getElem?
    intro i
    by_cases hi : i = r
    · subst hi; rw [List.getElem?_set_self hl, this]
    · rw [List.getElem?_set_ne (Ne.symm hi)]
  rw [e]
/-- The last m elements of a row become z. -/
theorem Inv.fill1 (hi : Inv E G gs S tmps w) {r : Nat} {row : Row} (hr : rowAt S.rows r = some row) (hlk : row.lk = false) (hn : row.n = 1) {b : Nat} (hb : (gs r).1 = some b) {z : A} {v : Value} (hz : ∀ w G, Rel w G z v []) (hzc : okCell z = true)
    {cur : Array Value} {e : TypeId} (hcur : w.heap[b]? = some (.cells cur e (0, 0))) (hsz : row.xs.length ≤ cur.size) (hna : ∀ y ∈ row.xs, isAggB y = false) :
    ∀ (m off : Nat), off + m = row.xs.length → ∃ F', Inv E G (gs.add r (some b) F') (S.setRow r { row with xs := row.xs.take off ++ List.replicate m z }) tmps
      (w.setRow b (cur.toList.take off ++ List.replicate m v ++ cur.toList.drop (off + m)).toArray)
  | 0, off, h => by
    refine ⟨(gs r).2, ?_⟩
    have e1 : ({ row with xs := row.xs.take off ++ List.replicate 0 z } : Row) = row := by
      have : row.xs.take off = row.xs := List.take_of_length_le (by omega)
      simp [this]
    rw [e1, setRow_same hr, ← hb, Gh.add_self]
    simp only [List.replicate_zero, List.append_nil, Nat.add_zero, List.take_append_drop, Array.toArray_toList]
    rw [setRow_self w b cur e (0, 0) hcur]
    exact hi
  | m + 1, off, h => by
    obtain ⟨F1, h1⟩ := Inv.fill1 hi hr hlk hn hb hz hzc hcur hsz hna m (off + 1) (by omega)
    generalize hrow1 : ({ row with xs := row.xs.take (off + 1) ++ List.replicate m z } : Row) = row1 at h1
    have hr1 : rowAt (S.setRow r row1).rows r = some row1 := by rw [rowAt_setRow hr, if_pos rfl]
    have hx1 : row1.xs = row.xs.take (off + 1) ++ List.replicate m z := by rw [← hrow1]
    have hn1 : row1.n = 1 := by rw [← hrow1]; exact hn
    have hlk1 : row1.lk = false := by rw [← hrow1]; exact hlk
    have hoff : off < row.xs.length := by omega
    have hy : row1.xs[off]? = some row.xs[off] := by
      rw [hx1, List.getElem?_append_left (by simp; omega), List.getElem?_take_of_lt (by omega), List.getElem?_eq_getElem hoff]
    obtain ⟨b2, cur2, e2, F2, g1, g2, g3, g4⟩ := h1.store (Fy := []) (ys := [z]) (vs := [v]) (q := 0) Res.nil (by simp) hr1 hy (by rw [hn1]; simp) (by simp)
      (by unfold CellsRel; rw [if_neg (by simp [hlk1])]; exact .cons (F := []) (Fs := []) (hz _ _) .nil) (by simpa using hzc)
    have hb2 : b2 = b := by simp [Gh.add] at g1; exact g1.symm
    subst hb2
    have hc2 := setRow_heap w b2 cur (cur.toList.take (off + 1) ++ List.replicate m v ++ cur.toList.drop (off + 1 + m)).toArray e _ hcur
    rw [g2] at hc2
    simp only [Option.some.injEq, Obj.cells.injEq] at hc2
    obtain ⟨hc2, _⟩ := hc2
    have hne : newElem row.xs[off] 0 [z] = z := by
      have := hna row.xs[off] (List.getElem_mem hoff)
      revert this
      generalize row.xs[off] = u
      intro this
      cases u <;> first | rfl | (simp [isAggB] at this)
    have hset : ({ row1 with xs := row1.xs.set off (newElem row.xs[off] 0 [z]) } : Row) = { row with xs := row.xs.take off ++ List.replicate (m + 1) z } := by
      rw [hne, ← hrow1]
      simp only [Row.mk.injEq, true_and, and_true]
      apply List.ext_getElem?
      intro i
      by_cases hi : i = off
      · subst hi
        rw [List.getElem?_set_self (by simp; omega), List.getElem?_append_right (by simp; omega)]
        simp [Nat.min_eq_left (Nat.le_of_lt hoff), List.getElem?_replicate]
      · rw [List.getElem?_set_ne (Ne.symm hi)]
        rcases Nat.lt_or_ge i off with h | h
        · rw [List.getElem?_append_left (by simp; omega), List.getElem?_append_left (by simp; omega), List.getElem?_take_of_lt (by omega), List.getElem?_take_of_lt (by omega)]
        · rw [List.getElem?_append_right (by simp; omega), List.getElem?_append_right (by simp; omega)]
          simp only [List.getElem?_replicate, List.length_take, Nat.min_eq_left (by omega : off + 1 ≤ row.xs.length), Nat.min_eq_left (by omega : off ≤ row.xs.length)]
          by_cases h2 : i - (off + 1) < m
          · rw [if_pos h2, if_pos (by omega)]
          · rw [if_neg h2, if_neg (by omega)]
    have hgs : (gs.add r (some b2) F1).add r (some b2) F2 = gs.add r (some b2) F2 := by
      funext i; simp only [Gh.add]; split <;> rfl
    have hst : (S.setRow r row1).setRow r { row1 with xs := row1.xs.set off (newElem row.xs[off] 0 [z]) } = S.setRow r { row with xs := row.xs.take off ++ List.replicate (m + 1) z } := by
      rw [hset]; simp [State.setRow, List.set_set]
    refine ⟨F2, ?_⟩
    rw [hst, hgs, setRow_setRow] at g4
    have hw : (cur2.toList.take (off * row1.n + 0) ++ [v] ++ cur2.toList.drop (off * row1.n + 0 + [v].length)) = cur.toList.take off ++ List.replicate (m + 1) v ++ cur.toList.drop (off + (m + 1)) := by
      rw [hn1, hc2]
      simp only [Nat.mul_one, Nat.add_zero, List.length_singleton]
      have hl : off < cur.toList.length := by simp; omega
      have t1 : (cur.toList.take (off + 1) ++ List.replicate m v ++ cur.toList.drop (off + 1 + m)).take off = cur.toList.take off := by
        rw [List.append_assoc, List.take_append_of_le_length (by simp; omega), List.take_take, Nat.min_eq_left (by omega)]
      have t2 : (cur.toList.take (off + 1) ++ List.replicate m v ++ cur.toList.drop (off + 1 + m)).drop (off + 1) = List.replicate m v ++ cur.toList.drop (off + 1 + m) := by
        have hl1 : (cur.toList.take (off + 1)).length = off + 1 := by simp; omega
        rw [List.append_assoc]
        exact List.drop_left' hl1
      rw [t1, t2, List.replicate_succ, show off + (m + 1) = off + 1 + m by omega]
      simp
    rw [hw] at g4
    exact g4
theorem zeroCells_one (v : Value) (n : Nat) : (Builtin.zeroCells #[v] n).toList = List.replicate n v := by
  unfold Builtin.zeroCells
  apply List.ext_getElem?
  intro i
  simp [List.getElem?_replicate]
  by_cases h : i < n
  · rw [if_pos h, List.getElem?_range h]; simp [Nat.mod_one]
  · rw [if_neg h, List.getElem?_eq_none (by simp; omega)]; rfl
theorem opOK_clear {o : Oper} {K : State → Prop} {t e : TypeId} {x : Operand} {r off len : Nat} {row : Row} {z : Value} (ho : o.op = .call { callee := .builtin .clear, args := [x].toArray, argTypes := [t].toArray }) (he : ev S x = .vw r off len) (hr : rowAt S.rows r = some row)
    (hlk : row.lk = false) (hn : row.n = 1) (hl : off + len = row.xs.length) (hna : ∀ y ∈ row.xs, isAggB y = false) (ht : elemT P t = some e) (hz : zeroT P e = some z) (hzv : okV z = true) (hza : isAggV z = false)
    (hK : K ((S.setRow r ⟨row.n, row.xs.take off ++ List.replicate len (cellA z), false⟩).put o.dst (.tup []))) : opOK P o S K := by
  intro E a w next Q hs hn'
  obtain ⟨hd, G, gs, hi⟩ := hs
  have hx := ev_rel hi x rfl
  rw [he] at hx
  have hu := elemT_inv ht
  have hzc : z.cells = #[z] := by cases z <;> first | rfl | (simp [isAggV] at hza)
  have hcz : cellV z = true := by cases z <;> first | rfl | (simp [isAggV] at hza; done) | (simp [okV] at hzv; done)
  have hrow : (⟨row.n, row.xs.take off ++ List.replicate len (cellA z), false⟩ : Row) = { row with xs := row.xs.take off ++ List.replicate len (cellA z) } := by cases row; simp at hlk; subst hlk; rfl
  have htup : ∀ (w : World) rows gs, TRel w G rows gs (.tup []) (.tuple #[]) [] := fun w rows gs => TRel.tup (cs := []) .nil
  have hokz : okCell (cellA z) = true := by unfold cellA; split <;> rfl
  rcases vw_inv hx with ⟨row', k, cap, cur, et, b, hr', hob, g1, g2, g3, g4, g5, g6, hv⟩ | ⟨row', hr', hob, hx0, ho0, hlen, hv⟩
  · rw [hr] at hr'
    obtain rfl := Option.some.inj hr'
    rw [hn, Nat.mul_one] at g3 g6
    obtain ⟨F', hi2⟩ := hi.fill1 hr hlk hn hob (fun w G => rel_cellA hcz) hokz g2 (by omega) hna len off hl
    have hrun : (execOp a.eval o).run P w = .ok (.value (.tuple #[])) (w.setRow b (cur.toList.take off ++ List.replicate len z ++ cur.toList.drop (off + len)).toArray) := by
      rcases Nat.eq_zero_or_pos len with h0 | h0
      · subst h0
        simp only [List.replicate_zero, List.append_nil, Nat.add_zero, List.take_append_drop, Array.toArray_toList]
        rw [setRow_self w b cur et (0, 0) g2]
        simp [execOp, ho, resolve, invoke, builtin, hv, Builtin.clear_, run_underlying hu]
      · have hk : k = off := by rcases g6 with g | g <;> omega
        subst hk
        obtain ⟨l', rfl⟩ : ∃ l', len = l' + 1 := ⟨len - 1, by omega⟩
        have hst := run_storeCells_at P b k et (List.replicate (l' + 1) z) 0 cur w g2 (by simp; omega) (by intro v hv; rw [(List.mem_replicate.1 hv).2]; exact hcz)
        simp only [Nat.add_zero, List.length_replicate] at hst
        have hzr := run_zero hz w
        have hzl : (Builtin.zeroCells z.cells (l' + 1)).toList = List.replicate (l' + 1) z := by rw [hzc, zeroCells_one]
        simp [execOp, ho, resolve, invoke, builtin, hv, Builtin.clear_, run_underlying hu, hzr, hzl, hst]
    unfold Oper.wp
    rw [hrun]
    rw [hrow] at hK
    exact hn' _ _ _ hK ⟨by rw [put_defers]; exact hd, G, _, Inv.put (S := S.setRow r _) hi2 (htup _ _ _) o.dst⟩
  · rw [hr] at hr'
    obtain rfl := Option.some.inj hr'
    subst ho0
    subst hlen
    have hsame : (⟨row.n, row.xs.take 0 ++ List.replicate 0 (cellA z), false⟩ : Row) = row := by cases row; simp at hlk hx0; subst hlk; subst hx0; rfl
    rw [hsame, setRow_same hr] at hK
    have hrun : (execOp a.eval o).run P w = .ok (.value (.tuple #[])) w := by
      simp [execOp, ho, resolve, invoke, builtin, hv, Builtin.clear_, run_underlying hu]
    unfold Oper.wp
    rw [hrun]
    exact hn' _ _ _ hK ⟨by rw [put_defers]; exact hd, G, gs, hi.put (htup _ _ _) o.dst⟩
end
end Go.Fw

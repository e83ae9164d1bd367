/- Stores. Plain theorems, no condition. -/
import Derived.Test.YtdngjnjapihbkaaFw10
set_option linter.unusedVariables false
set_option linter.unusedSimpArgs false
namespace Go.Fw

def newElem (x : A) (q : Nat) (ys : List A) : A :=
  match x with
  | .agg xs => .agg (xs.take q ++ ys ++ xs.drop (q + ys.length))
  | _ => ys.headD .un
theorem newElem_cells {x : A} {q : Nat} {ys : List A} (hs : q + ys.length ≤ x.width) (hn : 0 < ys.length) (hok : ∀ y ∈ ys, okCell y = true) : (newElem x q ys).cells = x.cells.take q ++ ys ++ x.cells.drop (q + ys.length) := by
  cases x with
  | agg xs => rfl
  | _ =>
    simp only [A.width, A.cells, List.length_singleton] at hs
    obtain rfl : q = 0 := by omega
    have h1 : ys.length = 1 := by omega
    match ys, h1 with
    | [y], _ =>
      show y.cells = _
      rw [okCell_cells (hok y (by simp))]
      simp [A.cells]
theorem flat_set {n : Nat} {xs : List A} (hw : ∀ x ∈ xs, x.width = n) {j : Nat} {x y : A} (hx : xs[j]? = some x) {q : Nat} {ys : List A} (hs : q + ys.length ≤ n)
    (hy : y.cells = x.cells.take q ++ ys ++ x.cells.drop (q + ys.length)) :
    flat (xs.set j y) = (flat xs).take (j * n + q) ++ ys ++ (flat xs).drop (j * n + q + ys.length) := by
  have hj : j < xs.length := by
    rcases Nat.lt_or_ge j xs.length with h | h
    · exact h
    · rw [List.getElem?_eq_none h] at hx; simp at hx
  have hxe : xs[j] = x := by
    rw [List.getElem?_eq_getElem hj] at hx
    exact Option.some.inj hx
  have e1 : xs = xs.take j ++ x :: xs.drop (j + 1) := by
    conv => lhs; rw [← List.take_append_drop j xs, List.drop_eq_getElem_cons hj, hxe]
  have e2 : xs.set j y = xs.take j ++ y :: xs.drop (j + 1) := by rw [List.set_eq_take_append_cons_drop, if_pos hj]
  have hl : (flat (xs.take j)).length = j * n := by rw [flat_length (n := n) fun z hz => hw z (List.mem_of_mem_take hz)]; simp; rw [Nat.min_eq_left (by omega)]
  have hxw := hw x (List.mem_of_getElem? hx)
  unfold A.width at hxw
  have e3 : flat xs = flat (xs.take j) ++ (x.cells ++ flat (xs.drop (j + 1))) := by
    conv => lhs; rw [e1, flat_append, flat_cons]
  rw [e2, flat_append, flat_cons, e3, hy, ← hl, List.take_length_add_append, Nat.add_assoc, List.drop_length_add_append, List.take_append_of_le_length (by omega), List.drop_append_of_le_length (by omega)]
  simp only [List.append_assoc]

section
variable {P : Program} {E : Env} {G : Nat → Prop} {gs : Gh} {S : State} {a : Act} {w : World} {tmps : Array Value}

theorem CellsRel.t {lk : Bool} {rows : List (Option Row)} {xs : List A} {vs : List Value} {F : List Nat} (h : CellsRel lk w G rows gs xs vs F) : TRelL w G rows gs xs vs F := by
  unfold CellsRel at h
  split at h
  · exact h
  · exact .of h
theorem CellsRel.seg {lk : Bool} {rows : List (Option Row)} {xs ys : List A} {vs us : List Value} {F Fy : List Nat} (h : CellsRel lk w G rows gs xs vs F) (hy : CellsRel lk w G rows gs ys us Fy) (k : Nat) (hk : k + ys.length ≤ xs.length) :
    ∃ F1 F2 F3, F = F1 ++ (F2 ++ F3) ∧ CellsRel lk w G rows gs (xs.take k ++ ys ++ xs.drop (k + ys.length)) (vs.take k ++ us ++ vs.drop (k + us.length)) (F1 ++ (Fy ++ F3)) := by
  have hyl : us.length = ys.length := hy.t.length
  unfold CellsRel at h hy ⊢
  split
  · rename_i hl
    rw [if_pos hl] at h hy
    obtain ⟨F1, F4, e1, h1, h2⟩ := h.take_ k
    obtain ⟨F2, F3, e2, h3, h4⟩ := h2.take_ ys.length
    rw [List.drop_drop, List.drop_drop] at h4
    refine ⟨F1, F2, F3, by rw [e1, e2], ?_⟩
    rw [List.append_assoc, List.append_assoc, hyl]
    exact h1.append (hy.append h4)
  · rename_i hl
    rw [if_neg hl] at h hy
    obtain ⟨F1, F4, e1, h1, h2⟩ := h.take_ k
    obtain ⟨F2, F3, e2, h3, h4⟩ := h2.take_ ys.length
    rw [List.drop_drop, List.drop_drop] at h4
    refine ⟨F1, F2, F3, by rw [e1, e2], ?_⟩
    rw [List.append_assoc, List.append_assoc, hyl]
    exact h1.append (hy.append h4)
theorem rowAt_setRow {q r : Nat} {row x : Row} (hq : rowAt S.rows q = some row) : rowAt (S.setRow q x).rows r = if r = q then some x else rowAt S.rows r := by
  show rowAt (S.rows.set q (some x)) r = _
  rw [rowAt_set _ _ _ _ (rowAt_lt hq)]

theorem Inv.store (hi : Inv E G gs S tmps w) {Fy : List Nat} (hR : Res E G gs S.rows Fy) (hRlt : ∀ b ∈ Fy, b < w.heap.size) {r j q : Nat} {row : Row} {x : A} {ys : List A} {vs : List Value} (hr : rowAt S.rows r = some row) (hx : row.xs[j]? = some x)
    (hs : q + ys.length ≤ row.n) (hn : 0 < ys.length) (hy : CellsRel row.lk w G S.rows gs ys vs Fy) (hok : ∀ y ∈ ys, okCell y = true) :
    ∃ b cur e F', (gs r).1 = some b ∧ w.heap[b]? = some (.cells cur e (0, 0)) ∧ j * row.n + q + vs.length ≤ cur.size ∧
      Inv E G (gs.add r (some b) F') (S.setRow r { row with xs := row.xs.set j (newElem x q ys) }) tmps (w.setRow b (cur.toList.take (j * row.n + q) ++ vs ++ cur.toList.drop (j * row.n + q + vs.length)).toArray) := by
  have hj : j < row.xs.length := by
    rcases Nat.lt_or_ge j row.xs.length with h | h
    · exact h
    · rw [List.getElem?_eq_none h] at hx; simp at hx
  obtain ⟨b, hb, hrc⟩ := row_real hi hr (by omega)
  obtain ⟨cur, e, cap, h1, h2, h3, h4, h5, h6, h7⟩ := hrc.ex
  have hvl : vs.length = ys.length := hy.t.length
  have hxw := h5 x (List.mem_of_getElem? hx)
  have hfl := flat_length h5
  have hle : (j + 1) * row.n ≤ row.xs.length * row.n := Nat.mul_le_mul_right _ hj
  rw [Nat.add_mul] at hle
  have hle2 : row.xs.length * row.n ≤ cap * row.n := Nat.mul_le_mul_right _ h3
  have hcl := newElem_cells (x := x) (q := q) (ys := ys) (by omega) hn hok
  have hflat := flat_set h5 hx hs hcl
  obtain ⟨F1, F2, F3, hF, h8⟩ := h7.seg hy (j * row.n + q) (by rw [hfl]; omega)
  rw [← hflat] at h8
  -- the cells as they stand now
  have hcs : (cur.toList.take (row.xs.length * row.n)).take (j * row.n + q) ++ vs ++ (cur.toList.take (row.xs.length * row.n)).drop (j * row.n + q + vs.length) =
      (cur.toList.take (j * row.n + q) ++ vs ++ cur.toList.drop (j * row.n + q + vs.length)).take (row.xs.length * row.n) := by
    have hl1 : (cur.toList.take (j * row.n + q)).length = j * row.n + q := by simp; omega
    rw [List.take_take, Nat.min_eq_left (by omega), List.append_assoc, List.append_assoc, List.take_append, List.take_of_length_le (l := cur.toList.take (j * row.n + q)) (by omega), hl1, List.take_append, List.take_of_length_le (l := vs) (by omega),
      List.drop_take, Nat.sub_sub]
  rw [hcs] at h8
  generalize hcur' : (cur.toList.take (j * row.n + q) ++ vs ++ cur.toList.drop (j * row.n + q + vs.length)).toArray = cur'
  have hcl' : cur'.toList = cur.toList.take (j * row.n + q) ++ vs ++ cur.toList.drop (j * row.n + q + vs.length) := by rw [← hcur']
  have hsz : cur'.size = cur.size := by
    have := congrArg List.length hcl'
    simp at this
    omega
  rw [← hcl'] at h8
  have hbig : j * row.n + q + vs.length ≤ cur.size := by omega
  refine ⟨b, cur, e, F1 ++ (Fy ++ F3), hb, h1, hbig, ?_⟩
  rw [hcur']
  have hnew : (w.setRow b cur').heap[b]? = some (.cells cur' e (0, 0)) := setRow_heap w b cur cur' e _ h1
  have hold : ∀ k, k ≠ b → (w.setRow b cur').heap[k]? = w.heap[k]? := fun k hk => setRow_other w b k cur' hk
  have hball : b ∈ gs.all r := by simp [Gh.all, hb]
  have hG : ∀ c, G c → G c ∧ (w.setRow b cur').heap[c]? = w.heap[c]? := fun c hc => ⟨hc, hold c fun h => by subst h; exact (hi.own r row hr c hball).1 hc⟩
  have hgs : ∀ r', r' ≠ r → (gs.add r (some b) (F1 ++ (Fy ++ F3))) r' = gs r' := fun r' h => by simp [Gh.add, h]
  have hself : (gs.add r (some b) (F1 ++ (Fy ++ F3))) r = (some b, F1 ++ (Fy ++ F3)) := by simp [Gh.add]
  have hle' : ∀ r', RowLe w (w.setRow b cur') S.rows (S.setRow r { row with xs := row.xs.set j (newElem x q ys) }).rows gs (gs.add r (some b) (F1 ++ (Fy ++ F3))) r' := fun r' => ⟨fun row' hr' => by
    by_cases hrr : r' = r
    · subst hrr
      rw [hr] at hr'
      obtain rfl := Option.some.inj hr'
      refine ⟨{ row with xs := row.xs.set j (newElem x q ys) }, by rw [rowAt_setRow hr, if_pos rfl], by rw [hself, hb], rfl, by simp, fun b' c' e' hb' hh' => ?_⟩
      rw [hb] at hb'
      obtain rfl := Option.some.inj hb'
      rw [h1] at hh'
      simp only [Option.some.injEq, Obj.cells.injEq] at hh'
      obtain ⟨rfl, rfl, _⟩ := hh'
      exact ⟨cur', e, hnew, hsz⟩
    · refine ⟨row', by rw [rowAt_setRow hr, if_neg hrr]; exact hr', by rw [hgs r' hrr], rfl, rfl, fun b' c' e' hb' hh' => ⟨c', e', ?_, rfl⟩⟩
      rw [hold b' fun h => ?_]
      · exact hh'
      · subst h
        exact hi.dis r' r row' row hr' hr hrr b' (by simp [Gh.all, hb']) hball⟩
  have hcase : ∀ r' row', rowAt (S.setRow r { row with xs := row.xs.set j (newElem x q ys) }).rows r' = some row' → (r' = r ∧ row' = { row with xs := row.xs.set j (newElem x q ys) }) ∨ (r' ≠ r ∧ rowAt S.rows r' = some row') := fun r' row' h => by
    rw [rowAt_setRow hr] at h
    split at h
    · rename_i hh; exact .inl ⟨hh, (Option.some.inj h).symm⟩
    · rename_i hh; exact .inr ⟨hh, h⟩
  have hall0 : (gs.add r (some b) (F1 ++ (Fy ++ F3))).all r = b :: (F1 ++ (Fy ++ F3)) := by simp [Gh.all, hself]
  have hall : ∀ r', r' ≠ r → (gs.add r (some b) (F1 ++ (Fy ++ F3))).all r' = gs.all r' := fun r' h => by simp only [Gh.all, hgs r' h]
  have hallr : gs.all r = b :: (F1 ++ (F2 ++ F3)) := by simp [Gh.all, hb, hF]
  have hnodr := hi.nod r row hr
  rw [hallr] at hnodr
  have hsub : ∀ c ∈ b :: (F1 ++ (Fy ++ F3)), c ∈ gs.all r ∨ c ∈ Fy := fun c hc => by
    rw [hallr]
    simp only [List.mem_cons, List.mem_append] at hc ⊢
    rcases hc with h | h | h | h
    · exact .inl (.inl h)
    · exact .inl (.inr (.inl h))
    · exact .inr h
    · exact .inl (.inr (.inr (.inr h)))
  have hdisF : ∀ c ∈ gs.all r, c ∉ Fy := hR.dis r row hr
  have hbF : ∀ c ∈ F1 ++ (Fy ++ F3), c ≠ b := fun c hc h => by
    subst h
    simp only [List.nodup_cons, List.mem_append] at hnodr
    simp only [List.mem_append] at hc
    rcases hc with h | h | h
    · exact hnodr.1 (.inl h)
    · exact hdisF _ hball h
    · exact hnodr.1 (.inr (.inr h))
  refine ⟨fun c hc hf => ?_, hi.os, hi.tape, hi.output, by simp; exact hi.size, hi.sz, hi.gsub, hi.gnew, fun c hc => by simp; exact hi.glt c hc, fun r' row' hr' => ?_, fun r' row' hr' => ?_, fun r' row' hr' => ?_, fun r1 r2 row1 row2 hr1 hr2 hne => ?_, fun i => (hi.tmp i).step hG hle' (by simp)⟩
  · rw [hold c fun h => ?_]
    · exact hi.keep c hc hf
    · subst h
      rcases (hi.own r row hr c hball).2 with h | h
      · exact hf h
      · omega
  · rcases hcase r' row' hr' with ⟨rfl, rfl⟩ | ⟨hne, hr0⟩
    · rw [hself]
      refine ⟨cur', e, cap, hnew, by rw [hsz]; exact h2, by simpa using h3, h4, ?_, ?_, ?_⟩
      · intro z hz
        rcases List.mem_or_eq_of_mem_set hz with hz | rfl
        · exact h5 z hz
        · show (newElem x q ys).cells.length = row.n
          rw [hcl]
          unfold A.width at hxw
          simp
          omega
      · have hv1 := okCells_v hy.t (List.all_eq_true.2 hok)
        intro v hv
        simp only [List.length_set] at hv
        rw [hcl', ← hcs] at hv
        rcases List.mem_append.1 hv with hv | hv
        · rcases List.mem_append.1 hv with hv | hv
          · exact h6 v (List.mem_of_mem_take hv)
          · exact hv1 v hv
        · exact h6 v (List.mem_of_mem_drop hv)
      · simp only [List.length_set]
        unfold CellsRel at h8 ⊢
        have hF' : ∀ c ∈ F1 ++ (Fy ++ F3), (w.setRow b cur').heap[c]? = w.heap[c]? := fun c hc => hold c (hbF c hc)
        split
        · rename_i hl; rw [if_pos hl] at h8; exact h8.step hG hle' hF'
        · rename_i hl; rw [if_neg hl] at h8; exact h8.move_ hG hF'
    · rw [hgs r' hne]
      exact (hi.row r' row' hr0).step hG hle' fun c hc => hold c fun h => by subst h; exact hi.dis r' r row' row hr0 hr hne c hc hball
  · rcases hcase r' row' hr' with ⟨rfl, rfl⟩ | ⟨hne, hr0⟩
    · rw [hall0]
      refine List.nodup_cons.2 ⟨fun h => hbF _ h rfl, ?_⟩
      have hnd := (List.nodup_cons.1 hnodr).2
      rw [List.nodup_append] at hnd ⊢
      obtain ⟨n1, n2, n3⟩ := hnd
      rw [List.nodup_append] at n2
      refine ⟨n1, List.nodup_append.2 ⟨hR.nod, n2.2.1, fun c hc d hd h => ?_⟩, fun c hc d hd h => ?_⟩
      · subst h; exact hdisF c (by rw [hallr]; simp [hd]) hc
      · subst h
        rcases List.mem_append.1 hd with hd | hd
        · exact hdisF c (by rw [hallr]; simp [hc]) hd
        · exact n3 c hc c (by simp [hd]) rfl
    · rw [hall r' hne]; exact hi.nod r' row' hr0
  · rcases hcase r' row' hr' with ⟨rfl, rfl⟩ | ⟨hne, hr0⟩
    · rw [hall0]
      intro c hc
      rcases hsub c hc with h | h
      · exact hi.own r' row hr c h
      · exact hR.own c h
    · rw [hall r' hne]; exact hi.own r' row' hr0
  · rcases hcase r1 row1 hr1 with ⟨rfl, rfl⟩ | ⟨n1, g1⟩ <;> rcases hcase r2 row2 hr2 with ⟨rfl, rfl⟩ | ⟨n2, g2⟩
    · exact absurd rfl hne
    · rw [hall0, hall r2 n2]
      intro c hc hc2
      rcases hsub c hc with h | h
      · exact hi.dis r1 r2 row row2 hr g2 hne c h hc2
      · exact hR.dis r2 row2 g2 c hc2 h
    · rw [hall0, hall r1 n1]
      intro c hc hc2
      rcases hsub c hc2 with h | h
      · exact hi.dis r1 r2 row1 row g1 hr hne c hc h
      · exact hR.dis r1 row1 g1 c hc h
    · rw [hall r1 n1, hall r2 n2]
      exact hi.dis r1 r2 row1 row2 g1 g2 hne

theorem opOK_store {o : Oper} {K : State → Prop} {t : TypeId} {x y : Operand} {r j q s : Nat} {row : Row} {z : A} (ho : o.op = .store t x y) (hx : okO x = true) (hy : okO y = true) (he : ev S x = .pt r j q) (hr : rowAt S.rows r = some row)
    (hlk : row.lk = true) (hz : row.xs[j]? = some z) (hs : szT P t = some s) (hsl : (ev S y).cells.length = s) (hsp : 0 < s) (hq : q + s ≤ row.n) (hok : (ev S y).cells.all okCell = true)
    (hK : K ((S.setRow r { row with xs := row.xs.set j (newElem z q (ev S y).cells) }).put o.dst .un)) : opOK P o S K := by
  intro E a w next Q hss hn
  obtain ⟨hd, G, gs, hi⟩ := hss
  have h1 := ev_rel hi x hx
  rw [he] at h1
  obtain ⟨row', b, hr', hb, hv⟩ := pt_inv h1
  rw [hr] at hr'
  obtain rfl := Option.some.inj hr'
  have h2 := cells_rel (ev_rel hi y hy) hok
  obtain ⟨b', cur, e, F', hb', hh, hle, hinv⟩ := hi.store (Fy := []) Res.nil (by simp) (j := j) (q := q) (ys := (ev S y).cells) (vs := (a.eval y).cells.toList) hr hz (by omega) (by omega) (by unfold CellsRel; rw [if_pos hlk]; exact h2) (List.all_eq_true.1 hok)
  rw [hb] at hb'
  obtain rfl := Option.some.inj hb'
  have hcv := okCells_v h2 hok
  have hst := run_storeCells_at P b (j * row.n + q) e (a.eval y).cells.toList 0 cur w hh (by simpa using hle) hcv
  have hsz : (a.eval y).cells.size = s := by have := h2.length; simp at this; omega
  have hrun : (execOp a.eval o).run P w = .ok .skip (w.setRow b (cur.toList.take (j * row.n + q) ++ (a.eval y).cells.toList ++ cur.toList.drop (j * row.n + q + (a.eval y).cells.toList.length)).toArray) := by
    simp only [Nat.add_zero] at hst
    simp [execOp, ho, hv, Instr.storeAt, Instr.sureAddr, storeVar, run_sizeOf hs, hsz]
    rw [hst]
    simp [hsz]
  unfold Oper.wp
  rw [hrun]
  exact hn _ _ _ hK ⟨by rw [put_defers]; exact hd, G, _, Inv.put (S := S.setRow r _) hinv .un o.dst⟩

/-- Into a row of data: what goes in is plain, or an own row as a whole. -/
theorem opOK_storeD {o : Oper} {K : State → Prop} {t : TypeId} {x y : Operand} {r j q s : Nat} {row : Row} {z : A} (ho : o.op = .store t x y) (hx : okO x = true) (hy : okO y = true) (he : ev S x = .pt r j q) (hr : rowAt S.rows r = some row)
    (hlk : row.lk = false) (hz : row.xs[j]? = some z) (hs : szT P t = some s) (hsl : (ev S y).cells.length = s) (hsp : 0 < s) (hq : q + s ≤ row.n) (hok : (ev S y).cells.all okCell = true)
    (hc : (stashL S (ev S y).cells).1) (hne : r ∉ (stashL S (ev S y).cells).2.2.2)
    (hK : K (((stashL S (ev S y).cells).2.2.1.setRow r { row with xs := row.xs.set j (newElem z q (stashL S (ev S y).cells).2.1) }).put o.dst .un)) : opOK P o S K := by
  intro E a w next Q hss hn
  obtain ⟨hd, G, gs, hi⟩ := hss
  have h1 := ev_rel hi x hx
  rw [he] at h1
  obtain ⟨row', b, hr', hb, hv⟩ := pt_inv h1
  rw [hr] at hr'
  obtain rfl := Option.some.inj hr'
  have h2 := cells_rel (ev_rel hi y hy) hok
  obtain ⟨hlen, hokys⟩ := stashL_cells _ _ S rfl hc fun c hc => okCell_not (List.all_eq_true.1 hok c hc)
  obtain ⟨F, hst0, hrel⟩ := stashL_ok _ _ S _ [] rfl hi Res.nil h2 hc
  generalize stashL S (ev S y).cells = p at *
  obtain ⟨c, ys, S1, ks⟩ := p
  simp only at *
  have hr1 := hst0.rows r row hne hr hlk
  have hlt : ∀ b ∈ F, b < w.heap.size := by simpa using hst0.lt (by simp)
  obtain ⟨b', cur, e, F', hb', hh, hle, hinv⟩ := hst0.inv.store (Fy := F) (by simpa using hst0.res) hlt (j := j) (q := q) (ys := ys) (vs := (a.eval y).cells.toList) hr1 hz (by omega) (by omega) (by unfold CellsRel; rw [if_neg (by simp [hlk])]; exact hrel) hokys
  rw [hb] at hb'
  obtain rfl := Option.some.inj hb'
  have hcv := okCells_v h2 hok
  have hst := run_storeCells_at P b (j * row.n + q) e (a.eval y).cells.toList 0 cur w hh (by simpa using hle) hcv
  have hsz : (a.eval y).cells.size = s := by have := h2.length; simp at this; omega
  have hrun : (execOp a.eval o).run P w = .ok .skip (w.setRow b (cur.toList.take (j * row.n + q) ++ (a.eval y).cells.toList ++ cur.toList.drop (j * row.n + q + (a.eval y).cells.toList.length)).toArray) := by
    simp only [Nat.add_zero] at hst
    simp [execOp, ho, hv, Instr.storeAt, Instr.sureAddr, storeVar, run_sizeOf hs, hsz]
    rw [hst]
    simp [hsz]
  unfold Oper.wp
  rw [hrun]
  exact hn _ _ _ hK ⟨by rw [put_defers]; exact hd, G, _, Inv.put (S := S1.setRow r _) hinv .un o.dst⟩
end
end Go.Fw

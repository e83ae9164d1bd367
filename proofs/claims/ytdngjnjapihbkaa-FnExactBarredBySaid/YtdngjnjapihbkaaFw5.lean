/- Operations that read memory or compute with structs. Plain theorems, no condition. -/
import Derived.Test.YtdngjnjapihbkaaFw4
set_option linter.unusedVariables false
set_option linter.unusedSimpArgs false
namespace Go.Fw

theorem flat_nil : flat [] = [] := rfl
theorem flat_cons (x : A) (xs : List A) : flat (x :: xs) = x.cells ++ flat xs := by simp [flat]
theorem flat_append (xs ys : List A) : flat (xs ++ ys) = flat xs ++ flat ys := by simp [flat]
theorem flat_length {n : Nat} : ∀ {xs : List A}, (∀ x ∈ xs, x.width = n) → (flat xs).length = xs.length * n
  | [], _ => by simp [flat]
  | x :: xs, h => by
    rw [flat_cons, List.length_append, flat_length (xs := xs) fun y hy => h y (by simp [hy])]
    have := h x (by simp)
    unfold A.width at this
    rw [this, List.length_cons, Nat.add_mul]
    omega
theorem flat_drop {n : Nat} : ∀ {xs : List A} (j : Nat), (∀ x ∈ xs, x.width = n) → (flat xs).drop (j * n) = flat (xs.drop j)
  | xs, 0, _ => by simp
  | [], j + 1, _ => by simp [flat]
  | x :: xs, j + 1, h => by
    have hx := h x (by simp)
    unfold A.width at hx
    rw [flat_cons, List.drop_succ_cons, show (j + 1) * n = n + j * n by rw [Nat.add_mul]; omega, ← List.drop_drop, ← hx, List.drop_left, hx]
    exact flat_drop (xs := xs) j fun y hy => h y (by simp [hy])
theorem flat_take {n : Nat} : ∀ {xs : List A} (j : Nat), (∀ x ∈ xs, x.width = n) → (flat xs).take (j * n) = flat (xs.take j)
  | xs, 0, _ => by simp [flat]
  | [], j + 1, _ => by simp [flat]
  | x :: xs, j + 1, h => by
    have hx := h x (by simp)
    unfold A.width at hx
    rw [flat_cons, List.take_succ_cons, flat_cons, show (j + 1) * n = x.cells.length + j * n by rw [Nat.add_mul, hx]; omega, List.take_length_add_append]
    rw [flat_take (xs := xs) j fun y hy => h y (by simp [hy])]
/-- The cells of one element. -/
theorem flat_seg {n : Nat} {xs : List A} (h : ∀ x ∈ xs, x.width = n) {j : Nat} {x : A} (hx : xs[j]? = some x) (o s : Nat) (hs : o + s ≤ n) :
    ((flat xs).drop (j * n + o)).take s = (x.cells.drop o).take s := by
  have hj : j < xs.length := by
    rcases Nat.lt_or_ge j xs.length with h | h
    · exact h
    · rw [List.getElem?_eq_none h] at hx; simp at hx
  have hd : xs.drop j = x :: xs.drop (j + 1) := by
    rw [List.drop_eq_getElem_cons hj]
    rw [List.getElem?_eq_getElem hj] at hx
    simp only [Option.some.injEq] at hx
    rw [hx]
  have hw := h x (List.mem_of_getElem? hx)
  unfold A.width at hw
  rw [← List.drop_drop, flat_drop j h, hd, flat_cons, List.drop_append_of_le_length (by omega), List.take_append_of_le_length (by simp; omega)]

/- Nothing in it is held alone. -/
mutual
def noOwn : A → Bool
  | .sl o _ _ => !o
  | .bx _ => false
  | .agg xs => noOwnL xs
  | .tup xs => noOwnL xs
  | .clo _ xs => noOwnL xs
  | .un => true
  | .sc _ => true
  | .nil => true
  | .vw _ _ _ => true
  | .pt _ _ _ => true
  | .rp _ => true
def noOwnL : List A → Bool
  | [] => true
  | x :: xs => noOwn x && noOwnL xs
end
theorem noOwnL_eq : ∀ xs : List A, noOwnL xs = xs.all noOwn
  | [] => rfl
  | x :: xs => by rw [noOwnL, noOwnL_eq xs]; rfl
theorem noOwn_sl (o : Bool) (n : Nat) (xs : List A) : noOwn (.sl o n xs) = !o := rfl
theorem noOwn_bx (xs : List A) : noOwn (.bx xs) = false := rfl
theorem noOwn_agg (xs : List A) : noOwn (.agg xs) = xs.all noOwn := by rw [noOwn, noOwnL_eq]
theorem noOwn_tup (xs : List A) : noOwn (.tup xs) = xs.all noOwn := by rw [noOwn, noOwnL_eq]
theorem noOwn_clo (g : Nat) (xs : List A) : noOwn (.clo g xs) = xs.all noOwn := by rw [noOwn, noOwnL_eq]
theorem noOwn_sc (v : Value) : noOwn (.sc v) = true := rfl
theorem noOwn_nil : noOwn .nil = true := rfl
theorem noOwn_un : noOwn .un = true := rfl
theorem noOwn_rp (xs : List A) : noOwn (.rp xs) = true := rfl
theorem noOwn_vw (r i l : Nat) : noOwn (.vw r i l) = true := rfl
theorem noOwn_pt (r i l : Nat) : noOwn (.pt r i l) = true := rfl
theorem Rel.noOwn {w : World} {G : Nat → Prop} {x : A} {v : Value} {F : List Nat} (h : Rel w G x v F) (hf : Fw.noOwn x = true) : F = [] := by
  refine Rel.rec (motive_1 := fun x v F _ => Fw.noOwn x = true → F = []) (motive_2 := fun xs vs F _ => xs.all Fw.noOwn = true → F = [])
    ?_ ?_ ?_ ?_ ?_ ?_ ?_ ?_ ?_ ?_ ?_ ?_ ?_ ?_ h hf
  · intros; rfl
  · intros; rfl
  · intros; rfl
  · intros; rfl
  · intros; rfl
  · intros; rfl
  · intro n xs b len cap cur e cs F hh hw hlen hc hl hcap hm hs hv ih hf; simp [noOwn_sl] at hf
  · intro xs cs F hl ih hf; exact ih (by rwa [noOwn_agg] at hf)
  · intro xs cs F hl ih hf; exact ih (by rwa [noOwn_tup] at hf)
  · intros; rfl
  · intro xs b cur e F hh hl hv ih hf; simp [noOwn_bx] at hf
  · intro g caps cs F hl ih hf; exact ih (by rwa [noOwn_clo] at hf)
  · intros; rfl
  · intro x v F xs vs Fs h hl ih ih' hf
    simp only [List.all_cons, Bool.and_eq_true] at hf
    rw [ih hf.1, ih' hf.2]; rfl
theorem RelL.noOwn {w : World} {G : Nat → Prop} : ∀ {xs : List A} {vs : List Value} {F : List Nat}, RelL w G xs vs F → xs.all Fw.noOwn = true → F = []
  | _, _, _, .nil, _ => rfl
  | _, _, _, .cons h hl, hf => by
    simp only [List.all_cons, Bool.and_eq_true] at hf
    rw [h.noOwn hf.1, hl.noOwn hf.2]; rfl
theorem TRel.noOwn {w : World} {G : Nat → Prop} {rows : List (Option Row)} {gs : Gh} {x : A} {v : Value} {F : List Nat} (h : TRel w G rows gs x v F) (hf : Fw.noOwn x = true) : F = [] := by
  refine TRel.rec (motive_1 := fun x v F _ => Fw.noOwn x = true → F = []) (motive_2 := fun xs vs F _ => xs.all Fw.noOwn = true → F = []) ?_ ?_ ?_ ?_ ?_ ?_ ?_ ?_ ?_ ?_ h hf
  · intros; rfl
  · intro x v F h hf; exact h.noOwn hf
  · intros; rfl
  · intros; rfl
  · intros; rfl
  · intro xs cs F hl ih hf; exact ih (by rwa [noOwn_agg] at hf)
  · intro xs cs F hl ih hf; exact ih (by rwa [noOwn_tup] at hf)
  · intro g caps cs F hl ih hf; exact ih (by rwa [noOwn_clo] at hf)
  · intros; rfl
  · intro x v F xs vs Fs h hl ih ih' hf
    simp only [List.all_cons, Bool.and_eq_true] at hf
    rw [ih hf.1, ih' hf.2]; rfl
theorem TRelL.noOwn {w : World} {G : Nat → Prop} {rows : List (Option Row)} {gs : Gh} : ∀ {xs : List A} {vs : List Value} {F : List Nat}, TRelL w G rows gs xs vs F → xs.all Fw.noOwn = true → F = []
  | _, _, _, .nil, _ => rfl
  | _, _, _, .cons h hl, hf => by
    simp only [List.all_cons, Bool.and_eq_true] at hf
    rw [h.noOwn hf.1, hl.noOwn hf.2]; rfl
theorem TRelL.split {w : World} {G : Nat → Prop} {rows : List (Option Row)} {gs : Gh} : ∀ {xs ys : List A} {vs : List Value} {F : List Nat}, TRelL w G rows gs (xs ++ ys) vs F →
    ∃ F1 F2, F = F1 ++ F2 ∧ TRelL w G rows gs xs (vs.take xs.length) F1 ∧ TRelL w G rows gs ys (vs.drop xs.length) F2
  | [], ys, vs, F, h => ⟨[], F, rfl, by simpa using TRelL.nil, by simpa using h⟩
  | x :: xs, ys, _, _, .cons (F := F) (Fs := Fs) h hl => by
    obtain ⟨F1, F2, rfl, h1, h2⟩ := hl.split (xs := xs)
    exact ⟨F ++ F1, F2, by simp, by simpa using TRelL.cons h h1, by simpa using h2⟩
theorem TRelL.take_ {w : World} {G : Nat → Prop} {rows : List (Option Row)} {gs : Gh} {xs : List A} {vs : List Value} {F : List Nat} (h : TRelL w G rows gs xs vs F) (n : Nat) :
    ∃ F1 F2, F = F1 ++ F2 ∧ TRelL w G rows gs (xs.take n) (vs.take n) F1 ∧ TRelL w G rows gs (xs.drop n) (vs.drop n) F2 := by
  have hl := h.length
  rw [← List.take_append_drop n xs] at h
  obtain ⟨F1, F2, e, h1, h2⟩ := h.split
  by_cases hn : n ≤ xs.length
  · rw [List.length_take, Nat.min_eq_left hn] at h1 h2
    exact ⟨F1, F2, e, h1, h2⟩
  · have hn' : xs.length ≤ n := by omega
    rw [List.take_of_length_le hn', List.drop_eq_nil_of_le hn', List.take_of_length_le (by omega), List.drop_eq_nil_of_le (by omega)]
    rw [List.take_of_length_le hn', List.take_of_length_le (by omega)] at h1
    rw [List.drop_eq_nil_of_le hn', List.take_of_length_le hn', List.drop_eq_nil_of_le (by omega)] at h2
    exact ⟨F1, F2, e, h1, h2⟩
theorem TRelL.append {w : World} {G : Nat → Prop} {rows : List (Option Row)} {gs : Gh} {ys : List A} {us : List Value} {F' : List Nat} :
    ∀ {xs : List A} {vs : List Value} {F : List Nat}, TRelL w G rows gs xs vs F → TRelL w G rows gs ys us F' → TRelL w G rows gs (xs ++ ys) (vs ++ us) (F ++ F')
  | _, _, _, .nil, h' => by simpa using h'
  | _, _, _, .cons (F := F) (Fs := Fs) h hl, h' => by
    have := TRelL.cons h (hl.append h')
    simpa [List.append_assoc] using this

section
variable {P : Program} {E : Env} {G : Nat → Prop} {gs : Gh} {S : State} {a : Act} {w : World}

theorem run_isAgg {t : TypeId} {b : Bool} (h : aggT P t = some b) (w : World) : (isAgg t).run P w = .ok b w := by
  unfold aggT at h
  cases hu : P.underlying t with
  | none => simp [hu] at h
  | some d =>
    simp only [hu, Option.map_some, Option.some.injEq] at h
    unfold isAgg
    rw [Sem.run_bind, run_underlying hu w]
    subst h
    cases d <;> rfl
theorem run_sizeOf {t : TypeId} {s : Nat} (h : szT P t = some s) (w : World) : (sizeOf t).run P w = .ok s w := by
  unfold szT at h
  cases hu : P.info? t with
  | none => simp [hu] at h
  | some i =>
    simp only [hu, Option.map_some, Option.some.injEq] at h
    simp [sizeOf, typeInfo, hu, h]
theorem run_zero {t : TypeId} {z : Value} (h : zeroT P t = some z) (w : World) : (zeroValue t).run P w = .ok z w := by
  unfold zeroT at h
  cases hu : P.info? t with
  | none => simp [hu] at h
  | some i =>
    simp only [hu, Option.bind_some] at h
    simp [zeroValue, typeInfo, hu, h]
theorem add_none (b k n : Nat) : (⟨b, k, none⟩ : Addr).add n = ⟨b, k + n, none⟩ := by unfold Addr.add; split <;> simp_all
theorem cell_at {b k : Nat} {cur : Array Value} {e : TypeId} {fr : Nat × Nat} (h : w.heap[b]? = some (.cells cur e fr)) : w.cell? ⟨b, k, none⟩ = cur[k]? := by
  simp [World.cell?, h]
theorem run_loadVar_cell {t : TypeId} (ha : aggT P t = some false) {b k : Nat} {cur : Array Value} {e : TypeId} {fr : Nat × Nat} (h : w.heap[b]? = some (.cells cur e fr)) {v : Value} (hv : cur[k]? = some v) :
    (loadVar t ⟨b, k, none⟩).run P w = .ok v w := by
  simp [loadVar, run_isAgg ha, cell_at h, hv]
theorem run_loadVar_agg {t : TypeId} (ha : aggT P t = some true) {s : Nat} (hs : szT P t = some s) {b k : Nat} {cur : Array Value} {e : TypeId} {fr : Nat × Nat} (h : w.heap[b]? = some (.cells cur e fr)) {cs : List Value}
    (hc : (cur.toList.drop k).take s = cs) (hl : cs.length = s) : (loadVar t ⟨b, k, none⟩).run P w = .ok (.agg cs.toArray) w := by
  have hr := run_loadCells_list (P := P) w ⟨b, k, none⟩ cs (fun j v hv => by
    rw [add_none, cell_at h]
    rw [← hc] at hv
    have hj : j < s := by
      rcases Nat.lt_or_ge j s with h | h
      · exact h
      · rw [List.getElem?_take_eq_none h] at hv; simp at hv
    rw [List.getElem?_take_of_lt hj, List.getElem?_drop] at hv
    simpa using hv)
  simp only [loadVar, Sem.run_bind, run_isAgg ha, Result.andThen_ok, if_true, run_sizeOf hs]
  rw [← hl, hr]
  rfl

theorem row_real {tmps : Array Value} (hi : Inv E G gs S tmps w) {r : Nat} {row : Row} (hr : rowAt S.rows r = some row) (hx : row.xs.length ≠ 0) : ∃ b, (gs r).1 = some b ∧ RowCells w G S.rows gs row b (gs r).2 := by
  have h := hi.row r row hr
  cases hb : (gs r).1 with
  | none => rw [hb] at h; exact absurd (by rw [h.1]; rfl) hx
  | some b => rw [hb] at h; exact ⟨b, rfl, h⟩
/-- What stands in a row, from cell o of element j on. -/
theorem row_seg (hi : Inv E G gs S a.tmps w) {r j o s : Nat} {row : Row} {x : A} (hr : rowAt S.rows r = some row) (hx : row.xs[j]? = some x) (hs : o + s ≤ row.n) (hno : ((x.cells.drop o).take s).all noOwn = true) :
    ∃ b cur e cs, (gs r).1 = some b ∧ w.heap[b]? = some (.cells cur e (0, 0)) ∧ (cur.toList.drop (j * row.n + o)).take s = cs ∧ TRelL w G S.rows gs ((x.cells.drop o).take s) cs [] ∧ cs.length = s := by
  have hj : j < row.xs.length := by
    rcases Nat.lt_or_ge j row.xs.length with h | h
    · exact h
    · rw [List.getElem?_eq_none h] at hx; simp at hx
  obtain ⟨b, hb, hrc⟩ := row_real hi hr (by omega)
  obtain ⟨cur, e, cap, h1, h2, h3, h4, h5, h6, h7⟩ := hrc.ex
  have h7' : TRelL w G S.rows gs (flat row.xs) (cur.toList.take (row.xs.length * row.n)) (gs r).2 := by
    unfold CellsRel at h7
    split at h7
    · exact h7
    · exact .of h7
  obtain ⟨F1, F2, e1, _, g2⟩ := h7'.take_ (j * row.n + o)
  obtain ⟨F3, F4, e2, g3, _⟩ := g2.take_ s
  rw [flat_seg h5 hx o s hs] at g3
  have hF := g3.noOwn hno
  subst hF
  have hle : (j + 1) * row.n ≤ row.xs.length * row.n := Nat.mul_le_mul_right _ hj
  rw [Nat.add_mul] at hle
  have e3 : ((cur.toList.take (row.xs.length * row.n)).drop (j * row.n + o)).take s = (cur.toList.drop (j * row.n + o)).take s := by
    rw [List.drop_take, List.take_take, Nat.min_eq_left (by omega)]
  rw [e3] at g3
  refine ⟨b, cur, e, _, hb, h1, rfl, g3, ?_⟩
  rw [g3.length]
  have hw := h5 x (List.mem_of_getElem? hx)
  unfold A.width at hw
  simp
  omega

def isPt : A → Bool
  | .pt _ _ _ => true
  | .rp _ => true
  | _ => false
theorem pt_inv {rows : List (Option Row)} {r j o : Nat} {u : Value} {F : List Nat} (h : TRel w G rows gs (.pt r j o) u F) : ∃ row b, rowAt rows r = some row ∧ (gs r).1 = some b ∧ u = .pointer (some ⟨b, j * row.n + o, none⟩) := by
  cases h with
  | of h => cases h
  | pt hr hb hk => exact ⟨_, _, hr, hb, by rw [hk]⟩
theorem rp_inv {rows : List (Option Row)} {xs : List A} {u : Value} {F : List Nat} (h : TRel w G rows gs (.rp xs) u F) :
    ∃ b k cur e fr, u = .pointer (some ⟨b, k, none⟩) ∧ w.heap[b]? = some (.cells cur e fr) ∧ G b ∧ RelL w G xs ((cur.toList.drop k).take xs.length) [] := by
  cases h with
  | of h => cases h with | rp hh hg hc hl => exact ⟨_, _, _, _, _, rfl, hh, hg, hc ▸ hl⟩

theorem VOK_load_pt {o : Oper} {t : TypeId} {x : Operand} {r j q : Nat} {row : Row} {y z : A} (ho : o.op = .load t x) (hx : okO x = true) (he : ev S x = .pt r j q) (hr : rowAt S.rows r = some row)
    (hy : row.xs[j]? = some y) (ha : aggT P t = some false) (hz : y.cells[q]? = some z) (hno : noOwn z = true) : VOK P o S z := by
  refine fun E G gs a w hi => ?_
  have h1 := ev_rel hi x hx
  rw [he] at h1
  obtain ⟨row', b, hr', hb, hv⟩ := pt_inv h1
  rw [hr] at hr'
  obtain rfl := Option.some.inj hr'
  have hq : q < y.cells.length := by
    rcases Nat.lt_or_ge q y.cells.length with h | h
    · exact h
    · rw [List.getElem?_eq_none h] at hz; simp at hz
  have hw : y.width = row.n := by
    obtain ⟨b', _, hrc⟩ := row_real hi hr (by
      intro h0
      rw [List.eq_nil_of_length_eq_zero h0] at hy
      simp at hy)
    obtain ⟨_, _, _, _, _, _, _, h5, _⟩ := hrc.ex
    exact h5 y (List.mem_of_getElem? hy)
  unfold A.width at hw
  have hseg : (y.cells.drop q).take 1 = [z] := by
    rw [List.drop_eq_getElem_cons hq]
    rw [List.getElem?_eq_getElem hq] at hz
    simp only [Option.some.injEq] at hz
    simp [hz]
  obtain ⟨b1, cur, e, cs, g0, g1, g2, g3, g4⟩ := row_seg hi hr hy (o := q) (s := 1) (by omega) (by rw [hseg]; simpa using hno)
  rw [hb] at g0
  obtain rfl := Option.some.inj g0
  rw [hseg] at g3
  obtain ⟨v, hv1, hv2⟩ := g3.get 0 z rfl
  have hcur : cur[j * row.n + q]? = some v := by
    rw [← g2] at hv1
    rw [List.getElem?_take_of_lt (by omega), List.getElem?_drop] at hv1
    simpa using hv1
  exact ⟨v, fun w' hw' => by simp [execOp, ho, Instr.loadAt, hv, Instr.sureAddr, run_loadVar_cell ha (keep_at hw' g1) hcur], hv2⟩
theorem VOK_load_ptAgg {o : Oper} {t : TypeId} {x : Operand} {r j q s : Nat} {row : Row} {y : A} (ho : o.op = .load t x) (hx : okO x = true) (he : ev S x = .pt r j q) (hr : rowAt S.rows r = some row)
    (hy : row.xs[j]? = some y) (ha : aggT P t = some true) (hs : szT P t = some s) (hq : q + s ≤ row.n) (hno : ((y.cells.drop q).take s).all noOwn = true) : VOK P o S (.agg ((y.cells.drop q).take s)) := by
  refine fun E G gs a w hi => ?_
  have h1 := ev_rel hi x hx
  rw [he] at h1
  obtain ⟨row', b, hr', hb, hv⟩ := pt_inv h1
  rw [hr] at hr'
  obtain rfl := Option.some.inj hr'
  obtain ⟨b1, cur, e, cs, g0, g1, g2, g3, g4⟩ := row_seg hi hr hy hq hno
  rw [hb] at g0
  obtain rfl := Option.some.inj g0
  exact ⟨.agg cs.toArray, fun w' hw' => by simp [execOp, ho, Instr.loadAt, hv, Instr.sureAddr, run_loadVar_agg ha hs (keep_at hw' g1) g2 g4], .agg g3⟩
theorem VOK_load_rp {o : Oper} {t : TypeId} {x : Operand} {xs : List A} {z : A} (ho : o.op = .load t x) (hx : okO x = true) (he : ev S x = .rp xs)
    (ha : aggT P t = some false) (hz : xs[0]? = some z) : VOK P o S z := by
  refine fun E G gs a w hi => ?_
  have h1 := ev_rel hi x hx
  rw [he] at h1
  obtain ⟨b, k, cur, e, fr, hv, hh, hg, hl⟩ := rp_inv h1
  obtain ⟨v, hv1, hv2⟩ := hl.get 0 z hz
  have hcur : cur[k]? = some v := by
    have h0 : 0 < xs.length := by
      rcases Nat.eq_zero_or_pos xs.length with h | h
      · rw [List.eq_nil_of_length_eq_zero h] at hz; simp at hz
      · exact h
    rw [List.getElem?_take_of_lt h0, List.getElem?_drop] at hv1
    simpa using hv1
  exact ⟨v, fun w' hw' => by simp [execOp, ho, Instr.loadAt, hv, Instr.sureAddr, run_loadVar_cell ha (keep_at hw' hh) hcur], .of hv2⟩
theorem VOK_load_rpAgg {o : Oper} {t : TypeId} {x : Operand} {xs : List A} {s : Nat} (ho : o.op = .load t x) (hx : okO x = true) (he : ev S x = .rp xs)
    (ha : aggT P t = some true) (hs : szT P t = some s) (hq : s ≤ xs.length) : VOK P o S (.agg (xs.take s)) := by
  refine fun E G gs a w hi => ?_
  have h1 := ev_rel hi x hx
  rw [he] at h1
  obtain ⟨b, k, cur, e, fr, hv, hh, hg, hl⟩ := rp_inv h1
  have h2 := hl.take0 s
  have h3 := h2.length
  rw [List.take_take, Nat.min_eq_left hq] at h2 h3
  exact ⟨.agg ((cur.toList.drop k).take s).toArray, by
    intro w' hw'
    simp [execOp, ho, Instr.loadAt, hv, Instr.sureAddr, run_loadVar_agg ha hs (keep_at hw' hh) rfl (by rw [h3]; simp; omega)], .of (.agg h2)⟩

theorem VOK_fieldAddr_pt {o : Oper} {t : TypeId} {x : Operand} {i r j q off s : Nat} {g : Bool} (ho : o.op = .fieldAddr t x i) (hx : okO x = true) (he : ev S x = .pt r j q)
    (hf : fieldT P t i = some (off, s, g)) (hs : s ≠ 0) : VOK P o S (.pt r j (q + off)) := by
  refine fun E G gs a w hi => ?_
  have h1 := ev_rel hi x hx
  rw [he] at h1
  obtain ⟨row, b, hr, hb, hv⟩ := pt_inv h1
  unfold fieldT at hf
  split at hf <;> try simp at hf
  rename_i fs hu
  split at hf <;> try simp at hf
  rename_i f hfi
  split at hf <;> try simp at hf
  rename_i s' g' hsz hag
  obtain ⟨rfl, rfl, rfl⟩ := hf
  refine ⟨.pointer (some ⟨b, j * row.n + (q + f.offset), none⟩), ?_, .pt hr hb rfl⟩
  intro w' hw'
  simp [execOp, ho, Instr.fieldAt, run_underlying hu, hfi, hv, Instr.sureAddr, fieldPlace, run_sizeOf hsz, hs, add_none, Nat.add_assoc]
theorem VOK_fieldAddr_rp {o : Oper} {t : TypeId} {x : Operand} {xs : List A} {i off s : Nat} {g : Bool} (ho : o.op = .fieldAddr t x i) (hx : okO x = true) (he : ev S x = .rp xs)
    (hf : fieldT P t i = some (off, s, g)) (hs : s ≠ 0) : VOK P o S (.rp (xs.drop off)) := by
  refine fun E G gs a w hi => ?_
  have h1 := ev_rel hi x hx
  rw [he] at h1
  obtain ⟨b, k, cur, e, fr, hv, hh, hg, hl⟩ := rp_inv h1
  unfold fieldT at hf
  split at hf <;> try simp at hf
  rename_i fs hu
  split at hf <;> try simp at hf
  rename_i f hfi
  split at hf <;> try simp at hf
  rename_i s' g' hsz hag
  obtain ⟨rfl, rfl, rfl⟩ := hf
  refine ⟨.pointer (some ⟨b, k + f.offset, none⟩), ?_, .of (.rp hh hg rfl ?_)⟩
  · intro w' hw'
    simp [execOp, ho, Instr.fieldAt, run_underlying hu, hfi, hv, Instr.sureAddr, fieldPlace, run_sizeOf hsz, hs, add_none]
  · have := hl.drop0 f.offset
    rw [List.drop_take, List.drop_drop] at this
    simpa using this

theorem vw_inv {rows : List (Option Row)} {r off len : Nat} {u : Value} {F : List Nat} (h : TRel w G rows gs (.vw r off len) u F) :
    (∃ row k cap cur e b, rowAt rows r = some row ∧ (gs r).1 = some b ∧ off + len ≤ row.xs.length ∧ w.heap[b]? = some (.cells cur e (0, 0)) ∧ cur.size = cap * row.n ∧ cap ≤ maxLen ∧ row.xs.length ≤ cap ∧
      (k = off * row.n ∨ (cap = off ∧ 0 < off)) ∧ u = .slice (some ⟨b, k, none⟩) len (cap - off)) ∨
    (∃ row, rowAt rows r = some row ∧ (gs r).1 = none ∧ row.xs = [] ∧ off = 0 ∧ len = 0 ∧ u = .slice none 0 0) := by
  cases h with
  | of h => cases h
  | vw hr hb hl hh hs hm hc hk => exact .inl ⟨_, _, _, _, _, _, hr, hb, hl, hh, hs, hm, hc, hk, rfl⟩
  | vwn hr hb hx => exact .inr ⟨_, hr, hb, hx, rfl, rfl, rfl⟩
theorem slf_inv {rows : List (Option Row)} {n : Nat} {xs : List A} {u : Value} {F : List Nat} (h : TRel w G rows gs (.sl false n xs) u F) :
    ((∃ oa, u = .slice oa 0 0) ∧ xs = []) ∨ ∃ b k cap cur e fr, u = .slice (some ⟨b, k, none⟩) xs.length cap ∧ w.heap[b]? = some (.cells cur e fr) ∧ G b ∧ (∀ x ∈ xs, x.width = n) ∧
      RelL w G (flat xs) ((cur.toList.drop k).take (xs.length * n)) [] ∧ xs.length ≤ cap ∧ cap ≤ maxLen := by
  cases h with
  | of h => cases h with
    | nils => exact .inl ⟨⟨_, rfl⟩, rfl⟩
    | roz => exact .inl ⟨⟨_, rfl⟩, rfl⟩
    | ro hh hg hw hlen hc hl hcap hm => subst hlen; subst hc; exact .inr ⟨_, _, _, _, _, _, rfl, hh, hg, hw, hl, hcap, hm⟩

theorem elemT_inv {t e : TypeId} (h : elemT P t = some e) : P.underlying t = some (.slice e) := by
  unfold elemT at h
  split at h
  · rename_i h'; simp at h; subst h; exact h'
  · simp at h
theorem VOK_indexAddr_vw {o : Oper} {t e : TypeId} {x y : Operand} {r off len : Nat} {k : IntKind} {i : Int} {row : Row} (ho : o.op = .indexAddr t x y) (hx : okO x = true) (hy : okO y = true)
    (h1 : ev S x = .vw r off len) (h2 : ev S y = .sc (.int k i)) (hr : rowAt S.rows r = some row) (he : elemT P t = some e) (hs : szT P e = some row.n) (h0 : 0 ≤ i) (hl : i < len)
    : VOK P o S (.pt r (off + i.toNat) 0) := by
  refine fun E G gs a w hi => ?_
  have e1 := ev_rel hi x hx
  have e2 := ev_rel hi y hy
  rw [h1] at e1
  rw [h2] at e2
  obtain ⟨row', kk, cap, cur, et, b, hr', hob, g1, g2, g3, g4, g5, g6, hv⟩ := (vw_inv e1).resolve_right (by
    intro ⟨_, _, _, _, _, h0, _⟩
    omega)
  rw [hr] at hr'
  obtain rfl := Option.some.inj hr'
  have hv2 := (sc_inv e2).1
  have hk : kk = off * row.n := by rcases g6 with h | h <;> omega
  subst hk
  refine ⟨_, ?_, .pt hr hob rfl⟩
  intro w' hw'
  simp [execOp, ho, hv, hv2, Instr.indexAt, asIntOf, run_underlying (elemT_inv he), h0, hl, run_sizeOf hs, add_none, Nat.add_mul]
theorem VOK_indexAddr_sl {o : Oper} {t e : TypeId} {x y : Operand} {n : Nat} {xs : List A} {k : IntKind} {i : Int} {z : A} (ho : o.op = .indexAddr t x y) (hx : okO x = true) (hy : okO y = true)
    (h1 : ev S x = .sl false n xs) (h2 : ev S y = .sc (.int k i)) (he : elemT P t = some e) (hs : szT P e = some n) (h0 : 0 ≤ i) (hz : xs[i.toNat]? = some z)
    : VOK P o S (.rp z.cells) := by
  refine fun E G gs a w hi => ?_
  have e1 := ev_rel hi x hx
  have e2 := ev_rel hi y hy
  rw [h1] at e1
  rw [h2] at e2
  have hv2 := (sc_inv e2).1
  have hl : i.toNat < xs.length := by
    rcases Nat.lt_or_ge i.toNat xs.length with h | h
    · exact h
    · rw [List.getElem?_eq_none h] at hz; simp at hz
  rcases slf_inv e1 with ⟨_, rfl⟩ | ⟨b, kk, cap, cur, et, fr, hv, hh, hg, hw, hrel, hcap, hm⟩
  · simp at hl
  · refine ⟨.pointer (some ⟨b, kk + i.toNat * n, none⟩), ?_, .of (.rp hh hg rfl ?_)⟩
    · have : i < (xs.length : Int) := by omega
      intro w' hw'
      simp [execOp, ho, hv, hv2, Instr.indexAt, asIntOf, run_underlying (elemT_inv he), h0, this, run_sizeOf hs, add_none]
    · have h3 := (hrel.drop0 (i.toNat * n)).take0 n
      have hseg := flat_seg hw hz 0 n (by omega)
      simp only [Nat.add_zero, List.drop_zero] at hseg
      have hzw := hw z (List.mem_of_getElem? hz)
      unfold A.width at hzw
      rw [hseg, ← hzw, List.take_length, hzw] at h3
      have hle : (i.toNat + 1) * n ≤ xs.length * n := Nat.mul_le_mul_right _ hl
      rw [Nat.add_mul] at hle
      rw [List.drop_take, List.take_take, Nat.min_eq_left (by omega), List.drop_drop] at h3
      rw [hzw]
      exact h3

def lenA : A → Option Nat
  | .nil => some 0
  | .sl false _ xs => some xs.length
  | .vw _ _ len => some len
  | .sc (.string s) => some (bs s).length
  | _ => none
theorem VOK_len {o : Oper} {t : TypeId} {x : Operand} {n : Nat} (ho : o.op = .call { callee := .builtin .len, args := #[x], argTypes := #[t] }) (hx : okO x = true)
    (ht : (elemT P t).isSome = true ∨ isStrT P t = true) (hn : lenA (ev S x) = some n)
    (htx : isStrT P t = true ↔ ∃ s, ev S x = .sc (.string s)) : VOK P o S (.sc (.int .i64 n)) := by
  refine fun E G gs a w hi => ⟨.int .i64 n, ?_, .of (.sc rfl)⟩
  have e1 := ev_rel hi x hx
  by_cases hs : isStrT P t = true
  · obtain ⟨s, hes⟩ := htx.1 hs
    rw [hes] at e1 hn
    have hv := (sc_inv e1).1
    simp only [lenA, Option.some.injEq] at hn
    have hu : P.underlying t = some .string := by
      unfold isStrT at hs
      split at hs
      · assumption
      · simp at hs
    subst hn
    intro w' hw'
    simp [execOp, ho, resolve, invoke, builtin, Builtin.len_, run_underlying hu, hv, goInt, bs_length]
  · obtain ⟨e, he⟩ := Option.isSome_iff_exists.1 (ht.resolve_right hs)
    have hu := elemT_inv he
    have : ∃ b c, a.eval x = .slice b n c := by
      generalize ev S x = q at e1 hn htx
      cases q <;> simp [lenA] at hn
      case sc v =>
        cases v <;> simp [lenA] at hn
        exact absurd (htx.2 ⟨_, rfl⟩) hs
      case nil =>
        subst hn
        generalize a.eval x = u at e1
        cases e1 with
        | of h => cases h; exact ⟨none, 0, rfl⟩
      case sl o n' xs =>
        cases o <;> simp [lenA] at hn
        subst hn
        rcases slf_inv e1 with ⟨⟨oa, h⟩, rfl⟩ | ⟨b, kk, cap, cur, et, fr, hv, _⟩
        · exact ⟨_, _, h⟩
        · exact ⟨_, _, hv⟩
      case vw r off len =>
        subst hn
        rcases vw_inv e1 with ⟨_, _, _, _, _, _, _, _, _, _, _, _, _, _, hv⟩ | ⟨_, _, _, _, _, h0, hv⟩
        · exact ⟨_, _, hv⟩
        · subst h0; exact ⟨_, _, hv⟩
    obtain ⟨b, c, hv⟩ := this
    intro w' hw'
    simp [execOp, ho, resolve, invoke, builtin, Builtin.len_, run_underlying hu, hv, goInt]
end
end Go.Fw

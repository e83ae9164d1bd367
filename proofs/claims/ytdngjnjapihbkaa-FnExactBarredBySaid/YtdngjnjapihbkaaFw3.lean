/- How what is told of temporaries and rows is carried over a step. Plain theorems, no condition. -/
import Derived.Test.YtdngjnjapihbkaaFw2
set_option linter.unusedVariables false
set_option linter.unusedSimpArgs false
namespace Go.Fw

/- What led into row r is no more known. -/
mutual
def kill (r : Nat) : A → A
  | .vw r' off len => if r' = r then .un else .vw r' off len
  | .pt r' j o => if r' = r then .un else .pt r' j o
  | .agg xs => .agg (killL r xs)
  | .tup xs => .tup (killL r xs)
  | .clo g xs => .clo g (killL r xs)
  | .un => .un
  | .sc v => .sc v
  | .nil => .nil
  | .sl o n xs => .sl o n xs
  | .rp xs => .rp xs
  | .bx xs => .bx xs
def killL (r : Nat) : List A → List A
  | [] => []
  | x :: xs => kill r x :: killL r xs
end
theorem killL_eq (r : Nat) : ∀ xs : List A, killL r xs = xs.map (kill r)
  | [] => rfl
  | x :: xs => by rw [killL, killL_eq r xs]; rfl
theorem kill_vw (r r' off len : Nat) : kill r (.vw r' off len) = if r' = r then .un else .vw r' off len := rfl
theorem kill_pt (r r' j o : Nat) : kill r (.pt r' j o) = if r' = r then .un else .pt r' j o := rfl
theorem kill_agg (r : Nat) (xs : List A) : kill r (.agg xs) = .agg (xs.map (kill r)) := by rw [kill, killL_eq]
theorem kill_tup (r : Nat) (xs : List A) : kill r (.tup xs) = .tup (xs.map (kill r)) := by rw [kill, killL_eq]
theorem kill_clo (r g : Nat) (xs : List A) : kill r (.clo g xs) = .clo g (xs.map (kill r)) := by rw [kill, killL_eq]
theorem kill_sc (r : Nat) (v : Value) : kill r (.sc v) = .sc v := rfl
theorem kill_nil (r : Nat) : kill r .nil = .nil := rfl
theorem kill_un (r : Nat) : kill r .un = .un := rfl
theorem kill_sl (r : Nat) (o : Bool) (n : Nat) (xs : List A) : kill r (.sl o n xs) = .sl o n xs := rfl
theorem kill_rp (r : Nat) (xs : List A) : kill r (.rp xs) = .rp xs := rfl
theorem kill_bx (r : Nat) (xs : List A) : kill r (.bx xs) = .bx xs := rfl

/-- Plain data are left alone. -/
theorem Rel.kill {w : World} {G : Nat → Prop} {x : A} {v : Value} {F : List Nat} (h : Rel w G x v F) (r : Nat) : Fw.kill r x = x := by
  refine Rel.rec (motive_1 := fun x v F _ => Fw.kill r x = x) (motive_2 := fun xs vs F _ => xs.map (Fw.kill r) = xs)
    ?_ ?_ ?_ ?_ ?_ ?_ ?_ ?_ ?_ ?_ ?_ ?_ ?_ ?_ h
  · intros; exact kill_un r
  · intros; exact kill_sc r _
  · intros; exact kill_nil r
  · intros; exact kill_sl ..
  · intros; exact kill_sl ..
  · intros; exact kill_sl ..
  · intros; exact kill_sl ..
  · intro xs cs F hl ih; rw [kill_agg, ih]
  · intro xs cs F hl ih; rw [kill_tup, ih]
  · intros; exact kill_rp ..
  · intros; exact kill_bx ..
  · intro g caps cs F hl ih; rw [kill_clo, ih]
  · rfl
  · intro x v F xs vs Fs h hl ih ih'; rw [List.map_cons, ih, ih']

/-- Row r stands as it stood, as far as those ask that lead into it. -/
structure RowLe (w w' : World) (rows rows' : List (Option Row)) (gs gs' : Gh) (r : Nat) : Prop where
  le : ∀ row, rowAt rows r = some row → ∃ row', rowAt rows' r = some row' ∧ (gs' r).1 = (gs r).1 ∧ row'.n = row.n ∧ row'.xs.length = row.xs.length ∧
    ∀ b cur e, (gs r).1 = some b → w.heap[b]? = some (.cells cur e (0, 0)) → ∃ cur' e', w'.heap[b]? = some (.cells cur' e' (0, 0)) ∧ cur'.size = cur.size

theorem TRel.step {w w' : World} {G G' : Nat → Prop} {rows rows' : List (Option Row)} {gs gs' : Gh} {x : A} {v : Value} {F : List Nat}
    (h : TRel w G rows gs x v F) (hG : ∀ b, G b → G' b ∧ w'.heap[b]? = w.heap[b]?) (hR : ∀ r, RowLe w w' rows rows' gs gs' r) (hF : ∀ b ∈ F, w'.heap[b]? = w.heap[b]?) :
    TRel w' G' rows' gs' x v F := by
  refine TRel.rec (motive_1 := fun x v F _ => (∀ b ∈ F, w'.heap[b]? = w.heap[b]?) → TRel w' G' rows' gs' x v F)
    (motive_2 := fun xs vs F _ => (∀ b ∈ F, w'.heap[b]? = w.heap[b]?) → TRelL w' G' rows' gs' xs vs F) ?_ ?_ ?_ ?_ ?_ ?_ ?_ ?_ ?_ ?_ h hF
  · intros; exact .un
  · intro x v F h hF; exact .of (h.move_ hG hF)
  · intro r off len k cap b row cur e hr hob hl hh hs hm hc hk _
    obtain ⟨row', hr', hg, hn, hx, hb⟩ := (hR r).le row hr
    obtain ⟨cur', e', hh', hs'⟩ := hb b cur e hob hh
    exact .vw hr' (by rw [hg]; exact hob) (by omega) hh' (by rw [hs', hs, hn]) hm (by omega) (by rw [hn]; exact hk)
  · intro r row hr hob hxs _
    obtain ⟨row', hr', hg, hn, hx, hb⟩ := (hR r).le row hr
    exact .vwn hr' (by rw [hg]; exact hob) (by rw [hxs] at hx; exact List.eq_nil_of_length_eq_zero hx)
  · intro r j o k b row hr hob hk _
    obtain ⟨row', hr', hg, hn, hx, hb⟩ := (hR r).le row hr
    exact .pt hr' (by rw [hg]; exact hob) (by rw [hn]; exact hk)
  · intro xs cs F hl ih hF; exact .agg (ih hF)
  · intro xs cs F hl ih hF; exact .tup (ih hF)
  · intro g caps cs F hl ih hF; exact .clo (ih hF)
  · intro _; exact .nil
  · intro x v F xs vs Fs h hl ih ih' hF
    exact .cons (ih fun b hb => hF b (by simp [hb])) (ih' fun b hb => hF b (by simp [hb]))
theorem TRelL.step {w w' : World} {G G' : Nat → Prop} {rows rows' : List (Option Row)} {gs gs' : Gh}
    (hG : ∀ b, G b → G' b ∧ w'.heap[b]? = w.heap[b]?) (hR : ∀ r, RowLe w w' rows rows' gs gs' r) : ∀ {xs : List A} {vs : List Value} {F : List Nat},
    TRelL w G rows gs xs vs F → (∀ b ∈ F, w'.heap[b]? = w.heap[b]?) → TRelL w' G' rows' gs' xs vs F
  | _, _, _, .nil, _ => .nil
  | _, _, _, .cons h hl, hF => .cons (h.step hG hR fun b hb => hF b (by simp [hb])) (hl.step hG hR fun b hb => hF b (by simp [hb]))

/-- The same where row k may have turned: what leads into it is forgotten. -/
theorem TRel.stepK {w w' : World} {G G' : Nat → Prop} {rows rows' : List (Option Row)} {gs gs' : Gh} {x : A} {v : Value} {F : List Nat} (q : Nat)
    (h : TRel w G rows gs x v F) (hG : ∀ b, G b → G' b ∧ w'.heap[b]? = w.heap[b]?) (hR : ∀ r, r ≠ q → RowLe w w' rows rows' gs gs' r) (hF : ∀ b ∈ F, w'.heap[b]? = w.heap[b]?) :
    TRel w' G' rows' gs' (kill q x) v F := by
  refine TRel.rec (motive_1 := fun x v F _ => (∀ b ∈ F, w'.heap[b]? = w.heap[b]?) → TRel w' G' rows' gs' (kill q x) v F)
    (motive_2 := fun xs vs F _ => (∀ b ∈ F, w'.heap[b]? = w.heap[b]?) → TRelL w' G' rows' gs' (xs.map (kill q)) vs F) ?_ ?_ ?_ ?_ ?_ ?_ ?_ ?_ ?_ ?_ h hF
  · intros; rw [kill_un]; exact .un
  · intro x v F h hF; rw [h.kill q]; exact .of (h.move_ hG hF)
  · intro r off len k cap b row cur e hr hob hl hh hs hm hc hk _
    rw [kill_vw]
    split
    · exact .un
    · rename_i hne
      obtain ⟨row', hr', hg, hn, hx, hb⟩ := (hR r hne).le row hr
      obtain ⟨cur', e', hh', hs'⟩ := hb b cur e hob hh
      exact .vw hr' (by rw [hg]; exact hob) (by omega) hh' (by rw [hs', hs, hn]) hm (by omega) (by rw [hn]; exact hk)
  · intro r row hr hob hxs _
    rw [kill_vw]
    split
    · exact .un
    · rename_i hne
      obtain ⟨row', hr', hg, hn, hx, hb⟩ := (hR r hne).le row hr
      exact .vwn hr' (by rw [hg]; exact hob) (by rw [hxs] at hx; exact List.eq_nil_of_length_eq_zero hx)
  · intro r j o k b row hr hob hk _
    rw [kill_pt]
    split
    · exact .un
    · rename_i hne
      obtain ⟨row', hr', hg, hn, hx, hb⟩ := (hR r hne).le row hr
      exact .pt hr' (by rw [hg]; exact hob) (by rw [hn]; exact hk)
  · intro xs cs F hl ih hF; rw [kill_agg]; exact .agg (ih hF)
  · intro xs cs F hl ih hF; rw [kill_tup]; exact .tup (ih hF)
  · intro g caps cs F hl ih hF; rw [kill_clo]; exact .clo (ih hF)
  · intro _; exact .nil
  · intro x v F xs vs Fs h hl ih ih' hF
    exact .cons (ih fun b hb => hF b (by simp [hb])) (ih' fun b hb => hF b (by simp [hb]))
theorem TRelL.stepK {w w' : World} {G G' : Nat → Prop} {rows rows' : List (Option Row)} {gs gs' : Gh} (q : Nat)
    (hG : ∀ b, G b → G' b ∧ w'.heap[b]? = w.heap[b]?) (hR : ∀ r, r ≠ q → RowLe w w' rows rows' gs gs' r) : ∀ {xs : List A} {vs : List Value} {F : List Nat},
    TRelL w G rows gs xs vs F → (∀ b ∈ F, w'.heap[b]? = w.heap[b]?) → TRelL w' G' rows' gs' (xs.map (kill q)) vs F
  | _, _, _, .nil, _ => .nil
  | _, _, _, .cons h hl, hF => .cons (h.stepK q hG hR fun b hb => hF b (by simp [hb])) (hl.stepK q hG hR fun b hb => hF b (by simp [hb]))

def killT (r : Nat) (t : List (Nat × A)) : List (Nat × A) := t.map fun p => (p.1, kill r p.2)
theorem lk_killT (r : Nat) : ∀ (t : List (Nat × A)) (i : Nat), lk (killT r t) i = kill r (lk t i)
  | [], i => (kill_un r).symm
  | (k, x) :: l, i => by
    have ih := lk_killT r l i
    simp only [killT] at ih
    simp only [killT, List.map_cons, lk]
    split
    · rfl
    · exact ih
/-- In rows: only in those that lead on. -/
def killRow (r : Nat) (row : Row) : Row := if row.lk then { row with xs := row.xs.map (kill r) } else row
def killRows (r : Nat) (rows : List (Option Row)) : List (Option Row) := rows.map (Option.map (killRow r))
theorem kill_cells (r : Nat) (x : A) : (kill r x).cells = x.cells.map (kill r) := by
  cases x <;> simp only [kill_sl, kill_agg, kill_tup, kill_rp, kill_bx, kill_clo, kill_sc, kill_nil, kill_un, kill_vw, kill_pt, A.cells, List.map_cons, List.map_nil]
  · split <;> split <;> simp_all
  · split <;> split <;> simp_all
theorem kill_width (r : Nat) (x : A) : (kill r x).width = x.width := by simp [A.width, kill_cells]
theorem kill_flat (r : Nat) (xs : List A) : flat (xs.map (kill r)) = (flat xs).map (kill r) := by
  induction xs with
  | nil => rfl
  | cons x xs ih => simp only [flat, List.map_cons, List.flatMap_cons, List.map_append] at *; rw [ih, kill_cells]
theorem rowAt_killRows (r : Nat) (rows : List (Option Row)) (i : Nat) : rowAt (killRows r rows) i = (rowAt rows i).map (killRow r) := by
  simp only [rowAt, killRows, List.getElem?_map]
  cases h : rows[i]? with
  | none => rfl
  | some o => cases o <;> rfl
theorem killRow_n (r : Nat) (row : Row) : (killRow r row).n = row.n := by unfold killRow; split <;> rfl
theorem killRow_len (r : Nat) (row : Row) : (killRow r row).xs.length = row.xs.length := by unfold killRow; split <;> simp
theorem killRow_lk (r : Nat) (row : Row) : (killRow r row).lk = row.lk := by unfold killRow; split <;> rfl

/-- A row carried over a step. -/
theorem RowRel.step {w w' : World} {G G' : Nat → Prop} {rows rows' : List (Option Row)} {gs gs' : Gh} {row : Row} {ob : Option Nat} {F : List Nat}
    (h : RowRel w G rows gs row ob F) (hG : ∀ b, G b → G' b ∧ w'.heap[b]? = w.heap[b]?) (hR : ∀ r, RowLe w w' rows rows' gs gs' r) (hF : ∀ c ∈ ob.toList ++ F, w'.heap[c]? = w.heap[c]?) :
    RowRel w' G' rows' gs' row ob F := by
  cases ob with
  | none => exact h
  | some b =>
    obtain ⟨cur, e, cap, h1, h2, h3, h4, h5, h6, h7⟩ := h.ex
    refine ⟨cur, e, cap, by rw [hF b (by simp)]; exact h1, h2, h3, h4, h5, h6, ?_⟩
    have hF' : ∀ c ∈ F, w'.heap[c]? = w.heap[c]? := fun c hc => hF c (by simp [hc])
    unfold CellsRel at *
    split
    · rename_i hl; rw [if_pos hl] at h7; exact h7.step hG hR hF'
    · rename_i hl; rw [if_neg hl] at h7; exact h7.move_ hG hF'
theorem RowRel.stepK {w w' : World} {G G' : Nat → Prop} {rows rows' : List (Option Row)} {gs gs' : Gh} {row : Row} {ob : Option Nat} {F : List Nat} (q : Nat)
    (h : RowRel w G rows gs row ob F) (hG : ∀ b, G b → G' b ∧ w'.heap[b]? = w.heap[b]?) (hR : ∀ r, r ≠ q → RowLe w w' rows rows' gs gs' r) (hF : ∀ c ∈ ob.toList ++ F, w'.heap[c]? = w.heap[c]?) :
    RowRel w' G' rows' gs' (killRow q row) ob F := by
  cases ob with
  | none =>
    obtain ⟨h1, h2⟩ := h
    refine ⟨?_, h2⟩
    unfold killRow
    split <;> simp [h1]
  | some b =>
    obtain ⟨cur, e, cap, h1, h2, h3, h4, h5, h6, h7⟩ := h.ex
    have hF' : ∀ c ∈ F, w'.heap[c]? = w.heap[c]? := fun c hc => hF c (by simp [hc])
    have hb : w'.heap[b]? = w.heap[b]? := hF b (by simp)
    unfold CellsRel at h7
    by_cases hl : row.lk = true
    · have e1 : killRow q row = { row with xs := row.xs.map (kill q) } := by unfold killRow; rw [if_pos hl]
      rw [e1]
      refine ⟨cur, e, cap, by rw [hb]; exact h1, h2, by simpa using h3, h4, ?_, by simpa using h6, ?_⟩
      · intro x hx
        obtain ⟨y, hy, rfl⟩ := List.mem_map.1 hx
        rw [kill_width]; exact h5 y hy
      · unfold CellsRel
        rw [if_pos hl] at h7
        show if row.lk = true then _ else _
        rw [if_pos hl, kill_flat]
        simpa using h7.stepK q hG hR hF'
    · have e1 : killRow q row = row := by unfold killRow; rw [if_neg hl]
      rw [e1]
      refine ⟨cur, e, cap, by rw [hb]; exact h1, h2, h3, h4, h5, h6, ?_⟩
      unfold CellsRel
      rw [if_neg hl] at h7 ⊢
      exact h7.move_ hG hF'
end Go.Fw

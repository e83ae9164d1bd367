/- Operations that make memory or write it. Plain theorems, no condition. -/
import Derived.Test.YtdngjnjapihbkaaFw5
set_option linter.unusedVariables false
set_option linter.unusedSimpArgs false
namespace Go.Fw

section
variable {P : Program} {E : Env} {G : Nat → Prop} {gs : Gh} {S : State} {a : Act} {w : World} {tmps : Array Value}

theorem heap_alloc_self (w : World) (o : Obj) : (w.alloc o).heap[w.heap.size]? = some o := heap_alloc_new w o
theorem heap_alloc_lt (w : World) (o : Obj) {k : Nat} (h : k < w.heap.size) : (w.alloc o).heap[k]? = w.heap[k]? := heap_alloc_old w o k h
theorem rowAt_push (rows : List (Option Row)) (x : Option Row) (r : Nat) : rowAt (rows ++ [x]) r = if r = rows.length then x else rowAt rows r := by
  unfold rowAt
  rcases Nat.lt_trichotomy r rows.length with h | h | h
  · rw [List.getElem?_append_left h, if_neg (by omega)]
  · subst h; simp
  · rw [if_neg (by omega), List.getElem?_append_right (by omega), List.getElem?_eq_none (by simp; omega), List.getElem?_eq_none (by omega)]
theorem rowAt_none {rows : List (Option Row)} {r : Nat} (h : rows.length ≤ r) : rowAt rows r = none := by
  unfold rowAt; rw [List.getElem?_eq_none h]; rfl
theorem rowAt_lt {rows : List (Option Row)} {r : Nat} {row : Row} (h : rowAt rows r = some row) : r < rows.length := by
  rcases Nat.lt_or_ge r rows.length with h' | h'
  · exact h'
  · rw [rowAt_none h'] at h; simp at h

/-- Blocks that are set aside: held by values on their way into memory. -/
structure Res (E : Env) (G : Nat → Prop) (gs : Gh) (rows : List (Option Row)) (R : List Nat) : Prop where
  nod : R.Nodup
  own : ∀ b ∈ R, ¬ G b ∧ (E.Fin b ∨ E.w0.heap.size ≤ b)
  dis : ∀ r row, rowAt rows r = some row → ∀ b ∈ gs.all r, b ∉ R
theorem Res.nil : Res E G gs S.rows [] := ⟨.nil, by simp, by simp⟩

def State.addRow (S : State) (row : Row) : State := { S with rows := S.rows ++ [some row] }
def Gh.add (gs : Gh) (r : Nat) (b : Option Nat) (F : List Nat) : Gh := fun i => if i = r then (b, F) else gs i

theorem RowLe.refl_of {w' : World} {rows rows' : List (Option Row)} {gs gs' : Gh} {r : Nat} (h1 : ∀ row, rowAt rows r = some row → rowAt rows' r = some row ∧ (gs' r).1 = (gs r).1 ∧ ∀ b, (gs r).1 = some b → w'.heap[b]? = w.heap[b]?) :
    RowLe w w' rows rows' gs gs' r := ⟨fun row hr => by
      obtain ⟨g1, g2, g3⟩ := h1 row hr
      exact ⟨row, g1, g2, rfl, rfl, fun b cur e hb hh => ⟨cur, e, by rw [g3 b hb]; exact hh, rfl⟩⟩⟩

theorem Inv.block_lt (hi : Inv E G gs S tmps w) {r : Nat} {row : Row} (hr : rowAt S.rows r = some row) : ∀ b ∈ gs.all r, b < w.heap.size := by
  intro b hb
  have h := hi.row r row hr
  unfold Gh.all at hb
  cases hob : (gs r).1 with
  | none =>
    rw [hob] at h hb
    rw [h.2] at hb
    simp at hb
  | some b0 =>
    rw [hob] at h hb
    obtain ⟨cur, e, cap, h1, h2, h3, h4, h5, h6, h7⟩ := h.ex
    rcases List.mem_append.1 hb with hb | hb
    · simp at hb; subst hb
      exact (Array.getElem?_eq_some_iff.1 h1).1
    · unfold CellsRel at h7
      split at h7
      · refine TRelL.rec (motive_1 := fun x v F _ => ∀ b ∈ F, b < w.heap.size) (motive_2 := fun xs vs F _ => ∀ b ∈ F, b < w.heap.size) ?_ ?_ ?_ ?_ ?_ ?_ ?_ ?_ ?_ ?_ h7 b hb
        · intros; simp_all
        · intro x v F h b hb; exact h.lt b hb
        · intros; simp_all
        · intros; simp_all
        · intros; simp_all
        · intro xs cs F hl ih; exact ih
        · intro xs cs F hl ih; exact ih
        · intro g caps cs F hl ih; exact ih
        · intros; simp_all
        · intro x v F xs vs Fs h hl ih ih' b hb
          rcases List.mem_append.1 hb with hb | hb
          · exact ih b hb
          · exact ih' b hb
      · exact h7.lt b hb

/-- A row more: its blocks are laid in w' (a new one, or some that came with a call); what was there stands. -/
theorem Inv.adopt (hi : Inv E G gs S tmps w) {w' : World} {G' : Nat → Prop} {R : List Nat} {ob : Option Nat} {row : Row}
    (hos : w'.os = w.os) (htape : w'.tape = w.tape) (hout : w'.output = w.output) (hsize : w.heap.size ≤ w'.heap.size) (hold : ∀ b, b < w.heap.size → w'.heap[b]? = w.heap[b]?)
    (hG1 : ∀ b, G b → G' b) (hG2 : ∀ b, G' b → G b ∨ w.heap.size ≤ b) (hG3 : ∀ b, G' b → b < w'.heap.size)
    (hnod : (ob.toList ++ R).Nodup) (hown : ∀ b ∈ ob.toList ++ R, ¬ G' b ∧ (E.Fin b ∨ E.w0.heap.size ≤ b)) (hdis : ∀ r row', rowAt S.rows r = some row' → ∀ b ∈ gs.all r, b ∉ ob.toList ++ R)
    (hrow : ∀ rows' gs', (∀ r row', rowAt S.rows r = some row' → rowAt rows' r = some row' ∧ gs' r = gs r) → RowRel w' G' rows' gs' row ob R) :
    Inv E G' (gs.add S.rows.length ob R) (S.addRow row) tmps w' := by
  have hG : ∀ b, G b → G' b ∧ w'.heap[b]? = w.heap[b]? := fun b hb => ⟨hG1 b hb, hold b (hi.glt b hb)⟩
  have hne : ∀ r row', rowAt S.rows r = some row' → r ≠ S.rows.length := fun r row' hr => by have := rowAt_lt hr; omega
  have hgs : ∀ r row', rowAt S.rows r = some row' → (gs.add S.rows.length ob R) r = gs r := fun r row' hr => by simp [Gh.add, hne r row' hr]
  have hrows : ∀ r row', rowAt S.rows r = some row' → rowAt (S.addRow row).rows r = some row' := fun r row' hr => by
    show rowAt (S.rows ++ [some row]) r = _
    rw [rowAt_push, if_neg (hne r row' hr)]; exact hr
  have hblk : ∀ r row', rowAt S.rows r = some row' → ∀ c ∈ gs.all r, w'.heap[c]? = w.heap[c]? := fun r row' hr c hc => hold c (hi.block_lt hr c hc)
  have hle : ∀ r, RowLe w w' S.rows (S.addRow row).rows gs (gs.add S.rows.length ob R) r := fun r => RowLe.refl_of fun row' hr =>
    ⟨hrows r row' hr, by rw [hgs r row' hr], fun b hb => hblk r row' hr b (by simp [Gh.all, hb])⟩
  have hcase : ∀ r row', rowAt (S.addRow row).rows r = some row' → (r = S.rows.length ∧ row' = row) ∨ (r ≠ S.rows.length ∧ rowAt S.rows r = some row') := fun r row' hr => by
    have hr' : rowAt (S.rows ++ [some row]) r = some row' := hr
    rw [rowAt_push] at hr'
    split at hr'
    · rename_i h; exact .inl ⟨h, (Option.some.inj hr').symm⟩
    · rename_i h; exact .inr ⟨h, hr'⟩
  have hself : (gs.add S.rows.length ob R) S.rows.length = (ob, R) := by simp [Gh.add]
  have hall0 : (gs.add S.rows.length ob R).all S.rows.length = ob.toList ++ R := by simp [Gh.all, hself]
  have hall : ∀ r row', rowAt S.rows r = some row' → (gs.add S.rows.length ob R).all r = gs.all r := fun r row' hr => by simp only [Gh.all, hgs r row' hr]
  refine ⟨fun b hb hf => ?_, hos.trans hi.os, htape.trans hi.tape, hout.trans hi.output, Nat.le_trans hi.size hsize, hi.sz, fun b hb => hG1 b (hi.gsub b hb), fun b hb => ?_, hG3, fun r row' hr => ?_, fun r row' hr => ?_, fun r row' hr => ?_, fun r r' row' row'' hr hr' hne' => ?_, fun i => ?_⟩
  · rw [hold b (Nat.lt_of_lt_of_le hb hi.size)]; exact hi.keep b hb hf
  · rcases hG2 b hb with h | h
    · exact hi.gnew b h
    · exact .inr (Nat.le_trans hi.size h)
  · rcases hcase r row' hr with ⟨rfl, rfl⟩ | ⟨_, hr0⟩
    · rw [hself]
      exact hrow _ _ fun r row' hr => ⟨hrows r row' hr, hgs r row' hr⟩
    · rw [hgs r row' hr0]
      exact (hi.row r row' hr0).step hG hle (hblk r row' hr0)
  · rcases hcase r row' hr with ⟨rfl, rfl⟩ | ⟨_, hr0⟩
    · rw [hall0]; exact hnod
    · rw [hall r row' hr0]; exact hi.nod r row' hr0
  · rcases hcase r row' hr with ⟨rfl, rfl⟩ | ⟨_, hr0⟩
    · rw [hall0]; exact hown
    · rw [hall r row' hr0]
      intro b hb
      obtain ⟨h1, h2⟩ := hi.own r row' hr0 b hb
      refine ⟨fun h => ?_, h2⟩
      rcases hG2 b h with h | h
      · exact h1 h
      · have := hi.block_lt hr0 b hb; omega
  · rcases hcase r row' hr with ⟨rfl, rfl⟩ | ⟨h1, hr0⟩ <;> rcases hcase r' row'' hr' with ⟨rfl, rfl⟩ | ⟨h2, hr0'⟩
    · exact absurd rfl hne'
    · rw [hall0, hall r' row'' hr0']
      intro b hb hb'
      exact hdis r' row'' hr0' b hb' hb
    · rw [hall0, hall r row' hr0]
      intro b hb hb'
      exact hdis r row' hr0 b hb hb'
    · rw [hall r row' hr0, hall r' row'' hr0']
      exact hi.dis r r' row' row'' hr0 hr0' hne'
  · exact (hi.tmp i).step hG hle (by simp)

/-- A new block. -/
theorem Inv.addRow (hi : Inv E G gs S tmps w) {R : List Nat} (hR : Res E G gs S.rows R) {row : Row} {cur : Array Value} {e : TypeId} {cap : Nat} (hs : cur.size = cap * row.n) (hlen : row.xs.length ≤ cap) (hm : cap ≤ maxLen)
    (hw : ∀ x ∈ row.xs, x.width = row.n) (hv : ∀ v ∈ cur.toList.take (row.xs.length * row.n), cellV v = true)
    (hc : CellsRel row.lk w G S.rows gs (flat row.xs) (cur.toList.take (row.xs.length * row.n)) R) (hRlt : ∀ b ∈ R, b < w.heap.size) :
    Inv E G (gs.add S.rows.length (some w.heap.size) R) (S.addRow row) tmps (w.alloc (.cells cur e)) := by
  have hold : ∀ b, b < w.heap.size → (w.alloc (.cells cur e)).heap[b]? = w.heap[b]? := fun b hb => heap_alloc_lt w _ hb
  refine hi.adopt rfl rfl rfl (by simp) hold (fun _ h => h) (fun _ h => .inl h) (fun b hb => by have := hi.glt b hb; simp; omega) ?_ ?_ ?_ ?_
  · exact List.nodup_cons.2 ⟨fun h => by have := hRlt _ h; omega, hR.nod⟩
  · intro b hb
    rcases List.mem_cons.1 hb with rfl | hb
    · exact ⟨fun h => by have := hi.glt _ h; omega, .inr hi.size⟩
    · exact hR.own b hb
  · intro r row' hr b hb hb'
    rcases List.mem_cons.1 hb' with rfl | hb'
    · have := hi.block_lt hr _ hb; omega
    · exact hR.dis r row' hr b hb hb'
  · intro rows' gs' hrows
    refine ⟨cur, e, cap, heap_alloc_self w _, hs, hlen, hm, hw, hv, ?_⟩
    have hF : ∀ b ∈ R, (w.alloc (.cells cur e)).heap[b]? = w.heap[b]? := fun b hb => hold b (hRlt b hb)
    have hG : ∀ b, G b → G b ∧ (w.alloc (.cells cur e)).heap[b]? = w.heap[b]? := fun b hb => ⟨hb, hold b (hi.glt b hb)⟩
    unfold CellsRel at hc ⊢
    split
    · rename_i hl
      rw [if_pos hl] at hc
      refine hc.step hG (fun r => RowLe.refl_of fun row' hr => ?_) hF
      obtain ⟨g1, g2⟩ := hrows r row' hr
      exact ⟨g1, by rw [g2], fun b hb => hold b (hi.block_lt hr b (by simp [Gh.all, hb]))⟩
    · rename_i hl; rw [if_neg hl] at hc; exact hc.move_ hG hF

/-- The temporary that leads to a row just made. -/
theorem addRow_vw {R : List Nat} {row : Row} {cur : Array Value} {e : TypeId} {cap : Nat} (hs : cur.size = cap * row.n) (hlen : row.xs.length ≤ cap) (hm : cap ≤ maxLen) (len : Nat) (hl : len ≤ row.xs.length) :
    TRel (w.alloc (.cells cur e)) G (S.addRow row).rows (gs.add S.rows.length (some w.heap.size) R) (.vw S.rows.length 0 len) (.slice (some ⟨w.heap.size, 0, none⟩) len cap) [] := by
  have e1 : ((gs.add S.rows.length (some w.heap.size) R) S.rows.length).1 = some w.heap.size := by simp [Gh.add]
  have hr : rowAt (S.addRow row).rows S.rows.length = some row := by
    show rowAt (S.rows ++ [some row]) S.rows.length = _
    rw [rowAt_push, if_pos rfl]
  have := TRel.vw (w := w.alloc (.cells cur e)) (G := G) (rows := (S.addRow row).rows) (gs := gs.add S.rows.length (some w.heap.size) R) (off := 0) (len := len) (k := 0) hr e1 (by omega) (heap_alloc_self w _) hs hm hlen (.inl (by simp))
  simpa using this
theorem addRow_pt {R : List Nat} {row : Row} {cur : Array Value} {e : TypeId} :
    TRel (w.alloc (.cells cur e)) G (S.addRow row).rows (gs.add S.rows.length (some w.heap.size) R) (.pt S.rows.length 0 0) (.pointer (some ⟨w.heap.size, 0, none⟩)) [] := by
  have e1 : ((gs.add S.rows.length (some w.heap.size) R) S.rows.length).1 = some w.heap.size := by simp [Gh.add]
  have hr : rowAt (S.addRow row).rows S.rows.length = some row := by
    show rowAt (S.rows ++ [some row]) S.rows.length = _
    rw [rowAt_push, if_pos rfl]
  exact TRel.pt (w := w.alloc (.cells cur e)) (G := G) (rows := (S.addRow row).rows) (gs := gs.add S.rows.length (some w.heap.size) R) (j := 0) (o := 0) (k := 0) hr e1 (by simp)

/-- What may stand in a cell. -/
def okCell : A → Bool
  | .un => false
  | .agg _ => false
  | .tup _ => false
  | _ => true
theorem okCell_v {rows : List (Option Row)} {x : A} {v : Value} {F : List Nat} (h : TRel w G rows gs x v F) (hx : okCell x = true) : cellV v = true := by
  cases h with
  | of h => cases h <;> first | assumption | rfl | exact mkFn_cell _ _ | simp [okCell] at hx
  | un => simp [okCell] at hx
  | vw => rfl
  | vwn => rfl
  | pt => rfl
  | agg => simp [okCell] at hx
  | tup => simp [okCell] at hx
  | clo => exact mkFn_cell _ _
theorem okCells_v {rows : List (Option Row)} : ∀ {xs : List A} {vs : List Value} {F : List Nat}, TRelL w G rows gs xs vs F → xs.all okCell = true → ∀ v ∈ vs, cellV v = true
  | _, _, _, .nil, _, v, hv => by simp at hv
  | _, _, _, .cons h hl, hx, v, hv => by
    simp only [List.all_cons, Bool.and_eq_true] at hx
    rcases List.mem_cons.1 hv with rfl | hv
    · exact okCell_v h hx.1
    · exact okCells_v hl hx.2 v hv
theorem cells_rel {rows : List (Option Row)} {x : A} {v : Value} (h : TRel w G rows gs x v []) (hx : x.cells.all okCell = true) : TRelL w G rows gs x.cells v.cells.toList [] := by
  have one : okCell x = true → TRelL w G rows gs [x] v.cells.toList [] := fun ho => by
    have hv := okCell_v h ho
    have : v.cells = #[v] := by cases v <;> simp_all [Value.cells, cellV, Value.oneCell']
    rw [this]
    exact .cons (F := []) (Fs := []) h .nil
  cases x with
  | agg xs =>
    obtain ⟨cs, rfl, hl⟩ := agg_inv h
    exact hl
  | _ => exact one (by simpa [A.cells] using hx)

theorem opOK_row {o : Oper} {K : State → Prop} {row : Row} (x : A) (hK : K ((S.addRow row).put o.dst x))
    (h : ∀ (E : Env) (G : Nat → Prop) (gs : Gh) (a : Act) (w : World), Inv E G gs S a.tmps w → ∃ (v : Value) (cur : Array Value) (e : TypeId) (cap : Nat), (execOp a.eval o).run P w = .ok (.value v) (w.alloc (.cells cur e)) ∧ cur.size = cap * row.n ∧ row.xs.length ≤ cap ∧ cap ≤ maxLen ∧
      (∀ x ∈ row.xs, x.width = row.n) ∧ (∀ v ∈ cur.toList.take (row.xs.length * row.n), cellV v = true) ∧ CellsRel row.lk w G S.rows gs (flat row.xs) (cur.toList.take (row.xs.length * row.n)) [] ∧
      TRel (w.alloc (.cells cur e)) G (S.addRow row).rows (gs.add S.rows.length (some w.heap.size) []) x v []) : opOK P o S K := by
  intro E a w next Q hs hn
  obtain ⟨hd, G, gs, hi⟩ := hs
  obtain ⟨v, cur, e, cap, hr, h1, h2, h3, h4, h5, h6, hx⟩ := h E G gs a w hi
  unfold Oper.wp
  rw [hr]
  have hi' := hi.addRow (e := e) Res.nil h1 h2 h3 h4 h5 h6 (by simp)
  exact hn _ _ _ hK ⟨by rw [put_defers]; exact hd, G, _, Inv.put (S := S.addRow row) hi' hx o.dst⟩

theorem one_row_cells {x : A} {cs : List Value} (h : cs.length = x.width) : cs.take ([x].length * x.width) = cs := by
  rw [List.length_singleton, Nat.one_mul, ← h, List.take_length]
theorem flat_one (x : A) : flat [x] = x.cells := by simp [flat]

/-- A variable in memory. -/
theorem opOK_box {o : Oper} {K : State → Prop} {t : TypeId} {x : Operand} (ho : o.op = .box t x) (hx : okO x = true) (hc : (ev S x).cells.all okCell = true)
    (hK : K ((S.addRow ⟨(ev S x).width, [ev S x], true⟩).put o.dst (.pt S.rows.length 0 0))) : opOK P o S K := by
  refine opOK_row (row := ⟨(ev S x).width, [ev S x], true⟩) _ hK fun E G gs a w hi => ?_
  have h1 := ev_rel hi x hx
  have h2 := cells_rel h1 hc
  have hl : (a.eval x).cells.toList.length = (ev S x).width := by rw [h2.length]; rfl
  refine ⟨.pointer (some ⟨w.heap.size, 0, none⟩), (a.eval x).cells, t, 1, ?_, ?_, by simp, by simp [maxLen], by simp, ?_, ?_, addRow_pt⟩
  · simp [execOp, ho, Instr.box, newVar, newRow]
  · simpa using hl
  · rw [one_row_cells hl]; exact okCells_v h2 hc
  · rw [one_row_cells hl, flat_one]; exact h2
theorem opOK_alloc {o : Oper} {K : State → Prop} {t : TypeId} {z : Value} (ho : o.op = .alloc t) (hz : zeroT P t = some z) (hv : okV z = true)
    (hK : K ((S.addRow ⟨(constA z).width, [constA z], true⟩).put o.dst (.pt S.rows.length 0 0))) : opOK P o S K := by
  refine opOK_row (row := ⟨(constA z).width, [constA z], true⟩) _ hK fun E G gs a w hi => ?_
  have h1 : TRel w G S.rows gs (constA z) z [] := .of (rel_constA hv)
  have hc : (constA z).cells.all okCell = true := by
    have hcell : ∀ v, okCell (cellA v) = true := fun v => by unfold cellA; split <;> rfl
    unfold constA
    split
    · simp [A.cells, hcell]
    · rename_i hne
      have : (cellA z).cells = [cellA z] := by
        unfold cellA; split <;> rfl
      rw [this]; simp [hcell]
  have h2 := cells_rel h1 hc
  have hl : z.cells.toList.length = (constA z).width := by rw [h2.length]; rfl
  refine ⟨.pointer (some ⟨w.heap.size, 0, none⟩), z.cells, t, 1, ?_, ?_, by simp, by simp [maxLen], by simp, ?_, ?_, addRow_pt⟩
  · simp [execOp, ho, Instr.alloc, run_zero hz, newVar, newRow]
  · simpa using hl
  · rw [one_row_cells hl]; exact okCells_v h2 hc
  · rw [one_row_cells hl, flat_one]; exact h2
end
end Go.Fw

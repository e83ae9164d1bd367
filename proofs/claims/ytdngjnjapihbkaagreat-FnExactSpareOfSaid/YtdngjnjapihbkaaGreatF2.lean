/- What goes into memory for good; writing; growing. Plain theorems, no condition. -/
import Derived.Test.YtdngjnjapihbkaaGreatF1
set_option linter.unusedVariables false
set_option linter.unusedSimpArgs false
namespace Go.Fw

theorem rowAt_set (rows : List (Option Row)) (q : Nat) (x : Option Row) (r : Nat) (hq : q < rows.length) : rowAt (rows.set q x) r = if r = q then x else rowAt rows r := by
  unfold rowAt
  rw [List.getElem?_set]
  by_cases h : q = r
  · subst h; simp [hq]
  · rw [if_neg h, if_neg (fun e => h e.symm)]
theorem killRows_length (q : Nat) (rows : List (Option Row)) : (killRows q rows).length = rows.length := by simp [killRows]

/-- Row q is another one, or none: what led into it is forgotten. -/
def State.turn (S : State) (q : Nat) (x : Option Row) : State := ⟨killT q S.t, S.N, (killRows q S.rows).set q x⟩
def State.setRow (S : State) (q : Nat) (x : Row) : State := { S with rows := S.rows.set q (some x) }

section
variable {P : Program} {E : Env} {G : Nat → Prop} {gs : Gh} {S : State} {a : Act} {w : World} {tmps : Array Value}

theorem rowAt_turn {q r : Nat} {row : Row} {x : Option Row} (hq : rowAt S.rows q = some row) : rowAt (S.turn q x).rows r = if r = q then x else (rowAt S.rows r).map (killRow q) := by
  show rowAt ((killRows q S.rows).set q x) r = _
  rw [rowAt_set _ _ _ _ (by rw [killRows_length]; exact rowAt_lt hq), rowAt_killRows]

theorem Inv.turn (hi : Inv E G gs S tmps w) {q : Nat} {row : Row} (hq : rowAt S.rows q = some row) {w' : World} {x : Option Row} {ob : Option Nat} {F : List Nat}
    (hos : w'.os = w.os) (htape : w'.tape = w.tape) (hout : w'.output = w.output) (hsize : w.heap.size ≤ w'.heap.size) (hold : ∀ b, b < w.heap.size → b ∉ gs.all q → w'.heap[b]? = w.heap[b]?)
    (hnod : (ob.toList ++ F).Nodup) (hown : ∀ b ∈ ob.toList ++ F, ¬ G b ∧ (E.Fin b ∨ E.w0.heap.size ≤ b)) (hdis : ∀ r row', r ≠ q → rowAt S.rows r = some row' → ∀ b ∈ gs.all r, b ∉ ob.toList ++ F)
    (hx : ∀ row', x = some row' → row'.lk = false ∧ ∀ rows' gs', RowRel w' G rows' gs' row' ob F) :
    Inv E G (gs.add q ob F) (S.turn q x) tmps w' := by
  have hqn : ∀ b, G b → b ∉ gs.all q := fun b hb h => (hi.own q row hq b h).1 hb
  have hG : ∀ b, G b → G b ∧ w'.heap[b]? = w.heap[b]? := fun b hb => ⟨hb, hold b (hi.glt b hb) (hqn b hb)⟩
  have hblk : ∀ r row', r ≠ q → rowAt S.rows r = some row' → ∀ c ∈ gs.all r, w'.heap[c]? = w.heap[c]? := fun r row' hne hr c hc =>
    hold c (hi.block_lt hr c hc) (hi.dis r q row' row hr hq hne c hc)
  have hgs : ∀ r, r ≠ q → (gs.add q ob F) r = gs r := fun r hr => by simp [Gh.add, hr]
  have hself : (gs.add q ob F) q = (ob, F) := by simp [Gh.add]
  have hall0 : (gs.add q ob F).all q = ob.toList ++ F := by simp [Gh.all, hself]
  have hall : ∀ r, r ≠ q → (gs.add q ob F).all r = gs.all r := fun r hr => by simp only [Gh.all, hgs r hr]
  have hle : ∀ r, r ≠ q → RowLe w w' S.rows (S.turn q x).rows gs (gs.add q ob F) r := fun r hne => ⟨fun row' hr => by
    refine ⟨killRow q row', ?_, by rw [hgs r hne], killRow_n _ _, killRow_len _ _, fun b cur e hb hh => ⟨cur, e, ?_, rfl⟩⟩
    · rw [rowAt_turn hq, if_neg hne, hr]; rfl
    · rw [hblk r row' hne hr b (by simp [Gh.all, hb])]; exact hh⟩
  have hcase : ∀ r row', rowAt (S.turn q x).rows r = some row' → (r = q ∧ x = some row') ∨ (r ≠ q ∧ ∃ row0, rowAt S.rows r = some row0 ∧ row' = killRow q row0) := fun r row' hr => by
    rw [rowAt_turn hq] at hr
    split at hr
    · rename_i h; exact .inl ⟨h, hr⟩
    · rename_i h
      obtain ⟨row0, h1, h2⟩ := Option.map_eq_some_iff.1 hr
      exact .inr ⟨h, row0, h1, h2.symm⟩
  refine ⟨fun b hb hf => ?_, hos.trans hi.os, htape.trans hi.tape, hout.trans hi.output, Nat.le_trans hi.size hsize, hi.sz, hi.gsub, hi.gnew, fun b hb => Nat.lt_of_lt_of_le (hi.glt b hb) hsize, fun r row' hr => ?_, fun r row' hr => ?_, fun r row' hr => ?_, fun r r' row' row'' hr hr' hne' => ?_, fun i => ?_⟩
  · rw [hold b (Nat.lt_of_lt_of_le hb hi.size) ?_]
    · exact hi.keep b hb hf
    · intro h
      rcases (hi.own q row hq b h).2 with h | h
      · exact hf h
      · omega
  · rcases hcase r row' hr with ⟨rfl, h⟩ | ⟨hne, row0, hr0, rfl⟩
    · rw [hself]; exact (hx row' h).2 _ _
    · rw [hgs r hne]
      exact (hi.row r row0 hr0).stepK q hG hle (hblk r row0 hne hr0)
  · rcases hcase r row' hr with ⟨rfl, h⟩ | ⟨hne, row0, hr0, rfl⟩
    · rw [hall0]; exact hnod
    · rw [hall r hne]; exact hi.nod r row0 hr0
  · rcases hcase r row' hr with ⟨rfl, h⟩ | ⟨hne, row0, hr0, rfl⟩
    · rw [hall0]; exact hown
    · rw [hall r hne]; exact hi.own r row0 hr0
  · rcases hcase r row' hr with ⟨rfl, h⟩ | ⟨h1, row0, hr0, rfl⟩ <;> rcases hcase r' row'' hr' with ⟨rfl, h'⟩ | ⟨h2, row0', hr0', rfl⟩
    · exact absurd rfl hne'
    · rw [hall0, hall r' h2]
      intro b hb hb'
      exact hdis r' row0' h2 hr0' b hb' hb
    · rw [hall0, hall r h1]
      exact fun b hb => hdis r row0 h1 hr0 b hb
    · rw [hall r h1, hall r' h2]
      exact hi.dis r r' row0 row0' hr0 hr0' hne'
  · show TRel w' G (S.turn q x).rows (gs.add q ob F) (lk (killT q S.t) i) _ []
    rw [lk_killT]
    exact (hi.tmp i).stepK q hG hle (by simp)

/- Plain data: it leads into no own row. -/
mutual
def isData : A → Bool
  | .un => false
  | .vw _ _ _ => false
  | .pt _ _ _ => false
  | .agg xs => isDataL xs
  | .tup xs => isDataL xs
  | .clo _ xs => isDataL xs
  | .sc _ => true
  | .nil => true
  | .sl _ _ _ => true
  | .rp _ => true
  | .bx _ => true
def isDataL : List A → Bool
  | [] => true
  | x :: xs => isData x && isDataL xs
end
theorem isDataL_eq : ∀ xs : List A, isDataL xs = xs.all isData
  | [] => rfl
  | x :: xs => by rw [isDataL, isDataL_eq xs]; rfl
theorem isData_un : isData .un = false := rfl
theorem isData_vw (r i l : Nat) : isData (.vw r i l) = false := rfl
theorem isData_pt (r i l : Nat) : isData (.pt r i l) = false := rfl
theorem isData_agg (xs : List A) : isData (.agg xs) = xs.all isData := by rw [isData, isDataL_eq]
theorem isData_tup (xs : List A) : isData (.tup xs) = xs.all isData := by rw [isData, isDataL_eq]
theorem isData_clo (g : Nat) (xs : List A) : isData (.clo g xs) = xs.all isData := by rw [isData, isDataL_eq]
theorem isData_sc (v : Value) : isData (.sc v) = true := rfl
theorem isData_nil : isData .nil = true := rfl
theorem isData_sl (o : Bool) (n : Nat) (xs : List A) : isData (.sl o n xs) = true := rfl
theorem isData_rp (xs : List A) : isData (.rp xs) = true := rfl
theorem isData_bx (xs : List A) : isData (.bx xs) = true := rfl
theorem TRel.data {rows : List (Option Row)} {x : A} {v : Value} {F : List Nat} (h : TRel w G rows gs x v F) (hx : isData x = true) : Rel w G x v F := by
  refine TRel.rec (motive_1 := fun x v F _ => isData x = true → Rel w G x v F) (motive_2 := fun xs vs F _ => xs.all isData = true → RelL w G xs vs F) ?_ ?_ ?_ ?_ ?_ ?_ ?_ ?_ ?_ ?_ h hx
  · intro v hx; simp [isData_un] at hx
  · intro x v F h _; exact h
  · intro r off len k cap b row cur e _ _ _ _ _ _ _ _ hx; simp [isData_vw] at hx
  · intro r row _ _ _ hx; simp [isData_vw] at hx
  · intro r j o k b row _ _ _ hx; simp [isData_pt] at hx
  · intro xs cs F hl ih hx; exact .agg (ih (by rwa [isData_agg] at hx))
  · intro xs cs F hl ih hx; exact .tup (ih (by rwa [isData_tup] at hx))
  · intro g caps cs F hl ih hx; exact .clo (ih (by rwa [isData_clo] at hx))
  · intro _; exact .nil
  · intro x v F xs vs Fs h hl ih ih' hx
    simp only [List.all_cons, Bool.and_eq_true] at hx
    exact .cons (ih hx.1) (ih' hx.2)
theorem TRelL.data {rows : List (Option Row)} : ∀ {xs : List A} {vs : List Value} {F : List Nat}, TRelL w G rows gs xs vs F → xs.all isData = true → RelL w G xs vs F
  | _, _, _, .nil, _ => .nil
  | _, _, _, .cons h hl, hx => by
    simp only [List.all_cons, Bool.and_eq_true] at hx
    exact .cons (h.data hx.1) (hl.data hx.2)

/-- A value on its way into memory: an own row that it leads to goes with it. -/
def stash1 (S : State) : A → Prop × A × State × List Nat
  | .vw r off len => match rowAt S.rows r with
    | some row => (off = 0 ∧ len ≤ row.xs.length ∧ row.lk = false, .sl true row.n (row.xs.take len), S.turn r none, [r])
    | none => (False, .un, S, [])
  | x => (isData x = true, x, S, [])
def kills (ks : List Nat) (x : A) : A := ks.foldl (fun x r => kill r x) x
def stashL : State → List A → Prop × List A × State × List Nat
  | S, [] => (True, [], S, [])
  | S, x :: xs =>
    match stash1 S x with
    | (c, y, S1, ks) =>
      match stashL S1 (xs.map (kills ks)) with
      | (c', ys, S2, ks') => (c ∧ c', y :: ys, S2, ks ++ ks')
termination_by _ xs => xs.length

structure Stashed (E : Env) (G : Nat → Prop) (gs : Gh) (S S' : State) (tmps : Array Value) (w : World) (R R' : List Nat) (ks : List Nat) : Prop where
  inv : Inv E G gs S' tmps w
  res : Res E G gs S'.rows R'
  lt : (∀ b ∈ R, b < w.heap.size) → ∀ b ∈ R', b < w.heap.size
  step : ∀ x v, TRel w G S.rows gs x v [] → TRel w G S'.rows gs (kills ks x) v []
  rows : ∀ r row, r ∉ ks → rowAt S.rows r = some row → row.lk = false → rowAt S'.rows r = some row
  len : S'.rows.length = S.rows.length
theorem Gh.add_self (gs : Gh) (q : Nat) : gs.add q (gs q).1 (gs q).2 = gs := by
  funext i
  unfold Gh.add
  split
  · rename_i h; subst h; rfl
  · rfl
theorem stash1_ok (hi : Inv E G gs S tmps w) {R : List Nat} (hR : Res E G gs S.rows R) {x : A} {v : Value} (hx : TRel w G S.rows gs x v []) (hc : (stash1 S x).1) :
    ∃ F, Stashed E G gs S (stash1 S x).2.2.1 tmps w R (F ++ R) (stash1 S x).2.2.2 ∧ Rel w G (stash1 S x).2.1 v F := by
  have plain : isData x = true → ∃ F, Stashed E G gs S S tmps w R (F ++ R) [] ∧ Rel w G x v F := fun hd =>
    ⟨[], ⟨hi, by simpa using hR, fun h => by simpa using h, fun x v h => h, fun r row _ h _ => h, rfl⟩, hx.data hd⟩
  cases x <;> try exact plain hc
  rename_i r off len
  simp only [stash1] at hc ⊢
  cases hr : rowAt S.rows r with
  | none => simp [hr] at hc
  | some row =>
    simp only [hr] at hc ⊢
    obtain ⟨rfl, hlen, hlk⟩ := hc
    have hturn : Inv E G gs (S.turn r none) tmps w := by
      have := hi.turn (w' := w) (x := none) (ob := (gs r).1) (F := (gs r).2) hr rfl rfl rfl (Nat.le_refl _) (fun _ _ _ => rfl) (hi.nod r row hr) (hi.own r row hr)
        (fun r' row' hne hr' b hb => hi.dis r' r row' row hr' hr hne b hb) (by simp)
      rwa [Gh.add_self] at this
    obtain ⟨F, hsub, hrel⟩ : ∃ F : List Nat, F.Sublist (gs.all r) ∧ Rel w G (.sl true row.n (row.xs.take len)) v F := by
      rcases vw_inv hx with ⟨row', k, cap, cur, e, b, hr', hob, g1, g2, g3, g4, g5, g6, rfl⟩ | ⟨row', hr', hob, hxs, _, _, rfl⟩
      · rw [hr] at hr'
        obtain rfl := Option.some.inj hr'
        have hk : k = 0 := by rcases g6 with h | h <;> omega
        subst hk
        have h := hi.row r row hr
        rw [hob] at h
        obtain ⟨cur', e', cap', h1, h2, h3, h4, h5, h6, h7⟩ := h.ex
        rw [g2] at h1
        simp only [Option.some.injEq, Obj.cells.injEq] at h1
        obtain ⟨rfl, rfl, _⟩ := h1
        unfold CellsRel at h7
        rw [if_neg (by simp [hlk])] at h7
        obtain ⟨F1, F2, e1, k1, _⟩ := h7.take_ (len * row.n)
        rw [flat_take len h5] at k1
        have hle : len * row.n ≤ row.xs.length * row.n := Nat.mul_le_mul_right _ hlen
        rw [List.take_take, Nat.min_eq_left hle] at k1
        refine ⟨b :: F1, ?_, .ow g2 (fun x hx => h5 x (List.mem_of_mem_take hx)) (by simp; omega) rfl k1 (by omega) g4 g3 fun v hv => h6 v ?_⟩
        · rw [show gs.all r = b :: (F1 ++ F2) by simp [Gh.all, hob, e1]]
          exact (List.sublist_append_left _ _).cons_cons _
        · have : cur.toList.take (len * row.n) = (cur.toList.take (row.xs.length * row.n)).take (len * row.n) := by rw [List.take_take, Nat.min_eq_left hle]
          rw [this] at hv
          exact List.mem_of_mem_take hv
      · rw [hr] at hr'
        obtain rfl := Option.some.inj hr'
        refine ⟨[], List.nil_sublist _, ?_⟩
        rw [hxs, List.take_nil]
        exact .nils
    refine ⟨F, ⟨hturn, ⟨?_, ?_, ?_⟩, ?_, ?_, ?_, ?_⟩, hrel⟩
    · exact List.nodup_append.2 ⟨(hi.nod r row hr).sublist hsub, hR.nod, fun b hb c hc e => by subst e; exact hR.dis r row hr b (hsub.subset hb) hc⟩
    · intro b hb
      rcases List.mem_append.1 hb with hb | hb
      · exact hi.own r row hr b (hsub.subset hb)
      · exact hR.own b hb
    · intro r' row' hr' b hb hb'
      rw [rowAt_turn hr] at hr'
      split at hr'
      · simp at hr'
      · rename_i hne
        obtain ⟨row0, h1, _⟩ := Option.map_eq_some_iff.1 hr'
        rcases List.mem_append.1 hb' with hb' | hb'
        · exact hi.dis r' r row0 row h1 hr hne b hb (hsub.subset hb')
        · exact hR.dis r' row0 h1 b hb hb'
    · intro hlt b hb
      rcases List.mem_append.1 hb with hb | hb
      · exact hi.block_lt hr b (hsub.subset hb)
      · exact hlt b hb
    · intro y u hy
      refine hy.stepK r (fun b hb => ⟨hb, rfl⟩) (fun r' hne => ⟨fun row' hr' => ⟨killRow r row', ?_, rfl, killRow_n _ _, killRow_len _ _, fun b cur e _ hh => ⟨cur, e, hh, rfl⟩⟩⟩) (by simp)
      rw [rowAt_turn hr, if_neg hne, hr']; rfl
    · intro r' row' hne hr' hlk'
      have : r' ≠ r := fun e => hne (by simp [e])
      rw [rowAt_turn hr, if_neg this, hr']
      simp [killRow, hlk']
    · simp [State.turn, killRows]
theorem kills_append (ks ks' : List Nat) (x : A) : kills (ks ++ ks') x = kills ks' (kills ks x) := by simp [kills]
theorem Stashed.trans {S' S'' : State} {R R' R'' : List Nat} {ks ks' : List Nat} (h : Stashed E G gs S S' tmps w R R' ks) (h' : Stashed E G gs S' S'' tmps w R' R'' ks') : Stashed E G gs S S'' tmps w R R'' (ks ++ ks') :=
  ⟨h'.inv, h'.res, fun hl => h'.lt (h.lt hl), fun x v hx => by rw [kills_append]; exact h'.step _ _ (h.step x v hx),
    fun r row hn hr hl => h'.rows r row (fun hm => hn (by simp [hm])) (h.rows r row (fun hm => hn (by simp [hm])) hr hl) hl, h'.len.trans h.len⟩
theorem Stashed.stepL {S' : State} {R R' ks : List Nat} (h : Stashed E G gs S S' tmps w R R' ks) : ∀ (xs : List A) (vs : List Value), TRelL w G S.rows gs xs vs [] → TRelL w G S'.rows gs (xs.map (kills ks)) vs []
  | xs, vs, hl => by
    generalize hF1 : ([] : List Nat) = F1 at hl
    cases hl with
    | nil => rw [← hF1]; exact .nil
    | cons h0 hl =>
      rename_i x v F xs vs Fs
      have hF' : F = [] ∧ Fs = [] := by simpa using hF1.symm
      obtain ⟨rfl, rfl⟩ := hF'
      exact .cons (F := []) (Fs := []) (h.step _ _ h0) (h.stepL xs vs hl)
theorem stashL_ok : ∀ (n : Nat) (xs : List A) (S : State) (vs : List Value) (R : List Nat), xs.length = n → Inv E G gs S tmps w → Res E G gs S.rows R → TRelL w G S.rows gs xs vs [] → (stashL S xs).1 →
    ∃ F, Stashed E G gs S (stashL S xs).2.2.1 tmps w R (F ++ R) (stashL S xs).2.2.2 ∧ RelL w G (stashL S xs).2.1 vs F := by
  intro n
  induction n with
  | zero =>
    intro xs S vs R hn hi hR hx hc
    obtain rfl := List.eq_nil_of_length_eq_zero hn
    have hv : vs = [] := List.eq_nil_of_length_eq_zero (by rw [hx.length]; rfl)
    subst hv
    simp only [stashL]
    exact ⟨[], ⟨hi, by simpa using hR, fun h => by simpa using h, fun x v h => h, fun r row _ h _ => h, rfl⟩, .nil⟩
  | succ n ih =>
    intro xs S vs R hn hi hR hx hc
    cases xs with
    | nil => simp at hn
    | cons x xs =>
      generalize hF0 : ([] : List Nat) = F0 at hx
      cases hx with
      | cons h hl =>
        rename_i v F vs Fs
        have hF' : F = [] ∧ Fs = [] := by simpa using hF0.symm
        obtain ⟨rfl, rfl⟩ := hF'
        rw [stashL] at hc ⊢
        generalize hs1 : stash1 S x = p at hc ⊢
        obtain ⟨c, y, S1, ks⟩ := p
        simp only at hc ⊢
        generalize hs2 : stashL S1 (xs.map (kills ks)) = p2 at hc ⊢
        obtain ⟨c', ys, S2, ks'⟩ := p2
        simp only at hc ⊢
        obtain ⟨F1, hst, hrel⟩ := stash1_ok hi hR h (by rw [hs1]; exact hc.1)
        rw [hs1] at hst hrel
        simp only at hst hrel
        have hrest : TRelL w G S1.rows gs (xs.map (kills ks)) vs [] := hst.stepL xs vs hl
        obtain ⟨F2, hst2, hrel2⟩ := ih (xs.map (kills ks)) S1 vs (F1 ++ R) (by simpa using hn) hst.inv hst.res hrest (by rw [hs2]; exact hc.2)
        rw [hs2] at hst2 hrel2
        simp only at hst2 hrel2
        have hnd : (F2 ++ (F1 ++ R)).Nodup := hst2.res.nod
        refine ⟨F1 ++ F2, ?_, .cons hrel hrel2⟩
        have hperm : ∀ b, b ∈ F1 ++ F2 ++ R ↔ b ∈ F2 ++ (F1 ++ R) := fun b => by
          simp only [List.mem_append]
          constructor
          · rintro ((h | h) | h)
            · exact .inr (.inl h)
            · exact .inl h
            · exact .inr (.inr h)
          · rintro (h | (h | h))
            · exact .inl (.inr h)
            · exact .inl (.inl h)
            · exact .inr h
        have ht := hst.trans hst2
        refine ⟨ht.inv, ⟨?_, fun b hb => ht.res.own b ((hperm b).1 hb), fun r row hr b hb hb' => ht.res.dis r row hr b hb ((hperm b).1 hb')⟩, fun hl b hb => ht.lt hl b ((hperm b).1 hb), ht.step, ht.rows, ht.len⟩
        rw [List.nodup_append] at hnd
        obtain ⟨n1, n2, n3⟩ := hnd
        rw [List.nodup_append] at n2
        obtain ⟨n4, n5, n6⟩ := n2
        rw [List.nodup_append, List.nodup_append]
        exact ⟨⟨n4, n1, fun b hb c hc e => n3 c hc b (by simp [hb]) e.symm⟩, n5, fun b hb c hc e => by
          rcases List.mem_append.1 hb with hb | hb
          · exact n6 b hb c hc e
          · exact n3 b hb c (by simp [hc]) e⟩
end
end Go.Fw

/- Literals of slices, stores, append. Plain theorems, no condition. -/
set_option linter.unusedVariables false
set_option linter.unusedSimpArgs false
namespace Go.Fw

/-- Elements, their cells told anew. -/
def regroup : List A → List A → List A
  | [], _ => []
  | .agg xs :: es, ys => .agg (ys.take xs.length) :: regroup es (ys.drop xs.length)
  | _ :: es, ys => ys.headD .un :: regroup es (ys.drop 1)
theorem regroup_flat : ∀ (es ys : List A), ys.length = (flat es).length → (∀ y ∈ ys, y.cells = [y]) → flat (regroup es ys) = ys
  | [], ys, h, _ => by
    have : ys = [] := List.eq_nil_of_length_eq_zero (by simpa [flat] using h)
    subst this; rfl
  | e :: es, ys, h, hc => by
    rw [flat_cons, List.length_append] at h
    cases e with
    | agg xs =>
      simp only [A.cells] at h
      rw [regroup, flat_cons, regroup_flat es _ (by simp; omega) fun y hy => hc y (List.mem_of_mem_drop hy)]
      simp [A.cells]
    | _ =>
      simp only [A.cells, List.length_singleton] at h
      cases ys with
      | nil => simp at h; omega
      | cons y ys =>
        rw [regroup]
        · rw [flat_cons, regroup_flat es _ (by simp at h ⊢; omega) fun z hz => hc z (by simp at hz; simp [hz])]
          simp [hc y (by simp)]
        all_goals simp
theorem regroup_width {n : Nat} : ∀ (es ys : List A), ys.length = (flat es).length → (∀ y ∈ ys, y.cells = [y]) → (∀ e ∈ es, e.width = n) → ∀ x ∈ regroup es ys, x.width = n
  | [], _, _, _, _, x, hx => by simp [regroup] at hx
  | e :: es, ys, h, hc, hw, x, hx => by
    rw [flat_cons, List.length_append] at h
    have he := hw e (by simp)
    cases e with
    | agg xs =>
      simp only [A.cells] at h
      simp only [A.width, A.cells] at he
      rw [regroup] at hx
      rcases List.mem_cons.1 hx with rfl | hx
      · simp [A.width, A.cells]; omega
      · exact regroup_width es _ (by simp; omega) (fun y hy => hc y (List.mem_of_mem_drop hy)) (fun e he => hw e (by simp [he])) x hx
    | _ =>
      simp only [A.cells, List.length_singleton] at h
      simp only [A.width, A.cells, List.length_singleton] at he
      cases ys with
      | nil => simp at h; omega
      | cons y ys =>
        rw [regroup] at hx
        · rcases List.mem_cons.1 hx with h1 | hx
          · rw [h1]; simp [A.width, hc y (by simp), he]
          · exact regroup_width es _ (by simp at h ⊢; omega) (fun z hz => hc z (by simp at hz; simp [hz])) (fun e he => hw e (by simp [he])) x hx
        all_goals simp
theorem regroup_length : ∀ (es ys : List A), (regroup es ys).length = es.length
  | [], _ => rfl
  | e :: es, ys => by
    cases e <;> simp [regroup, regroup_length es]
theorem okCell_cells {x : A} (h : okCell x = true) : x.cells = [x] := by cases x <;> simp [okCell] at h <;> rfl

section
variable {P : Program} {E : Env} {G : Nat → Prop} {gs : Gh} {S : State} {a : Act} {w : World} {tmps : Array Value}

theorem stash1_ok_cell {x : A} (h : okCell x = true) (hc : (stash1 S x).1) : okCell (stash1 S x).2.1 = true := by
  cases x <;> simp [okCell] at h <;> try rfl
  rename_i r off len
  simp only [stash1] at hc ⊢
  split
  · rfl
  · rename_i hn; simp [hn] at hc
theorem kills_ok {x : A} {ks : List Nat} : okCell (kills ks x) = true → okCell x = true := by
  induction ks generalizing x with
  | nil => exact id
  | cons k ks ih =>
    intro h
    have := ih (x := kill k x) h
    cases x <;> simp [kill_sl, kill_agg, kill_tup, kill_rp, kill_bx, kill_clo, kill_sc, kill_nil, kill_un, kill_vw, kill_pt, okCell] at this ⊢
theorem stash1_okin {x : A} (hc : (stash1 S x).1) (ha : ∀ xs, x ≠ .agg xs) (ht : ∀ xs, x ≠ .tup xs) : okCell x = true := by
  cases x <;> simp [stash1, isData_un] at hc <;> first | rfl | exact absurd rfl (ha _) | exact absurd rfl (ht _)
theorem stashL_cells : ∀ (n : Nat) (xs : List A) (S : State), xs.length = n → (stashL S xs).1 → (∀ x ∈ xs, (∀ ys, x ≠ .agg ys) ∧ ∀ ys, x ≠ .tup ys) → (stashL S xs).2.1.length = xs.length ∧ ∀ y ∈ (stashL S xs).2.1, okCell y = true := by
  intro n
  induction n with
  | zero =>
    intro xs S hn hc hx
    obtain rfl := List.eq_nil_of_length_eq_zero hn
    simp [stashL]
  | succ n ih =>
    intro xs S hn hc hx
    cases xs with
    | nil => simp at hn
    | cons x xs =>
      rw [stashL] at hc ⊢
      generalize hs1 : stash1 S x = p at hc ⊢
      obtain ⟨c, y, S1, ks⟩ := p
      simp only at hc ⊢
      generalize hs2 : stashL S1 (xs.map (kills ks)) = p2 at hc ⊢
      obtain ⟨c', ys, S2, ks'⟩ := p2
      simp only at hc ⊢
      have h1 : okCell y = true := by
        have := stash1_ok_cell (S := S) (stash1_okin (S := S) (x := x) (by rw [hs1]; exact hc.1) (hx x (by simp)).1 (hx x (by simp)).2) (by rw [hs1]; exact hc.1)
        rwa [hs1] at this
      have hk : ∀ x ∈ xs.map (kills ks), (∀ ys, x ≠ .agg ys) ∧ ∀ ys, x ≠ .tup ys := by
        intro z hz
        obtain ⟨u, hu, rfl⟩ := List.mem_map.1 hz
        have hu' := hx u (by simp [hu])
        clear hs2 hs1 hc ih hn hx h1 hz hu
        induction ks generalizing u with
        | nil => exact hu'
        | cons k ks ih =>
          refine ih (u := kill k u) ?_
          cases u <;> simp [kill_sl, kill_agg, kill_tup, kill_rp, kill_bx, kill_clo, kill_sc, kill_nil, kill_un, kill_vw, kill_pt] at hu' ⊢
          all_goals (split <;> simp)
      have h2 := ih (xs.map (kills ks)) S1 (by simpa using hn) (by rw [hs2]; exact hc.2) hk
      rw [hs2] at h2
      exact ⟨by simpa using h2.1, fun z hz => by rcases List.mem_cons.1 hz with rfl | hz; exact h1; exact h2.2 z hz⟩
theorem okCell_not {x : A} (h : okCell x = true) : (∀ ys, x ≠ .agg ys) ∧ ∀ ys, x ≠ .tup ys := by
  cases x <;> simp [okCell] at h <;> simp

theorem fill_slice (size : Nat) : ∀ (vals : List Value) (k : Nat) (cs : Array Value), (∀ v ∈ vals, v.cells.size = size) → (k + vals.length) * size ≤ cs.size →
    ∃ res, Instr.fill (fun i => some (i * size, size)) cs ((List.range' k vals.length).zip vals) = some res ∧ res.toList = cs.toList.take (k * size) ++ vals.flatMap (fun v => v.cells.toList) ++ cs.toList.drop ((k + vals.length) * size)
  | [], k, cs, _, _ => ⟨cs, rfl, by simp⟩
  | v :: vals, k, cs, hv, hs => by
    have hvs := hv v (by simp)
    simp only [List.length_cons, List.range'_succ, List.zip_cons_cons, Instr.fill]
    have hle : k * size + size ≤ cs.size := by
      have : (k + 1) * size ≤ (k + (v :: vals).length) * size := Nat.mul_le_mul_right _ (by simp)
      rw [Nat.add_mul] at this
      omega
    rw [if_neg (by simp [hvs]; omega)]
    have e2 : (v.cells.zipIdx.foldl (fun cs (c, j) => cs.setIfInBounds (k * size + j) c) cs) = ((v.cells.toList.zipIdx 0).foldl (fun cs (c, j) => cs.setIfInBounds (k * size + j) c) cs) := by
      rw [← Array.foldl_toList]; simp
    have e := fold_set v.cells.toList (k * size) 0 cs (by simp; omega)
    rw [← e2] at e
    generalize (v.cells.zipIdx.foldl (fun cs (c, j) => cs.setIfInBounds (k * size + j) c) cs) = cs2 at e ⊢
    have hsz : cs2.size = cs.size := by
      have := congrArg List.length e
      simp at this
      omega
    obtain ⟨res, h1, h2⟩ := fill_slice size vals (k + 1) cs2 (fun u hu => hv u (by simp [hu])) (by rw [hsz]; simpa [Nat.add_assoc, Nat.add_comm 1] using hs)
    refine ⟨res, h1, ?_⟩
    rw [h2, e]
    have hk1 : (k + 1) * size = k * size + v.cells.toList.length := by rw [Nat.add_mul]; simp [hvs]
    have hk2 : (k + 1 + vals.length) * size = k * size + v.cells.toList.length + vals.length * size := by rw [Nat.add_mul, hk1]
    have hk3 : (k + (vals.length + 1)) * size = k * size + v.cells.toList.length + vals.length * size := by rw [← hk2]; simp [Nat.add_assoc, Nat.add_comm 1]
    have hl : (cs.toList.take (k * size) ++ v.cells.toList).length = k * size + v.cells.toList.length := by simp; omega
    simp only [Nat.add_zero]
    rw [hk2, hk3, hk1]
    rw [List.take_append_of_le_length (by omega), List.take_of_length_le (by omega)]
    rw [List.drop_append, List.drop_eq_nil_of_le (by omega), hl, List.nil_append, List.drop_drop]
    simp only [List.flatMap_cons, List.append_assoc]
    congr 5
    omega

theorem opOK_buildSlice {o : Oper} {K : State → Prop} {t e : TypeId} {len : Nat} {parts : Array (Nat × Operand)} {s : Nat} {z : Value} (ho : o.op = .buildSlice t len parts) (hx : ∀ p ∈ parts.toList, okO p.2 = true)
    (hidx : parts.toList.map (·.1) = List.range' 0 parts.toList.length) (hlen : len = parts.toList.length) (ht : elemT P t = some e) (hs : szT P e = some s) (hz : zeroT P e = some z) (hsp : 0 < s) (hb : len * s ≤ 16777216)
    (hw : ∀ p ∈ parts.toList, (ev S p.2).width = s) (hok : (flat (parts.toList.map fun p => ev S p.2)).all okCell = true)
    (hc : (stashL S (flat (parts.toList.map fun p => ev S p.2))).1)
    (hK : K (((stashL S (flat (parts.toList.map fun p => ev S p.2))).2.2.1.addRow ⟨s, regroup (parts.toList.map fun p => ev S p.2) (stashL S (flat (parts.toList.map fun p => ev S p.2))).2.1, false⟩).put o.dst
      (.vw S.rows.length 0 len))) : opOK P o S K := by
  intro E a w next Q hss hn
  obtain ⟨hd, G, gs, hi⟩ := hss
  have hu := elemT_inv ht
  have hlm : len ≤ maxLen := by
    have : len * 1 ≤ len * s := Nat.mul_le_mul_left _ hsp
    simp only [maxLen]; omega
  -- the cells of all parts
  have hrel : ∀ ps : List (Nat × Operand), (∀ p ∈ ps, p ∈ parts.toList) → TRelL w G S.rows gs (flat (ps.map fun p => ev S p.2)) (ps.flatMap fun p => (a.eval p.2).cells.toList) [] := by
    intro ps
    induction ps with
    | nil => intro _; exact .nil
    | cons p ps ih =>
      intro hp
      simp only [List.map_cons, flat_cons, List.flatMap_cons]
      refine TRelL.append0 (cells_rel (ev_rel hi p.2 (hx p (hp p (by simp)))) ?_) (ih fun q hq => hp q (by simp [hq]))
      refine List.all_eq_true.2 fun c hc => List.all_eq_true.1 hok c ?_
      exact List.mem_flatMap.2 ⟨ev S p.2, List.mem_map.2 ⟨p, hp p (by simp), rfl⟩, hc⟩
  have hr0 := hrel parts.toList fun p hp => hp
  generalize hes : (parts.toList.map fun p => ev S p.2) = es at *
  have hnot : ∀ x ∈ flat es, (∀ ys, x ≠ .agg ys) ∧ ∀ ys, x ≠ .tup ys := fun x hx => okCell_not (List.all_eq_true.1 hok x hx)
  obtain ⟨hlenys, hokys⟩ := stashL_cells _ (flat es) S rfl hc hnot
  obtain ⟨F, hst, hrel2⟩ := stashL_ok _ (flat es) S _ [] rfl hi Res.nil hr0 hc
  generalize hsl : stashL S (flat es) = p at *
  obtain ⟨c, ys, S1, ks⟩ := p
  simp only at *
  have hcell : ∀ y ∈ ys, y.cells = [y] := fun y hy => okCell_cells (hokys y hy)
  have hfl := regroup_flat es ys hlenys hcell
  have hesw : ∀ x ∈ es, x.width = s := by
    intro x hx
    rw [← hes] at hx
    obtain ⟨p, hp, rfl⟩ := List.mem_map.1 hx
    exact hw p hp
  have hwd := regroup_width (n := s) es ys hlenys hcell hesw
  have hel : es.length = len := by rw [← hes, hlen]; simp
  -- what the machine lays
  have hvs : ∀ v ∈ parts.toList.map (fun p => a.eval p.2), v.cells.size = s := by
    intro v hv
    obtain ⟨p, hp, rfl⟩ := List.mem_map.1 hv
    have h1 := cells_rel (ev_rel hi p.2 (hx p hp)) (List.all_eq_true.2 fun c hc => List.all_eq_true.1 hok c (by
      rw [← hes]; exact List.mem_flatMap.2 ⟨ev S p.2, List.mem_map.2 ⟨p, hp, rfl⟩, hc⟩))
    have := h1.length
    have h2 := hw p hp
    unfold A.width at h2
    simp at this
    omega
  obtain ⟨zz, hzz⟩ : ∃ zz : Array Value, (len * s = 0 → zz = #[]) ∧ (len * s ≠ 0 → zz = z.cells) := by
    by_cases h0 : len * s = 0
    · exact ⟨#[], fun _ => rfl, fun h => absurd h0 h⟩
    · exact ⟨z.cells, fun h => absurd h h0, fun _ => rfl⟩
  generalize hcs : (Array.range (len * s)).map (zz[· % zz.size]!) = cs0
  have hcs0 : cs0.size = len * s := by rw [← hcs]; simp
  obtain ⟨res, hf1, hf2⟩ := fill_slice s (parts.toList.map fun p => a.eval p.2) 0 cs0 hvs (by simp; rw [hcs0, hlen]; simp)
  have hzip : (List.range' 0 (parts.toList.map fun p => a.eval p.2).length).zip (parts.toList.map fun p => a.eval p.2) = parts.toList.map fun p => (p.1, a.eval p.2) := by
    rw [List.length_map, ← hidx]
    exact List.zip_map' ..
  rw [hzip] at hf1
  have hres : res.toList = parts.toList.flatMap fun p => (a.eval p.2).cells.toList := by
    rw [hf2]
    simp only [Nat.zero_mul, List.take_zero, List.nil_append, Nat.zero_add, List.length_map]
    rw [List.drop_eq_nil_of_le (by simp [hcs0, hlen]), List.append_nil, List.flatMap_map]
  have hressz : res.size = len * s := by
    have h1 := hrel2.length
    rw [← hres, hlenys] at h1
    rw [flat_length hesw, hel] at h1
    simpa using h1
  have hrun : (execOp a.eval o).run P w = .ok (.value (.slice (some ⟨w.heap.size, 0, none⟩) len len)) (w.alloc (.cells res e)) := by
    have e1 : (parts.map fun (i, x) => (i, a.eval x)).toList = parts.toList.map fun p => (p.1, a.eval p.2) := by simp
    have hbb : ¬ (16777216 < len * s) := by omega
    rw [← e1] at hf1
    by_cases h0 : len * s = 0
    · have hz0 := hzz.1 h0
      subst hz0
      simp only [execOp, ho, Instr.buildSlice, Sem.run_bind, run_underlying hu, Result.andThen_ok, run_sizeOf hs, if_neg hbb, if_pos h0, Sem.run_pure, hcs, hf1]
      simp [newRow]
    · have hz0 := hzz.2 h0
      subst hz0
      simp only [execOp, ho, Instr.buildSlice, Sem.run_bind, run_underlying hu, Result.andThen_ok, run_sizeOf hs, if_neg hbb, if_neg h0, run_zero hz, Sem.run_pure, hcs, hf1]
      simp [newRow]
  unfold Oper.wp
  rw [hrun]
  have hF : ∀ b ∈ F ++ [], b < w.heap.size := hst.lt (by simp)
  rw [List.append_nil] at hF
  have hR : Res E G gs S1.rows F := by simpa using hst.res
  have hrow : ∀ (x : List A), x = regroup es ys → x.length = len := fun x hx => by rw [hx, regroup_length, hel]
  have htk : res.toList.take ((regroup es ys).length * s) = res.toList := by
    rw [regroup_length, hel, List.take_of_length_le (by simp [hressz])]
  have hi' := hst.inv.addRow (row := ⟨s, regroup es ys, false⟩) (e := e) (cap := len) hR hressz (by rw [hrow _ rfl]; exact Nat.le_refl _) hlm hwd
    (by
      show ∀ v ∈ res.toList.take ((regroup es ys).length * s), cellV v = true
      rw [htk]
      have := okCells_v (TRelL.of (rows := []) (gs := gs) hrel2) (List.all_eq_true.2 hokys)
      rw [← hres] at this
      exact this)
    (by
      show CellsRel false w G S1.rows gs (flat (regroup es ys)) (res.toList.take ((regroup es ys).length * s)) F
      rw [htk, hfl, hres]
      exact hrel2) hF
  have hvw := addRow_vw (w := w) (G := G) (S := S1) (gs := gs) (R := F) (row := ⟨s, regroup es ys, false⟩) (e := e) (cap := len) hressz (by rw [hrow _ rfl]; exact Nat.le_refl _) hlm len (by rw [hrow _ rfl]; exact Nat.le_refl _)
  rw [← hst.len] at hK
  exact hn _ _ _ hK ⟨by rw [put_defers]; exact hd, G, _, Inv.put (S := S1.addRow _) hi' hvw o.dst⟩
end
end Go.Fw

/- Stores. Plain theorems, no condition. -/
set_option linter.unusedVariables false
set_option linter.unusedSimpArgs false
namespace Go.Fw

def newElem (x : A) (q : Nat) (ys : List A) : A :=
  match x with
  | .agg xs => .agg (xs.take q ++ ys ++ xs.drop (q + ys.length))
  | _ => ys.headD .un
theorem newElem_cells {x : A} {q : Nat} {ys : List A} (hs : q + ys.length ≤ x.width) (hn : 0 < ys.length) (hok : ∀ y ∈ ys, okCell y = true) : (newElem x q ys).cells = x.cells.take q ++ ys ++ x.cells.drop (q + ys.length) := by
  cases x with
  | agg xs => rfl
  | _ =>
    simp only [A.width, A.cells, List.length_singleton] at hs
    obtain rfl : q = 0 := by omega
    have h1 : ys.length = 1 := by omega
    match ys, h1 with
    | [y], _ =>
      show y.cells = _
      rw [okCell_cells (hok y (by simp))]
      simp [A.cells]
theorem flat_set {n : Nat} {xs : List A} (hw : ∀ x ∈ xs, x.width = n) {j : Nat} {x y : A} (hx : xs[j]? = some x) {q : Nat} {ys : List A} (hs : q + ys.length ≤ n)
    (hy : y.cells = x.cells.take q ++ ys ++ x.cells.drop (q + ys.length)) :
    flat (xs.set j y) = (flat xs).take (j * n + q) ++ ys ++ (flat xs).drop (j * n + q + ys.length) := by
  have hj : j < xs.length := by
    rcases Nat.lt_or_ge j xs.length with h | h
    · exact h
    · rw [List.getElem?_eq_none h] at hx; simp at hx
  have hxe : xs[j] = x := by
    rw [List.getElem?_eq_getElem hj] at hx
    exact Option.some.inj hx
  have e1 : xs = xs.take j ++ x :: xs.drop (j + 1) := by
    conv => lhs; rw [← List.take_append_drop j xs, List.drop_eq_getElem_cons hj, hxe]
  have e2 : xs.set j y = xs.take j ++ y :: xs.drop (j + 1) := by rw [List.set_eq_take_append_cons_drop, if_pos hj]
  have hl : (flat (xs.take j)).length = j * n := by rw [flat_length (n := n) fun z hz => hw z (List.mem_of_mem_take hz)]; simp; rw [Nat.min_eq_left (by omega)]
  have hxw := hw x (List.mem_of_getElem? hx)
  unfold A.width at hxw
  have e3 : flat xs = flat (xs.take j) ++ (x.cells ++ flat (xs.drop (j + 1))) := by
    conv => lhs; rw [e1, flat_append, flat_cons]
  rw [e2, flat_append, flat_cons, e3, hy, ← hl, List.take_length_add_append, Nat.add_assoc, List.drop_length_add_append, List.take_append_of_le_length (by omega), List.drop_append_of_le_length (by omega)]
  simp only [List.append_assoc]

section
variable {P : Program} {E : Env} {G : Nat → Prop} {gs : Gh} {S : State} {a : Act} {w : World} {tmps : Array Value}

theorem CellsRel.t {lk : Bool} {rows : List (Option Row)} {xs : List A} {vs : List Value} {F : List Nat} (h : CellsRel lk w G rows gs xs vs F) : TRelL w G rows gs xs vs F := by
  unfold CellsRel at h
  split at h
  · exact h
  · exact .of h
theorem CellsRel.seg {lk : Bool} {rows : List (Option Row)} {xs ys : List A} {vs us : List Value} {F Fy : List Nat} (h : CellsRel lk w G rows gs xs vs F) (hy : CellsRel lk w G rows gs ys us Fy) (k : Nat) (hk : k + ys.length ≤ xs.length) :
    ∃ F1 F2 F3, F = F1 ++ (F2 ++ F3) ∧ CellsRel lk w G rows gs (xs.take k ++ ys ++ xs.drop (k + ys.length)) (vs.take k ++ us ++ vs.drop (k + us.length)) (F1 ++ (Fy ++ F3)) := by
  have hyl : us.length = ys.length := hy.t.length
  unfold CellsRel at h hy ⊢
  split
  · rename_i hl
    rw [if_pos hl] at h hy
    obtain ⟨F1, F4, e1, h1, h2⟩ := h.take_ k
    obtain ⟨F2, F3, e2, h3, h4⟩ := h2.take_ ys.length
    rw [List.drop_drop, List.drop_drop] at h4
    refine ⟨F1, F2, F3, by rw [e1, e2], ?_⟩
    rw [List.append_assoc, List.append_assoc, hyl]
    exact h1.append (hy.append h4)
  · rename_i hl
    rw [if_neg hl] at h hy
    obtain ⟨F1, F4, e1, h1, h2⟩ := h.take_ k
    obtain ⟨F2, F3, e2, h3, h4⟩ := h2.take_ ys.length
    rw [List.drop_drop, List.drop_drop] at h4
    refine ⟨F1, F2, F3, by rw [e1, e2], ?_⟩
    rw [List.append_assoc, List.append_assoc, hyl]
    exact h1.append (hy.append h4)
theorem rowAt_setRow {q r : Nat} {row x : Row} (hq : rowAt S.rows q = some row) : rowAt (S.setRow q x).rows r = if r = q then some x else rowAt S.rows r := by
  show rowAt (S.rows.set q (some x)) r = _
  rw [rowAt_set _ _ _ _ (rowAt_lt hq)]

theorem Inv.store (hi : Inv E G gs S tmps w) {Fy : List Nat} (hR : Res E G gs S.rows Fy) (hRlt : ∀ b ∈ Fy, b < w.heap.size) {r j q : Nat} {row : Row} {x : A} {ys : List A} {vs : List Value} (hr : rowAt S.rows r = some row) (hx : row.xs[j]? = some x)
    (hs : q + ys.length ≤ row.n) (hn : 0 < ys.length) (hy : CellsRel row.lk w G S.rows gs ys vs Fy) (hok : ∀ y ∈ ys, okCell y = true) :
    ∃ b cur e F', (gs r).1 = some b ∧ w.heap[b]? = some (.cells cur e (0, 0)) ∧ j * row.n + q + vs.length ≤ cur.size ∧
      Inv E G (gs.add r (some b) F') (S.setRow r { row with xs := row.xs.set j (newElem x q ys) }) tmps (w.setRow b (cur.toList.take (j * row.n + q) ++ vs ++ cur.toList.drop (j * row.n + q + vs.length)).toArray) := by
  have hj : j < row.xs.length := by
    rcases Nat.lt_or_ge j row.xs.length with h | h
    · exact h
    · rw [List.getElem?_eq_none h] at hx; simp at hx
  obtain ⟨b, hb, hrc⟩ := row_real hi hr (by omega)
  obtain ⟨cur, e, cap, h1, h2, h3, h4, h5, h6, h7⟩ := hrc.ex
  have hvl : vs.length = ys.length := hy.t.length
  have hxw := h5 x (List.mem_of_getElem? hx)
  have hfl := flat_length h5
  have hle : (j + 1) * row.n ≤ row.xs.length * row.n := Nat.mul_le_mul_right _ hj
  rw [Nat.add_mul] at hle
  have hle2 : row.xs.length * row.n ≤ cap * row.n := Nat.mul_le_mul_right _ h3
  have hcl := newElem_cells (x := x) (q := q) (ys := ys) (by omega) hn hok
  have hflat := flat_set h5 hx hs hcl
  obtain ⟨F1, F2, F3, hF, h8⟩ := h7.seg hy (j * row.n + q) (by rw [hfl]; omega)
  rw [← hflat] at h8
  -- the cells as they stand now
  have hcs : (cur.toList.take (row.xs.length * row.n)).take (j * row.n + q) ++ vs ++ (cur.toList.take (row.xs.length * row.n)).drop (j * row.n + q + vs.length) =
      (cur.toList.take (j * row.n + q) ++ vs ++ cur.toList.drop (j * row.n + q + vs.length)).take (row.xs.length * row.n) := by
    have hl1 : (cur.toList.take (j * row.n + q)).length = j * row.n + q := by simp; omega
    rw [List.take_take, Nat.min_eq_left (by omega), List.append_assoc, List.append_assoc, List.take_append, List.take_of_length_le (l := cur.toList.take (j * row.n + q)) (by omega), hl1, List.take_append, List.take_of_length_le (l := vs) (by omega),
      List.drop_take, Nat.sub_sub]
  rw [hcs] at h8
  generalize hcur' : (cur.toList.take (j * row.n + q) ++ vs ++ cur.toList.drop (j * row.n + q + vs.length)).toArray = cur'
  have hcl' : cur'.toList = cur.toList.take (j * row.n + q) ++ vs ++ cur.toList.drop (j * row.n + q + vs.length) := by rw [← hcur']
  have hsz : cur'.size = cur.size := by
    have := congrArg List.length hcl'
    simp at this
    omega
  rw [← hcl'] at h8
  have hbig : j * row.n + q + vs.length ≤ cur.size := by omega
  refine ⟨b, cur, e, F1 ++ (Fy ++ F3), hb, h1, hbig, ?_⟩
  rw [hcur']
  have hnew : (w.setRow b cur').heap[b]? = some (.cells cur' e (0, 0)) := setRow_heap w b cur cur' e _ h1
  have hold : ∀ k, k ≠ b → (w.setRow b cur').heap[k]? = w.heap[k]? := fun k hk => setRow_other w b k cur' hk
  have hball : b ∈ gs.all r := by simp [Gh.all, hb]
  have hG : ∀ c, G c → G c ∧ (w.setRow b cur').heap[c]? = w.heap[c]? := fun c hc => ⟨hc, hold c fun h => by subst h; exact (hi.own r row hr c hball).1 hc⟩
  have hgs : ∀ r', r' ≠ r → (gs.add r (some b) (F1 ++ (Fy ++ F3))) r' = gs r' := fun r' h => by simp [Gh.add, h]
  have hself : (gs.add r (some b) (F1 ++ (Fy ++ F3))) r = (some b, F1 ++ (Fy ++ F3)) := by simp [Gh.add]
  have hle' : ∀ r', RowLe w (w.setRow b cur') S.rows (S.setRow r { row with xs := row.xs.set j (newElem x q ys) }).rows gs (gs.add r (some b) (F1 ++ (Fy ++ F3))) r' := fun r' => ⟨fun row' hr' => by
    by_cases hrr : r' = r
    · subst hrr
      rw [hr] at hr'
      obtain rfl := Option.some.inj hr'
      refine ⟨{ row with xs := row.xs.set j (newElem x q ys) }, by rw [rowAt_setRow hr, if_pos rfl], by rw [hself, hb], rfl, by simp, fun b' c' e' hb' hh' => ?_⟩
      rw [hb] at hb'
      obtain rfl := Option.some.inj hb'
      rw [h1] at hh'
      simp only [Option.some.injEq, Obj.cells.injEq] at hh'
      obtain ⟨rfl, rfl, _⟩ := hh'
      exact ⟨cur', e, hnew, hsz⟩
    · refine ⟨row', by rw [rowAt_setRow hr, if_neg hrr]; exact hr', by rw [hgs r' hrr], rfl, rfl, fun b' c' e' hb' hh' => ⟨c', e', ?_, rfl⟩⟩
      rw [hold b' fun h => ?_]
      · exact hh'
      · subst h
        exact hi.dis r' r row' row hr' hr hrr b' (by simp [Gh.all, hb']) hball⟩
  have hcase : ∀ r' row', rowAt (S.setRow r { row with xs := row.xs.set j (newElem x q ys) }).rows r' = some row' → (r' = r ∧ row' = { row with xs := row.xs.set j (newElem x q ys) }) ∨ (r' ≠ r ∧ rowAt S.rows r' = some row') := fun r' row' h => by
    rw [rowAt_setRow hr] at h
    split at h
    · rename_i hh; exact .inl ⟨hh, (Option.some.inj h).symm⟩
    · rename_i hh; exact .inr ⟨hh, h⟩
  have hall0 : (gs.add r (some b) (F1 ++ (Fy ++ F3))).all r = b :: (F1 ++ (Fy ++ F3)) := by simp [Gh.all, hself]
  have hall : ∀ r', r' ≠ r → (gs.add r (some b) (F1 ++ (Fy ++ F3))).all r' = gs.all r' := fun r' h => by simp only [Gh.all, hgs r' h]
  have hallr : gs.all r = b :: (F1 ++ (F2 ++ F3)) := by simp [Gh.all, hb, hF]
  have hnodr := hi.nod r row hr
  rw [hallr] at hnodr
  have hsub : ∀ c ∈ b :: (F1 ++ (Fy ++ F3)), c ∈ gs.all r ∨ c ∈ Fy := fun c hc => by
    rw [hallr]
    simp only [List.mem_cons, List.mem_append] at hc ⊢
    rcases hc with h | h | h | h
    · exact .inl (.inl h)
    · exact .inl (.inr (.inl h))
    · exact .inr h
    · exact .inl (.inr (.inr (.inr h)))
  have hdisF : ∀ c ∈ gs.all r, c ∉ Fy := hR.dis r row hr
  have hbF : ∀ c ∈ F1 ++ (Fy ++ F3), c ≠ b := fun c hc h => by
    subst h
    simp only [List.nodup_cons, List.mem_append] at hnodr
    simp only [List.mem_append] at hc
    rcases hc with h | h | h
    · exact hnodr.1 (.inl h)
    · exact hdisF _ hball h
    · exact hnodr.1 (.inr (.inr h))
  refine ⟨fun c hc hf => ?_, hi.os, hi.tape, hi.output, by simp; exact hi.size, hi.sz, hi.gsub, hi.gnew, fun c hc => by simp; exact hi.glt c hc, fun r' row' hr' => ?_, fun r' row' hr' => ?_, fun r' row' hr' => ?_, fun r1 r2 row1 row2 hr1 hr2 hne => ?_, fun i => (hi.tmp i).step hG hle' (by simp)⟩
  · rw [hold c fun h => ?_]
    · exact hi.keep c hc hf
    · subst h
      rcases (hi.own r row hr c hball).2 with h | h
      · exact hf h
      · omega
  · rcases hcase r' row' hr' with ⟨rfl, rfl⟩ | ⟨hne, hr0⟩
    · rw [hself]
      refine ⟨cur', e, cap, hnew, by rw [hsz]; exact h2, by simpa using h3, h4, ?_, ?_, ?_⟩
      · intro z hz
        rcases List.mem_or_eq_of_mem_set hz with hz | rfl
        · exact h5 z hz
        · show (newElem x q ys).cells.length = row.n
          rw [hcl]
          unfold A.width at hxw
          simp
          omega
      · have hv1 := okCells_v hy.t (List.all_eq_true.2 hok)
        intro v hv
        simp only [List.length_set] at hv
        rw [hcl', ← hcs] at hv
        rcases List.mem_append.1 hv with hv | hv
        · rcases List.mem_append.1 hv with hv | hv
          · exact h6 v (List.mem_of_mem_take hv)
          · exact hv1 v hv
        · exact h6 v (List.mem_of_mem_drop hv)
      · simp only [List.length_set]
        unfold CellsRel at h8 ⊢
        have hF' : ∀ c ∈ F1 ++ (Fy ++ F3), (w.setRow b cur').heap[c]? = w.heap[c]? := fun c hc => hold c (hbF c hc)
        split
        · rename_i hl; rw [if_pos hl] at h8; exact h8.step hG hle' hF'
        · rename_i hl; rw [if_neg hl] at h8; exact h8.move_ hG hF'
    · rw [hgs r' hne]
      exact (hi.row r' row' hr0).step hG hle' fun c hc => hold c fun h => by subst h; exact hi.dis r' r row' row hr0 hr hne c hc hball
  · rcases hcase r' row' hr' with ⟨rfl, rfl⟩ | ⟨hne, hr0⟩
    · rw [hall0]
      refine List.nodup_cons.2 ⟨fun h => hbF _ h rfl, ?_⟩
      have hnd := (List.nodup_cons.1 hnodr).2
      rw [List.nodup_append] at hnd ⊢
      obtain ⟨n1, n2, n3⟩ := hnd
      rw [List.nodup_append] at n2
      refine ⟨n1, List.nodup_append.2 ⟨hR.nod, n2.2.1, fun c hc d hd h => ?_⟩, fun c hc d hd h => ?_⟩
      · subst h; exact hdisF c (by rw [hallr]; simp [hd]) hc
      · subst h
        rcases List.mem_append.1 hd with hd | hd
        · exact hdisF c (by rw [hallr]; simp [hc]) hd
        · exact n3 c hc c (by simp [hd]) rfl
    · rw [hall r' hne]; exact hi.nod r' row' hr0
  · rcases hcase r' row' hr' with ⟨rfl, rfl⟩ | ⟨hne, hr0⟩
    · rw [hall0]
      intro c hc
      rcases hsub c hc with h | h
      · exact hi.own r' row hr c h
      · exact hR.own c h
    · rw [hall r' hne]; exact hi.own r' row' hr0
  · rcases hcase r1 row1 hr1 with ⟨rfl, rfl⟩ | ⟨n1, g1⟩ <;> rcases hcase r2 row2 hr2 with ⟨rfl, rfl⟩ | ⟨n2, g2⟩
    · exact absurd rfl hne
    · rw [hall0, hall r2 n2]
      intro c hc hc2
      rcases hsub c hc with h | h
      · exact hi.dis r1 r2 row row2 hr g2 hne c h hc2
      · exact hR.dis r2 row2 g2 c hc2 h
    · rw [hall0, hall r1 n1]
      intro c hc hc2
      rcases hsub c hc2 with h | h
      · exact hi.dis r1 r2 row1 row g1 hr hne c hc h
      · exact hR.dis r1 row1 g1 c hc h
    · rw [hall r1 n1, hall r2 n2]
      exact hi.dis r1 r2 row1 row2 g1 g2 hne

theorem opOK_store {o : Oper} {K : State → Prop} {t : TypeId} {x y : Operand} {r j q s : Nat} {row : Row} {z : A} (ho : o.op = .store t x y) (hx : okO x = true) (hy : okO y = true) (he : ev S x = .pt r j q) (hr : rowAt S.rows r = some row)
    (hlk : row.lk = true) (hz : row.xs[j]? = some z) (hs : szT P t = some s) (hsl : (ev S y).cells.length = s) (hsp : 0 < s) (hq : q + s ≤ row.n) (hok : (ev S y).cells.all okCell = true)
    (hK : K ((S.setRow r { row with xs := row.xs.set j (newElem z q (ev S y).cells) }).put o.dst .un)) : opOK P o S K := by
  intro E a w next Q hss hn
  obtain ⟨hd, G, gs, hi⟩ := hss
  have h1 := ev_rel hi x hx
  rw [he] at h1
  obtain ⟨row', b, hr', hb, hv⟩ := pt_inv h1
  rw [hr] at hr'
  obtain rfl := Option.some.inj hr'
  have h2 := cells_rel (ev_rel hi y hy) hok
  obtain ⟨b', cur, e, F', hb', hh, hle, hinv⟩ := hi.store (Fy := []) Res.nil (by simp) (j := j) (q := q) (ys := (ev S y).cells) (vs := (a.eval y).cells.toList) hr hz (by omega) (by omega) (by unfold CellsRel; rw [if_pos hlk]; exact h2) (List.all_eq_true.1 hok)
  rw [hb] at hb'
  obtain rfl := Option.some.inj hb'
  have hcv := okCells_v h2 hok
  have hst := run_storeCells_at P b (j * row.n + q) e (a.eval y).cells.toList 0 cur w hh (by simpa using hle) hcv
  have hsz : (a.eval y).cells.size = s := by have := h2.length; simp at this; omega
  have hrun : (execOp a.eval o).run P w = .ok .skip (w.setRow b (cur.toList.take (j * row.n + q) ++ (a.eval y).cells.toList ++ cur.toList.drop (j * row.n + q + (a.eval y).cells.toList.length)).toArray) := by
    simp only [Nat.add_zero] at hst
    simp [execOp, ho, hv, Instr.storeAt, Instr.sureAddr, storeVar, run_sizeOf hs, hsz]
    rw [hst]
    simp [hsz]
  unfold Oper.wp
  rw [hrun]
  exact hn _ _ _ hK ⟨by rw [put_defers]; exact hd, G, _, Inv.put (S := S.setRow r _) hinv .un o.dst⟩

/-- Into a row of data: what goes in is plain, or an own row as a whole. -/
theorem opOK_storeD {o : Oper} {K : State → Prop} {t : TypeId} {x y : Operand} {r j q s : Nat} {row : Row} {z : A} (ho : o.op = .store t x y) (hx : okO x = true) (hy : okO y = true) (he : ev S x = .pt r j q) (hr : rowAt S.rows r = some row)
    (hlk : row.lk = false) (hz : row.xs[j]? = some z) (hs : szT P t = some s) (hsl : (ev S y).cells.length = s) (hsp : 0 < s) (hq : q + s ≤ row.n) (hok : (ev S y).cells.all okCell = true)
    (hc : (stashL S (ev S y).cells).1) (hne : r ∉ (stashL S (ev S y).cells).2.2.2)
    (hK : K (((stashL S (ev S y).cells).2.2.1.setRow r { row with xs := row.xs.set j (newElem z q (stashL S (ev S y).cells).2.1) }).put o.dst .un)) : opOK P o S K := by
  intro E a w next Q hss hn
  obtain ⟨hd, G, gs, hi⟩ := hss
  have h1 := ev_rel hi x hx
  rw [he] at h1
  obtain ⟨row', b, hr', hb, hv⟩ := pt_inv h1
  rw [hr] at hr'
  obtain rfl := Option.some.inj hr'
  have h2 := cells_rel (ev_rel hi y hy) hok
  obtain ⟨hlen, hokys⟩ := stashL_cells _ _ S rfl hc fun c hc => okCell_not (List.all_eq_true.1 hok c hc)
  obtain ⟨F, hst0, hrel⟩ := stashL_ok _ _ S _ [] rfl hi Res.nil h2 hc
  generalize stashL S (ev S y).cells = p at *
  obtain ⟨c, ys, S1, ks⟩ := p
  simp only at *
  have hr1 := hst0.rows r row hne hr hlk
  have hlt : ∀ b ∈ F, b < w.heap.size := by simpa using hst0.lt (by simp)
  obtain ⟨b', cur, e, F', hb', hh, hle, hinv⟩ := hst0.inv.store (Fy := F) (by simpa using hst0.res) hlt (j := j) (q := q) (ys := ys) (vs := (a.eval y).cells.toList) hr1 hz (by omega) (by omega) (by unfold CellsRel; rw [if_neg (by simp [hlk])]; exact hrel) hokys
  rw [hb] at hb'
  obtain rfl := Option.some.inj hb'
  have hcv := okCells_v h2 hok
  have hst := run_storeCells_at P b (j * row.n + q) e (a.eval y).cells.toList 0 cur w hh (by simpa using hle) hcv
  have hsz : (a.eval y).cells.size = s := by have := h2.length; simp at this; omega
  have hrun : (execOp a.eval o).run P w = .ok .skip (w.setRow b (cur.toList.take (j * row.n + q) ++ (a.eval y).cells.toList ++ cur.toList.drop (j * row.n + q + (a.eval y).cells.toList.length)).toArray) := by
    simp only [Nat.add_zero] at hst
    simp [execOp, ho, hv, Instr.storeAt, Instr.sureAddr, storeVar, run_sizeOf hs, hsz]
    rw [hst]
    simp [hsz]
  unfold Oper.wp
  rw [hrun]
  exact hn _ _ _ hK ⟨by rw [put_defers]; exact hd, G, _, Inv.put (S := S1.setRow r _) hinv .un o.dst⟩
end
end Go.Fw

/- append. Plain theorems, no condition. -/
set_option linter.unusedVariables false
set_option linter.unusedSimpArgs false
namespace Go.Fw

section
variable {P : Program} {E : Env} {G : Nat → Prop} {gs : Gh} {S : State} {a : Act} {w : World} {tmps : Array Value}

/-- What is appended: m elements of s cells, these cells. -/
structure Source (P : Program) (w : World) (s m : Nat) (v : Value) (news : List Value) : Prop where
  len : news.length = m * s
  lenOf : ∀ w', (Builtin.lenOf v).run P w' = .ok m w'
  first : ∀ w', w'.heap = w.heap → (Builtin.firstCells s m v).run P w' = .ok news.toArray w'
  cell : ∀ u ∈ news, cellV u = true

theorem bytesT_info {e : TypeId} {it : TypeInfo} (hit : P.info? e = some it) : bytesT P e = it.bytes := by simp [bytesT, hit]

/-- append to a row of the call's own. -/
theorem run_append_fw {t ty e : TypeId} {s m : Nat} {z : Value} (ht : elemT P t = some e) (hs : szT P e = some s) (hz : zeroT P e = some z) (hzs : z.cells.size = s) (hsp : 0 < s)
    {g len cap : Nat} {cur : Array Value} {e1 : TypeId} (hg : w.heap[g]? = some (.cells cur e1 (0, 0))) (hcs : cur.size = cap * s) (hlc : len ≤ cap) (hcm : cap ≤ maxLen)
    {xv : Value} {news : List Value} (hx : Source P w s m xv news) (hb : (len + m) * bytesT P e ≤ 140737488355328) (hm : len + m ≤ maxLen) :
    ∃ w' b' cur' e' cap', (Builtin.append_ #[t, t] ty #[.slice (some ⟨g, 0, none⟩) len cap, xv]).run P w = .ok (.slice (some ⟨b', 0, none⟩) (len + m) cap') w' ∧
      w'.heap[b']? = some (.cells cur' e' (0, 0)) ∧ cur'.size = cap' * s ∧ len + m ≤ cap' ∧ cap' ≤ maxLen ∧ cur'.toList.take ((len + m) * s) = cur.toList.take (len * s) ++ news ∧
      (b' = g ∨ b' = w.heap.size) ∧ w'.os = w.os ∧ w'.tape = w.tape ∧ w'.output = w.output ∧ w.heap.size ≤ w'.heap.size ∧ (∀ k, k < w.heap.size → k ≠ g → w'.heap[k]? = w.heap[k]?) := by
  have hu := elemT_inv ht
  have hs' := hs
  have hz' := hz
  unfold szT at hs'
  unfold zeroT at hz'
  cases hit : P.info? e with
  | none => simp [hit] at hs'
  | some it =>
    simp only [hit, Option.map_some, Option.some.injEq] at hs'
    simp only [hit, Option.bind_some] at hz'
    rw [bytesT_info hit] at hb
    have hlen1 : (cur.toList.take (len * s)).length = len * s := by
      have : len * s ≤ cap * s := Nat.mul_le_mul_right _ hlc
      simp; omega
    by_cases hroom : len + m ≤ cap
    · have hfit : len * s + news.length ≤ cur.size := by rw [hx.len, hcs, ← Nat.add_mul]; exact Nat.mul_le_mul_right _ hroom
      have hst := run_storeCells_at P g (len * s) e1 news 0 cur w hg (by simpa using hfit) hx.cell
      simp only [Nat.add_zero] at hst
      refine ⟨_, g, (cur.toList.take (len * s) ++ news ++ cur.toList.drop (len * s + news.length)).toArray, e1, cap, ?_, setRow_heap w g cur _ e1 _ hg, ?_, hroom, hcm, ?_, .inl rfl, rfl, rfl, rfl, by simp, fun k _ hk => setRow_other w g k _ hk⟩
      · simp [Builtin.append_, run_underlying hu, run_sizeOf hs, hx.lenOf, hroom, hx.first w rfl, Addr.add_lit, hst]
      · have h2 := hx.len
        simp only [List.size_toArray, List.length_append, List.length_drop, Array.length_toList, hlen1]
        omega
      · simp only [Nat.add_mul]
        rw [← hx.len, List.take_left' (by simp [hlen1])]
    · have hn : ¬ (len + m ≤ cap) := hroom
      have hmi : ((len + m : Nat) : Int) ≤ 9223372036854775807 := by simp [maxLen] at hm; omega
      have h63' : ¬ (9223372036854775807 < ((len : Int) + (m : Int))) := by omega
      have hfits := growslice_fits (need := len + m) (old := cap) (bytes := it.bytes) (by omega) hb
      have h48' : ¬ (281474976710656 < Builtin.nextslicecap (len + m) cap * it.bytes) := by omega
      have hfo : ∀ w', w'.heap = w.heap → (Builtin.firstCells s len (.slice (some ⟨g, 0, none⟩) len cap)).run P w' = .ok (cur.toList.take (len * s)).toArray w' := fun w' hw' =>
        run_firstCells_some (P := P) w' s len ⟨g, 0, none⟩ len cap _ hlen1 (fun j v hv => by
          rw [add_none, cell_at (w := w') (by rw [hw']; exact hg)]
          have hj : j < len * s := by
            rcases Nat.lt_or_ge j (len * s) with h | h
            · exact h
            · rw [List.getElem?_take_eq_none h] at hv; simp at hv
          rw [List.getElem?_take_of_lt hj] at hv
          simpa using hv)
      have hge := grownCap_ge w (len + m) cap e
      have hle := grownCap_le_maxLen w (len + m) cap e hm
      refine ⟨w.drew.alloc (.cells ((cur.toList.take (len * s)).toArray ++ news.toArray ++ Builtin.zeroCells z.cells (grownCap w (len + m) cap e - (len + m))) e), w.heap.size, _, e, grownCap w (len + m) cap e, ?_, heap_alloc_new w.drew _, ?_, hge, hle, ?_, .inr rfl, rfl, rfl, rfl, by simp, fun k hk _ => heap_alloc_old w.drew _ k hk⟩
      · simp [Builtin.append_, run_underlying hu, run_sizeOf hs, sizeOf, typeInfo, zeroValue, hit, hs', hz', hx.lenOf, hn, h63', h48', Question.forced, hx.first w.drew rfl, hfo w.drew rfl, newRow, grownCap]
        congr 2
        apply Array.ext'
        simp
      · simp only [Array.size_append, List.size_toArray, size_zeroCells, hzs, hlen1, hx.len, ← Nat.add_mul]
        congr 1
        omega
      · simp only [Array.toList_append, List.append_assoc]
        rw [← List.append_assoc, Nat.add_mul, List.take_left' (by simp [hlen1, hx.len])]

/-- append to nil. -/
theorem run_append_nil_fw {t ty e : TypeId} {s m : Nat} {z : Value} (ht : elemT P t = some e) (hs : szT P e = some s) (hz : zeroT P e = some z) (hzs : z.cells.size = s) (hsp : 0 < s)
    {xv : Value} {news : List Value} (hx : Source P w s m xv news) (hb : m * bytesT P e ≤ 140737488355328) (hm : m ≤ maxLen) (hm0 : m ≠ 0) :
    ∃ cur' cap', (Builtin.append_ #[t, t] ty #[.slice none 0 0, xv]).run P w = .ok (.slice (some ⟨w.heap.size, 0, none⟩) m cap') (w.drew.alloc (.cells cur' e)) ∧
      cur'.size = cap' * s ∧ m ≤ cap' ∧ cap' ≤ maxLen ∧ cur'.toList.take (m * s) = news := by
  have hu := elemT_inv ht
  have hs' := hs
  have hz' := hz
  unfold szT at hs'
  unfold zeroT at hz'
  cases hit : P.info? e with
  | none => simp [hit] at hs'
  | some it =>
    simp only [hit, Option.map_some, Option.some.injEq] at hs'
    simp only [hit, Option.bind_some] at hz'
    rw [bytesT_info hit] at hb
    have hmi : ((m : Nat) : Int) ≤ 9223372036854775807 := by simp [maxLen] at hm; omega
    have h63' : ¬ (9223372036854775807 < (m : Int)) := by omega
    have hfits := growslice_fits (need := m) (old := 0) (bytes := it.bytes) (by omega) hb
    have h48' : ¬ (281474976710656 < Builtin.nextslicecap m 0 * it.bytes) := by omega
    have hge := grownCap_ge w m 0 e
    have hle := grownCap_le_maxLen w m 0 e hm
    refine ⟨news.toArray ++ Builtin.zeroCells z.cells (grownCap w m 0 e - m), grownCap w m 0 e, ?_, ?_, hge, hle, ?_⟩
    · have hn : ¬ (m = 0) := hm0
      simp [Builtin.append_, run_underlying hu, run_sizeOf hs, sizeOf, typeInfo, zeroValue, hit, hs', hz', hx.lenOf, hn, h63', h48', Question.forced, hx.first w.drew rfl, newRow, grownCap, run_firstCells_none]
    · simp only [Array.size_append, List.size_toArray, size_zeroCells, hzs, hx.len, ← Nat.add_mul]
      congr 1
      omega
    · simp only [Array.toList_append]
      rw [← hx.len, List.take_left' (by simp)]
theorem run_append_nil0 {t ty e : TypeId} {s : Nat} (ht : elemT P t = some e) (hs : szT P e = some s) {xv : Value} {news : List Value} (hx : Source P w s 0 xv news) :
    (Builtin.append_ #[t, t] ty #[.slice none 0 0, xv]).run P w = .ok (.slice none 0 0) w := by
  have hu := elemT_inv ht
  have hn : news = [] := List.eq_nil_of_length_eq_zero (by have := hx.len; omega)
  subst hn
  simp [Builtin.append_, run_underlying hu, run_sizeOf hs, hx.lenOf, hx.first w rfl]

/-- The elements that stand behind a slice's temporary. -/
def elemsA (S : State) : A → Option (List A)
  | .nil => some []
  | .sl false _ xs => some xs
  | .vw r off len => (rowAt S.rows r).map fun row => (row.xs.drop off).take len
  | _ => none
/-- They are of n cells. -/
def nA (S : State) : A → Option Nat
  | .sl false n _ => some n
  | .vw r _ _ => (rowAt S.rows r).map (·.n)
  | _ => none
theorem source_ok (hi : Inv E G gs S tmps w) {x : A} {v : Value} (hx : TRel w G S.rows gs x v []) {xs : List A} {s : Nat} (he : elemsA S x = some xs) (hn : x = .nil ∨ nA S x = some s)
    (hno : ∀ y ∈ xs, noOwn y = true) (hlk : ∀ r off len row, x = .vw r off len → rowAt S.rows r = some row → row.lk = false) (hok : ∀ c ∈ flat xs, okCell c = true) :
    ∃ news, Source P w s xs.length v news ∧ RelL w G (flat xs) news [] ∧ ∀ y ∈ xs, y.width = s := by
  have hall : (flat xs).all noOwn = true := List.all_eq_true.2 fun c hc => by
    obtain ⟨y, hy, hc⟩ := List.mem_flatMap.1 hc
    have := hno y hy
    cases y <;> simp [A.cells] at hc <;> try (subst hc; exact this)
    rw [noOwn_agg] at this
    exact List.all_eq_true.1 this c hc
  have mk : ∀ (b k cap : Nat) (cur : Array Value) (e : TypeId) (fr : Nat × Nat), v = .slice (some ⟨b, k, none⟩) xs.length cap → w.heap[b]? = some (.cells cur e fr) → (∀ y ∈ xs, y.width = s) →
      RelL w G (flat xs) ((cur.toList.drop k).take (xs.length * s)) [] → ∃ news, Source P w s xs.length v news ∧ RelL w G (flat xs) news [] ∧ ∀ y ∈ xs, y.width = s := by
    intro b k cap cur e fr hv hh hw hl
    have hlen : ((cur.toList.drop k).take (xs.length * s)).length = xs.length * s := by rw [hl.length, flat_length hw]
    refine ⟨_, ⟨hlen, fun w' => ?_, fun w' hw' => ?_, okCells_v (TRelL.of (rows := []) (gs := gs) hl) (List.all_eq_true.2 hok)⟩, hl, hw⟩
    · rw [hv]; simp [Builtin.lenOf]
    · rw [hv]
      exact run_firstCells_some (P := P) w' s _ ⟨b, k, none⟩ _ cap _ hlen (fun j u hu => by
        rw [add_none, cell_at (w := w') (by rw [hw']; exact hh)]
        have hj : j < xs.length * s := by
          rcases Nat.lt_or_ge j (xs.length * s) with h | h
          · exact h
          · rw [List.getElem?_take_eq_none h] at hu; simp at hu
        rw [List.getElem?_take_of_lt hj, List.getElem?_drop] at hu
        simpa using hu)
  have mkn : (∃ oa, v = .slice oa 0 0) → xs = [] → ∃ news, Source P w s xs.length v news ∧ RelL w G (flat xs) news [] ∧ ∀ y ∈ xs, y.width = s := by
    rintro ⟨oa, hv⟩ hxs
    subst hxs
    refine ⟨[], ⟨by simp, fun w' => by rw [hv]; simp [Builtin.lenOf], fun w' _ => by rw [hv]; cases oa <;> simp [Builtin.firstCells, loadCells, loadCellsFrom], by simp⟩, .nil, by simp⟩
  cases x <;> simp [elemsA] at he
  case nil =>
    subst he
    refine mkn ⟨none, ?_⟩ rfl
    cases hx with | of h => cases h; rfl
  case sl o n ys =>
    cases o <;> simp [elemsA] at he
    subst he
    simp only [reduceCtorEq, nA, Option.some.injEq, false_or] at hn
    subst hn
    rcases slf_inv hx with ⟨hv, hxs⟩ | ⟨b, k, cap, cur, e, fr, hv, hh, hg, hw, hl, hcap, hm⟩
    · exact mkn hv hxs
    · exact mk b k cap cur e fr hv hh hw hl
  case vw r off len =>
    obtain ⟨row, hr, rfl⟩ := he
    simp only [reduceCtorEq, nA, hr, Option.map_some, Option.some.injEq, false_or] at hn
    subst hn
    rcases vw_inv hx with ⟨row', k, cap, cur, e, b, hr', hob, g1, g2, g3, g4, g5, g6, hv⟩ | ⟨row', hr', hob, hxs, rfl, rfl, hv⟩
    · rw [hr] at hr'
      obtain rfl := Option.some.inj hr'
      have hrr := hi.row r row hr
      rw [hob] at hrr
      obtain ⟨cur', e', cap', h1, h2, h3, h4, h5, h6, h7⟩ := hrr.ex
      rw [g2] at h1
      simp only [Option.some.injEq, Obj.cells.injEq] at h1
      obtain ⟨rfl, rfl, _⟩ := h1
      have hw : ∀ y ∈ (row.xs.drop off).take len, y.width = row.n := fun y hy => h5 y (List.mem_of_mem_drop (List.mem_of_mem_take hy))
      have hlen : ((row.xs.drop off).take len).length = len := by simp; omega
      have hlk' := hlk r off len row rfl hr
      unfold CellsRel at h7
      rw [if_neg (by simp [hlk'])] at h7
      obtain ⟨F1, F2, e1, _, k2⟩ := h7.take_ (off * row.n)
      obtain ⟨F3, F4, e2, k3, _⟩ := k2.take_ (len * row.n)
      rw [flat_drop off h5, flat_take len (fun y hy => h5 y (List.mem_of_mem_drop hy))] at k3
      have hF := k3.noOwn hall
      subst hF
      have hle : (off + len) * row.n ≤ row.xs.length * row.n := Nat.mul_le_mul_right _ g1
      rw [Nat.add_mul] at hle
      rw [List.drop_take, List.take_take, Nat.min_eq_left (by omega)] at k3
      have hk : k = off * row.n ∨ len = 0 := by rcases g6 with h | h <;> omega
      rcases hk with rfl | h0
      · exact mk b _ (cap - off) cur e (0, 0) (by rw [hlen]; exact hv) g2 hw (by rw [hlen]; exact k3)
      · exact mk b k (cap - off) cur e (0, 0) (by rw [hlen]; exact hv) g2 hw (by
          rw [hlen]
          subst h0
          simpa using k3)
    · rw [hr] at hr'
      obtain rfl := Option.some.inj hr'
      exact mkn ⟨none, hv⟩ (by simp)
end
end Go.Fw

/- append on abstract states. Plain theorems, no condition. -/
set_option linter.unusedVariables false
set_option linter.unusedSimpArgs false
namespace Go.Fw

section
variable {P : Program} {E : Env} {G : Nat → Prop} {gs : Gh} {S : State} {a : Act} {w : World} {tmps : Array Value}

theorem append_core (hi : Inv E G gs S tmps w) {R F2 : List Nat} (hR : Res E G gs S.rows R) (hRlt : ∀ b ∈ R, b < w.heap.size) (hsub : ∀ b ∈ F2, b ∈ R) (hnd : F2.Nodup)
    {r len : Nat} {row : Row} (hr : rowAt S.rows r = some row) (hlk : row.lk = false) {sv : Value} (hsv : TRel w G S.rows gs (.vw r 0 len) sv [])
    {xv : Value} {news : List Value} {xs2 : List A} (hx : Source P w row.n xs2.length xv news) (hrel : RelL w G (flat xs2) news F2) (hw2 : ∀ y ∈ xs2, y.width = row.n)
    {t ty e : TypeId} {z : Value} (ht : elemT P t = some e) (hs : szT P e = some row.n) (hz : zeroT P e = some z) (hzs : z.cells.size = row.n) (hsp : 0 < row.n)
    (hb : (len + xs2.length) * bytesT P e ≤ 140737488355328) (hm : len + xs2.length ≤ maxLen) :
    ∃ w' v' ob F', (Builtin.append_ #[t, t] ty #[sv, xv]).run P w = .ok v' w' ∧ Inv E G (gs.add r ob F') (S.turn r (some ⟨row.n, row.xs.take len ++ xs2, false⟩)) tmps w' ∧
      TRel w' G (S.turn r (some ⟨row.n, row.xs.take len ++ xs2, false⟩)).rows (gs.add r ob F') (.vw r 0 (len + xs2.length)) v' [] := by
  have hlt : r < S.rows.length := rowAt_lt hr
  have hself : ∀ ob F', (gs.add r ob F') r = (ob, F') := fun ob F' => by simp [Gh.add]
  have hrow' : rowAt (S.turn r (some ⟨row.n, row.xs.take len ++ xs2, false⟩)).rows r = some ⟨row.n, row.xs.take len ++ xs2, false⟩ := by rw [rowAt_turn hr, if_pos rfl]
  have hfl2 : news.length = xs2.length * row.n := hx.len
  rcases vw_inv hsv with ⟨row', k, cap, cur, e1, b, hr', hob, g1, g2, g3, g4, g5, g6, rfl⟩ | ⟨row', hr', hob, hxs, _, rfl, rfl⟩
  · rw [hr] at hr'
    obtain rfl := Option.some.inj hr'
    have hk : k = 0 := by rcases g6 with h | h <;> omega
    subst hk
    have hrr := hi.row r row hr
    rw [hob] at hrr
    obtain ⟨cur0, e0, cap0, h1, h2, h3, h4, h5, h6, h7⟩ := hrr.ex
    rw [g2] at h1
    simp only [Option.some.injEq, Obj.cells.injEq] at h1
    obtain ⟨rfl, rfl, _⟩ := h1
    unfold CellsRel at h7
    rw [if_neg (by simp [hlk])] at h7
    obtain ⟨F1, F3, hF, hp, _⟩ := h7.take_ (len * row.n)
    have hll : len ≤ row.xs.length := by omega
    rw [flat_take len h5, List.take_take, Nat.min_eq_left (Nat.mul_le_mul_right _ hll)] at hp
    obtain ⟨w', b', cur', e', cap', hrun, q1, q2, q3, q4, q5, q6, q7, q8, q9, q10, q11⟩ := run_append_fw (ty := ty) ht hs hz hzs hsp g2 g3 (by omega : len ≤ cap) g4 hx hb hm
    have hall : gs.all r = b :: (gs r).2 := by simp [Gh.all, hob]
    have hball : b ∈ gs.all r := by rw [hall]; simp
    have hnodr := hi.nod r row hr
    rw [hall, hF] at hnodr
    have hF1 : ∀ c ∈ F1, c ∈ gs.all r ∧ c ≠ b := fun c hc => ⟨by rw [hall, hF]; simp [hc], fun h => by subst h; simp [hc] at hnodr⟩
    have hGne : ∀ c, G c → G c ∧ w'.heap[c]? = w.heap[c]? := fun c hc => ⟨hc, q11 c (hi.glt c hc) fun h => by subst h; exact (hi.own r row hr c hball).1 hc⟩
    have hFeq : ∀ c ∈ F1 ++ F2, w'.heap[c]? = w.heap[c]? := fun c hc => by
      rcases List.mem_append.1 hc with hc | hc
      · exact q11 c (hi.block_lt hr c (hF1 c hc).1) (hF1 c hc).2
      · exact q11 c (hRlt c (hsub c hc)) fun h => by subst h; exact hR.dis r row hr c hball (hsub c hc)
    have hnodF : (F1 ++ F2).Nodup := by
      rw [List.nodup_append]
      refine ⟨?_, hnd, fun c hc d hd h => ?_⟩
      · have := (List.nodup_cons.1 hnodr).2
        rw [List.nodup_append] at this
        exact this.1
      · subst h; exact hR.dis r row hr c (hF1 c hc).1 (hsub c hd)
    have hb'F : ∀ c ∈ F1 ++ F2, c ≠ b' := fun c hc h => by
      subst h
      rcases q6 with h | h
      · rcases List.mem_append.1 hc with hc | hc
        · exact (hF1 c hc).2 h
        · exact hR.dis r row hr b hball (h ▸ hsub c hc)
      · rcases List.mem_append.1 hc with hc | hc
        · have := hi.block_lt hr c (hF1 c hc).1; omega
        · have := hRlt c (hsub c hc); omega
    have hcont : RowRel w' G [] gs ⟨row.n, row.xs.take len ++ xs2, false⟩ (some b') (F1 ++ F2) → True := fun _ => trivial
    have hlen' : (row.xs.take len ++ xs2).length = len + xs2.length := by simp; omega
    refine ⟨w', _, some b', F1 ++ F2, hrun, hi.turn hr q7 q8 q9 q10 (fun c hc hn => q11 c hc fun h => hn (h ▸ hball)) ?_ ?_ ?_ ?_, ?_⟩
    · exact List.nodup_cons.2 ⟨fun h => hb'F b' h rfl, hnodF⟩
    · intro c hc
      have hc : c ∈ b' :: (F1 ++ F2) := hc
      rcases List.mem_cons.1 hc with rfl | hc
      · rcases q6 with h | h
        · subst h; exact hi.own r row hr _ hball
        · subst h; exact ⟨fun hg => by have := hi.glt _ hg; omega, .inr hi.size⟩
      · rcases List.mem_append.1 hc with hc | hc
        · exact hi.own r row hr c (hF1 c hc).1
        · exact hR.own c (hsub c hc)
    · intro r' row' hne hr' c hc hc2
      have hc2 : c ∈ b' :: (F1 ++ F2) := hc2
      rcases List.mem_cons.1 hc2 with rfl | hc2
      · rcases q6 with h | h
        · subst h; exact hi.dis r' r row' row hr' hr hne _ hc hball
        · subst h; have := hi.block_lt hr' _ hc; omega
      · rcases List.mem_append.1 hc2 with hc2 | hc2
        · exact hi.dis r' r row' row hr' hr hne c hc (hF1 c hc2).1
        · exact hR.dis r' row' hr' c hc (hsub c hc2)
    · intro row' hrow
      obtain rfl := Option.some.inj hrow
      refine ⟨rfl, fun rows' gs' => ⟨cur', e', cap', q1, q2, by rw [hlen']; exact q3, q4, ?_, ?_, ?_⟩⟩
      · intro y hy
        rcases List.mem_append.1 hy with hy | hy
        · exact h5 y (List.mem_of_mem_take hy)
        · exact hw2 y hy
      · intro v hv
        simp only [hlen'] at hv
        rw [q5] at hv
        rcases List.mem_append.1 hv with hv | hv
        · refine h6 v ?_
          have : cur.toList.take (len * row.n) = (cur.toList.take (row.xs.length * row.n)).take (len * row.n) := by rw [List.take_take, Nat.min_eq_left (Nat.mul_le_mul_right _ hll)]
          rw [this] at hv
          exact List.mem_of_mem_take hv
        · exact hx.cell v hv
      · simp only [hlen']
        show RelL w' G (flat (row.xs.take len ++ xs2)) (cur'.toList.take ((len + xs2.length) * row.n)) (F1 ++ F2)
        rw [q5, flat_append]
        exact (hp.append hrel).move_ hGne hFeq
    · have hgs1 : ((gs.add r (some b') (F1 ++ F2)) r).1 = some b' := by rw [hself]
      have := TRel.vw (w := w') (G := G) (rows := (S.turn r (some ⟨row.n, row.xs.take len ++ xs2, false⟩)).rows) (gs := gs.add r (some b') (F1 ++ F2)) (off := 0) (len := len + xs2.length) (k := 0) hrow' hgs1 (by rw [hlen']; omega) q1 q2 q4 (by rw [hlen']; exact q3) (.inl (by simp))
      simpa using this
  · -- the nil slice
    rw [hr] at hr'
    obtain rfl := Option.some.inj hr'
    have hrr := hi.row r row hr
    rw [hob] at hrr
    have hall : gs.all r = [] := by simp [Gh.all, hob, hrr.2]
    have htk : row.xs.take 0 ++ xs2 = xs2 := by simp
    by_cases hm0 : xs2.length = 0
    · have hx2 : xs2 = [] := List.eq_nil_of_length_eq_zero hm0
      subst hx2
      refine ⟨w, _, none, [], run_append_nil0 (ty := ty) ht hs hx, hi.turn hr rfl rfl rfl (Nat.le_refl _) (fun _ _ _ => rfl) (by simp) (by simp) (by simp) ?_, ?_⟩
      · intro row' hrow
        obtain rfl := Option.some.inj hrow
        exact ⟨rfl, fun rows' gs' => ⟨by simp, rfl⟩⟩
      · exact .vwn hrow' (by rw [hself]) (by simp)
    · simp only [Nat.zero_add] at hb hm
      obtain ⟨cur', cap', hrun, q2, q3, q4, q5⟩ := run_append_nil_fw (ty := ty) ht hs hz hzs hsp hx hb hm hm0
      have hGne : ∀ c, G c → G c ∧ (w.drew.alloc (.cells cur' e)).heap[c]? = w.heap[c]? := fun c hc => ⟨hc, heap_alloc_old w.drew _ c (hi.glt c hc)⟩
      have hnew : (w.drew.alloc (.cells cur' e)).heap[w.heap.size]? = some (.cells cur' e (0, 0)) := heap_alloc_new w.drew _
      refine ⟨_, _, some w.heap.size, F2, hrun, hi.turn hr rfl rfl rfl (by simp) (fun c hc _ => heap_alloc_old w.drew _ c hc) ?_ ?_ ?_ ?_, ?_⟩
      · exact List.nodup_cons.2 ⟨fun h => by have := hRlt _ (hsub _ h); omega, hnd⟩
      · intro c hc
        rcases List.mem_cons.1 hc with rfl | hc
        · exact ⟨fun hg => by have := hi.glt _ hg; omega, .inr hi.size⟩
        · exact hR.own c (hsub c hc)
      · intro r' row' hne hr' c hc hc2
        rcases List.mem_cons.1 hc2 with rfl | hc2
        · have := hi.block_lt hr' _ hc; omega
        · exact hR.dis r' row' hr' c hc (hsub c hc2)
      · intro row' hrow
        obtain rfl := Option.some.inj hrow
        refine ⟨rfl, fun rows' gs' => ⟨cur', e, cap', hnew, q2, by rw [htk]; exact q3, q4, ?_, ?_, ?_⟩⟩
        · rw [htk]; exact hw2
        · rw [htk, q5]; exact hx.cell
        · rw [htk]
          show RelL _ G (flat xs2) (cur'.toList.take (xs2.length * row.n)) F2
          rw [q5]
          exact hrel.move_ hGne fun c hc => heap_alloc_old w.drew _ c (hRlt c (hsub c hc))
      · have hgs1 : ((gs.add r (some w.heap.size) F2) r).1 = some w.heap.size := by rw [hself]
        have := TRel.vw (w := w.drew.alloc (.cells cur' e)) (G := G) (rows := (S.turn r (some ⟨row.n, row.xs.take 0 ++ xs2, false⟩)).rows) (gs := gs.add r (some w.heap.size) F2) (off := 0) (len := 0 + xs2.length) (k := 0) hrow' hgs1 (by show 0 + (0 + xs2.length) ≤ (row.xs.take 0 ++ xs2).length; rw [htk]; omega) hnew q2 q4 (by show (row.xs.take 0 ++ xs2).length ≤ cap'; rw [htk]; exact q3) (.inl (by simp))
        simpa using this

theorem exec_append {o : Oper} {x y : Operand} {t : TypeId} (ho : o.op = .call { callee := .builtin .append, args := #[x, y], argTypes := #[t, t] }) {v : Value} {w' : World}
    (hr : (Builtin.append_ #[t, t] o.type #[a.eval x, a.eval y]).run P w = .ok v w') : (execOp a.eval o).run P w = .ok (.value v) w' := by
  simp [execOp, ho, resolve, invoke, builtin, hr]

/-- append(xs, ys...), ys left as they are. -/
theorem opOK_append {o : Oper} {K : State → Prop} {x y : Operand} {t e : TypeId} {r len : Nat} {row : Row} {xs2 : List A} {z : Value} (ho : o.op = .call { callee := .builtin .append, args := #[x, y], argTypes := #[t, t] }) (hx : okO x = true) (hy : okO y = true)
    (h1 : ev S x = .vw r 0 len) (hr : rowAt S.rows r = some row) (hlk : row.lk = false) (h2 : elemsA S (ev S y) = some xs2) (hn : ev S y = .nil ∨ nA S (ev S y) = some row.n) (hno : ∀ y ∈ xs2, noOwn y = true)
    (hlk2 : ∀ r off len row, ev S y = .vw r off len → rowAt S.rows r = some row → row.lk = false) (hok : ∀ c ∈ flat xs2, okCell c = true)
    (ht : elemT P t = some e) (hs : szT P e = some row.n) (hz : zeroT P e = some z) (hzs : z.cells.size = row.n) (hsp : 0 < row.n) (hb : (len + xs2.length) * bytesT P e ≤ 140737488355328) (hm : len + xs2.length ≤ maxLen)
    (hK : K ((S.turn r (some ⟨row.n, row.xs.take len ++ xs2, false⟩)).put o.dst (.vw r 0 (len + xs2.length)))) : opOK P o S K := by
  intro E a w next Q hss hnx
  obtain ⟨hd, G, gs, hi⟩ := hss
  have e1 := ev_rel hi x hx
  have e2 := ev_rel hi y hy
  rw [h1] at e1
  obtain ⟨news, hsrc, hrel, hw2⟩ := source_ok (P := P) hi e2 h2 hn hno hlk2 hok
  obtain ⟨w', v', ob, F', hrun, hinv, hvw⟩ := append_core (ty := o.type) hi (R := []) (F2 := []) Res.nil (by simp) (by simp) .nil hr hlk e1 hsrc hrel hw2 ht hs hz hzs hsp hb hm
  unfold Oper.wp
  rw [exec_append ho hrun]
  exact hnx _ _ _ hK ⟨by rw [put_defers]; exact hd, G, _, Inv.put (S := S.turn r _) hinv hvw o.dst⟩

/-- append(nil, ys...): a row more. -/
theorem opOK_append_nil {o : Oper} {K : State → Prop} {x y : Operand} {t e : TypeId} {s : Nat} {xs2 : List A} {z : Value} (ho : o.op = .call { callee := .builtin .append, args := #[x, y], argTypes := #[t, t] }) (hx : okO x = true) (hy : okO y = true)
    (h1 : ev S x = .nil) (h2 : elemsA S (ev S y) = some xs2) (hn : ev S y = .nil ∨ nA S (ev S y) = some s) (hno : ∀ y ∈ xs2, noOwn y = true)
    (hlk2 : ∀ r off len row, ev S y = .vw r off len → rowAt S.rows r = some row → row.lk = false) (hok : ∀ c ∈ flat xs2, okCell c = true)
    (ht : elemT P t = some e) (hs : szT P e = some s) (hz : zeroT P e = some z) (hzs : z.cells.size = s) (hsp : 0 < s) (hb : xs2.length * bytesT P e ≤ 140737488355328) (hm : xs2.length ≤ maxLen)
    (hK : K ((S.addRow ⟨s, xs2, false⟩).put o.dst (.vw S.rows.length 0 xs2.length))) : opOK P o S K := by
  intro E a w next Q hss hnx
  obtain ⟨hd, G, gs, hi⟩ := hss
  have e1 := ev_rel hi x hx
  have e2 := ev_rel hi y hy
  rw [h1] at e1
  have hv : a.eval x = .slice none 0 0 := by
    generalize a.eval x = u at e1
    cases e1 with | of h => cases h; rfl
  obtain ⟨news, hsrc, hrel, hw2⟩ := source_ok (P := P) hi e2 h2 hn hno hlk2 hok
  have hrow : rowAt (S.addRow ⟨s, xs2, false⟩).rows S.rows.length = some ⟨s, xs2, false⟩ := by
    show rowAt (S.rows ++ [some _]) S.rows.length = _
    rw [rowAt_push, if_pos rfl]
  unfold Oper.wp
  by_cases hm0 : xs2.length = 0
  · have hx2 : xs2 = [] := List.eq_nil_of_length_eq_zero hm0
    subst hx2
    have hrun := run_append_nil0 (ty := o.type) ht hs hsrc
    rw [← hv] at hrun
    rw [exec_append ho hrun]
    have hinv := hi.adopt (w' := w) (G' := G) (R := []) (ob := none) (row := ⟨s, [], false⟩) rfl rfl rfl (Nat.le_refl _) (fun _ _ => rfl) (fun _ h => h) (fun _ h => .inl h) hi.glt (by simp) (by simp) (by simp) (fun _ _ _ => ⟨rfl, rfl⟩)
    refine hnx _ _ _ hK ⟨by rw [put_defers]; exact hd, G, _, Inv.put (S := S.addRow _) hinv ?_ o.dst⟩
    rw [hv]
    exact .vwn (gs := gs.add S.rows.length none []) hrow (by show (if S.rows.length = S.rows.length then _ else _ : Option Nat × List Nat).1 = none; rw [if_pos rfl]) rfl
  · obtain ⟨cur', cap', hrun, q2, q3, q4, q5⟩ := run_append_nil_fw (ty := o.type) ht hs hz hzs hsp hsrc hb hm hm0
    rw [← hv] at hrun
    rw [exec_append ho hrun]
    have hnew : (w.drew.alloc (.cells cur' e)).heap[w.heap.size]? = some (.cells cur' e (0, 0)) := heap_alloc_new w.drew _
    have hG : ∀ b, G b → G b ∧ (w.drew.alloc (.cells cur' e)).heap[b]? = w.heap[b]? := fun c hc => ⟨hc, heap_alloc_old w.drew _ c (hi.glt c hc)⟩
    have hinv := hi.adopt (w' := w.drew.alloc (.cells cur' e)) (G' := G) (R := []) (ob := some w.heap.size) (row := ⟨s, xs2, false⟩) rfl rfl rfl (by simp) (fun c hc => heap_alloc_old w.drew _ c hc) (fun _ h => h) (fun _ h => .inl h)
      (fun b hb => by have := hi.glt b hb; simp; omega) (by simp) (by
        intro b hb
        have hb : b ∈ [w.heap.size] := hb
        simp at hb; subst hb
        exact ⟨fun h => by have := hi.glt _ h; omega, .inr hi.size⟩) (by
        intro r row' hr b hb hb2
        have hb2 : b ∈ [w.heap.size] := hb2
        simp at hb2; subst hb2
        have := hi.block_lt hr _ hb; omega) (fun rows' gs' _ => ⟨cur', e, cap', hnew, q2, q3, q4, hw2, by
          show ∀ v ∈ cur'.toList.take (xs2.length * s), _
          rw [q5]; exact hsrc.cell, by
          show RelL _ G (flat xs2) (cur'.toList.take (xs2.length * s)) []
          rw [q5]; exact hrel.move_ hG (by simp)⟩)
    refine hnx _ _ _ hK ⟨by rw [put_defers]; exact hd, G, _, Inv.put (S := S.addRow _) hinv ?_ o.dst⟩
    have := TRel.vw (w := w.drew.alloc (.cells cur' e)) (G := G) (rows := (S.addRow ⟨s, xs2, false⟩).rows) (gs := gs.add S.rows.length (some w.heap.size) []) (off := 0) (len := xs2.length) (k := 0) hrow (by simp [Gh.add]) (by simp) hnew q2 q4 q3 (.inl (by simp))
    simpa using this

/-- append(xs, ys...) where ys is an own row that goes with it: what its elements hold alone they go on to hold alone. -/
theorem opOK_append_move {o : Oper} {K : State → Prop} {x y : Operand} {t e : TypeId} {r len r2 len2 : Nat} {row row2 : Row} {z : Value} (ho : o.op = .call { callee := .builtin .append, args := #[x, y], argTypes := #[t, t] }) (hx : okO x = true) (hy : okO y = true)
    (h1 : ev S x = .vw r 0 len) (hr : rowAt S.rows r = some row) (hlk : row.lk = false) (h2 : ev S y = .vw r2 0 len2) (hr2 : rowAt S.rows r2 = some row2) (hlen2 : len2 = row2.xs.length) (hlk2 : row2.lk = false) (hne : r2 ≠ r) (hnn : row2.n = row.n)
    (hok : ∀ c ∈ flat row2.xs, okCell c = true)
    (ht : elemT P t = some e) (hs : szT P e = some row.n) (hz : zeroT P e = some z) (hzs : z.cells.size = row.n) (hsp : 0 < row.n) (hb : (len + row2.xs.length) * bytesT P e ≤ 140737488355328) (hm : len + row2.xs.length ≤ maxLen)
    (hK : K (((S.turn r2 none).turn r (some ⟨row.n, row.xs.take len ++ row2.xs, false⟩)).put o.dst (.vw r 0 (len + row2.xs.length)))) : opOK P o S K := by
  intro E a w next Q hss hnx
  obtain ⟨hd, G, gs, hi⟩ := hss
  have e1 := ev_rel hi x hx
  have e2 := ev_rel hi y hy
  rw [h1] at e1
  rw [h2] at e2
  obtain ⟨F, hst, hrelr⟩ := stash1_ok hi Res.nil (x := .vw r2 0 len2) e2 (by simp only [stash1, hr2]; exact ⟨trivial, by omega, hlk2⟩)
  simp only [stash1, hr2] at hst hrelr
  rw [List.take_of_length_le (by omega)] at hrelr
  have e1' := hst.step _ _ e1
  have hkill : kills [r2] (.vw r 0 len) = .vw r 0 len := by simp [kills, kill_vw, Ne.symm hne]
  rw [hkill] at e1'
  have hr' := hst.rows r row (by simp [Ne.symm hne]) hr hlk
  have hlt : ∀ b ∈ F, b < w.heap.size := by simpa using hst.lt (by simp)
  have hres : Res E G gs (S.turn r2 none).rows F := by simpa using hst.res
  -- the source
  have hsrc : ∃ news F2, Source P w row.n row2.xs.length (a.eval y) news ∧ RelL w G (flat row2.xs) news F2 ∧ (∀ y ∈ row2.xs, y.width = row.n) ∧ (∀ b ∈ F2, b ∈ F) ∧ F2.Nodup := by
    generalize a.eval y = v at hrelr e2
    generalize hxs : row2.xs = xs at *
    cases hrelr with
    | nils => exact ⟨[], [], ⟨by simp, fun w' => by simp [Builtin.lenOf], fun w' _ => by simp [Builtin.firstCells], by simp⟩, .nil, by simp, by simp, .nil⟩
    | ow hh hw hlen hc hl hcap hmx hsz hvv =>
      rename_i b l cap cur et cs F2
      subst hlen
      have hlen : cs.length = xs.length * row.n := by rw [hl.length, flat_length hw, hnn]
      refine ⟨cs, F2, ⟨hlen, fun w' => by simp [Builtin.lenOf], fun w' hw' => ?_, okCells_v (TRelL.of (rows := []) (gs := gs) hl) (List.all_eq_true.2 hok)⟩, hl, fun y hy => by rw [← hnn]; exact hw y hy, fun b hb => by simp [hb], ?_⟩
      · refine run_firstCells_some (P := P) w' row.n _ ⟨b, 0, none⟩ _ cap _ hlen (fun j u hu => ?_)
        rw [add_none, cell_at (w := w') (by rw [hw']; exact hh)]
        have hj : j < cs.length := by
          rcases Nat.lt_or_ge j cs.length with h | h
          · exact h
          · rw [List.getElem?_eq_none h] at hu; simp at hu
        rw [hc] at hu
        rw [hlen] at hj
        rw [hnn, List.getElem?_take_of_lt hj] at hu
        simpa using hu
      · exact (List.nodup_cons.1 hres.nod).2
  obtain ⟨news, F2, hs1, hs2, hs3, hs4, hs5⟩ := hsrc
  obtain ⟨w', v', ob, F', hrun, hinv, hvw⟩ := append_core (ty := o.type) hst.inv hres hlt hs4 hs5 hr' hlk e1' hs1 hs2 hs3 ht hs hz hzs hsp hb hm
  unfold Oper.wp
  rw [exec_append ho hrun]
  exact hnx _ _ _ hK ⟨by rw [put_defers]; exact hd, G, _, Inv.put (S := (S.turn r2 none).turn r _) hinv hvw o.dst⟩
end
end Go.Fw

/- Calls: arguments told as plain data, results told as rows, contracts. Plain theorems, no condition. -/
set_option linter.unusedVariables false
set_option linter.unusedSimpArgs false
namespace Go.Fw

def mapO (f : A → Option A) : List A → Option (List A)
  | [] => some []
  | x :: xs => match f x, mapO f xs with
    | some y, some ys => some (y :: ys)
    | _, _ => none
/-- What a callee that only reads is told of an argument. -/
def roO (S : State) : Nat → A → Option A
  | 0, _ => none
  | k + 1, x => match x with
    | .vw r off len => match rowAt S.rows r with
      | some row => if row.lk then none else some (.sl false row.n (((row.xs.drop off).take len).map frz))
      | none => none
    | .pt r j o => match rowAt S.rows r with
      | some row => if j < row.xs.length ∧ o ≤ row.n then
          if row.lk then (mapO (roO S k) (((row.xs.getD j .un).cells).drop o)).map A.rp else some (.rp ((((row.xs.getD j .un).cells).drop o).map frz))
        else none
      | none => none
    | .agg xs => (mapO (roO S k) xs).map A.agg
    | .tup xs => (mapO (roO S k) xs).map A.tup
    | .clo g xs => (mapO (roO S k) xs).map (A.clo g)
    | .un => none
    | .sl true n xs => some (.sl false n (xs.map frz))
    | .bx xs => some (.rp (xs.map frz))
    | x => some x

section
variable {P : Program} {E : Env} {G : Nat → Prop} {gs : Gh} {S : State} {a : Act} {w : World} {tmps : Array Value}

def Old (w : World) : Nat → Prop := fun b => b < w.heap.size

theorem mapO_rel {f : A → Option A} {G' : Nat → Prop} {rows : List (Option Row)} (hf : ∀ x v F y, TRel w G rows gs x v F → f x = some y → Rel w G' y v []) : ∀ {xs : List A} {vs : List Value} {F : List Nat} {ys : List A},
    TRelL w G rows gs xs vs F → mapO f xs = some ys → RelL w G' ys vs []
  | [], _, _, ys, h, hm => by
    cases h
    simp only [mapO, Option.some.injEq] at hm
    subst hm; exact .nil
  | x :: xs, _, _, ys, h, hm => by
    cases h with
    | cons h hl =>
      simp only [mapO] at hm
      cases h1 : f x with
      | none => simp [h1] at hm
      | some y =>
        cases h2 : mapO f xs with
        | none => simp [h1, h2] at hm
        | some zs =>
          simp only [h1, h2, Option.some.injEq] at hm
          subst hm
          exact .cons (F := []) (Fs := []) (hf _ _ _ _ h h1) (mapO_rel hf hl h2)
theorem RelL.frz {xs : List A} {vs : List Value} {F : List Nat} (h : RelL w G xs vs F) {G' : Nat → Prop} (hG : ∀ b, G b → G' b) (hF : ∀ b ∈ F, G' b) : RelL w G' (xs.map Fw.frz) vs [] := by
  induction xs generalizing vs F with
  | nil => cases h; exact .nil
  | cons x xs ih =>
    cases h with
    | cons h hl => exact .cons (F := []) (Fs := []) (h.frz hG fun b hb => hF b (by simp [hb])) (ih hl fun b hb => hF b (by simp [hb]))
theorem roO_rel (hi : Inv E G gs S tmps w) : ∀ (k : Nat) (x : A) (v : Value) (F : List Nat) (y : A), TRel w G S.rows gs x v F → roO S k x = some y → Rel w (Old w) y v [] := by
  intro k
  induction k with
  | zero => intro x v F y _ hy; simp [roO] at hy
  | succ k ih =>
    intro x v F y h hy
    have hGO : ∀ b, G b → Old w b := fun b hb => hi.glt b hb
    have plain : ∀ {x : A} {v : Value}, TRel w G S.rows gs x v F → isData x = true → Rel w (Old w) (Fw.frz x) v [] := fun h hd => (h.data hd).frz hGO (h.data hd).lt
    cases x with
    | un => simp [roO] at hy
    | sc u =>
      simp only [roO, Option.some.injEq] at hy; subst hy
      have := plain h (isData_sc u); rwa [frz_sc] at this
    | nil =>
      simp only [roO, Option.some.injEq] at hy; subst hy
      have := plain h isData_nil; rwa [frz_nil] at this
    | sl o n xs =>
      cases o with
      | true =>
        simp only [roO, Option.some.injEq] at hy; subst hy
        have := plain h (isData_sl true n xs); rwa [frz_sl] at this
      | false =>
        simp only [roO, Option.some.injEq] at hy; subst hy
        exact (h.data (isData_sl false n xs)).noOwn (by simp [noOwn_sl]) ▸ (h.data (isData_sl false n xs)).move_ (fun b hb => ⟨hGO b hb, rfl⟩) (fun b hb => rfl)
    | rp xs =>
      simp only [roO, Option.some.injEq] at hy; subst hy
      exact (h.data (isData_rp xs)).noOwn (by simp [noOwn_rp]) ▸ (h.data (isData_rp xs)).move_ (fun b hb => ⟨hGO b hb, rfl⟩) (fun b hb => rfl)
    | bx xs =>
      simp only [roO, Option.some.injEq] at hy; subst hy
      have := plain h (isData_bx xs); rwa [frz_bx] at this
    | agg xs =>
      simp only [roO, Option.map_eq_some_iff] at hy
      obtain ⟨ys, h1, rfl⟩ := hy
      obtain ⟨cs, rfl, hl⟩ := agg_inv h
      have := Rel.agg (mapO_rel (G' := Old w) (fun x v F y hx hy => ih x v F y hx hy) hl h1)
      simpa using this
    | tup xs =>
      simp only [roO, Option.map_eq_some_iff] at hy
      obtain ⟨ys, h1, rfl⟩ := hy
      obtain ⟨cs, rfl, hl⟩ := tup_inv h
      have := Rel.tup (mapO_rel (G' := Old w) (fun x v F y hx hy => ih x v F y hx hy) hl h1)
      simpa using this
    | clo g xs =>
      simp only [roO, Option.map_eq_some_iff] at hy
      obtain ⟨ys, h1, rfl⟩ := hy
      cases h with
      | of h => cases h with | clo hl => exact .clo (mapO_rel (gs := gs) (rows := S.rows) (G' := Old w) (fun x v F y hx hy => ih x v F y hx hy) (.of hl) h1)
      | clo hl => exact .clo (mapO_rel (G' := Old w) (fun x v F y hx hy => ih x v F y hx hy) hl h1)
    | vw r off len =>
      simp only [roO] at hy
      cases hr : rowAt S.rows r with
      | none => simp [hr] at hy
      | some row =>
        simp only [hr] at hy
        split at hy
        · simp at hy
        · rename_i hlk
          simp only [Option.some.injEq] at hy
          subst hy
          rcases vw_inv h with ⟨row', kk, cap, cur, e, b, hr', hob, g1, g2, g3, g4, g5, g6, rfl⟩ | ⟨row', hr', hob, hxs, rfl, rfl, rfl⟩
          · rw [hr] at hr'
            obtain rfl := Option.some.inj hr'
            have hrr := hi.row r row hr
            rw [hob] at hrr
            obtain ⟨cur', e', cap', h1, h2, h3, h4, h5, h6, h7⟩ := hrr.ex
            rw [g2] at h1
            simp only [Option.some.injEq, Obj.cells.injEq] at h1
            obtain ⟨rfl, rfl, _⟩ := h1
            unfold CellsRel at h7
            rw [if_neg hlk] at h7
            obtain ⟨F1, F2, e1, _, k2⟩ := h7.take_ (off * row.n)
            obtain ⟨F3, F4, e2, k3, _⟩ := k2.take_ (len * row.n)
            rw [flat_drop off h5, flat_take len (fun y hy => h5 y (List.mem_of_mem_drop hy))] at k3
            have hle : (off + len) * row.n ≤ row.xs.length * row.n := Nat.mul_le_mul_right _ g1
            rw [Nat.add_mul] at hle
            rw [List.drop_take, List.take_take, Nat.min_eq_left (by omega)] at k3
            have k4 := RelL.frz k3 (G' := Old w) hGO k3.lt
            rw [← flat_frz] at k4
            have hlen : len = (((row.xs.drop off).take len).map Fw.frz).length := by simp; omega
            have hw : ∀ y ∈ ((row.xs.drop off).take len).map Fw.frz, y.width = row.n := fun y hy => by
              obtain ⟨z, hz, rfl⟩ := List.mem_map.1 hy
              rw [width_frz]; exact h5 z (List.mem_of_mem_drop (List.mem_of_mem_take hz))
            have hold : Old w b := (Array.getElem?_eq_some_iff.1 g2).1
            refine .ro g2 hold hw hlen rfl ?_ (by omega) (by omega)
            rcases g6 with hk | hk
            · rw [hk]; exact k4
            · have h0 : len = 0 := by omega
              subst h0
              simpa using k4
          · rw [hr] at hr'
            obtain rfl := Option.some.inj hr'
            simpa using Rel.nils
    | pt r j o =>
      simp only [roO] at hy
      cases hr : rowAt S.rows r with
      | none => simp [hr] at hy
      | some row =>
        simp only [hr] at hy
        by_cases hjo : j < row.xs.length ∧ o ≤ row.n
        case neg => rw [if_neg hjo] at hy; simp at hy
        rw [if_pos hjo] at hy
        obtain ⟨row', b, hr', hb, rfl⟩ := pt_inv h
        rw [hr] at hr'
        obtain rfl := Option.some.inj hr'
        obtain ⟨b', hb', hrc⟩ := row_real hi hr (by omega)
        rw [hb] at hb'
        obtain rfl := Option.some.inj hb'
        obtain ⟨cur, e, cap, h1, h2, h3, h4, h5, h6, h7⟩ := hrc.ex
        have hz : row.xs[j]? = some (row.xs.getD j .un) := by simp [List.getD_eq_getElem?_getD, List.getElem?_eq_getElem hjo.1]
        generalize row.xs.getD j .un = x at hy hz
        have hw := h5 x (List.mem_of_getElem? hz)
        unfold A.width at hw
        have hseg := flat_seg h5 hz o (row.n - o) (by omega)
        have hxl : ((x.cells.drop o).take (row.n - o)) = x.cells.drop o := by rw [List.take_of_length_le (by simp; omega)]
        have hle : (j + 1) * row.n ≤ row.xs.length * row.n := Nat.mul_le_mul_right _ hjo.1
        rw [Nat.add_mul] at hle
        have hcur : ((cur.toList.take (row.xs.length * row.n)).drop (j * row.n + o)).take (row.n - o) = (cur.toList.drop (j * row.n + o)).take (row.n - o) := by
          rw [List.drop_take, List.take_take, Nat.min_eq_left (by omega)]
        have hold : Old w b := (Array.getElem?_eq_some_iff.1 h1).1
        have hlenx : (x.cells.drop o).length = row.n - o := by simp; omega
        obtain ⟨F1, F2, e1, _, k2⟩ := h7.t.take_ (j * row.n + o)
        obtain ⟨F3, F4, e2, k3, _⟩ := k2.take_ (row.n - o)
        rw [hseg, hxl, hcur] at k3
        by_cases hlk : row.lk = true
        · rw [if_pos hlk] at hy
          simp only [Option.map_eq_some_iff] at hy
          obtain ⟨ys, hm, rfl⟩ := hy
          have k4 := mapO_rel (G' := Old w) (fun x v F y hx hy => ih x v F y hx hy) k3 hm
          have hyl : ys.length = row.n - o := by rw [← k4.length, k3.length, hlenx]
          exact .rp h1 hold rfl (by rw [hyl]; exact k4)
        · rw [if_neg hlk] at hy
          simp only [Option.some.injEq] at hy
          subst hy
          unfold CellsRel at h7
          rw [if_neg hlk] at h7
          obtain ⟨F1', F2', e1', _, k2'⟩ := h7.take_ (j * row.n + o)
          obtain ⟨F3', F4', e2', k3', _⟩ := k2'.take_ (row.n - o)
          rw [hseg, hxl, hcur] at k3'
          have k4 := RelL.frz k3' (G' := Old w) hGO k3'.lt
          exact .rp h1 hold rfl (by rw [List.length_map, hlenx]; exact k4)

/-- One way of telling serves for another. -/
def fitA : Nat → A → A → Prop
  | 0, x, y => x = y
  | k + 1, x, y => match x, y with
    | .nil, .sl _ _ ys => ys = []
    | .agg xs, .agg ys => fitL k xs ys
    | .tup xs, .tup ys => fitL k xs ys
    | x, y => x = y
where fitL (k : Nat) : List A → List A → Prop
    | [], [] => True
    | x :: xs, y :: ys => fitA k x y ∧ fitL k xs ys
    | _, _ => False
theorem fitL_rel {k : Nat} (ih : ∀ x y v F, fitA k x y → Rel w G x v F → Rel w G y v F) : ∀ (xs ys : List A) (vs : List Value) (F : List Nat), fitA.fitL k xs ys → RelL w G xs vs F → RelL w G ys vs F
  | [], [], _, _, _, h => h
  | x :: xs, y :: ys, _, _, hf, .cons h hl => by
    rw [fitA.fitL] at hf
    exact .cons (ih x y _ _ hf.1 h) (fitL_rel ih xs ys _ _ hf.2 hl)
  | [], _ :: _, _, _, hf, _ => by rw [fitA.fitL] at hf <;> simp_all
  | _ :: _, [], _, _, hf, _ => by rw [fitA.fitL] at hf <;> simp_all
theorem fitA_rel : ∀ (k : Nat) (x y : A) (v : Value) (F : List Nat), fitA k x y → Rel w G x v F → Rel w G y v F := by
  intro k
  induction k with
  | zero => intro x y v F hf h; simp only [fitA] at hf; subst hf; exact h
  | succ k ih =>
    intro x y v F hf h
    unfold fitA at hf
    split at hf
    · subst hf; cases h; exact .nils
    · cases h with | agg hl => exact .agg (fitL_rel ih _ _ _ _ hf hl)
    · cases h with | tup hl => exact .tup (fitL_rel ih _ _ _ _ hf hl)
    · subst hf; exact h

/-- The machine enters the function when it is called. -/
def Enter (P : Program) (g : Nat) : Prop := ∀ (args : Array Value) (w : World), (callFunc g args).run P w = .ok (.enter g args) w

/-- A contract of a function that turns nothing that was there: told these arguments it hands back x, new where it is told as held alone. -/
structure PCtr (P : Program) (g : Nat) (args : List A) (x : A) : Prop where
  enter : Enter P g
  run : ∀ (w : World) (G : Nat → Prop) (vs : List Value), (∀ b, G b → b < w.heap.size) → RelL w G args vs [] → Calls P g vs.toArray w (fun e w' => ∃ v F, e = .returned v ∧ Go.RowKit.Below w.heap.size w w' ∧
    F.Nodup ∧ (∀ b ∈ F, w.heap.size ≤ b) ∧ Rel w' (fun b => (G b ∨ (w.heap.size ≤ b ∧ b < w'.heap.size)) ∧ b ∉ F) x v F)

/-- What a call comes to, from state S. -/
def CallOK (P : Program) (g : Nat) (args : List A) (S : State) (K : A → State → Prop) : Prop :=
  Enter P g ∧ ∀ (E : Env) (G : Nat → Prop) (gs : Gh) (tmps : Array Value) (w : World) (vs : List Value), Inv E G gs S tmps w → TRelL w G S.rows gs args vs [] →
    Calls P g vs.toArray w (fun e w' => ∃ v x S' G' gs', e = .returned v ∧ K x S' ∧ Inv E G' gs' S' tmps w' ∧ TRel w' G' S'.rows gs' x v [])

theorem Inv.below (hi : Inv E G gs S tmps w) {w' : World} (hb : Go.RowKit.Below w.heap.size w w') {G' : Nat → Prop} (hG1 : ∀ b, G b → G' b) (hG2 : ∀ b, G' b → G b ∨ w.heap.size ≤ b) (hG3 : ∀ b, G' b → b < w'.heap.size) :
    Inv E G' gs S tmps w' := by
  have hG : ∀ b, G b → G' b ∧ w'.heap[b]? = w.heap[b]? := fun b h => ⟨hG1 b h, hb.block b (hi.glt b h)⟩
  have hblk : ∀ r row, rowAt S.rows r = some row → ∀ c ∈ gs.all r, w'.heap[c]? = w.heap[c]? := fun r row hr c hc => hb.block c (hi.block_lt hr c hc)
  have hle : ∀ r, RowLe w w' S.rows S.rows gs gs r := fun r => RowLe.refl_of fun row hr => ⟨hr, rfl, fun b hob => hblk r row hr b (by simp [Gh.all, hob])⟩
  refine ⟨fun b h hf => ?_, hb.os.trans hi.os, hb.tape.trans hi.tape, hb.output.trans hi.output, Nat.le_trans hi.size hb.size, hi.sz, fun b h => hG1 b (hi.gsub b h), fun b h => ?_, hG3,
    fun r row hr => (hi.row r row hr).step hG hle (hblk r row hr), hi.nod, fun r row hr b hb' => ?_, hi.dis, fun i => (hi.tmp i).step hG hle (by simp)⟩
  · rw [hb.block b (Nat.lt_of_lt_of_le h hi.size)]; exact hi.keep b h hf
  · rcases hG2 b h with h | h
    · exact hi.gnew b h
    · exact .inr (Nat.le_trans hi.size h)
  · obtain ⟨h1, h2⟩ := hi.own r row hr b hb'
    refine ⟨fun h => ?_, h2⟩
    rcases hG2 b h with h | h
    · exact h1 h
    · have := hi.block_lt hr b hb'; omega

/-- Results told as rows. -/
def rootA : Nat → State → A → A × State
  | 0, S, x => (x, S)
  | k + 1, S, x => match x with
    | .sl true n xs => (.vw S.rows.length 0 xs.length, S.addRow ⟨n, xs, false⟩)
    | .bx xs => (.pt S.rows.length 0 0, S.addRow ⟨xs.length, [.agg xs], true⟩)
    | .agg xs => (.agg (rootL k S xs).1, (rootL k S xs).2)
    | .tup xs => (.tup (rootL k S xs).1, (rootL k S xs).2)
    | x => (x, S)
where rootL (k : Nat) (S : State) : List A → List A × State
    | [] => ([], S)
    | x :: xs => ((rootA k S x).1 :: (rootL k (rootA k S x).2 xs).1, (rootL k (rootA k S x).2 xs).2)
end
end Go.Fw

/- Calls taken by contract; contracts proved from a walk of the body. Plain theorems, no condition. -/
set_option linter.unusedVariables false
set_option linter.unusedSimpArgs false
namespace Go.Fw

section
variable {P : Program} {E : Env} {G : Nat → Prop} {gs : Gh} {S : State} {a : Act} {w : World} {tmps : Array Value}

structure Rooted (E : Env) (G : Nat → Prop) (gs gs' : Gh) (S S' : State) (tmps : Array Value) (w : World) (R : List Nat) : Prop where
  inv : Inv E G gs' S' tmps w
  res : Res E G gs' S'.rows R
  keep : ∀ x v, TRel w G S.rows gs x v [] → TRel w G S'.rows gs' x v []

theorem adopt_res (hi : Inv E G gs S tmps w) {R1 R2 : List Nat} (hR : Res E G gs S.rows (R1 ++ R2)) (hlt : ∀ b ∈ R1 ++ R2, b < w.heap.size) {ob : Option Nat} {F : List Nat} (hF : R1 = ob.toList ++ F) {row : Row}
    (hrow : ∀ rows' gs', RowRel w G rows' gs' row ob F) : Rooted E G gs (gs.add S.rows.length ob F) S (S.addRow row) tmps w R2 := by
  subst hF
  have hnd := hR.nod
  rw [List.nodup_append] at hnd
  obtain ⟨n1, n2, n3⟩ := hnd
  have hinv := hi.adopt (w' := w) (G' := G) (R := F) (ob := ob) (row := row) rfl rfl rfl (Nat.le_refl _) (fun _ _ => rfl) (fun _ h => h) (fun _ h => .inl h) hi.glt n1
    (fun b hb => hR.own b (by rw [List.mem_append]; exact .inl hb)) (fun r row' hr b hb hb2 => hR.dis r row' hr b hb (by rw [List.mem_append]; exact .inl hb2)) (fun rows' gs' _ => hrow rows' gs')
  have hself : (gs.add S.rows.length ob F) S.rows.length = (ob, F) := by simp [Gh.add]
  have hne : ∀ r row', rowAt S.rows r = some row' → r ≠ S.rows.length := fun r row' hr => by have := rowAt_lt hr; omega
  refine ⟨hinv, ⟨n2, fun b hb => hR.own b (by simp [hb]), fun r row' hr b hb hb2 => ?_⟩, fun x v hx => ?_⟩
  · have hr' : rowAt (S.rows ++ [some row]) r = some row' := hr
    rw [rowAt_push] at hr'
    split at hr'
    · rename_i h; subst h
      have : b ∈ ob.toList ++ F := by simpa [Gh.all, hself] using hb
      exact n3 b this b hb2 rfl
    · rename_i h
      have : gs.all r = (gs.add S.rows.length ob F).all r := by simp [Gh.all, Gh.add, h]
      rw [← this] at hb
      exact hR.dis r row' hr' b hb (by simp [hb2])
  · refine hx.step (fun b hb => ⟨hb, rfl⟩) (fun r => RowLe.refl_of fun row' hr => ⟨?_, ?_, fun _ _ => rfl⟩) (by simp)
    · show rowAt (S.rows ++ [some row]) r = _
      rw [rowAt_push, if_neg (hne r row' hr)]; exact hr
    · simp [Gh.add, hne r row' hr]

theorem rootL_nil (k : Nat) (S : State) : rootA.rootL k S [] = ([], S) := by rw [rootA.rootL]
theorem rootL_cons (k : Nat) (S : State) (x : A) (xs : List A) : rootA.rootL k S (x :: xs) = ((rootA k S x).1 :: (rootA.rootL k (rootA k S x).2 xs).1, (rootA.rootL k (rootA k S x).2 xs).2) := by rw [rootA.rootL]
theorem rootL_ok {k : Nat} (ih : ∀ (S : State) (gs : Gh) (x : A) (v : Value) (R1 R2 : List Nat), Inv E G gs S tmps w → Res E G gs S.rows (R1 ++ R2) → (∀ b ∈ R1 ++ R2, b < w.heap.size) → Rel w G x v R1 → noOwn (rootA k S x).1 = true →
      ∃ gs', Rooted E G gs gs' S (rootA k S x).2 tmps w R2 ∧ TRel w G (rootA k S x).2.rows gs' (rootA k S x).1 v []) :
    ∀ (xs : List A) (S : State) (gs : Gh) (vs : List Value) (R1 R2 : List Nat), Inv E G gs S tmps w → Res E G gs S.rows (R1 ++ R2) → (∀ b ∈ R1 ++ R2, b < w.heap.size) → RelL w G xs vs R1 → (rootA.rootL k S xs).1.all noOwn = true →
      ∃ gs', Rooted E G gs gs' S (rootA.rootL k S xs).2 tmps w R2 ∧ TRelL w G (rootA.rootL k S xs).2.rows gs' (rootA.rootL k S xs).1 vs []
  | [], S, gs, _, _, R2, hi, hR, hlt, h, _ => by
    cases h
    rw [rootL_nil]
    exact ⟨gs, ⟨hi, by simpa using hR, fun x v h => h⟩, .nil⟩
  | x :: xs, S, gs, _, _, R2, hi, hR, hlt, h, hno => by
    cases h with
    | cons h hl =>
      rename_i v F vs Fs
      rw [List.append_assoc] at hR hlt
      rw [rootL_cons] at hno ⊢
      simp only [List.all_cons, Bool.and_eq_true] at hno
      obtain ⟨gs1, h1, h2⟩ := ih S gs x v F (Fs ++ R2) hi hR hlt h hno.1
      obtain ⟨gs2, h3, h4⟩ := rootL_ok ih xs _ gs1 vs Fs R2 h1.inv h1.res (fun b hb => hlt b (by rw [List.mem_append]; exact .inr hb)) hl hno.2
      exact ⟨gs2, ⟨h3.inv, h3.res, fun x v hx => h3.keep x v (h1.keep x v hx)⟩, .cons (F := []) (Fs := []) (h3.keep _ _ h2) h4⟩
theorem rootA_ok : ∀ (k : Nat) (S : State) (gs : Gh) (x : A) (v : Value) (R1 R2 : List Nat), Inv E G gs S tmps w → Res E G gs S.rows (R1 ++ R2) → (∀ b ∈ R1 ++ R2, b < w.heap.size) → Rel w G x v R1 → noOwn (rootA k S x).1 = true →
      ∃ gs', Rooted E G gs gs' S (rootA k S x).2 tmps w R2 ∧ TRel w G (rootA k S x).2.rows gs' (rootA k S x).1 v [] := by
  intro k
  induction k with
  | zero =>
    intro S gs x v R1 R2 hi hR hlt h hno
    simp only [rootA] at hno ⊢
    have h0 := h.noOwn hno
    subst h0
    exact ⟨gs, ⟨hi, by simpa using hR, fun x v h => h⟩, .of h⟩
  | succ k ih =>
    intro S gs x v R1 R2 hi hR hlt h hno
    have plain : noOwn x = true → ∃ gs', Rooted E G gs gs' S S tmps w R2 ∧ TRel w G S.rows gs' x v [] := fun hno => by
      have h0 := h.noOwn hno
      subst h0
      exact ⟨gs, ⟨hi, by simpa using hR, fun x v h => h⟩, .of h⟩
    have hrow : ∀ (row : Row) (ob : Option Nat) (F : List Nat), rowAt (S.addRow row).rows S.rows.length = some row := fun row _ _ => by
      show rowAt (S.rows ++ [some row]) S.rows.length = _
      rw [rowAt_push, if_pos rfl]
    have hself : ∀ ob F, (gs.add S.rows.length ob F) S.rows.length = (ob, F) := fun ob F => by simp [Gh.add]
    cases x with
    | sl o n xs =>
      cases o with
      | false => exact plain hno
      | true =>
        simp only [rootA]
        cases h with
        | nils =>
          have := adopt_res (ob := none) (F := []) hi hR hlt rfl (row := ⟨n, [], false⟩) (fun _ _ => ⟨rfl, rfl⟩)
          exact ⟨_, this, .vwn (hrow _ none []) (by rw [hself]) rfl⟩
        | ow hh hw hlen hc hl hcap hm hs hv0 =>
          rename_i b len cap cur e cs F
          subst hlen
          subst hc
          have hlen2 := hl.length
          have := adopt_res (ob := some b) (F := F) hi hR hlt rfl (row := ⟨n, xs, false⟩) (fun rows' gs' => ⟨cur, e, cap, hh, hs, hcap, hm, hw, hv0, hl⟩)
          have hv := TRel.vw (w := w) (G := G) (rows := (S.addRow ⟨n, xs, false⟩).rows) (gs := gs.add S.rows.length (some b) F) (off := 0) (len := xs.length) (k := 0) (hrow _ none []) (by rw [hself]) (by simp) hh hs hm hcap (.inl (by simp))
          exact ⟨_, this, by simpa using hv⟩
    | bx xs =>
      simp only [rootA]
      cases h with
      | bx hh hl hv0 =>
        rename_i b cur e F
        have hlen := hl.length
        have hsz : cur.size = xs.length := by simpa using hlen
        have htk : cur.toList.take ([A.agg xs].length * xs.length) = cur.toList := by rw [List.length_singleton, Nat.one_mul, ← hlen, List.take_length]
        have hfl : flat [A.agg xs] = xs := by simp [flat, A.cells]
        have := adopt_res (ob := some b) (F := F) hi hR hlt rfl (row := ⟨xs.length, [.agg xs], true⟩) (fun rows' gs' => ⟨cur, e, 1, hh, by simpa using hsz, by simp, by simp [maxLen], by simp [A.width, A.cells], by
          show ∀ v ∈ cur.toList.take ([A.agg xs].length * xs.length), _
          rw [htk]; exact hv0, by
          show TRelL w G rows' gs' (flat [A.agg xs]) (cur.toList.take ([A.agg xs].length * xs.length)) F
          rw [htk, hfl]; exact .of hl⟩)
        exact ⟨_, this, .pt (hrow _ none []) (by rw [hself]) (by simp)⟩
    | agg xs =>
      simp only [rootA] at hno ⊢
      rw [noOwn_agg] at hno
      cases h with
      | agg hl =>
        obtain ⟨gs', h1, h2⟩ := rootL_ok ih xs S gs _ _ R2 hi hR hlt hl hno
        exact ⟨gs', h1, .agg h2⟩
    | tup xs =>
      simp only [rootA] at hno ⊢
      rw [noOwn_tup] at hno
      cases h with
      | tup hl =>
        obtain ⟨gs', h1, h2⟩ := rootL_ok ih xs S gs _ _ R2 hi hR hlt hl hno
        exact ⟨gs', h1, .tup h2⟩
    | _ => exact plain hno
end
end Go.Fw

/- Calls by contract: the two rules; a contract out of a walk of the body. Plain theorems, no condition. -/
set_option linter.unusedVariables false
set_option linter.unusedSimpArgs false
namespace Go.Fw

section
variable {P : Program} {E : Env} {G : Nat → Prop} {gs : Gh} {S : State} {a : Act} {w : World} {tmps : Array Value}

theorem RelL.anyG {w : World} {G : Nat → Prop} : ∀ {xs : List A} {vs : List Value} {F : List Nat}, RelL w G xs vs F → xs.all roFree = true → ∀ (G' : Nat → Prop), RelL w G' xs vs F
  | _, _, _, .nil, _, _ => .nil
  | _, _, _, .cons h hl, hf, G' => by
    simp only [List.all_cons, Bool.and_eq_true] at hf
    exact .cons (h.anyG hf.1 G') (hl.anyG hf.2 G')

/-- A new result is taken over. -/
theorem adopt_new (hi : Inv E G gs S tmps w) {w' : World} (hb : Go.RowKit.Below w.heap.size w w') {F : List Nat} (hnd : F.Nodup) (hnew : ∀ b ∈ F, w.heap.size ≤ b) {G' : Nat → Prop}
    (hG1 : ∀ b, G b → G' b) (hG2 : ∀ b, G' b → (G b ∨ w.heap.size ≤ b) ∧ b ∉ F) (hG3 : ∀ b, G' b → b < w'.heap.size) {x : A} {v : Value} (hx : Rel w' G' x v F) (k : Nat) (hno : noOwn (rootA k S x).1 = true) :
    ∃ gs', Inv E G' gs' (rootA k S x).2 tmps w' ∧ TRel w' G' (rootA k S x).2.rows gs' (rootA k S x).1 v [] := by
  have hi' := hi.below hb hG1 (fun b h => (hG2 b h).1) hG3
  have hR : Res E G' gs S.rows (F ++ []) := by
    rw [List.append_nil]
    refine ⟨hnd, fun b hb' => ⟨fun h => (hG2 b h).2 hb', .inr (Nat.le_trans hi.size (hnew b hb'))⟩, fun r row hr b hb' hbF => ?_⟩
    have := hi.block_lt hr b hb'
    have := hnew b hbF
    omega
  obtain ⟨gs', h1, h2⟩ := rootA_ok k S gs x v F [] hi' hR (fun b hb' => hx.lt b (by simpa using hb')) hx hno
  exact ⟨gs', h1.inv, h2⟩

theorem CallOK_pure {g k : Nat} {args ys0 ys : List A} {x : A} {K : A → State → Prop} (hc : PCtr P g ys x) (h1 : mapO (roO S k) args = some ys0) (h2 : fitA.fitL k ys0 ys) (hx : roFree x = true)
    (hno : noOwn (rootA k S x).1 = true) (hK : K (rootA k S x).1 (rootA k S x).2) : CallOK P g args S K := by
  refine ⟨hc.enter, fun E G gs tmps w vs hi hl => ?_⟩
  have hys := fitL_rel (fun x y v F => fitA_rel k x y v F) ys0 ys vs [] h2 (mapO_rel (fun x v F y h hy => roO_rel hi k x v F y h hy) hl h1)
  refine Calls.mono (hc.run w (Old w) vs (fun b h => h) hys) ?_
  rintro e w' ⟨v, F, rfl, hb, hnd, hnew, hr⟩
  have hr' : Rel w' (fun b => G b ∧ b ∉ F) x v F := hr.anyG hx _
  have hGF : ∀ b, G b → b ∉ F := fun b h hF => by have := hi.glt b h; have := hnew b hF; omega
  obtain ⟨gs', g1, g2⟩ := adopt_new hi hb hnd hnew (G' := fun b => G b ∧ b ∉ F) (fun b h => ⟨h, hGF b h⟩) (fun b h => ⟨.inl h.1, h.2⟩) (fun b h => Nat.lt_of_lt_of_le (hi.glt b h.1) hb.size) hr' k hno
  exact ⟨v, _, _, _, gs', rfl, hK, g1, g2⟩

/-- What comes back may lead into what was handed over: all of it only read. -/
theorem CallOK_share {g k : Nat} {args ys : List A} {x : A} {K : A → State → Prop} (hc : PCtr P g ys x) (h1 : args.all isData = true) (h2 : fitA.fitL k args ys)
    (hno : noOwn (rootA k S x).1 = true) (hK : K (rootA k S x).1 (rootA k S x).2) : CallOK P g args S K := by
  refine ⟨hc.enter, fun E G gs tmps w vs hi hl => ?_⟩
  have hys := fitL_rel (fun x y v F => fitA_rel k x y v F) args ys vs [] h2 (hl.data h1)
  refine Calls.mono (hc.run w G vs hi.glt hys) ?_
  rintro e w' ⟨v, F, rfl, hb, hnd, hnew, hr⟩
  have hGF : ∀ b, G b → b ∉ F := fun b h hF => by have := hi.glt b h; have := hnew b hF; omega
  obtain ⟨gs', g1, g2⟩ := adopt_new hi hb hnd hnew (fun b h => ⟨.inl h, hGF b h⟩) (fun b h => ⟨h.1.imp id And.left, h.2⟩)
    (fun b h => h.1.elim (fun h => Nat.lt_of_lt_of_le (hi.glt b h) hb.size) And.right) hr k hno
  exact ⟨v, _, _, _, gs', rfl, hK, g1, g2⟩

theorem TRel.clo_inv {rows : List (Option Row)} {g : Nat} {xs : List A} {u : Value} {F : List Nat} (h : TRel w G rows gs (.clo g xs) u F) : ∃ cs : Array Value, u = mkFn g cs.toList ∧ TRelL w G rows gs xs cs.toList F := by
  cases h with
  | of h => cases h with | clo h => rename_i cs; exact ⟨cs.toArray, rfl, by simpa using TRelL.of h⟩
  | clo h => rename_i cs; exact ⟨cs.toArray, rfl, by simpa using h⟩
theorem evs_rel (h : Inv E G gs S a.tmps w) : ∀ (xs : List Operand), TRelL w G S.rows gs (xs.map (ev S)) (xs.map a.eval) []
  | [] => .nil
  | x :: xs => by
    have := TRelL.cons (ev_rel h x rfl) (evs_rel h xs)
    simpa using this
/-- What is called, and with what, when a function value is called. -/
def cloN (g : Nat) : Nat := if g < 1000000 then g else g % 1000000
def cloA {α : Type} (g : Nat) (args caps : List α) : List α := if g < 1000000 then args ++ caps else caps ++ args
theorem clo_call {ρ : Operand → Value} {o : Oper} {ci : Call} {f : Operand} {g : Nat} {cs : List Value} (ho : o.op = .call ci) (hf : ci.callee = .value f) (hv : ρ f = mkFn g cs) (hen : Enter P (cloN g)) (w : World) :
    (execOp ρ o).run P w = .ok (.enter (cloN g) (cloA g (ci.args.toList.map ρ) cs).toArray) w := by
  unfold mkFn at hv
  unfold cloN at hen
  unfold cloA cloN
  split at hv
  · rename_i hg
    rw [if_pos hg] at hen ⊢
    rw [if_pos hg]
    have e : (ci.args.toList.map ρ ++ cs).toArray = ci.args.map ρ ++ cs.toArray := by simp
    rw [e]
    simp only [execOp, ho, resolve, hf, hv, Deferred.ofValue, Sem.run_bind, Sem.run_pure, Result.andThen_ok, invoke]
    simpa using hen _ w
  · rename_i hg
    rw [if_neg hg] at hen ⊢
    rw [if_neg hg]
    have e : (cs ++ ci.args.toList.map ρ).toArray = cs.toArray ++ ci.args.map ρ := by simp
    rw [e]
    simp only [execOp, ho, resolve, hf, hv, Deferred.ofValue, Sem.run_bind, Sem.run_pure, Result.andThen_ok, invoke]
    simpa using hen _ w
theorem cloA_rel {rows : List (Option Row)} {g : Nat} {xs ys : List A} {us vs : List Value} (h : TRelL w G rows gs xs us []) (h' : TRelL w G rows gs ys vs []) : TRelL w G rows gs (cloA g xs ys) (cloA g us vs) [] := by
  unfold cloA
  split
  · exact h.append0 h'
  · exact h'.append0 h
theorem opOK_call {o : Oper} {K : State → Prop} {ci : Call} {f : Operand} {g : Nat} {caps : List A} (ho : o.op = .call ci) (hf : ci.callee = .value f) (he : ev S f = .clo g caps)
    (h : CallOK P (cloN g) (cloA g (ci.args.toList.map (ev S)) caps) S fun x S' => K (S'.put o.dst x)) : opOK P o S K := by
  intro E a w next Q hs hn
  obtain ⟨hd, G, gs, hi⟩ := hs
  have hf' := ev_rel hi f rfl
  rw [he] at hf'
  obtain ⟨cs, hv, hcs⟩ := hf'.clo_inv
  obtain ⟨hen, hrun⟩ := h
  have hargs := cloA_rel (g := g) (evs_rel hi ci.args.toList) hcs
  have := hrun E G gs a.tmps w _ hi hargs
  unfold Oper.wp
  rw [clo_call ho hf hv hen w, Oper.upon_enter]
  refine Calls.mono this ?_
  rintro e w' ⟨v, x, S', G', gs', rfl, hK, hi', hx'⟩
  exact hn _ _ _ hK ⟨by rw [put_defers]; exact hd, G', gs', hi'.put hx' o.dst⟩

def oneV : List Value → Value
  | [v] => v
  | vs => .tuple vs.toArray
def resOK (P : Program) (tmps : Array Value) (w : World) : List ResultVar → List Value → Prop
  | [], [] => True
  | .tmp t :: rs, v :: vs => v = tmps.getD t undef ∧ resOK P tmps w rs vs
  | .cell a t :: rs, v :: vs => (∃ ad, tmps.getD a undef = .pointer (some ad) ∧ (loadVar t ad).run P w = .ok v w) ∧ resOK P tmps w rs vs
  | _, _ => False
/-- Function g of the program: its body, its temporaries, its results. -/
structure FnAt (P : Program) (g : Nat) (c : Code) (N : Nat) (rs : List ResultVar) : Prop where
  enter : Enter P g
  ex : ∃ fn, P.funcs[g]? = some fn ∧ fn.body = some c ∧ fn.ntmps = N ∧ ∀ tmps w vs, resOK P tmps w rs vs → (results fn tmps).run P w = .ok (oneV vs) w
def isTmp : ResultVar → Bool
  | .tmp _ => true
  | _ => false
theorem resOK_tmps {tmps : Array Value} {w : World} : ∀ {rs : List ResultVar} {vs : List Value}, rs.all isTmp = true → resOK P tmps w rs vs → ∃ is : List Nat, rs = is.map ResultVar.tmp ∧ vs = is.map fun i => tmps.getD i undef
  | [], [], _, _ => ⟨[], rfl, rfl⟩
  | .tmp t :: rs, v :: vs, h, h2 => by
    simp only [List.all_cons, Bool.and_eq_true] at h
    obtain ⟨is, e1, e2⟩ := resOK_tmps h.2 h2.2
    exact ⟨t :: is, by simp [e1], by simp [e2, h2.1]⟩
  | [], _ :: _, _, h2 => by simp [resOK] at h2
  | .tmp _ :: _, [], _, h2 => by simp [resOK] at h2
  | .cell _ _ :: _, _, h, _ => by simp [isTmp] at h
theorem FnAt.of {g : Nat} {fn : Func} {c : Code} {N : Nat} {rs : List ResultVar} (hf : P.funcs[g]? = some fn) (hname : (fn.name == "runtime.NumGoroutine") = false) (hb : fn.body = some c) (hN : fn.ntmps = N)
    (hr : fn.results.toList = rs) (hl : rs.length = 1 ∨ (rs.length ≤ 6 ∧ rs.all isTmp = true)) : FnAt P g c N rs := by
  have hr' : fn.results = rs.toArray := by rw [← hr]
  refine ⟨fun args w => ?_, fn, hf, hb, hN, fun tmps w vs h => ?_⟩
  · have h1 : fn.name ≠ "runtime.NumGoroutine" := by simpa using hname
    simp [callFunc, hf, h1, hb]
  · rcases hl with hl | hl
    · match rs, vs, hl, hr', h with
      | [.tmp t], [v], _, hr, h => simp [results, hr, oneV, h.1]
      | [.cell a t], [v], _, hr, h =>
        obtain ⟨⟨ad, h1, h2⟩, _⟩ := h
        rw [Array.getD_eq_getD_getElem?] at h1
        simp [results, hr, oneV, h1, asAddr, h2]
      | [.tmp t], [], _, hr, h => simp [resOK] at h
      | [.tmp t], _ :: _ :: _, _, hr, h => simp [resOK] at h
      | [.cell a t], [], _, hr, h => simp [resOK] at h
      | [.cell a t], _ :: _ :: _, _, hr, h => simp [resOK] at h
    · obtain ⟨is, rfl, rfl⟩ := resOK_tmps hl.2 h
      have hl := hl.1
      rw [List.length_map] at hl
      match is, hl, hr' with
      | [], _, hr => simp [results, hr, oneV]
      | [i], _, hr => simp [results, hr, oneV]
      | [i, j], _, hr => simp [results, hr, oneV]
      | [i, j, k], _, hr => simp [results, hr, oneV]
      | [i, j, k, l], _, hr => simp [results, hr, oneV]
      | [i, j, k, l, m], _, hr => simp [results, hr, oneV]
      | [i, j, k, l, m, n], _, hr => simp [results, hr, oneV]
      | _ :: _ :: _ :: _ :: _ :: _ :: _ :: _, hl, _ => simp at hl

def entryT : Nat → List A → List (Nat × A)
  | _, [] => []
  | i, x :: xs => (i, x) :: entryT (i + 1) xs
def entryS (N : Nat) (xs : List A) : State := ⟨entryT 0 xs, N, []⟩
theorem lk_entryT : ∀ (xs : List A) (i j : Nat), lk (entryT i xs) j = if i ≤ j then xs.getD (j - i) .un else .un
  | [], i, j => by simp [entryT, lk]
  | x :: xs, i, j => by
    simp only [entryT, lk, lk_entryT xs (i + 1) j]
    by_cases h : i = j
    · subst h; simp
    · rw [if_neg h]
      by_cases h2 : i + 1 ≤ j
      · obtain ⟨d, hd⟩ : ∃ d, j - i = d + 1 := ⟨j - i - 1, by omega⟩
        have : j - (i + 1) = d := by omega
        rw [if_pos h2, if_pos (by omega), hd, this]; simp
      · rw [if_neg h2, if_neg (by omega)]

/-- What is handed back: one value, or several. -/
def oneA : List A → A
  | [x] => x
  | xs => .tup xs
/-- What is handed back is told by x. -/
def Outs (P : Program) (rs : List ResultVar) (x : A) (S : State) : Prop :=
  ∀ (E : Env) (G : Nat → Prop) (gs : Gh) (tmps : Array Value) (w : World), Inv E G gs S tmps w → ∃ vs zs F k, resOK P tmps w rs vs ∧ RelL w G zs vs F ∧ F.Nodup ∧ (∀ b ∈ F, ¬ G b ∧ (E.Fin b ∨ E.w0.heap.size ≤ b)) ∧ fitA k (oneA zs) x
def outK (P : Program) (rs : List ResultVar) (x : A) : Exit → State → Prop
  | .normal, S | .ret, S => Outs P rs x S
  | _, _ => False
theorem oneA_rel {xs : List A} {vs : List Value} {F : List Nat} (h : RelL w G xs vs F) : Rel w G (oneA xs) (oneV vs) F := by
  cases h with
  | nil => exact Rel.tup .nil
  | cons h hl' =>
    cases hl' with
    | nil => simpa [oneA, oneV] using h
    | cons h2 hl2 => exact Rel.tup (.cons h (.cons h2 hl2))
/-- A walk of the body gives the contract. -/
theorem PCtr.of {g : Nat} {c : Code} {N : Nat} {rs : List ResultVar} {xs : List A} {x : A} (hf : FnAt P g c N rs) (hN : xs.length ≤ N) (h : VC P c (entryS N xs) (outK P rs x)) : PCtr P g xs x := by
  obtain ⟨hen, fn, h1, h2, h3, h4⟩ := hf
  refine ⟨hen, fun w G vs hG hl => ?_⟩
  have hlen := hl.length
  refine calls_of_wp h1 h2 ?_
  have hinv : Inv ⟨w, G, fun _ => False, fun _ => undef⟩ G (fun _ => (none, [])) (entryS N xs) (vs.toArray ++ Array.replicate (fn.ntmps - vs.toArray.size) undef) w := by
    refine ⟨fun _ _ _ => rfl, rfl, rfl, rfl, Nat.le_refl _, ?_, fun _ h => h, fun _ h => .inl h, hG, ?_, ?_, ?_, ?_, fun i => ?_⟩
    · simp [entryS, h3]; omega
    · intro r row hr; simp [entryS, rowAt] at hr
    · intro r row hr; simp [entryS, rowAt] at hr
    · intro r row hr; simp [entryS, rowAt] at hr
    · intro r r' row row' hr; simp [entryS, rowAt] at hr
    · show TRel w G [] _ (lk (entryT 0 xs) i) _ []
      rw [lk_entryT, if_pos (Nat.zero_le _), Nat.sub_zero]
      unfold vat
      by_cases hi : i < xs.length
      · obtain ⟨v, hv, hr⟩ := hl.get i xs[i] (List.getElem?_eq_getElem hi)
        rw [List.getD_eq_getElem?_getD, List.getElem?_eq_getElem hi]
        have : (vs.toArray ++ Array.replicate (fn.ntmps - vs.toArray.size) undef).getD i undef = v := by
          rw [Array.getD_eq_getD_getElem?, Array.getElem?_append_left (by simp; omega)]
          simp [hv]
        rw [if_pos (by simp; omega), this]; exact .of hr
      · rw [List.getD_eq_getElem?_getD, List.getElem?_eq_none (by omega)]
        exact .un
  refine wp_mono (h _ { tmps := vs.toArray ++ Array.replicate (fn.ntmps - vs.toArray.size) undef, defers := [] } w ⟨rfl, G, _, hinv⟩) ?_
  rintro e a' w' ⟨S', ⟨hd, G', gs', hi'⟩, hK⟩
  have fin : Outs P rs x S' → a'.defers = [] ∧ ∃ v, (results fn a'.tmps).run P w' = .ok v w' ∧ (∃ v_1 F, Ending.returned v = .returned v_1 ∧ Go.RowKit.Below w.heap.size w w' ∧
      F.Nodup ∧ (∀ b ∈ F, w.heap.size ≤ b) ∧ Rel w' (fun b => (G b ∨ (w.heap.size ≤ b ∧ b < w'.heap.size)) ∧ b ∉ F) x v_1 F) := by
    intro ho
    refine ⟨hd, ?_⟩
    obtain ⟨vs', zs, F, k, g1, g2, g3, g4, g5⟩ := ho _ _ _ _ _ hi'
    have hres := fitA_rel k _ _ _ _ g5 (oneA_rel g2)
    refine ⟨oneV vs', h4 _ _ _ g1, _, F, rfl, ⟨hi'.os, hi'.tape, hi'.output, hi'.size, fun b hb => hi'.keep b hb id⟩, g3, fun b hb => ?_, ?_⟩
    · rcases (g4 b hb).2 with h | h
      · exact h.elim
      · exact h
    · refine hres.move_ (fun b hb => ⟨⟨?_, fun hF => (g4 b hF).1 hb⟩, rfl⟩) (fun b hb => rfl)
      rcases hi'.gnew b hb with h | h
      · exact .inl h
      · exact .inr ⟨h, hi'.glt b hb⟩
  cases e with
  | normal => exact fin hK
  | ret => exact fin hK
  | _ => exact hK.elim
end
end Go.Fw

/- Conversions. Plain theorems, no condition. -/
set_option linter.unusedVariables false
set_option linter.unusedSimpArgs false
namespace Go.Fw
/-- A byte, as an element. -/
def byteA (c : UInt8) : A := .sc (.int .u8 (c.toNat : Int))
section
variable {P : Program} {E : Env} {G : Nat → Prop} {gs : Gh} {S : State} {a : Act} {w : World} {o : Oper}

theorem under_of_agg {t : TypeId} {b : Bool} (h : aggT P t = some b) : ∃ d, P.underlying t = some d := by
  unfold aggT at h
  rw [Option.map_eq_some_iff] at h
  obtain ⟨d, hd, _⟩ := h
  exact ⟨d, hd⟩
theorem VOK_convI {src dst : TypeId} {x : Operand} {b : Bool} {k kk : IntKind} {n : Int} (ho : o.op = .convert src dst x) (hs : aggT P src = some b) (hd : kindT P dst = some kk) (he : ev S x = .sc (.int k n)) :
    VOK P o S (.sc (.int kk (kk.wrap n))) := by
  intro E G gs a w hi
  have h1 := ev_rel hi x rfl
  rw [he] at h1
  have hv := (sc_inv h1).1
  obtain ⟨d, hu⟩ := under_of_agg hs
  have hu2 : P.underlying dst = some (.int kk) := by
    unfold kindT at hd
    split at hd
    · rename_i hh; cases hd; exact hh
    · simp at hd
  refine ⟨.int kk (kk.wrap n), fun w' hw' => ?_, .of (.sc rfl)⟩
  simp [execOp, ho, convert, run_underlying hu, run_underlying hu2, hv, Conv.intToInt]
theorem VOK_convS {src dst : TypeId} {x : Operand} {s : ByteArray} (ho : o.op = .convert src dst x) (hs : isStrT P src = true) (hd : isStrT P dst = true) (he : ev S x = .sc (.string s)) :
    VOK P o S (.sc (.string s)) := by
  intro E G gs a w hi
  have h1 := ev_rel hi x rfl
  rw [he] at h1
  have hv := (sc_inv h1).1
  have hu : ∀ t, isStrT P t = true → P.underlying t = some .string := fun t h => by
    unfold isStrT at h
    split at h
    · assumption
    · simp at h
  refine ⟨.string s, fun w' hw' => ?_, .of (.sc rfl)⟩
  simp [execOp, ho, convert, run_underlying (hu _ hs), run_underlying (hu _ hd), hv]
theorem push_fold : ∀ (ns : List UInt8) (s : ByteArray), (ns.map fun c : UInt8 => (c.toNat : Int)).foldl (fun r n => r.push (UInt8.ofNat n.toNat)) s = mkS (bs s ++ ns)
  | [], s => by simp [mkS_bs]
  | c :: ns, s => by
    simp only [List.map_cons, List.foldl_cons, Int.toNat_natCast, UInt8.ofNat_toNat]
    rw [push_fold ns]
    congr 1
    simp [bs, ByteArray.push]
theorem bytes_vals {G : Nat → Prop} {w : World} : ∀ {ns : List UInt8} {cs : List Value}, RelL w G (ns.map byteA) cs [] → cs = (ns.map fun c : UInt8 => (c.toNat : Int)).map (Value.int .u8)
  | ns, cs, h => by
    generalize hx : ns.map byteA = xs at h
    generalize hF : ([] : List Nat) = F at h
    cases h with
    | nil => have : ns = [] := by simpa using hx
             subst this; rfl
    | cons h hl =>
      rename_i x v F xs vs Fs
      have hF' : F = [] ∧ Fs = [] := by simpa using hF.symm
      obtain ⟨rfl, rfl⟩ := hF'
      cases ns with
      | nil => simp at hx
      | cons c ns =>
        simp only [List.map_cons, List.cons.injEq] at hx
        obtain ⟨hx1, hx2⟩ := hx
        subst hx2
        have := bytes_vals hl
        subst hx1
        cases h
        rw [this]; rfl
theorem flat_bytes (ns : List UInt8) : flat (ns.map byteA) = ns.map byteA := by
  induction ns with
  | nil => rfl
  | cons c ns ih => rw [List.map_cons, flat_cons, ih]; rfl
/-- string(b). -/
theorem VOK_bytesStr {src dst e : TypeId} {x : Operand} {ns : List UInt8} (ho : o.op = .convert src dst x) (hs : elemT P src = some e) (hk : kindT P e = some .u8) (hd : isStrT P dst = true)
    (hx : ∀ (E : Env) (G : Nat → Prop) (gs : Gh) (a : Act) (w : World), Inv E G gs S a.tmps w → (ns = [] ∧ ∃ oa c, a.eval x = .slice oa 0 c) ∨ ∃ b k cap cur et fr, a.eval x = .slice (some ⟨b, k, none⟩) ns.length cap ∧ w.heap[b]? = some (.cells cur et fr) ∧
      ∃ G, RelL w G (ns.map byteA) ((cur.toList.drop k).take ns.length) []) : VOK P o S (.sc (.string (mkS ns))) := by
  intro E G gs a w hi
  have hu := elemT_inv hs
  have hu2 : P.underlying e = some (.int .u8) := by
    unfold kindT at hk
    split at hk
    · rename_i hh; cases hk; exact hh
    · simp at hk
  have hu3 : P.underlying dst = some .string := by
    unfold isStrT at hd
    split at hd
    · assumption
    · simp at hd
  rcases hx E G gs a w hi with ⟨rfl, oa, c, hv⟩ | ⟨b, k, cap, cur, et, fr, hv, hh, G', hrel⟩
  · refine ⟨.string (mkS []), fun w' hw' => ?_, .of (.sc rfl)⟩
    simp only [execOp, ho, hv, Sem.run_bind, run_convert_bytes_string w' src dst e oa 0 c hu hu2 hu3]
    cases oa <;> (simp [Conv.bytesToString, loadCells, loadCellsFrom]; rfl)
  · refine ⟨.string (mkS ns), fun w' hw' => ?_, .of (.sc rfl)⟩
    have hcs := bytes_vals hrel
    have hl := hrel.length
    rw [List.length_map] at hl
    have hload : (loadCells ⟨b, k, none⟩ ns.length).run P w' = .ok ((ns.map fun c : UInt8 => (c.toNat : Int)).map (Value.int .u8)).toArray w' := by
      rw [← hcs]
      generalize hcc : (cur.toList.drop k).take ns.length = cc at hl
      rw [← hl]
      refine run_loadCells_list w' _ _ fun j v hj => ?_
      rw [← hcc] at hj hl
      rw [add_none, cell_at (keep_at hw' hh)]
      have hjl := (List.getElem?_eq_some_iff.1 hj).1
      rw [hl] at hjl
      rw [List.getElem?_take_of_lt hjl, List.getElem?_drop] at hj
      simpa using hj
    simp only [execOp, ho, hv, Sem.run_bind, run_convert_bytes_string w' src dst e _ _ cap hu hu2 hu3, run_bytesToString w' _ _ cap _ hload, push_fold]
    simp
    rfl
theorem VOK_bytesStr_vw {src dst e : TypeId} {x : Operand} {ns : List UInt8} {r off len : Nat} {row : Row} (ho : o.op = .convert src dst x) (hs : elemT P src = some e) (hk : kindT P e = some .u8) (hd : isStrT P dst = true)
    (he : ev S x = .vw r off len) (hr : rowAt S.rows r = some row) (hn : row.n = 1) (hl : off + len ≤ row.xs.length) (hns : (row.xs.drop off).take len = ns.map byteA) : VOK P o S (.sc (.string (mkS ns))) := by
  refine VOK_bytesStr ho hs hk hd fun E G gs a w hi => ?_
  have h1 := ev_rel hi x rfl
  rw [he] at h1
  have hlen : ns.length = len := by
    have := congrArg List.length hns
    simp at this; omega
  rcases vw_inv h1 with ⟨row', k, cap, cur, et, b, hr', hob, g1, g2, g3, g4, g5, g6, hv⟩ | ⟨row', hr', hob, hx0, rfl, rfl, hv⟩
  · rw [hr] at hr'
    obtain rfl := Option.some.inj hr'
    rw [← hlen] at hv
    have hrr := hi.row r row hr
    rw [hob] at hrr
    obtain ⟨cur', e', cap', h1, h2, h3, h4, h5, h6, h7⟩ := hrr.ex
    rw [g2] at h1
    simp only [Option.some.injEq, Obj.cells.injEq] at h1
    obtain ⟨rfl, rfl, _⟩ := h1
    have hz : ∀ {F : List Nat}, (CellsRel row.lk w G S.rows gs (flat row.xs) (cur.toList.take (row.xs.length * row.n)) F) → RelL w G (ns.map byteA) ((cur.toList.drop (off * row.n)).take ns.length) [] := fun {F} h7 => by
      obtain ⟨F1, F2, e1, _, k2⟩ := h7.t.take_ (off * row.n)
      obtain ⟨F3, F4, e2, k3, _⟩ := k2.take_ (len * row.n)
      rw [flat_drop off h5, flat_take len (fun y hy => h5 y (List.mem_of_mem_drop hy)), hns, flat_bytes] at k3
      have hle : (off + len) * row.n ≤ row.xs.length * row.n := Nat.mul_le_mul_right _ g1
      rw [Nat.add_mul] at hle
      rw [List.drop_take, List.take_take, Nat.min_eq_left (by omega)] at k3
      have hd : (ns.map byteA).all isData = true := by
        rw [List.all_eq_true]; intro y hy; obtain ⟨c, _, rfl⟩ := List.mem_map.1 hy; exact isData_sc _
      have hno : (ns.map byteA).all noOwn = true := by
        rw [List.all_eq_true]; intro y hy; obtain ⟨c, _, rfl⟩ := List.mem_map.1 hy; exact noOwn_sc _
      have k4 := k3.data hd
      rw [k4.noOwn hno] at k4
      rw [hlen]
      rw [hn] at k4 ⊢
      simpa only [Nat.mul_one] using k4
    rcases g6 with g6 | g6
    · exact .inr ⟨b, k, cap - off, cur, _, _, hv, g2, G, by rw [g6]; exact hz h7⟩
    · have h0 : len = 0 := by omega
      subst h0
      have : ns = [] := List.eq_nil_of_length_eq_zero hlen
      subst this
      exact .inr ⟨b, k, cap - off, cur, _, _, hv, g2, G, by simpa using RelL.nil⟩
  · have : ns = [] := List.eq_nil_of_length_eq_zero hlen
    exact .inl ⟨this, none, 0, hv⟩
theorem VOK_bytesStr_sl {src dst e : TypeId} {x : Operand} {ns : List UInt8} {n : Nat} {xs : List A} (ho : o.op = .convert src dst x) (hs : elemT P src = some e) (hk : kindT P e = some .u8) (hd : isStrT P dst = true)
    (he : ev S x = .sl false n xs) (hn : n = 1) (hns : xs = ns.map byteA) : VOK P o S (.sc (.string (mkS ns))) := by
  refine VOK_bytesStr ho hs hk hd fun E G gs a w hi => ?_
  have h1 := ev_rel hi x rfl
  rw [he] at h1
  subst hn
  rcases slf_inv h1 with ⟨⟨oa, hv⟩, h0⟩ | ⟨b, k, cap, cur, et, fr, hv, hh, hg, hw, hrel, hcap, hm⟩
  · rw [hns] at h0
    exact .inl ⟨by simpa using h0, oa, 0, hv⟩
  · subst hns
    rw [List.length_map, Nat.mul_one, flat_bytes] at hrel
    rw [List.length_map] at hv
    exact .inr ⟨b, k, cap, cur, et, fr, hv, hh, G, hrel⟩
end
end Go.Fw

/- Own slices taken out of own rows; rows made zero from a place on. Plain theorems, no condition. -/
set_option linter.unusedVariables false
set_option linter.unusedSimpArgs false
namespace Go.Fw
theorem newElem_cells' {x : A} {q : Nat} {ys : List A} (hs : q + ys.length ≤ x.width) (hn : 0 < ys.length) (hok : ∀ y ∈ ys, y.cells = [y]) : (newElem x q ys).cells = x.cells.take q ++ ys ++ x.cells.drop (q + ys.length) := by
  cases x with
  | agg xs => rfl
  | _ =>
    simp only [A.width, A.cells, List.length_singleton] at hs
    obtain rfl : q = 0 := by omega
    have h1 : ys.length = 1 := by omega
    match ys, h1 with
    | [y], _ =>
      show y.cells = _
      rw [hok y (by simp)]
      simp [A.cells]
section
variable {P : Program} {E : Env} {G : Nat → Prop} {gs : Gh} {S : State} {w : World} {tmps : Array Value}
/-- Row r told otherwise: no write; it keeps its block, and gives up some of what it holds, or takes what is free. -/
theorem Inv.recast (hi : Inv E G gs S tmps w) {r : Nat} {row row' : Row} (hr : rowAt S.rows r = some row) (hn : row'.n = row.n) (hl : row'.xs.length = row.xs.length) {b : Nat} (hb : (gs r).1 = some b) {Fy F' R : List Nat}
    (hR : Res E G gs S.rows Fy) (hsub : ∀ c ∈ F' ++ R, c ∈ (gs r).2 ∨ c ∈ Fy) (hnd : (F' ++ R).Nodup) (hrel : RowRel w G S.rows gs row' (some b) F') :
    Inv E G (gs.add r (some b) F') (S.setRow r row') tmps w ∧ Res E G (gs.add r (some b) F') (S.setRow r row').rows R ∧
      ∀ x v, TRel w G S.rows gs x v [] → TRel w G (S.setRow r row').rows (gs.add r (some b) F') x v [] := by
  have hself : (gs.add r (some b) F') r = (some b, F') := by simp [Gh.add]
  have hgs : ∀ q, q ≠ r → (gs.add r (some b) F') q = gs q := fun q h => by simp [Gh.add, h]
  have hG : ∀ c, G c → G c ∧ w.heap[c]? = w.heap[c]? := fun c h => ⟨h, rfl⟩
  have hle : ∀ q, RowLe w w S.rows (S.setRow r row').rows gs (gs.add r (some b) F') q := fun q => ⟨fun row0 h0 => by
    by_cases hq : q = r
    · subst hq
      rw [hr] at h0
      obtain rfl := Option.some.inj h0
      exact ⟨row', by rw [rowAt_setRow hr, if_pos rfl], by rw [hself, hb], hn, hl, fun b' c' e' hb' hh' => ⟨c', e', hh', rfl⟩⟩
    · exact ⟨row0, by rw [rowAt_setRow hr, if_neg hq]; exact h0, by rw [hgs q hq], rfl, rfl, fun b' c' e' hb' hh' => ⟨c', e', hh', rfl⟩⟩⟩
  have hcase : ∀ q row0, rowAt (S.setRow r row').rows q = some row0 → (q = r ∧ row0 = row') ∨ (q ≠ r ∧ rowAt S.rows q = some row0) := fun q row0 h => by
    rw [rowAt_setRow hr] at h
    split at h
    · rename_i hh; exact .inl ⟨hh, (Option.some.inj h).symm⟩
    · rename_i hh; exact .inr ⟨hh, h⟩
  have hall : ∀ q, q ≠ r → (gs.add r (some b) F').all q = gs.all q := fun q h => by simp only [Gh.all, hgs q h]
  have hall0 : (gs.add r (some b) F').all r = b :: F' := by simp [Gh.all, hself]
  have hallr : gs.all r = b :: (gs r).2 := by simp [Gh.all, hb]
  have hin : ∀ c, c ∈ F' ++ R → c ∈ gs.all r ∨ c ∈ Fy := fun c hc => by
    rw [hallr]
    rcases hsub c hc with h | h
    · exact .inl (by simp [h])
    · exact .inr h
  have hnb : b ∉ F' ++ R := fun hc => by
    have hnod := hi.nod r row hr
    rw [hallr] at hnod
    rcases hsub b hc with h | h
    · exact (List.nodup_cons.1 hnod).1 h
    · exact hR.dis r row hr b (by rw [hallr]; simp) h
  rw [List.nodup_append] at hnd
  obtain ⟨n1, n2, n3⟩ := hnd
  have hown : ∀ c, c ∈ gs.all r ∨ c ∈ Fy → ¬ G c ∧ (E.Fin c ∨ E.w0.heap.size ≤ c) := fun c h => h.elim (hi.own r row hr c) (hR.own c)
  have hdis : ∀ q row0, q ≠ r → rowAt S.rows q = some row0 → ∀ c ∈ gs.all q, ¬ (c ∈ gs.all r ∨ c ∈ Fy) := fun q row0 hq h0 c hc h => by
    rcases h with h | h
    · exact hi.dis q r row0 row h0 hr hq c hc h
    · exact hR.dis q row0 h0 c hc h
  have h0 : ∀ c ∈ b :: F', c ∈ gs.all r ∨ c ∈ Fy := fun c hc => by
    rcases List.mem_cons.1 hc with rfl | hc
    · exact .inl (by rw [hallr]; simp)
    · exact hin c (by simp [hc])
  refine ⟨⟨hi.keep, hi.os, hi.tape, hi.output, hi.size, hi.sz, hi.gsub, hi.gnew, hi.glt, fun q row0 hq => ?_, fun q row0 hq => ?_, fun q row0 hq => ?_, fun q1 q2 row1 row2 h1 h2 hne => ?_, fun i => (hi.tmp i).step hG hle (by simp)⟩,
    ⟨n2, fun c hc => hown c (hin c (by simp [hc])), fun q row0 hq c hc hcR => ?_⟩, fun x v h => h.step hG hle (by simp)⟩
  · rcases hcase q row0 hq with ⟨rfl, rfl⟩ | ⟨hne, h⟩
    · rw [hself]; exact hrel.step hG hle (fun _ _ => rfl)
    · rw [hgs q hne]; exact (hi.row q row0 h).step hG hle (fun _ _ => rfl)
  · rcases hcase q row0 hq with ⟨rfl, rfl⟩ | ⟨hne, h⟩
    · rw [hall0]; exact List.nodup_cons.2 ⟨fun h => hnb (by simp [h]), n1⟩
    · rw [hall q hne]; exact hi.nod q row0 h
  · rcases hcase q row0 hq with ⟨rfl, rfl⟩ | ⟨hne, h⟩
    · rw [hall0]; exact fun c hc => hown c (h0 c hc)
    · rw [hall q hne]; exact hi.own q row0 h
  · rcases hcase q1 row1 h1 with ⟨rfl, rfl⟩ | ⟨m1, g1⟩ <;> rcases hcase q2 row2 h2 with ⟨rfl, rfl⟩ | ⟨m2, g2⟩
    · exact absurd rfl hne
    · rw [hall0, hall q2 m2]
      exact fun c hc hc2 => hdis q2 row2 m2 g2 c hc2 (h0 c hc)
    · rw [hall0, hall q1 m1]
      exact fun c hc hc2 => hdis q1 row1 m1 g1 c hc (h0 c hc2)
    · rw [hall q1 m1, hall q2 m2]; exact hi.dis q1 q2 row1 row2 g1 g2 hne
  · rcases hcase q row0 hq with ⟨rfl, rfl⟩ | ⟨hne, h⟩
    · rw [hall0] at hc
      rcases List.mem_cons.1 hc with rfl | hc
      · exact hnb (by simp [hcR])
      · exact n3 c hc c hcR rfl
    · rw [hall q hne] at hc
      exact hdis q row0 hne h c hc (hin c (by simp [hcR]))

/-- One cell of a row of data: what it holds is taken out of it. -/
theorem Inv.takeCell (hi : Inv E G gs S tmps w) {r j q : Nat} {row : Row} {y z : A} (hr : rowAt S.rows r = some row) (hlk : row.lk = false) (hy : row.xs[j]? = some y) (hz : y.cells[q]? = some z) :
    ∃ b cur e v F1 Fz F3, (gs r).1 = some b ∧ w.heap[b]? = some (.cells cur e (0, 0)) ∧ cur[j * row.n + q]? = some v ∧ Rel w G z v Fz ∧ (gs r).2 = F1 ++ (Fz ++ F3) ∧
      Inv E G (gs.add r (some b) (F1 ++ F3)) (S.setRow r ⟨row.n, row.xs.set j (newElem y q [.un]), false⟩) tmps w ∧
        Res E G (gs.add r (some b) (F1 ++ F3)) (S.setRow r ⟨row.n, row.xs.set j (newElem y q [.un]), false⟩).rows Fz := by
  have hj : j < row.xs.length := (List.getElem?_eq_some_iff.1 hy).1
  obtain ⟨b, hb, hrc⟩ := row_real hi hr (by omega)
  obtain ⟨cur, e, cap, h1, h2, h3, h4, h5, h6, h7⟩ := hrc.ex
  have hyw := h5 y (List.mem_of_getElem? hy)
  have hq : q < y.cells.length := (List.getElem?_eq_some_iff.1 hz).1
  unfold A.width at hyw
  have hle : (j + 1) * row.n ≤ row.xs.length * row.n := Nat.mul_le_mul_right _ hj
  rw [Nat.add_mul] at hle
  have hle2 : row.xs.length * row.n ≤ cap * row.n := Nat.mul_le_mul_right _ h3
  unfold CellsRel at h7
  rw [if_neg (by simp [hlk])] at h7
  obtain ⟨F1, F4, e1, k1, k2⟩ := h7.take_ (j * row.n + q)
  obtain ⟨Fz, F3, e2, k3, k4⟩ := k2.take_ 1
  rw [List.drop_drop] at k4
  have hseg := flat_seg h5 hy q 1 (by omega)
  have hseg2 : (y.cells.drop q).take 1 = [z] := by
    rw [List.drop_eq_getElem_cons hq]
    rw [List.getElem?_eq_getElem hq] at hz
    simp only [Option.some.injEq] at hz
    simp [hz]
  rw [hseg, hseg2] at k3
  obtain ⟨v, hv⟩ : ∃ v, cur[j * row.n + q]? = some v := ⟨_, Array.getElem?_eq_getElem (by omega)⟩
  have hvs : ((cur.toList.take (row.xs.length * row.n)).drop (j * row.n + q)).take 1 = [v] := by
    rw [List.drop_take, List.take_take, Nat.min_eq_left (by omega)]
    obtain ⟨hv1, hv2⟩ := Array.getElem?_eq_some_iff.1 hv
    rw [List.drop_eq_getElem_cons (by simpa using hv1)]
    simp [hv2]
  rw [hvs] at k3
  have hzv : Rel w G z v Fz := by
    generalize hu : [v] = us at k3
    cases k3 with
    | cons a c =>
      cases c
      cases hu
      simpa using a
  have hcv : cellV v = true := h6 v (by
    have : v ∈ ((cur.toList.take (row.xs.length * row.n)).drop (j * row.n + q)).take 1 := by rw [hvs]; simp
    exact List.mem_of_mem_drop (List.mem_of_mem_take this))
  subst e2
  have hcl := newElem_cells' (x := y) (q := q) (ys := [A.un]) (by unfold A.width; simp; omega) (by simp) (by simp [A.cells])
  have hflat := flat_set h5 hy (q := q) (ys := [A.un]) (by simp; omega) hcl
  have hnod := hi.nod r row hr
  rw [show gs.all r = b :: (F1 ++ (Fz ++ F3)) by simp [Gh.all, hb, e1]] at hnod
  have hnd := (List.nodup_cons.1 hnod).2
  obtain ⟨g1, g2, _⟩ := hi.recast (Fy := []) (row' := ⟨row.n, row.xs.set j (newElem y q [.un]), false⟩) hr rfl List.length_set hb Res.nil (R := Fz) (F' := F1 ++ F3) (fun c hc => by
    rw [e1]
    simp only [List.mem_append] at hc ⊢
    rcases hc with (h | h) | h
    · exact .inl (.inl h)
    · exact .inl (.inr (.inr h))
    · exact .inl (.inr (.inl h))) (by
    rw [List.nodup_append] at hnd ⊢
    obtain ⟨m1, m2, m3⟩ := hnd
    rw [List.nodup_append] at m2
    obtain ⟨m4, m5, m6⟩ := m2
    refine ⟨List.nodup_append.2 ⟨m1, m5, fun a ha c hc h => m3 a ha c (by simp [hc]) h⟩, m4, fun a ha c hc h => ?_⟩
    subst h
    rcases List.mem_append.1 ha with ha | ha
    · exact m3 a ha a (by simp [hc]) rfl
    · exact m6 a hc a ha rfl) (by
    refine ⟨cur, e, cap, h1, h2, by simpa using h3, h4, ?_, ?_, ?_⟩
    · intro u hu
      rcases List.mem_or_eq_of_mem_set hu with hu | rfl
      · exact h5 u hu
      · show (newElem y q [.un]).cells.length = row.n
        rw [hcl]; simp; omega
    · simpa using h6
    · show CellsRel false w G S.rows gs (flat (row.xs.set j (newElem y q [.un]))) (cur.toList.take ((row.xs.set j (newElem y q [.un])).length * row.n)) (F1 ++ F3)
      unfold CellsRel
      rw [if_neg (by simp), List.length_set, hflat]
      generalize cur.toList.take (row.xs.length * row.n) = l at hvs k1 k4
      generalize j * row.n + q = p at hvs k1 k4
      have hs1 : l.drop p = [v] ++ (l.drop p).drop 1 := by rw [← hvs, List.take_append_drop]
      have hs2 : l = l.take p ++ ([v] ++ (l.drop p).drop 1) := by rw [← hs1, List.take_append_drop]
      rw [List.append_assoc]
      have := k1.append ((RelL.cons (Rel.un hcv) .nil).append k4)
      rw [← hs2] at this
      simpa using this)
  exact ⟨b, cur, e, v, F1, Fz, F3, hb, h1, hv, hzv, e1, g1, g2⟩
/-- A load of an own slice in an own row: it is a row of its own then, and the cell is not known any more. -/
theorem opOK_take {o : Oper} {K : State → Prop} {t : TypeId} {x : Operand} {r j q n : Nat} {row : Row} {y : A} {ys : List A} (ho : o.op = .load t x) (he : ev S x = .pt r j q) (hr : rowAt S.rows r = some row) (hlk : row.lk = false)
    (hy : row.xs[j]? = some y) (ha : aggT P t = some false) (hz : y.cells[q]? = some (.sl true n ys))
    (hK : K (((S.setRow r ⟨row.n, row.xs.set j (newElem y q [.un]), false⟩).addRow ⟨n, ys, false⟩).put o.dst (.vw S.rows.length 0 ys.length))) : opOK P o S K := by
  intro E a w next Q hs hn
  obtain ⟨hd, G, gs, hi⟩ := hs
  have hx := ev_rel hi x rfl
  rw [he] at hx
  obtain ⟨row', b', hr', hb', hv'⟩ := pt_inv hx
  rw [hr] at hr'
  obtain rfl := Option.some.inj hr'
  obtain ⟨b, cur, e, v, F1, Fz, F3, hb, hh, hv, hrel, hF, hi1, hR1⟩ := hi.takeCell hr hlk hy hz
  rw [hb] at hb'
  obtain rfl := Option.some.inj hb'
  have hrun : (execOp a.eval o).run P w = .ok (.value v) w := by simp [execOp, ho, Instr.loadAt, hv', Instr.sureAddr, run_loadVar_cell ha hh hv]
  have hrl : r < S.rows.length := rowAt_lt hr
  have hl1 : (S.setRow r ⟨row.n, row.xs.set j (newElem y q [.un]), false⟩).rows.length = S.rows.length := by simp [State.setRow]
  have hstep : ∃ gs2, Inv E G gs2 ((S.setRow r ⟨row.n, row.xs.set j (newElem y q [.un]), false⟩).addRow ⟨n, ys, false⟩) a.tmps w ∧
      TRel w G ((S.setRow r ⟨row.n, row.xs.set j (newElem y q [.un]), false⟩).addRow ⟨n, ys, false⟩).rows gs2 (.vw S.rows.length 0 ys.length) v [] := by
    have hrow : rowAt ((S.setRow r ⟨row.n, row.xs.set j (newElem y q [.un]), false⟩).addRow ⟨n, ys, false⟩).rows S.rows.length = some ⟨n, ys, false⟩ := by
      show rowAt ((S.setRow r ⟨row.n, row.xs.set j (newElem y q [.un]), false⟩).rows ++ [some ⟨n, ys, false⟩]) S.rows.length = _
      rw [rowAt_push, if_pos hl1.symm]
    have hself : ∀ ob F, ((gs.add r (some b) (F1 ++ F3)).add (S.setRow r ⟨row.n, row.xs.set j (newElem y q [.un]), false⟩).rows.length ob F) S.rows.length = (ob, F) := fun ob F => by
      simp [Gh.add, hl1]
    have hlt : ∀ c ∈ Fz ++ [], c < w.heap.size := fun c hc => hrel.lt c (by simpa using hc)
    have hR1' : Res E G (gs.add r (some b) (F1 ++ F3)) (S.setRow r ⟨row.n, row.xs.set j (newElem y q [.un]), false⟩).rows (Fz ++ []) := by rw [List.append_nil]; exact hR1
    cases hrel with
    | nils =>
      have := adopt_res (ob := none) (F := []) hi1 hR1' hlt rfl (row := ⟨n, [], false⟩) (fun _ _ => ⟨rfl, rfl⟩)
      exact ⟨_, this.inv, .vwn hrow (by rw [hself]) rfl⟩
    | ow hh2 hw hlen hc hl hcap hm hs hv0 =>
      rename_i b2 len cap cur2 e2 cs F
      subst hlen
      subst hc
      have := adopt_res (ob := some b2) (F := F) hi1 hR1' hlt rfl (row := ⟨n, ys, false⟩) (fun rows' gs' => ⟨cur2, e2, cap, hh2, hs, hcap, hm, hw, hv0, hl⟩)
      refine ⟨_, this.inv, ?_⟩
      have hv := TRel.vw (w := w) (G := G) (gs := (gs.add r (some b) (F1 ++ F3)).add (S.setRow r ⟨row.n, row.xs.set j (newElem y q [.un]), false⟩).rows.length (some b2) F) (off := 0) (len := ys.length) (k := 0) hrow (by rw [hself]) (by simp) hh2 hs hm hcap (.inl (by simp))
      simpa using hv
  obtain ⟨gs2, hi2, hvw⟩ := hstep
  unfold Oper.wp
  rw [hrun]
  exact hn _ _ _ hK ⟨by rw [put_defers]; exact hd, G, _, hi2.put hvw o.dst⟩
def isAggB : A → Bool
  | .agg _ => true
  | _ => false
def isAggV : Value → Bool
  | .agg _ => true
  | _ => false
theorem setRow_same {r : Nat} {row : Row} (hr : rowAt S.rows r = some row) : S.setRow r row = S := by
  unfold State.setRow
  have hl := rowAt_lt hr
  have : S.rows[r]? = some (some row) := by
    unfold rowAt at hr
    cases h : S.rows[r]? with
    | none => rw [h] at hr; simp at hr
    | some x => rw [h] at hr; simp only [Option.getD_some] at hr; rw [hr]
  have e : S.rows.set r (some row) = S.rows := by
    apply List.ext_getElem?
    intro i
    by_cases hi : i = r
    · subst hi; rw [List.getElem?_set_self hl, this]
    · rw [List.getElem?_set_ne (Ne.symm hi)]
  rw [e]
/-- The last m elements of a row become z. -/
theorem Inv.fill1 (hi : Inv E G gs S tmps w) {r : Nat} {row : Row} (hr : rowAt S.rows r = some row) (hlk : row.lk = false) (hn : row.n = 1) {b : Nat} (hb : (gs r).1 = some b) {z : A} {v : Value} (hz : ∀ w G, Rel w G z v []) (hzc : okCell z = true)
    {cur : Array Value} {e : TypeId} (hcur : w.heap[b]? = some (.cells cur e (0, 0))) (hsz : row.xs.length ≤ cur.size) (hna : ∀ y ∈ row.xs, isAggB y = false) :
    ∀ (m off : Nat), off + m = row.xs.length → ∃ F', Inv E G (gs.add r (some b) F') (S.setRow r { row with xs := row.xs.take off ++ List.replicate m z }) tmps
      (w.setRow b (cur.toList.take off ++ List.replicate m v ++ cur.toList.drop (off + m)).toArray)
  | 0, off, h => by
    refine ⟨(gs r).2, ?_⟩
    have e1 : ({ row with xs := row.xs.take off ++ List.replicate 0 z } : Row) = row := by
      have : row.xs.take off = row.xs := List.take_of_length_le (by omega)
      simp [this]
    rw [e1, setRow_same hr, ← hb, Gh.add_self]
    simp only [List.replicate_zero, List.append_nil, Nat.add_zero, List.take_append_drop, Array.toArray_toList]
    rw [setRow_self w b cur e (0, 0) hcur]
    exact hi
  | m + 1, off, h => by
    obtain ⟨F1, h1⟩ := Inv.fill1 hi hr hlk hn hb hz hzc hcur hsz hna m (off + 1) (by omega)
    generalize hrow1 : ({ row with xs := row.xs.take (off + 1) ++ List.replicate m z } : Row) = row1 at h1
    have hr1 : rowAt (S.setRow r row1).rows r = some row1 := by rw [rowAt_setRow hr, if_pos rfl]
    have hx1 : row1.xs = row.xs.take (off + 1) ++ List.replicate m z := by rw [← hrow1]
    have hn1 : row1.n = 1 := by rw [← hrow1]; exact hn
    have hlk1 : row1.lk = false := by rw [← hrow1]; exact hlk
    have hoff : off < row.xs.length := by omega
    have hy : row1.xs[off]? = some row.xs[off] := by
      rw [hx1, List.getElem?_append_left (by simp; omega), List.getElem?_take_of_lt (by omega), List.getElem?_eq_getElem hoff]
    obtain ⟨b2, cur2, e2, F2, g1, g2, g3, g4⟩ := h1.store (Fy := []) (ys := [z]) (vs := [v]) (q := 0) Res.nil (by simp) hr1 hy (by rw [hn1]; simp) (by simp)
      (by unfold CellsRel; rw [if_neg (by simp [hlk1])]; exact .cons (F := []) (Fs := []) (hz _ _) .nil) (by simpa using hzc)
    have hb2 : b2 = b := by simp [Gh.add] at g1; exact g1.symm
    subst hb2
    have hc2 := setRow_heap w b2 cur (cur.toList.take (off + 1) ++ List.replicate m v ++ cur.toList.drop (off + 1 + m)).toArray e _ hcur
    rw [g2] at hc2
    simp only [Option.some.injEq, Obj.cells.injEq] at hc2
    obtain ⟨hc2, _⟩ := hc2
    have hne : newElem row.xs[off] 0 [z] = z := by
      have := hna row.xs[off] (List.getElem_mem hoff)
      revert this
      generalize row.xs[off] = u
      intro this
      cases u <;> first | rfl | (simp [isAggB] at this)
    have hset : ({ row1 with xs := row1.xs.set off (newElem row.xs[off] 0 [z]) } : Row) = { row with xs := row.xs.take off ++ List.replicate (m + 1) z } := by
      rw [hne, ← hrow1]
      simp only [Row.mk.injEq, true_and, and_true]
      apply List.ext_getElem?
      intro i
      by_cases hi : i = off
      · subst hi
        rw [List.getElem?_set_self (by simp; omega), List.getElem?_append_right (by simp; omega)]
        simp [Nat.min_eq_left (Nat.le_of_lt hoff), List.getElem?_replicate]
      · rw [List.getElem?_set_ne (Ne.symm hi)]
        rcases Nat.lt_or_ge i off with h | h
        · rw [List.getElem?_append_left (by simp; omega), List.getElem?_append_left (by simp; omega), List.getElem?_take_of_lt (by omega), List.getElem?_take_of_lt (by omega)]
        · rw [List.getElem?_append_right (by simp; omega), List.getElem?_append_right (by simp; omega)]
          simp only [List.getElem?_replicate, List.length_take, Nat.min_eq_left (by omega : off + 1 ≤ row.xs.length), Nat.min_eq_left (by omega : off ≤ row.xs.length)]
          by_cases h2 : i - (off + 1) < m
          · rw [if_pos h2, if_pos (by omega)]
          · rw [if_neg h2, if_neg (by omega)]
    have hgs : (gs.add r (some b2) F1).add r (some b2) F2 = gs.add r (some b2) F2 := by
      funext i; simp only [Gh.add]; split <;> rfl
    have hst : (S.setRow r row1).setRow r { row1 with xs := row1.xs.set off (newElem row.xs[off] 0 [z]) } = S.setRow r { row with xs := row.xs.take off ++ List.replicate (m + 1) z } := by
      rw [hset]; simp [State.setRow, List.set_set]
    refine ⟨F2, ?_⟩
    rw [hst, hgs, setRow_setRow] at g4
    have hw : (cur2.toList.take (off * row1.n + 0) ++ [v] ++ cur2.toList.drop (off * row1.n + 0 + [v].length)) = cur.toList.take off ++ List.replicate (m + 1) v ++ cur.toList.drop (off + (m + 1)) := by
      rw [hn1, hc2]
      simp only [Nat.mul_one, Nat.add_zero, List.length_singleton]
      have hl : off < cur.toList.length := by simp; omega
      have t1 : (cur.toList.take (off + 1) ++ List.replicate m v ++ cur.toList.drop (off + 1 + m)).take off = cur.toList.take off := by
        rw [List.append_assoc, List.take_append_of_le_length (by simp; omega), List.take_take, Nat.min_eq_left (by omega)]
      have t2 : (cur.toList.take (off + 1) ++ List.replicate m v ++ cur.toList.drop (off + 1 + m)).drop (off + 1) = List.replicate m v ++ cur.toList.drop (off + 1 + m) := by
        have hl1 : (cur.toList.take (off + 1)).length = off + 1 := by simp; omega
        rw [List.append_assoc]
        exact List.drop_left' hl1
      rw [t1, t2, List.replicate_succ, show off + (m + 1) = off + 1 + m by omega]
      simp
    rw [hw] at g4
    exact g4
theorem zeroCells_one (v : Value) (n : Nat) : (Builtin.zeroCells #[v] n).toList = List.replicate n v := by
  unfold Builtin.zeroCells
  apply List.ext_getElem?
  intro i
  simp [List.getElem?_replicate]
  by_cases h : i < n
  · rw [if_pos h, List.getElem?_range h]; simp [Nat.mod_one]
  · rw [if_neg h, List.getElem?_eq_none (by simp; omega)]; rfl
theorem opOK_clear {o : Oper} {K : State → Prop} {t e : TypeId} {x : Operand} {r off len : Nat} {row : Row} {z : Value} (ho : o.op = .call { callee := .builtin .clear, args := [x].toArray, argTypes := [t].toArray }) (he : ev S x = .vw r off len) (hr : rowAt S.rows r = some row)
    (hlk : row.lk = false) (hn : row.n = 1) (hl : off + len = row.xs.length) (hna : ∀ y ∈ row.xs, isAggB y = false) (ht : elemT P t = some e) (hz : zeroT P e = some z) (hzv : okV z = true) (hza : isAggV z = false)
    (hK : K ((S.setRow r ⟨row.n, row.xs.take off ++ List.replicate len (cellA z), false⟩).put o.dst (.tup []))) : opOK P o S K := by
  intro E a w next Q hs hn'
  obtain ⟨hd, G, gs, hi⟩ := hs
  have hx := ev_rel hi x rfl
  rw [he] at hx
  have hu := elemT_inv ht
  have hzc : z.cells = #[z] := by cases z <;> first | rfl | (simp [isAggV] at hza)
  have hcz : cellV z = true := by cases z <;> first | rfl | (simp [isAggV] at hza; done) | (simp [okV] at hzv; done)
  have hrow : (⟨row.n, row.xs.take off ++ List.replicate len (cellA z), false⟩ : Row) = { row with xs := row.xs.take off ++ List.replicate len (cellA z) } := by cases row; simp at hlk; subst hlk; rfl
  have htup : ∀ (w : World) rows gs, TRel w G rows gs (.tup []) (.tuple #[]) [] := fun w rows gs => TRel.tup (cs := []) .nil
  have hokz : okCell (cellA z) = true := by unfold cellA; split <;> rfl
  rcases vw_inv hx with ⟨row', k, cap, cur, et, b, hr', hob, g1, g2, g3, g4, g5, g6, hv⟩ | ⟨row', hr', hob, hx0, ho0, hlen, hv⟩
  · rw [hr] at hr'
    obtain rfl := Option.some.inj hr'
    rw [hn, Nat.mul_one] at g3 g6
    obtain ⟨F', hi2⟩ := hi.fill1 hr hlk hn hob (fun w G => rel_cellA hcz) hokz g2 (by omega) hna len off hl
    have hrun : (execOp a.eval o).run P w = .ok (.value (.tuple #[])) (w.setRow b (cur.toList.take off ++ List.replicate len z ++ cur.toList.drop (off + len)).toArray) := by
      rcases Nat.eq_zero_or_pos len with h0 | h0
      · subst h0
        simp only [List.replicate_zero, List.append_nil, Nat.add_zero, List.take_append_drop, Array.toArray_toList]
        rw [setRow_self w b cur et (0, 0) g2]
        simp [execOp, ho, resolve, invoke, builtin, hv, Builtin.clear_, run_underlying hu]
      · have hk : k = off := by rcases g6 with g | g <;> omega
        subst hk
        obtain ⟨l', rfl⟩ : ∃ l', len = l' + 1 := ⟨len - 1, by omega⟩
        have hst := run_storeCells_at P b k et (List.replicate (l' + 1) z) 0 cur w g2 (by simp; omega) (by intro v hv; rw [(List.mem_replicate.1 hv).2]; exact hcz)
        simp only [Nat.add_zero, List.length_replicate] at hst
        have hzr := run_zero hz w
        have hzl : (Builtin.zeroCells z.cells (l' + 1)).toList = List.replicate (l' + 1) z := by rw [hzc, zeroCells_one]
        simp [execOp, ho, resolve, invoke, builtin, hv, Builtin.clear_, run_underlying hu, hzr, hzl, hst]
    unfold Oper.wp
    rw [hrun]
    rw [hrow] at hK
    exact hn' _ _ _ hK ⟨by rw [put_defers]; exact hd, G, _, Inv.put (S := S.setRow r _) hi2 (htup _ _ _) o.dst⟩
  · rw [hr] at hr'
    obtain rfl := Option.some.inj hr'
    subst ho0
    subst hlen
    have hsame : (⟨row.n, row.xs.take 0 ++ List.replicate 0 (cellA z), false⟩ : Row) = row := by cases row; simp at hlk hx0; subst hlk; subst hx0; rfl
    rw [hsame, setRow_same hr] at hK
    have hrun : (execOp a.eval o).run P w = .ok (.value (.tuple #[])) w := by
      simp [execOp, ho, resolve, invoke, builtin, hv, Builtin.clear_, run_underlying hu]
    unfold Oper.wp
    rw [hrun]
    exact hn' _ _ _ hK ⟨by rw [put_defers]; exact hd, G, gs, hi.put (htup _ _ _) o.dst⟩
end
end Go.Fw

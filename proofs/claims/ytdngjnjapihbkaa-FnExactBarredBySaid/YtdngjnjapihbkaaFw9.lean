/- What goes into memory for good; writing; growing. Plain theorems, no condition. -/
import Derived.Test.YtdngjnjapihbkaaFw8
set_option linter.unusedVariables false
set_option linter.unusedSimpArgs false
namespace Go.Fw

theorem rowAt_set (rows : List (Option Row)) (q : Nat) (x : Option Row) (r : Nat) (hq : q < rows.length) : rowAt (rows.set q x) r = if r = q then x else rowAt rows r := by
  unfold rowAt
  rw [List.getElem?_set]
  by_cases h : q = r
  · subst h; simp [hq]
  · rw [if_neg h, if_neg (fun e => h e.symm)]
theorem killRows_length (q : Nat) (rows : List (Option Row)) : (killRows q rows).length = rows.length := by simp [killRows]

/-- Row q is another one, or none: what led into it is forgotten. -/
def State.turn (S : State) (q : Nat) (x : Option Row) : State := ⟨killT q S.t, S.N, (killRows q S.rows).set q x⟩
def State.setRow (S : State) (q : Nat) (x : Row) : State := { S with rows := S.rows.set q (some x) }

section
variable {P : Program} {E : Env} {G : Nat → Prop} {gs : Gh} {S : State} {a : Act} {w : World} {tmps : Array Value}

theorem rowAt_turn {q r : Nat} {row : Row} {x : Option Row} (hq : rowAt S.rows q = some row) : rowAt (S.turn q x).rows r = if r = q then x else (rowAt S.rows r).map (killRow q) := by
  show rowAt ((killRows q S.rows).set q x) r = _
  rw [rowAt_set _ _ _ _ (by rw [killRows_length]; exact rowAt_lt hq), rowAt_killRows]

theorem Inv.turn (hi : Inv E G gs S tmps w) {q : Nat} {row : Row} (hq : rowAt S.rows q = some row) {w' : World} {x : Option Row} {ob : Option Nat} {F : List Nat}
    (hos : w'.os = w.os) (htape : w'.tape = w.tape) (hout : w'.output = w.output) (hsize : w.heap.size ≤ w'.heap.size) (hold : ∀ b, b < w.heap.size → b ∉ gs.all q → w'.heap[b]? = w.heap[b]?)
    (hnod : (ob.toList ++ F).Nodup) (hown : ∀ b ∈ ob.toList ++ F, ¬ G b ∧ (E.Fin b ∨ E.w0.heap.size ≤ b)) (hdis : ∀ r row', r ≠ q → rowAt S.rows r = some row' → ∀ b ∈ gs.all r, b ∉ ob.toList ++ F)
    (hx : ∀ row', x = some row' → row'.lk = false ∧ ∀ rows' gs', RowRel w' G rows' gs' row' ob F) :
    Inv E G (gs.add q ob F) (S.turn q x) tmps w' := by
  have hqn : ∀ b, G b → b ∉ gs.all q := fun b hb h => (hi.own q row hq b h).1 hb
  have hG : ∀ b, G b → G b ∧ w'.heap[b]? = w.heap[b]? := fun b hb => ⟨hb, hold b (hi.glt b hb) (hqn b hb)⟩
  have hblk : ∀ r row', r ≠ q → rowAt S.rows r = some row' → ∀ c ∈ gs.all r, w'.heap[c]? = w.heap[c]? := fun r row' hne hr c hc =>
    hold c (hi.block_lt hr c hc) (hi.dis r q row' row hr hq hne c hc)
  have hgs : ∀ r, r ≠ q → (gs.add q ob F) r = gs r := fun r hr => by simp [Gh.add, hr]
  have hself : (gs.add q ob F) q = (ob, F) := by simp [Gh.add]
  have hall0 : (gs.add q ob F).all q = ob.toList ++ F := by simp [Gh.all, hself]
  have hall : ∀ r, r ≠ q → (gs.add q ob F).all r = gs.all r := fun r hr => by simp only [Gh.all, hgs r hr]
  have hle : ∀ r, r ≠ q → RowLe w w' S.rows (S.turn q x).rows gs (gs.add q ob F) r := fun r hne => ⟨fun row' hr => by
    refine ⟨killRow q row', ?_, by rw [hgs r hne], killRow_n _ _, killRow_len _ _, fun b cur e hb hh => ⟨cur, e, ?_, rfl⟩⟩
    · rw [rowAt_turn hq, if_neg hne, hr]; rfl
    · rw [hblk r row' hne hr b (by simp [Gh.all, hb])]; exact hh⟩
  have hcase : ∀ r row', rowAt (S.turn q x).rows r = some row' → (r = q ∧ x = some row') ∨ (r ≠ q ∧ ∃ row0, rowAt S.rows r = some row0 ∧ row' = killRow q row0) := fun r row' hr => by
    rw [rowAt_turn hq] at hr
    split at hr
    · rename_i h; exact .inl ⟨h, hr⟩
    · rename_i h
      obtain ⟨row0, h1, h2⟩ := Option.map_eq_some_iff.1 hr
      exact .inr ⟨h, row0, h1, h2.symm⟩
  refine ⟨fun b hb hf => ?_, hos.trans hi.os, htape.trans hi.tape, hout.trans hi.output, Nat.le_trans hi.size hsize, hi.sz, hi.gsub, hi.gnew, fun b hb => Nat.lt_of_lt_of_le (hi.glt b hb) hsize, fun r row' hr => ?_, fun r row' hr => ?_, fun r row' hr => ?_, fun r r' row' row'' hr hr' hne' => ?_, fun i => ?_⟩
  · rw [hold b (Nat.lt_of_lt_of_le hb hi.size) ?_]
    · exact hi.keep b hb hf
    · intro h
      rcases (hi.own q row hq b h).2 with h | h
      · exact hf h
      · omega
  · rcases hcase r row' hr with ⟨rfl, h⟩ | ⟨hne, row0, hr0, rfl⟩
    · rw [hself]; exact (hx row' h).2 _ _
    · rw [hgs r hne]
      exact (hi.row r row0 hr0).stepK q hG hle (hblk r row0 hne hr0)
  · rcases hcase r row' hr with ⟨rfl, h⟩ | ⟨hne, row0, hr0, rfl⟩
    · rw [hall0]; exact hnod
    · rw [hall r hne]; exact hi.nod r row0 hr0
  · rcases hcase r row' hr with ⟨rfl, h⟩ | ⟨hne, row0, hr0, rfl⟩
    · rw [hall0]; exact hown
    · rw [hall r hne]; exact hi.own r row0 hr0
  · rcases hcase r row' hr with ⟨rfl, h⟩ | ⟨h1, row0, hr0, rfl⟩ <;> rcases hcase r' row'' hr' with ⟨rfl, h'⟩ | ⟨h2, row0', hr0', rfl⟩
    · exact absurd rfl hne'
    · rw [hall0, hall r' h2]
      intro b hb hb'
      exact hdis r' row0' h2 hr0' b hb' hb
    · rw [hall0, hall r h1]
      exact fun b hb => hdis r row0 h1 hr0 b hb
    · rw [hall r h1, hall r' h2]
      exact hi.dis r r' row0 row0' hr0 hr0' hne'
  · show TRel w' G (S.turn q x).rows (gs.add q ob F) (lk (killT q S.t) i) _ []
    rw [lk_killT]
    exact (hi.tmp i).stepK q hG hle (by simp)

/- Plain data: it leads into no own row. -/
mutual
def isData : A → Bool
  | .un => false
  | .vw _ _ _ => false
  | .pt _ _ _ => false
  | .agg xs => isDataL xs
  | .tup xs => isDataL xs
  | .clo _ xs => isDataL xs
  | .sc _ => true
  | .nil => true
  | .sl _ _ _ => true
  | .rp _ => true
  | .bx _ => true
def isDataL : List A → Bool
  | [] => true
  | x :: xs => isData x && isDataL xs
end
theorem isDataL_eq : ∀ xs : List A, isDataL xs = xs.all isData
  | [] => rfl
  | x :: xs => by rw [isDataL, isDataL_eq xs]; rfl
theorem isData_un : isData .un = false := rfl
theorem isData_vw (r i l : Nat) : isData (.vw r i l) = false := rfl
theorem isData_pt (r i l : Nat) : isData (.pt r i l) = false := rfl
theorem isData_agg (xs : List A) : isData (.agg xs) = xs.all isData := by rw [isData, isDataL_eq]
theorem isData_tup (xs : List A) : isData (.tup xs) = xs.all isData := by rw [isData, isDataL_eq]
theorem isData_clo (g : Nat) (xs : List A) : isData (.clo g xs) = xs.all isData := by rw [isData, isDataL_eq]
theorem isData_sc (v : Value) : isData (.sc v) = true := rfl
theorem isData_nil : isData .nil = true := rfl
theorem isData_sl (o : Bool) (n : Nat) (xs : List A) : isData (.sl o n xs) = true := rfl
theorem isData_rp (xs : List A) : isData (.rp xs) = true := rfl
theorem isData_bx (xs : List A) : isData (.bx xs) = true := rfl
theorem TRel.data {rows : List (Option Row)} {x : A} {v : Value} {F : List Nat} (h : TRel w G rows gs x v F) (hx : isData x = true) : Rel w G x v F := by
  refine TRel.rec (motive_1 := fun x v F _ => isData x = true → Rel w G x v F) (motive_2 := fun xs vs F _ => xs.all isData = true → RelL w G xs vs F) ?_ ?_ ?_ ?_ ?_ ?_ ?_ ?_ ?_ ?_ h hx
  · intro v hx; simp [isData_un] at hx
  · intro x v F h _; exact h
  · intro r off len k cap b row cur e _ _ _ _ _ _ _ _ hx; simp [isData_vw] at hx
  · intro r row _ _ _ hx; simp [isData_vw] at hx
  · intro r j o k b row _ _ _ hx; simp [isData_pt] at hx
  · intro xs cs F hl ih hx; exact .agg (ih (by rwa [isData_agg] at hx))
  · intro xs cs F hl ih hx; exact .tup (ih (by rwa [isData_tup] at hx))
  · intro g caps cs F hl ih hx; exact .clo (ih (by rwa [isData_clo] at hx))
  · intro _; exact .nil
  · intro x v F xs vs Fs h hl ih ih' hx
    simp only [List.all_cons, Bool.and_eq_true] at hx
    exact .cons (ih hx.1) (ih' hx.2)
theorem TRelL.data {rows : List (Option Row)} : ∀ {xs : List A} {vs : List Value} {F : List Nat}, TRelL w G rows gs xs vs F → xs.all isData = true → RelL w G xs vs F
  | _, _, _, .nil, _ => .nil
  | _, _, _, .cons h hl, hx => by
    simp only [List.all_cons, Bool.and_eq_true] at hx
    exact .cons (h.data hx.1) (hl.data hx.2)

/-- A value on its way into memory: an own row that it leads to goes with it. -/
def stash1 (S : State) : A → Prop × A × State × List Nat
  | .vw r off len => match rowAt S.rows r with
    | some row => (off = 0 ∧ len ≤ row.xs.length ∧ row.lk = false, .sl true row.n (row.xs.take len), S.turn r none, [r])
    | none => (False, .un, S, [])
  | x => (isData x = true, x, S, [])
def kills (ks : List Nat) (x : A) : A := ks.foldl (fun x r => kill r x) x
def stashL : State → List A → Prop × List A × State × List Nat
  | S, [] => (True, [], S, [])
  | S, x :: xs =>
    match stash1 S x with
    | (c, y, S1, ks) =>
      match stashL S1 (xs.map (kills ks)) with
      | (c', ys, S2, ks') => (c ∧ c', y :: ys, S2, ks ++ ks')
termination_by _ xs => xs.length

structure Stashed (E : Env) (G : Nat → Prop) (gs : Gh) (S S' : State) (tmps : Array Value) (w : World) (R R' : List Nat) (ks : List Nat) : Prop where
  inv : Inv E G gs S' tmps w
  res : Res E G gs S'.rows R'
  lt : (∀ b ∈ R, b < w.heap.size) → ∀ b ∈ R', b < w.heap.size
  step : ∀ x v, TRel w G S.rows gs x v [] → TRel w G S'.rows gs (kills ks x) v []
  rows : ∀ r row, r ∉ ks → rowAt S.rows r = some row → row.lk = false → rowAt S'.rows r = some row
  len : S'.rows.length = S.rows.length
theorem Gh.add_self (gs : Gh) (q : Nat) : gs.add q (gs q).1 (gs q).2 = gs := by
  funext i
  unfold Gh.add
  split
  · rename_i h; subst h; rfl
  · rfl
theorem stash1_ok (hi : Inv E G gs S tmps w) {R : List Nat} (hR : Res E G gs S.rows R) {x : A} {v : Value} (hx : TRel w G S.rows gs x v []) (hc : (stash1 S x).1) :
    ∃ F, Stashed E G gs S (stash1 S x).2.2.1 tmps w R (F ++ R) (stash1 S x).2.2.2 ∧ Rel w G (stash1 S x).2.1 v F := by
  have plain : isData x = true → ∃ F, Stashed E G gs S S tmps w R (F ++ R) [] ∧ Rel w G x v F := fun hd =>
    ⟨[], ⟨hi, by simpa using hR, fun h => by simpa using h, fun x v h => h, fun r row _ h _ => h, rfl⟩, hx.data hd⟩
  cases x <;> try exact plain hc
  rename_i r off len
  simp only [stash1] at hc ⊢
  cases hr : rowAt S.rows r with
  | none => simp [hr] at hc
  | some row =>
    simp only [hr] at hc ⊢
    obtain ⟨rfl, hlen, hlk⟩ := hc
    have hturn : Inv E G gs (S.turn r none) tmps w := by
      have := hi.turn (w' := w) (x := none) (ob := (gs r).1) (F := (gs r).2) hr rfl rfl rfl (Nat.le_refl _) (fun _ _ _ => rfl) (hi.nod r row hr) (hi.own r row hr)
        (fun r' row' hne hr' b hb => hi.dis r' r row' row hr' hr hne b hb) (by simp)
      rwa [Gh.add_self] at this
    obtain ⟨F, hsub, hrel⟩ : ∃ F : List Nat, F.Sublist (gs.all r) ∧ Rel w G (.sl true row.n (row.xs.take len)) v F := by
      rcases vw_inv hx with ⟨row', k, cap, cur, e, b, hr', hob, g1, g2, g3, g4, g5, g6, rfl⟩ | ⟨row', hr', hob, hxs, _, _, rfl⟩
      · rw [hr] at hr'
        obtain rfl := Option.some.inj hr'
        have hk : k = 0 := by rcases g6 with h | h <;> omega
        subst hk
        have h := hi.row r row hr
        rw [hob] at h
        obtain ⟨cur', e', cap', h1, h2, h3, h4, h5, h6, h7⟩ := h.ex
        rw [g2] at h1
        simp only [Option.some.injEq, Obj.cells.injEq] at h1
        obtain ⟨rfl, rfl, _⟩ := h1
        unfold CellsRel at h7
        rw [if_neg (by simp [hlk])] at h7
        obtain ⟨F1, F2, e1, k1, _⟩ := h7.take_ (len * row.n)
        rw [flat_take len h5] at k1
        have hle : len * row.n ≤ row.xs.length * row.n := Nat.mul_le_mul_right _ hlen
        rw [List.take_take, Nat.min_eq_left hle] at k1
        refine ⟨b :: F1, ?_, .ow g2 (fun x hx => h5 x (List.mem_of_mem_take hx)) (by simp; omega) rfl k1 (by omega) g4 g3 fun v hv => h6 v ?_⟩
        · rw [show gs.all r = b :: (F1 ++ F2) by simp [Gh.all, hob, e1]]
          exact (List.sublist_append_left _ _).cons_cons _
        · have : cur.toList.take (len * row.n) = (cur.toList.take (row.xs.length * row.n)).take (len * row.n) := by rw [List.take_take, Nat.min_eq_left hle]
          rw [this] at hv
          exact List.mem_of_mem_take hv
      · rw [hr] at hr'
        obtain rfl := Option.some.inj hr'
        refine ⟨[], List.nil_sublist _, ?_⟩
        rw [hxs, List.take_nil]
        exact .nils
    refine ⟨F, ⟨hturn, ⟨?_, ?_, ?_⟩, ?_, ?_, ?_, ?_⟩, hrel⟩
    · exact List.nodup_append.2 ⟨(hi.nod r row hr).sublist hsub, hR.nod, fun b hb c hc e => by subst e; exact hR.dis r row hr b (hsub.subset hb) hc⟩
    · intro b hb
      rcases List.mem_append.1 hb with hb | hb
      · exact hi.own r row hr b (hsub.subset hb)
      · exact hR.own b hb
    · intro r' row' hr' b hb hb'
      rw [rowAt_turn hr] at hr'
      split at hr'
      · simp at hr'
      · rename_i hne
        obtain ⟨row0, h1, _⟩ := Option.map_eq_some_iff.1 hr'
        rcases List.mem_append.1 hb' with hb' | hb'
        · exact hi.dis r' r row0 row h1 hr hne b hb (hsub.subset hb')
        · exact hR.dis r' row0 h1 b hb hb'
    · intro hlt b hb
      rcases List.mem_append.1 hb with hb | hb
      · exact hi.block_lt hr b (hsub.subset hb)
      · exact hlt b hb
    · intro y u hy
      refine hy.stepK r (fun b hb => ⟨hb, rfl⟩) (fun r' hne => ⟨fun row' hr' => ⟨killRow r row', ?_, rfl, killRow_n _ _, killRow_len _ _, fun b cur e _ hh => ⟨cur, e, hh, rfl⟩⟩⟩) (by simp)
      rw [rowAt_turn hr, if_neg hne, hr']; rfl
    · intro r' row' hne hr' hlk'
      have : r' ≠ r := fun e => hne (by simp [e])
      rw [rowAt_turn hr, if_neg this, hr']
      simp [killRow, hlk']
    · simp [State.turn, killRows]
theorem kills_append (ks ks' : List Nat) (x : A) : kills (ks ++ ks') x = kills ks' (kills ks x) := by simp [kills]
theorem Stashed.trans {S' S'' : State} {R R' R'' : List Nat} {ks ks' : List Nat} (h : Stashed E G gs S S' tmps w R R' ks) (h' : Stashed E G gs S' S'' tmps w R' R'' ks') : Stashed E G gs S S'' tmps w R R'' (ks ++ ks') :=
  ⟨h'.inv, h'.res, fun hl => h'.lt (h.lt hl), fun x v hx => by rw [kills_append]; exact h'.step _ _ (h.step x v hx),
    fun r row hn hr hl => h'.rows r row (fun hm => hn (by simp [hm])) (h.rows r row (fun hm => hn (by simp [hm])) hr hl) hl, h'.len.trans h.len⟩
theorem Stashed.stepL {S' : State} {R R' ks : List Nat} (h : Stashed E G gs S S' tmps w R R' ks) : ∀ (xs : List A) (vs : List Value), TRelL w G S.rows gs xs vs [] → TRelL w G S'.rows gs (xs.map (kills ks)) vs []
  | xs, vs, hl => by
    generalize hF1 : ([] : List Nat) = F1 at hl
    cases hl with
    | nil => rw [← hF1]; exact .nil
    | cons h0 hl =>
      rename_i x v F xs vs Fs
      have hF' : F = [] ∧ Fs = [] := by simpa using hF1.symm
      obtain ⟨rfl, rfl⟩ := hF'
      exact .cons (F := []) (Fs := []) (h.step _ _ h0) (h.stepL xs vs hl)
theorem stashL_ok : ∀ (n : Nat) (xs : List A) (S : State) (vs : List Value) (R : List Nat), xs.length = n → Inv E G gs S tmps w → Res E G gs S.rows R → TRelL w G S.rows gs xs vs [] → (stashL S xs).1 →
    ∃ F, Stashed E G gs S (stashL S xs).2.2.1 tmps w R (F ++ R) (stashL S xs).2.2.2 ∧ RelL w G (stashL S xs).2.1 vs F := by
  intro n
  induction n with
  | zero =>
    intro xs S vs R hn hi hR hx hc
    obtain rfl := List.eq_nil_of_length_eq_zero hn
    have hv : vs = [] := List.eq_nil_of_length_eq_zero (by rw [hx.length]; rfl)
    subst hv
    simp only [stashL]
    exact ⟨[], ⟨hi, by simpa using hR, fun h => by simpa using h, fun x v h => h, fun r row _ h _ => h, rfl⟩, .nil⟩
  | succ n ih =>
    intro xs S vs R hn hi hR hx hc
    cases xs with
    | nil => simp at hn
    | cons x xs =>
      generalize hF0 : ([] : List Nat) = F0 at hx
      cases hx with
      | cons h hl =>
        rename_i v F vs Fs
        have hF' : F = [] ∧ Fs = [] := by simpa using hF0.symm
        obtain ⟨rfl, rfl⟩ := hF'
        rw [stashL] at hc ⊢
        generalize hs1 : stash1 S x = p at hc ⊢
        obtain ⟨c, y, S1, ks⟩ := p
        simp only at hc ⊢
        generalize hs2 : stashL S1 (xs.map (kills ks)) = p2 at hc ⊢
        obtain ⟨c', ys, S2, ks'⟩ := p2
        simp only at hc ⊢
        obtain ⟨F1, hst, hrel⟩ := stash1_ok hi hR h (by rw [hs1]; exact hc.1)
        rw [hs1] at hst hrel
        simp only at hst hrel
        have hrest : TRelL w G S1.rows gs (xs.map (kills ks)) vs [] := hst.stepL xs vs hl
        obtain ⟨F2, hst2, hrel2⟩ := ih (xs.map (kills ks)) S1 vs (F1 ++ R) (by simpa using hn) hst.inv hst.res hrest (by rw [hs2]; exact hc.2)
        rw [hs2] at hst2 hrel2
        simp only at hst2 hrel2
        have hnd : (F2 ++ (F1 ++ R)).Nodup := hst2.res.nod
        refine ⟨F1 ++ F2, ?_, .cons hrel hrel2⟩
        have hperm : ∀ b, b ∈ F1 ++ F2 ++ R ↔ b ∈ F2 ++ (F1 ++ R) := fun b => by
          simp only [List.mem_append]
          constructor
          · rintro ((h | h) | h)
            · exact .inr (.inl h)
            · exact .inl h
            · exact .inr (.inr h)
          · rintro (h | (h | h))
            · exact .inl (.inr h)
            · exact .inl (.inl h)
            · exact .inr h
        have ht := hst.trans hst2
        refine ⟨ht.inv, ⟨?_, fun b hb => ht.res.own b ((hperm b).1 hb), fun r row hr b hb hb' => ht.res.dis r row hr b hb ((hperm b).1 hb')⟩, fun hl b hb => ht.lt hl b ((hperm b).1 hb), ht.step, ht.rows, ht.len⟩
        rw [List.nodup_append] at hnd
        obtain ⟨n1, n2, n3⟩ := hnd
        rw [List.nodup_append] at n2
        obtain ⟨n4, n5, n6⟩ := n2
        rw [List.nodup_append, List.nodup_append]
        exact ⟨⟨n4, n1, fun b hb c hc e => n3 c hc b (by simp [hb]) e.symm⟩, n5, fun b hb c hc e => by
          rcases List.mem_append.1 hb with hb | hb
          · exact n6 b hb c hc e
          · exact n3 b hb c (by simp [hc]) e⟩
end
end Go.Fw

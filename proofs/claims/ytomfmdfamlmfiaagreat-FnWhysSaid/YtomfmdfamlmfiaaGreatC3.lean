/- Calls that write into what they are handed. Plain theorems, no condition. -/
import Derived.Test.YtomfmdfamlmfiaaGreatC2
import Derived.Test.YtomfmdfamlmfiaaGreatProg
import Derived.OrdersHeld
set_option linter.unusedVariables false
set_option linter.unusedSimpArgs false
namespace Go.Fw

/-- A contract of a function that may write into what it is handed as held alone: told 'outs' afterwards. -/
structure MCtr (P : Program) (g : Nat) (args : List A) (x : A) (outs : List A) : Prop where
  enter : Enter P g
  run : ∀ (w : World) (G : Nat → Prop) (vs : List Value) (F : List Nat), GoodG P w G → F.Nodup → (∀ b ∈ F, ¬ G b) → RelL w G args vs F → Calls P g vs.toArray w (fun e w' => ∃ v Fx Fo, e = .returned v ∧
    (w'.os = w.os ∧ w'.tape = w.tape ∧ w'.output = w.output ∧ w.heap.size ≤ w'.heap.size ∧ ∀ b, b < w.heap.size → b ∉ F → w'.heap[b]? = w.heap[b]?) ∧
    (Fx ++ Fo).Nodup ∧ (∀ b ∈ Fx ++ Fo, b ∈ F ∨ w.heap.size ≤ b) ∧ Rel w' (fun b => (G b ∨ b ∈ F ∨ (w.heap.size ≤ b ∧ b < w'.heap.size)) ∧ b ∉ Fx ++ Fo) x v Fx ∧
    RelL w' (fun b => (G b ∨ b ∈ F ∨ (w.heap.size ≤ b ∧ b < w'.heap.size)) ∧ b ∉ Fx ++ Fo) outs vs Fo)

/-- The same, of some result and some 'outs' of which R speaks. -/
structure XCtr (P : Program) (g : Nat) (args : List A) (R : A → List A → Prop) : Prop where
  enter : Enter P g
  run : ∀ (w : World) (G : Nat → Prop) (vs : List Value) (F : List Nat), GoodG P w G → F.Nodup → (∀ b ∈ F, ¬ G b) → RelL w G args vs F → Calls P g vs.toArray w (fun e w' => ∃ v Fx Fo x outs, R x outs ∧ e = .returned v ∧
    (w'.os = w.os ∧ w'.tape = w.tape ∧ w'.output = w.output ∧ w.heap.size ≤ w'.heap.size ∧ ∀ b, b < w.heap.size → b ∉ F → w'.heap[b]? = w.heap[b]?) ∧
    (Fx ++ Fo).Nodup ∧ (∀ b ∈ Fx ++ Fo, b ∈ F ∨ w.heap.size ≤ b) ∧ Rel w' (fun b => (G b ∨ b ∈ F ∨ (w.heap.size ≤ b ∧ b < w'.heap.size)) ∧ b ∉ Fx ++ Fo) x v Fx ∧
    RelL w' (fun b => (G b ∨ b ∈ F ∨ (w.heap.size ≤ b ∧ b < w'.heap.size)) ∧ b ∉ Fx ++ Fo) outs vs Fo)
theorem XCtr.m {P : Program} {g : Nat} {args : List A} {x : A} {outs : List A} (h : XCtr P g args fun x' o' => x' = x ∧ o' = outs) : MCtr P g args x outs :=
  ⟨h.enter, fun w G vs F h1 h2 h3 h4 => Calls.mono (h.run w G vs F h1 h2 h3 h4) (by
    rintro e w' ⟨v, Fx, Fo, x', o', ⟨rfl, rfl⟩, rfl, h⟩
    exact ⟨v, Fx, Fo, rfl, h⟩)⟩
theorem MCtr.x {P : Program} {g : Nat} {args : List A} {x : A} {outs : List A} (h : MCtr P g args x outs) {R : A → List A → Prop} (hR : R x outs) : XCtr P g args R :=
  ⟨h.enter, fun w G vs F h1 h2 h3 h4 => Calls.mono (h.run w G vs F h1 h2 h3 h4) (by
    rintro e w' ⟨v, Fx, Fo, rfl, h⟩
    exact ⟨v, Fx, Fo, x, outs, hR, rfl, h⟩)⟩
mutual
inductive Mut (S : State) : A → A → A → List (Nat × List A) → Prop
  | row {r len : Nat} {row : Row} {xs' : List A} (hr : rowAt S.rows r = some row) (hlk : row.lk = false) (hl : len = row.xs.length) (hl' : xs'.length = row.xs.length) : Mut S (.vw r 0 len) (.sl true row.n row.xs) (.sl true row.n xs') [(r, xs')]
  | pt {r : Nat} {row : Row} {ys' : List A} (hr : rowAt S.rows r = some row) (h1 : row.xs.length = 1) (hlk : row.lk = true) (hd : (flat row.xs).all isData = true) (hl : ys'.length = row.n) : Mut S (.pt r 0 0) (.bx (flat row.xs)) (.bx ys') [(r, [.agg ys'])]
  | data {x : A} (hd : isData x = true) (hn : noOwn x = true) : Mut S x x x []
  | agg {xs ys zs : List A} {l : List (Nat × List A)} (h : MutL S xs ys zs l) : Mut S (.agg xs) (.agg ys) (.agg zs) l
inductive MutL (S : State) : List A → List A → List A → List (Nat × List A) → Prop
  | nil : MutL S [] [] [] []
  | cons {x y z : A} {xs ys zs : List A} {l ls : List (Nat × List A)} (h : Mut S x y z l) (hl : MutL S xs ys zs ls) : MutL S (x :: xs) (y :: ys) (z :: zs) (l ++ ls)
end
def blocksOf (gs : Gh) (l : List (Nat × List A)) : List Nat := l.flatMap fun p => gs.all p.1
theorem blocksOf_append (gs : Gh) (l ls : List (Nat × List A)) : blocksOf gs (l ++ ls) = blocksOf gs l ++ blocksOf gs ls := by simp [blocksOf]
theorem blocksOf_congr {gs gs' : Gh} : ∀ {l : List (Nat × List A)}, (∀ p ∈ l, gs p.1 = gs' p.1) → blocksOf gs l = blocksOf gs' l
  | [], _ => rfl
  | p :: l, h => by
    have ih := blocksOf_congr (l := l) fun q hq => h q (by simp [hq])
    simp only [blocksOf, List.flatMap_cons] at ih ⊢
    rw [ih]
    simp only [Gh.all]; rw [h p (by simp)]
def mutRows : List (Nat × List A) → List (Option Row) → List (Option Row)
  | [], rows => rows
  | (r, xs) :: l, rows => mutRows l (rows.set r ((rowAt rows r).map fun row => { row with xs := xs }))
def State.mut (S : State) (l : List (Nat × List A)) : State := { S with rows := mutRows l S.rows }

theorem rowAt_set' (rows : List (Option Row)) (q : Nat) (f : Row → Row) (r : Nat) : rowAt (rows.set q ((rowAt rows q).map f)) r = if r = q then (rowAt rows q).map f else rowAt rows r := by
  by_cases hq : q < rows.length
  · rw [rowAt_set _ _ _ _ hq]
  · rw [rowAt_none (by omega : rows.length ≤ q)]
    rw [List.set_eq_of_length_le (by omega)]
    split
    · rename_i h; subst h; rw [rowAt_none (by omega)]; rfl
    · rfl
theorem rowAt_mut_not : ∀ (l : List (Nat × List A)) (rows : List (Option Row)) (r : Nat), r ∉ l.map (·.1) → rowAt (mutRows l rows) r = rowAt rows r
  | [], rows, r, _ => rfl
  | (q, xs) :: l, rows, r, h => by
    simp only [List.map_cons, List.mem_cons, not_or] at h
    rw [mutRows, rowAt_mut_not l _ r h.2, rowAt_set', if_neg h.1]
theorem rowAt_mut : ∀ (l : List (Nat × List A)) (rows : List (Option Row)) (r : Nat) (xs : List A), (l.map (·.1)).Nodup → (r, xs) ∈ l → rowAt (mutRows l rows) r = (rowAt rows r).map fun row => { row with xs := xs }
  | [], rows, r, xs, _, h => by simp at h
  | (q, ys) :: l, rows, r, xs, hn, h => by
    simp only [List.map_cons, List.nodup_cons] at hn
    rw [mutRows]
    rcases List.mem_cons.1 h with h2 | h2
    · simp only [Prod.mk.injEq] at h2
      obtain ⟨rfl, rfl⟩ := h2
      rw [rowAt_mut_not l _ r hn.1, rowAt_set', if_pos rfl]
    · have hne : r ≠ q := fun e => hn.1 (by rw [← e]; exact List.mem_map.2 ⟨(r, xs), h2, rfl⟩)
      rw [rowAt_mut l _ r xs hn.2 h2, rowAt_set', if_neg hne]
section
variable {P : Program} {E : Env P} {G : Nat → Prop} {gs : Gh} {S : State} {w : World} {tmps : Array Value}

theorem box_cells (hi : Inv E G gs S tmps w) {r b : Nat} {row : Row} (hr : rowAt S.rows r = some row) (hob : (gs r).1 = some b) (h1 : row.xs.length = 1) (hlk : row.lk = true) (hd : (flat row.xs).all isData = true) :
    ∃ cur e, w.heap[b]? = some (.cells cur e (0, 0)) ∧ cur.size = row.n ∧ RelL w G (flat row.xs) cur.toList (gs r).2 ∧ ∀ v ∈ cur.toList, cellV v = true := by
  have h := hi.row r row hr
  rw [hob] at h
  obtain ⟨cur, e, cap, g1, g2, g3, g4, g5, g6, g7⟩ := h.ex
  rw [h1, Nat.one_mul] at g6 g7
  unfold CellsRel at g7
  rw [if_pos hlk] at g7
  have hcap : cap = 1 := (g3.one hlk).trans h1
  have hsz : cur.size = row.n := by rw [g2, hcap, Nat.one_mul]
  have hall : cur.toList.take row.n = cur.toList := by
    rw [List.take_of_length_le]
    rw [Array.length_toList, hsz]
    exact Nat.le_refl _
  rw [hall] at g6 g7
  exact ⟨cur, e, g1, hsz, g7.data hd, g6⟩
/-- What is handed over. -/
theorem mut_give (hi : Inv E G gs S tmps w) {x y z : A} {l : List (Nat × List A)} (h : Mut S x y z l) : ∀ {v : Value}, TRel w G S.rows gs x v [] → Rel w G y v (blocksOf gs l) := by
  refine Mut.rec (motive_1 := fun x y z l _ => ∀ {v : Value}, TRel w G S.rows gs x v [] → Rel w G y v (blocksOf gs l))
    (motive_2 := fun xs ys zs l _ => ∀ {vs : List Value}, TRelL w G S.rows gs xs vs [] → RelL w G ys vs (blocksOf gs l)) ?_ ?_ ?_ ?_ ?_ ?_ h
  · intro r len row xs' hr hlk hl hl' v hx
    have hb : blocksOf gs [(r, xs')] = gs.all r := by simp [blocksOf]
    rw [hb]
    rcases vw_inv hx with ⟨row', k, cap, cur, e, b, hr', hob, g1, g2, g3, g4, g5, g6, hv⟩ | ⟨row', hr', hob, hx0, _, hlen, hv⟩
    · rw [hr] at hr'
      obtain rfl := Option.some.inj hr'
      have hrr := hi.row r row hr
      rw [hob] at hrr
      obtain ⟨cur', e', cap', h1, h2, h3, h4, h5, h6, h7⟩ := hrr.ex
      rw [g2] at h1
      simp only [Option.some.injEq, Obj.cells.injEq] at h1
      obtain ⟨rfl, rfl, _⟩ := h1
      unfold CellsRel at h7
      rw [if_neg (by simp [hlk])] at h7
      have hk : k = 0 := by rcases g6 with g | g <;> omega
      subst hk
      rw [hv, show gs.all r = b :: (gs r).2 by simp [Gh.all, hob], hl]
      exact .ow g2 h5 rfl rfl h7 (by omega) (by omega) g3 h6
    · rw [hr] at hr'
      obtain rfl := Option.some.inj hr'
      have hgn := vw_nil hx hob
      rw [hv, show gs.all r = [] by simp [Gh.all, hgn], hx0]
      exact .nils
  · intro r row ys' hr h1 hlk hd hl v hx
    obtain ⟨row', b, hr', hob, hv⟩ := pt_inv hx
    rw [hr] at hr'
    obtain rfl := Option.some.inj hr'
    obtain ⟨cur, e, hh, hs, hrel, h6⟩ := box_cells hi hr hob h1 hlk hd
    have hb : blocksOf gs [(r, [A.agg ys'])] = gs.all r := by simp [blocksOf]
    rw [hb, show gs.all r = b :: (gs r).2 by simp [Gh.all, hob], hv, show 0 * row.n + 0 = 0 by simp]
    exact .bx hh hrel h6
  · intro x hd hn v hx
    exact hx.data hd
  · intro xs ys zs l h ih v hx
    obtain ⟨cs, rfl, hl⟩ := agg_inv hx
    have := Rel.agg (ih hl)
    simpa using this
  · intro vs hx
    generalize hF : ([] : List Nat) = F at hx
    cases hx
    exact .nil
  · intro x y z xs ys zs l ls h hl ih ih' vs hx
    generalize hF : ([] : List Nat) = F at hx
    cases hx with
    | cons h1 h2 =>
      rename_i v F1 vs Fs
      have hF' : F1 = [] ∧ Fs = [] := by simpa using hF.symm
      obtain ⟨rfl, rfl⟩ := hF'
      rw [blocksOf_append]
      exact .cons (ih h1) (ih' h2)
theorem mut_giveL (hi : Inv E G gs S tmps w) {xs ys zs : List A} {l : List (Nat × List A)} (h : MutL S xs ys zs l) {vs : List Value} (hx : TRelL w G S.rows gs xs vs []) : RelL w G ys vs (blocksOf gs l) := by
  have := mut_give hi (.agg h) (.agg hx)
  cases this with | agg h => simpa using h

/-- What comes back of it. -/
structure Back (S : State) (w w' : World) (G' : Nat → Prop) (gs gs' : Gh) (l : List (Nat × List A)) : Prop where
  row : ∀ r xs, (r, xs) ∈ l → ∃ row, rowAt S.rows r = some row ∧ ((gs r).1 = none → gs' r = gs r) ∧ xs.length = row.xs.length ∧ (gs' r).1 = (gs r).1 ∧ (∀ rows'' gs'', RowRel w' G' rows'' gs'' { row with xs := xs } (gs' r).1 (gs' r).2) ∧
    ∀ b cur e, (gs r).1 = some b → w.heap[b]? = some (.cells cur e (0, 0)) → ∃ cur' e', w'.heap[b]? = some (.cells cur' e' (0, 0)) ∧ cur'.size = cur.size
  frame : ∀ r, r ∉ l.map (·.1) → gs' r = gs r
theorem mut_back (hi : Inv E G gs S tmps w) {w' : World} {G' : Nat → Prop} {x y z : A} {l : List (Nat × List A)} (h : Mut S x y z l) : ∀ {v : Value} {F : List Nat}, (l.map (·.1)).Nodup → TRel w G S.rows gs x v [] → Rel w' G' z v F → ∃ gs', Back S w w' G' gs gs' l ∧ F = blocksOf gs' l := by
  refine Mut.rec (motive_1 := fun x y z l _ => ∀ {v : Value} {F : List Nat}, (l.map (·.1)).Nodup → TRel w G S.rows gs x v [] → Rel w' G' z v F → ∃ gs', Back S w w' G' gs gs' l ∧ F = blocksOf gs' l)
    (motive_2 := fun xs ys zs l _ => ∀ {vs : List Value} {F : List Nat}, (l.map (·.1)).Nodup → TRelL w G S.rows gs xs vs [] → RelL w' G' zs vs F → ∃ gs', Back S w w' G' gs gs' l ∧ F = blocksOf gs' l) ?_ ?_ ?_ ?_ ?_ ?_ h
  · intro r len row xs' hr hlk hl hl' v F hnd hx hz
    rcases vw_inv hx with ⟨row', k, cap, cur, e, b, hr', hob, g1, g2, g3, g4, g5, g6, hv⟩ | ⟨row', hr', hob, hx0, _, hlen, hv⟩
    · rw [hr] at hr'
      obtain rfl := Option.some.inj hr'
      have hk : k = 0 := by rcases g6 with g | g <;> omega
      subst hk
      subst hv
      cases hz with
      | ow hh hw hlen hc hl2 hcap hm hs hv0 =>
        rename_i cur' e' cs F'
        refine ⟨gs.add r (some b) F', ⟨fun r2 xs2 h2 => ?_, fun r2 h2 => ?_⟩, by simp [blocksOf, Gh.all, Gh.add]⟩
        · simp only [List.mem_singleton, Prod.mk.injEq] at h2
          obtain ⟨rfl, rfl⟩ := h2
          have hself : (gs.add r2 (some b) F') r2 = (some b, F') := by simp [Gh.add]
          refine ⟨row, hr, (fun hn => by rw [hob] at hn; cases hn), hl', by rw [hself]; exact hob.symm, fun rows'' gs'' => ?_, fun b2 cur2 e2 hb2 hh2 => ?_⟩
          · rw [hself]
            refine ⟨cur', e', cap, hh, by simpa using hs, by show CapOK row.lk xs2.length cap; rw [hlk]; exact .of (by omega), by omega, hw, ?_, ?_⟩
            · show ∀ v ∈ cur'.toList.take (xs2.length * row.n), _
              rw [← hlen, ← hc]; exact hv0
            · show CellsRel row.lk w' G' rows'' gs'' (flat xs2) (cur'.toList.take (xs2.length * row.n)) F'
              unfold CellsRel
              rw [if_neg (by simp [hlk]), ← hlen, ← hc]; exact hl2
          · rw [hob] at hb2
            obtain rfl := Option.some.inj hb2
            rw [g2] at hh2
            simp only [Option.some.injEq, Obj.cells.injEq] at hh2
            obtain ⟨rfl, rfl, _⟩ := hh2
            exact ⟨cur', e', hh, by rw [hs, g3]; simp⟩
        · have : r2 ≠ r := by simpa using h2
          simp [Gh.add, this]
    · rw [hr] at hr'
      obtain rfl := Option.some.inj hr'
      have hgn := vw_nil hx hob
      subst hv
      have h0 : xs' = [] := List.eq_nil_of_length_eq_zero (by rw [hl', hx0]; rfl)
      subst h0
      cases hz
      refine ⟨gs.add r none [], ⟨fun r2 xs2 h2 => ?_, fun r2 h2 => ?_⟩, by simp [blocksOf, Gh.all, Gh.add]⟩
      · simp only [List.mem_singleton, Prod.mk.injEq] at h2
        obtain ⟨rfl, rfl⟩ := h2
        have hself : (gs.add r2 none []) r2 = (none, []) := by simp [Gh.add]
        exact ⟨row, hr, (fun _ => by rw [hself, hgn]), hl', by rw [hself]; exact hob.symm, fun rows'' gs'' => by rw [hself]; exact .inl ⟨rfl, rfl⟩, fun b2 cur2 e2 hb2 => by rw [hob] at hb2; simp at hb2⟩
      · have : r2 ≠ r := by simpa using h2
        simp [Gh.add, this]
  · intro r row ys' hr h1 hlk hd hl v F hnd hx hz
    obtain ⟨row', b, hr', hob, hv⟩ := pt_inv hx
    rw [hr] at hr'
    obtain rfl := Option.some.inj hr'
    obtain ⟨cur, e, hh, hs, -, -⟩ := box_cells hi hr hob h1 hlk hd
    rw [hv, show 0 * row.n + 0 = 0 by simp] at hz
    cases hz with
    | bx hh' hl' hv' =>
      rename_i cur' e' F'
      have hsz : cur'.size = row.n := by have := hl'.length; rw [Array.length_toList] at this; omega
      have htk : cur'.toList.take ([A.agg ys'].length * row.n) = cur'.toList := by
        rw [List.take_of_length_le]
        rw [Array.length_toList, hsz, List.length_singleton, Nat.one_mul]
        exact Nat.le_refl _
      refine ⟨gs.add r (some b) F', ⟨fun r2 xs2 h2 => ?_, fun r2 h2 => ?_⟩, by simp [blocksOf, Gh.all, Gh.add]⟩
      · simp only [List.mem_singleton, Prod.mk.injEq] at h2
        obtain ⟨rfl, rfl⟩ := h2
        have hself : (gs.add r2 (some b) F') r2 = (some b, F') := by simp [Gh.add]
        refine ⟨row, hr, (fun hn => by rw [hob] at hn; cases hn), by rw [h1]; rfl, by rw [hself]; exact hob.symm, fun rows'' gs'' => ?_, fun b2 cur2 e2 hb2 hh2 => ?_⟩
        · rw [hself]
          refine ⟨cur', e', 1, hh', by simpa using hsz, ⟨Nat.le_refl _, fun _ => rfl⟩, by simp [maxLen], ?_, ?_, ?_⟩
          · intro x hx
            have : x = A.agg ys' := by simpa using hx
            rw [this]
            exact hl
          · show ∀ v ∈ cur'.toList.take ([A.agg ys'].length * row.n), _
            rw [htk]; exact hv'
          · show CellsRel row.lk w' G' rows'' gs'' (flat [A.agg ys']) (cur'.toList.take ([A.agg ys'].length * row.n)) F'
            unfold CellsRel
            rw [if_pos hlk, htk, show flat [A.agg ys'] = ys' by simp [flat, A.cells]]
            exact .of hl'
        · rw [hob] at hb2
          obtain rfl := Option.some.inj hb2
          rw [hh] at hh2
          simp only [Option.some.injEq, Obj.cells.injEq] at hh2
          obtain ⟨rfl, rfl, _⟩ := hh2
          exact ⟨cur', e', hh', by rw [hsz, hs]⟩
      · have : r2 ≠ r := by simpa using h2
        simp [Gh.add, this]
  · intro x hd hn v F hnd hx hz
    have := hz.noOwn hn
    subst this
    exact ⟨gs, ⟨fun r xs h => by simp at h, fun r h => rfl⟩, rfl⟩
  · intro xs ys zs l h ih v F hnd hx hz
    obtain ⟨cs, rfl, hl⟩ := agg_inv hx
    cases hz with
    | agg hz => exact ih hnd (by simpa using hl) hz
  · intro vs F hnd hx hz
    cases hz
    exact ⟨gs, ⟨fun r xs h => by simp at h, fun r h => rfl⟩, rfl⟩
  · intro x y z xs ys zs l ls h hl ih ih' vs F hnd hx hz
    generalize hF : ([] : List Nat) = F0 at hx
    cases hx with
    | cons h1 h2 =>
      rename_i v F1 vs Fs
      have hF' : F1 = [] ∧ Fs = [] := by simpa using hF.symm
      obtain ⟨rfl, rfl⟩ := hF'
      cases hz with
      | cons z1 z2 =>
        rename_i Fa Fb
        rw [List.map_append, List.nodup_append] at hnd
        obtain ⟨n1, n2, n3⟩ := hnd
        obtain ⟨gs1, b1, rfl⟩ := ih n1 h1 z1
        obtain ⟨gs2, b2, rfl⟩ := ih' n2 h2 z2
        let gs' : Gh := fun r => if r ∈ l.map (·.1) then gs1 r else gs2 r
        have e1 : ∀ r, r ∈ l.map (·.1) → gs' r = gs1 r := fun r h => if_pos h
        have e2 : ∀ r, r ∈ ls.map (·.1) → gs' r = gs2 r := fun r h => if_neg fun h' => n3 r h' r h rfl
        refine ⟨gs', ⟨fun r xs hm => ?_, fun r hm => ?_⟩, ?_⟩
        · rcases List.mem_append.1 hm with hm | hm
          · rw [e1 r (List.mem_map.2 ⟨_, hm, rfl⟩)]; exact b1.row r xs hm
          · rw [e2 r (List.mem_map.2 ⟨_, hm, rfl⟩)]; exact b2.row r xs hm
        · rw [List.map_append, List.mem_append, not_or] at hm
          show (if r ∈ l.map (·.1) then gs1 r else gs2 r) = gs r
          rw [if_neg hm.1]; exact b2.frame r hm.2
        · rw [blocksOf_append]
          have f1 : blocksOf gs' l = blocksOf gs1 l := blocksOf_congr fun p hp => e1 p.1 (List.mem_map.2 ⟨p, hp, rfl⟩)
          have f2 : blocksOf gs' ls = blocksOf gs2 ls := blocksOf_congr fun p hp => e2 p.1 (List.mem_map.2 ⟨p, hp, rfl⟩)
          rw [f1, f2]
theorem mut_backL (hi : Inv E G gs S tmps w) {w' : World} {G' : Nat → Prop} {xs ys zs : List A} {l : List (Nat × List A)} (h : MutL S xs ys zs l) {vs : List Value} {F : List Nat} (hnd : (l.map (·.1)).Nodup) (hx : TRelL w G S.rows gs xs vs []) (hz : RelL w' G' zs vs F) :
    ∃ gs', Back S w w' G' gs gs' l ∧ F = blocksOf gs' l := mut_back hi (.agg h) hnd (.agg hx) (.agg hz)
theorem mem_blocksOf {gs : Gh} {l : List (Nat × List A)} {b : Nat} : b ∈ blocksOf gs l ↔ ∃ p ∈ l, b ∈ gs.all p.1 := by simp [blocksOf]
theorem mut_rows {x y z : A} {l : List (Nat × List A)} (h : Mut S x y z l) : ∀ p ∈ l, ∃ row, rowAt S.rows p.1 = some row := by
  refine Mut.rec (motive_1 := fun x y z l _ => ∀ p ∈ l, ∃ row, rowAt S.rows p.1 = some row) (motive_2 := fun xs ys zs l _ => ∀ p ∈ l, ∃ row, rowAt S.rows p.1 = some row) ?_ ?_ ?_ ?_ ?_ ?_ h
  · intro r len row xs' hr hlk hl hl' p hp
    simp only [List.mem_singleton] at hp
    subst hp
    exact ⟨row, hr⟩
  · intro r row ys' hr h1 hlk hd hl p hp
    simp only [List.mem_singleton] at hp
    subst hp
    exact ⟨row, hr⟩
  · intros; simp_all
  · intro xs ys zs l h ih; exact ih
  · intros; simp_all
  · intro x y z xs ys zs l ls h hl ih ih' p hp
    rcases List.mem_append.1 hp with hp | hp
    · exact ih p hp
    · exact ih' p hp
theorem blocks_sub {gs : Gh} : ∀ {l : List (Nat × List A)} {p : Nat × List A}, p ∈ l → (gs.all p.1).Sublist (blocksOf gs l)
  | q :: l, p, h => by
    show (gs.all p.1).Sublist (gs.all q.1 ++ blocksOf gs l)
    rcases List.mem_cons.1 h with rfl | h
    · exact List.sublist_append_left _ _
    · exact (blocks_sub h).trans (List.sublist_append_right _ _)
/-- Two rows of the list have no block in common. -/
theorem blocks_apart {gs : Gh} : ∀ {l : List (Nat × List A)} {p q : Nat × List A}, (blocksOf gs l).Nodup → p ∈ l → q ∈ l → p.1 ≠ q.1 → ∀ b ∈ gs.all p.1, b ∉ gs.all q.1
  | x :: l, p, q, hn, hp, hq, hne, b, hb, hb2 => by
    have hn' : (gs.all x.1 ++ blocksOf gs l).Nodup := hn
    rw [List.nodup_append] at hn'
    obtain ⟨h1, h2, h3⟩ := hn'
    rcases List.mem_cons.1 hp with hp1 | hp1
    · rcases List.mem_cons.1 hq with hq1 | hq1
      · subst hp1; subst hq1; exact hne rfl
      · subst hp1; exact h3 b hb b (mem_blocksOf.2 ⟨_, hq1, hb2⟩) rfl
    · rcases List.mem_cons.1 hq with hq1 | hq1
      · subst hq1; exact h3 b hb2 b (mem_blocksOf.2 ⟨_, hp1, hb⟩) rfl
      · exact blocks_apart h2 hp1 hq1 hne b hb hb2
theorem blocks_nodup (hi : Inv E G gs S tmps w) : ∀ {l : List (Nat × List A)}, (l.map (·.1)).Nodup → (∀ p ∈ l, ∃ row, rowAt S.rows p.1 = some row) → (blocksOf gs l).Nodup
  | [], _, _ => by simp [blocksOf]
  | p :: l, hn, hr => by
    simp only [List.map_cons, List.nodup_cons] at hn
    obtain ⟨row, hrow⟩ := hr p (by simp)
    have ih := blocks_nodup hi hn.2 fun q hq => hr q (by simp [hq])
    show (gs.all p.1 ++ blocksOf gs l).Nodup
    rw [List.nodup_append]
    refine ⟨hi.nod p.1 row hrow, ih, fun a ha b hb hab => ?_⟩
    subst hab
    obtain ⟨q, hq, hb⟩ := mem_blocksOf.1 hb
    obtain ⟨row', hrow'⟩ := hr q (by simp [hq])
    exact hi.dis p.1 q.1 row row' hrow hrow' (fun e => hn.1 (by rw [e]; exact List.mem_map.2 ⟨q, hq, rfl⟩)) a ha hb
theorem mut_post {k : Nat} {args ys outs : List A} {x : A} {l : List (Nat × List A)} {K : A → State → Prop} (hi : Inv E G gs S tmps w) {vs : List Value} (hl : TRelL w G S.rows gs args vs []) (hm : MutL S args ys outs l) (hnd : (l.map (·.1)).Nodup)
    (hno : noOwn (rootA k (S.mut l) x).1 = true) (hK : K (rootA k (S.mut l) x).1 (rootA k (S.mut l) x).2) {w' : World} {v : Value} {Fx Fo : List Nat} (hf : (w'.os = w.os ∧ w'.tape = w.tape ∧ w'.output = w.output ∧ w.heap.size ≤ w'.heap.size ∧ ∀ b, b < w.heap.size → b ∉ blocksOf gs l → w'.heap[b]? = w.heap[b]?) ∧
    (Fx ++ Fo).Nodup ∧ (∀ b ∈ Fx ++ Fo, b ∈ blocksOf gs l ∨ w.heap.size ≤ b) ∧ Rel w' (fun b => (G b ∨ b ∈ blocksOf gs l ∨ (w.heap.size ≤ b ∧ b < w'.heap.size)) ∧ b ∉ Fx ++ Fo) x v Fx ∧
    RelL w' (fun b => (G b ∨ b ∈ blocksOf gs l ∨ (w.heap.size ≤ b ∧ b < w'.heap.size)) ∧ b ∉ Fx ++ Fo) outs vs Fo) :
    ∃ v' x' S' G' gs', Ending.returned v = .returned v' ∧ K x' S' ∧ Inv E G' gs' S' tmps w' ∧ TRel w' G' S'.rows gs' x' v' [] := by
  have hrows := mut_rows (.agg hm)
  have hFnd := blocks_nodup hi hnd hrows
  have hFown : ∀ b ∈ blocksOf gs l, ¬ G b ∧ (E.Fin b ∨ E.w0.heap.size ≤ b) ∧ b < w.heap.size := fun b hb => by
    obtain ⟨p, hp, hb⟩ := mem_blocksOf.1 hb
    obtain ⟨row, hr⟩ := hrows p hp
    obtain ⟨h1, h2⟩ := hi.own p.1 row hr b hb
    exact ⟨h1, h2, hi.block_lt hr b hb⟩
  have hFdis : ∀ r row, rowAt S.rows r = some row → r ∉ l.map (·.1) → ∀ b ∈ gs.all r, b ∉ blocksOf gs l := fun r row hr hn b hb hb2 => by
    obtain ⟨p, hp, hb2⟩ := mem_blocksOf.1 hb2
    obtain ⟨row', hr'⟩ := hrows p hp
    exact hi.dis r p.1 row row' hr hr' (fun e => hn (by rw [e]; exact List.mem_map.2 ⟨p, hp, rfl⟩)) b hb hb2
  obtain ⟨⟨hos, htape, hout, hsize, hold⟩, hnd2, hmem, hx, ho⟩ := hf
  obtain ⟨gs', hb, rfl⟩ := mut_backL hi hm hnd hl ho
  have hGF : ∀ b, G b → b ∉ Fx ++ blocksOf gs' l := fun b h hF => by
    have := hi.glt b h
    rcases hmem b hF with h2 | h2
    · exact (hFown b h2).1 h
    · omega
  have hG : ∀ b, G b → ((G b ∨ b ∈ blocksOf gs l ∨ (w.heap.size ≤ b ∧ b < w'.heap.size)) ∧ b ∉ Fx ++ blocksOf gs' l) ∧ w'.heap[b]? = w.heap[b]? := fun b h => ⟨⟨.inl h, hGF b h⟩, hold b (hi.glt b h) fun hF => (hFown b hF).1 h⟩
  have hrow1 : ∀ r xs, (r, xs) ∈ l → rowAt (S.mut l).rows r = (rowAt S.rows r).map fun row => { row with xs := xs } := fun r xs h => rowAt_mut l S.rows r xs hnd h
  have hrow2 : ∀ r, r ∉ l.map (·.1) → rowAt (S.mut l).rows r = rowAt S.rows r := fun r h => rowAt_mut_not l S.rows r h
  have hle : ∀ r, RowLe w w' S.rows (S.mut l).rows gs gs' r := fun r => by
    by_cases hr : r ∈ l.map (·.1)
    · obtain ⟨⟨r', xs⟩, hp, rfl⟩ := List.mem_map.1 hr
      obtain ⟨row, h1, h2, h3, h4, h5, h6⟩ := hb.row _ _ hp
      refine ⟨fun row' h => ?_, fun row' h hn => ?_⟩
      case refine_2 => dsimp only at h hn ⊢; rw [h1] at h; obtain rfl := Option.some.inj h; exact h2 hn
      dsimp only at h
      rw [h1] at h
      obtain rfl := Option.some.inj h
      exact ⟨{ row with xs := xs }, by rw [hrow1 _ _ hp, h1]; rfl, h4, rfl, h3, fun b cur e hb' hh => h6 b cur e hb' hh⟩
    · exact RowLe.refl_of fun row h => ⟨by rw [hrow2 r hr]; exact h, by rw [hb.frame r hr], fun b hob => hold b (hi.block_lt h b (by simp [Gh.all, hob])) (hFdis r row h hr b (by simp [Gh.all, hob]))⟩
  have hcase : ∀ r row', rowAt (S.mut l).rows r = some row' → (∃ xs row, (r, xs) ∈ l ∧ rowAt S.rows r = some row ∧ row' = { row with xs := xs }) ∨ (r ∉ l.map (·.1) ∧ rowAt S.rows r = some row') := fun r row' h => by
    by_cases hr : r ∈ l.map (·.1)
    · obtain ⟨⟨r', xs⟩, hp, rfl⟩ := List.mem_map.1 hr
      rw [hrow1 _ _ hp] at h
      obtain ⟨row, h1, _⟩ := hb.row _ _ hp
      rw [h1] at h
      exact .inl ⟨xs, row, hp, h1, (Option.some.inj h).symm⟩
    · rw [hrow2 r hr] at h; exact .inr ⟨hr, h⟩
  have hin : ∀ r xs, (r, xs) ∈ l → ∀ b ∈ gs'.all r, b ∈ blocksOf gs' l := fun r xs h b hb' => mem_blocksOf.2 ⟨_, h, hb'⟩
  rw [List.nodup_append] at hnd2
  obtain ⟨n1, n2, n3⟩ := hnd2
  have hltR : ∀ r row, rowAt S.rows r = some row → r ∉ l.map (·.1) → ∀ b ∈ gs.all r, b ∉ Fx ++ blocksOf gs' l := fun r row h hn b hb hF => by
    have := hi.block_lt h b hb
    rcases hmem b hF with h2 | h2
    · exact hFdis r row h hn b hb h2
    · omega
  have hi' : Inv E (fun b => (G b ∨ b ∈ blocksOf gs l ∨ (w.heap.size ≤ b ∧ b < w'.heap.size)) ∧ b ∉ Fx ++ blocksOf gs' l) gs' (S.mut l) tmps w' := by
    refine ⟨fun b h hf => ?_, hos.trans hi.os, htape.trans hi.tape, hout.trans hi.output, Nat.le_trans hi.size hsize, hi.sz, fun b h => ⟨.inl (hi.gsub b h), hGF b (hi.gsub b h)⟩, fun b h => ?_, hi.glt.move (fun b h => (hG b h).1) (fun b h => (hG b h).2) (fun b h => ?_), fun r row' hr => ?_,
      fun r row' hr => ?_, fun r row' hr b hb' => ?_, fun r r' row row' hr hr' hne b hb1 hb2 => ?_, fun i => (hi.tmp i).step hG hle (by simp)⟩
    · rw [hold b (Nat.lt_of_lt_of_le h hi.size) fun hF => ?_]
      · exact hi.keep b h hf
      · rcases (hFown b hF).2.1 with h2 | h2
        · exact hf h2
        · omega
    · rcases h.1 with h | h | h
      · exact hi.gnew b h
      · exact .inr (hFown b h).2.1
      · exact .inr (.inr (Nat.le_trans hi.size h.1))
    · rcases h.1 with h | h | h
      · exact Nat.lt_of_lt_of_le (hi.glt b h) hsize
      · exact Nat.lt_of_lt_of_le (hFown b h).2.2 hsize
      · exact h.2
    · rcases hcase r row' hr with ⟨xs, row, hp, h1, rfl⟩ | ⟨hn, h1⟩
      · obtain ⟨row2, h2, _, _, _, h6, _⟩ := hb.row _ _ hp
        rw [h1] at h2
        obtain rfl := Option.some.inj h2
        exact h6 _ _
      · rw [hb.frame r hn]
        exact (hi.row r row' h1).step hG hle fun c hc => hold c (hi.block_lt h1 c hc) (hFdis r row' h1 hn c hc)
    · rcases hcase r row' hr with ⟨xs, row, hp, h1, rfl⟩ | ⟨hn, h1⟩
      · exact n2.sublist (blocks_sub hp)
      · have := hi.nod r row' h1
        simpa [Gh.all, hb.frame r hn] using this
    · rcases hcase r row' hr with ⟨xs, row, hp, h1, rfl⟩ | ⟨hn, h1⟩
      · have hbl := hin r xs hp b hb'
        refine ⟨fun h => h.2 (by rw [List.mem_append]; exact .inr hbl), ?_⟩
        rcases hmem b (by rw [List.mem_append]; exact .inr hbl) with h2 | h2
        · exact (hFown b h2).2.1
        · exact .inr (Nat.le_trans hi.size h2)
      · have hb2 : b ∈ gs.all r := by simpa [Gh.all, hb.frame r hn] using hb'
        obtain ⟨g1, g2⟩ := hi.own r row' h1 b hb2
        refine ⟨fun h => ?_, g2⟩
        have := hi.block_lt h1 b hb2
        rcases h.1 with h | h | h
        · exact g1 h
        · exact hFdis r row' h1 hn b hb2 h
        · omega
    · rcases hcase r row hr with ⟨xs, row1, hp, h1, rfl⟩ | ⟨hn, h1⟩
      · rcases hcase r' row' hr' with ⟨xs', row2, hp', h1', rfl⟩ | ⟨hn', h1'⟩
        · exact blocks_apart n2 hp hp' hne b hb1 hb2
        · exact hltR r' row' h1' hn' b (by simpa [Gh.all, hb.frame r' hn'] using hb2) (by rw [List.mem_append]; exact .inr (hin r xs hp b hb1))
      · rcases hcase r' row' hr' with ⟨xs', row2, hp', h1', rfl⟩ | ⟨hn', h1'⟩
        · exact hltR r row h1 hn b (by simpa [Gh.all, hb.frame r hn] using hb1) (by rw [List.mem_append]; exact .inr (hin r' xs' hp' b hb2))
        · exact hi.dis r r' row row' h1 h1' hne b (by simpa [Gh.all, hb.frame r hn] using hb1) (by simpa [Gh.all, hb.frame r' hn'] using hb2)
  have hR : Res E (fun b => (G b ∨ b ∈ blocksOf gs l ∨ (w.heap.size ≤ b ∧ b < w'.heap.size)) ∧ b ∉ Fx ++ blocksOf gs' l) gs' (S.mut l).rows (Fx ++ []) := by
    rw [List.append_nil]
    refine ⟨n1, fun b hb' => ⟨fun h => h.2 (by rw [List.mem_append]; exact .inl hb'), ?_⟩, fun r row' hr b hb1 hb2 => ?_⟩
    · rcases hmem b (by rw [List.mem_append]; exact .inl hb') with h2 | h2
      · exact (hFown b h2).2.1
      · exact .inr (Nat.le_trans hi.size h2)
    · rcases hcase r row' hr with ⟨xs, row, hp, h1, rfl⟩ | ⟨hn, h1⟩
      · exact n3 b hb2 b (hin r xs hp b hb1) rfl
      · exact hltR r row' h1 hn b (by simpa [Gh.all, hb.frame r hn] using hb1) (by rw [List.mem_append]; exact .inl hb2)
  obtain ⟨gs2, h1, h2⟩ := rootA_ok k (S.mut l) gs' x v Fx [] hi' hR (fun b hb' => hx.lt b (by simpa using hb')) hx hno
  exact ⟨v, _, _, _, gs2, rfl, hK, h1.inv, h2⟩
theorem CallOK_rel {g k : Nat} {args ys : List A} {R : A → List A → Prop} {K : A → State → Prop} (hc : XCtr P g ys R) (l0 : List (Nat × List A)) (hr0 : (l0.map (·.1)).Nodup)
    (h : ∀ x outs, R x outs → ∃ l, l.map (·.1) = l0.map (·.1) ∧ MutL S args ys outs l ∧ noOwn (rootA k (S.mut l) x).1 = true ∧ K (rootA k (S.mut l) x).1 (rootA k (S.mut l) x).2) (hg : ∃ outs, MutL S args ys outs l0) : CallOK P g args S K := by
  refine ⟨hc.enter, fun E G gs tmps w vs hi hl => ?_⟩
  obtain ⟨o0, hm0⟩ := hg
  have hrows := mut_rows (.agg hm0)
  have hFnd := blocks_nodup hi hr0 hrows
  have hFown : ∀ b ∈ blocksOf gs l0, ¬ G b ∧ (E.Fin b ∨ E.w0.heap.size ≤ b) ∧ b < w.heap.size := fun b hb => by
    obtain ⟨p, hp, hb⟩ := mem_blocksOf.1 hb
    obtain ⟨row, hr⟩ := hrows p hp
    obtain ⟨h1, h2⟩ := hi.own p.1 row hr b hb
    exact ⟨h1, h2, hi.block_lt hr b hb⟩
  refine Calls.mono (hc.run w G vs (blocksOf gs l0) hi.glt hFnd (fun b hb => (hFown b hb).1) (mut_giveL hi hm0 hl)) ?_
  rintro e w' ⟨v, Fx, Fo, x, outs, hR, rfl, hf⟩
  obtain ⟨l, hl1, hm, hno, hK⟩ := h x outs hR
  have e : blocksOf gs l = blocksOf gs l0 := by
    have : ∀ l : List (Nat × List A), blocksOf gs l = (l.map (·.1)).flatMap gs.all := fun l => by unfold blocksOf; rw [List.flatMap_map]
    rw [this, this, hl1]
  rw [← e] at hf
  exact mut_post hi hl hm (by rw [hl1]; exact hr0) hno hK hf
end
end Go.Fw

/- Contracts of functions that write into what they are handed, from a walk. Plain theorems, no condition. -/
set_option linter.unusedVariables false
set_option linter.unusedSimpArgs false
namespace Go.Fw

structure FitLX (us ys : List A) : Prop where
  h : ∃ k, fitA.fitL k us ys
theorem FitLX.same {xs : List A} : FitLX xs xs := ⟨0, fits xs⟩
theorem FitLX.of {xs ys : List A} (h : xs = ys) : FitLX xs ys := h ▸ FitLX.same
def entryM (k N : Nat) (xs : List A) : State :=
  ⟨entryT 0 (rootA.rootL k ⟨[], N, []⟩ xs).1 ++ entryT N (rootA.rootL k ⟨[], N, []⟩ xs).1, N, (rootA.rootL k ⟨[], N, []⟩ xs).2.rows⟩
def vOutM (Ω : Opq) (T : Nat → Option TI) (N : Nat) (S : State) (rs : List ResultVar) (x : A) (outs : List A) : Prop :=
  if S.N = N then vRes T S rs fun zs => if (flat (zs ++ (List.range outs.length).map fun i => lk S.t (S.N + i))).all okCell then
    vStash Ω (flat (zs ++ (List.range outs.length).map fun i => lk S.t (S.N + i))).length S (flat (zs ++ (List.range outs.length).map fun i => lk S.t (S.N + i))) fun ys _ _ =>
      FitX (oneA ((regroup (zs ++ (List.range outs.length).map fun i => lk S.t (S.N + i)) ys).take zs.length)) x ∧ FitLX ((regroup (zs ++ (List.range outs.length).map fun i => lk S.t (S.N + i)) ys).drop zs.length) outs else False else False
def outM (Ω : Opq) (T : Nat → Option TI) (N : Nat) (rs : List ResultVar) (x : A) (outs : List A) : Exit → State → Prop
  | .normal, S | .ret, S => vOutM Ω T N S rs x outs
  | _, _ => False
def vOutX (Ω : Opq) (T : Nat → Option TI) (N : Nat) (S : State) (rs : List ResultVar) (n : Nat) (R : A → List A → Prop) : Prop :=
  if S.N = N then vRes T S rs fun zs => if (flat (zs ++ (List.range n).map fun i => lk S.t (S.N + i))).all okCell then
    vStash Ω (flat (zs ++ (List.range n).map fun i => lk S.t (S.N + i))).length S (flat (zs ++ (List.range n).map fun i => lk S.t (S.N + i))) fun ys _ _ =>
      ∃ x outs, FitX (oneA ((regroup (zs ++ (List.range n).map fun i => lk S.t (S.N + i)) ys).take zs.length)) x ∧ FitLX ((regroup (zs ++ (List.range n).map fun i => lk S.t (S.N + i)) ys).drop zs.length) outs ∧ R x outs ∧ outs.length = n else False else False
theorem vRes_mono {T : Nat → Option TI} {S : State} : ∀ {rs : List ResultVar} {k k' : List A → Prop}, (∀ z, k z → k' z) → vRes T S rs k → vRes T S rs k'
  | [], k, k', hk, h => hk _ h
  | .tmp t :: rs, k, k', hk, h => vRes_mono (rs := rs) (fun z => hk _) h
  | .cell a t :: rs, k, k', hk, h => by
    unfold vRes at h ⊢
    split at h <;> try exact h.elim
    split at h <;> try exact h.elim
    split at h <;> try exact h.elim
    unfold vCell at h ⊢
    simp only at h ⊢
    split at h
    · rename_i hag
      rw [if_pos hag]
      split at h <;> try exact h.elim
      rename_i h1
      rw [if_pos h1]
      split at h <;> try exact h.elim
      rename_i h2
      rw [if_pos h2]
      exact vRes_mono (rs := rs) (fun z => hk _) h
    · rename_i hag
      rw [if_neg hag]
      split at h <;> try exact h.elim
      split at h <;> try exact h.elim
      rename_i h2
      rw [if_pos h2]
      exact vRes_mono (rs := rs) (fun z => hk _) h
theorem vStash_mono {Ω : Opq} : ∀ (n : Nat) (xs : List A) (S : State) {k k' : List A → State → List Nat → Prop}, (∀ a b c, k a b c → k' a b c) → vStash Ω n S xs k → vStash Ω n S xs k'
  | 0, [], S, k, k', hk, h => by unfold vStash at h ⊢; exact hk _ _ _ h
  | n + 1, [], S, k, k', hk, h => by unfold vStash at h ⊢; exact hk _ _ _ h
  | 0, _ :: _, S, k, k', hk, h => by simp [vStash] at h
  | n + 1, x :: xs, S, k, k', hk, h => by
    unfold vStash at h ⊢
    split at h
    · split at h <;> try exact h.elim
      split at h <;> try exact h.elim
      rename_i h1
      try simp only at h ⊢
      rw [if_neg h1]
      exact ⟨h.1, vStash_mono n _ _ (fun a b c => hk _ _ _) h.2⟩
    · split at h <;> try exact h.elim
      split at h <;> try exact h.elim
      rename_i h1
      try simp only at h ⊢
      rw [if_pos h1]
      exact vStash_mono n _ _ (fun a b c => hk _ _ _) h
    · split at h <;> try exact h.elim
      rename_i h1
      try simp only at h ⊢
      rw [if_pos h1]
      exact vStash_mono n _ _ (fun a b c => hk _ _ _) h
theorem vOutM_X {Ω : Opq} {T : Nat → Option TI} {N : Nat} {S : State} {rs : List ResultVar} {x : A} {outs : List A} (h : vOutM Ω T N S rs x outs) {R : A → List A → Prop} (hR : R x outs) : vOutX Ω T N S rs outs.length R := by
  unfold vOutM at h
  unfold vOutX
  split at h <;> try exact h.elim
  rename_i h1
  rw [if_pos h1]
  refine vRes_mono (fun z hz => ?_) h
  split at hz <;> try exact hz.elim
  rename_i h2
  rw [if_pos h2]
  exact vStash_mono _ _ _ (fun a b c h => ⟨x, outs, h.1, h.2, hR, rfl⟩) hz
def outX (Ω : Opq) (T : Nat → Option TI) (N : Nat) (rs : List ResultVar) (n : Nat) (R : A → List A → Prop) : Exit → State → Prop
  | .normal, S | .ret, S => vOutX Ω T N S rs n R
  | _, _ => False
theorem entryT_lk : ∀ (xs : List A) (t : List (Nat × A)) (i j : Nat), lk (entryT i xs ++ t) j = if i ≤ j ∧ j < i + xs.length then xs.getD (j - i) .un else lk t j
  | [], t, i, j => by simp [entryT]; omega
  | x :: xs, t, i, j => by
    simp only [entryT, List.cons_append, lk, entryT_lk xs t (i + 1) j]
    by_cases h : i = j
    · subst h; simp
    · rw [if_neg h]
      by_cases h2 : i + 1 ≤ j ∧ j < i + 1 + xs.length
      · obtain ⟨d, hd⟩ : ∃ d, j - i = d + 1 := ⟨j - i - 1, by omega⟩
        have : j - (i + 1) = d := by omega
        rw [if_pos h2, if_pos ⟨by omega, by simp; omega⟩, hd, this]; simp
      · rw [if_neg h2, if_neg (by simp; omega)]
section
variable {P : Program} {T : Nat → Option TI}
theorem TRelL.get' {G : Nat → Prop} {w : World} {rows : List (Option Row)} {gs : Gh} {xs : List A} {vs : List Value} (h : TRelL w G rows gs xs vs []) (i : Nat) (hi : i < xs.length) : TRel w G rows gs (xs.getD i .un) (vs.getD i undef) [] := by
  obtain ⟨v, h1, h2⟩ := h.get i xs[i] (List.getElem?_eq_getElem hi)
  rw [List.getD_eq_getElem?_getD, List.getD_eq_getElem?_getD, List.getElem?_eq_getElem hi, h1]
  exact h2
theorem VC.post {S : State} {K : Exit → State → Prop} {c : Code} {K' : Exit → State → Prop} (h : VC P c S K) (hk : ∀ e S', K e S' → ∃ S'', Sbs S' S'' ∧ K' e S'') : VC P c S K' :=
  fun E a w hs => wp_mono (h E a w hs) fun e a' w' ⟨S', h1, h2⟩ => let ⟨S'', h3, h4⟩ := hk e S' h2; ⟨S'', h3 P E a' w' h1, h4⟩
theorem XCtr.walkG (hT : TabOK P T) {Ω : Opq} (hΩ : Ω = std) (k : Nat) {g : Nat} {c : Code} {N : Nat} {rs : List ResultVar} {xs : List A} {R : A → List A → Prop} (hf : FnAt P g c N rs) (hN : Nat.ble xs.length N = true)
    (hno : (rootA.rootL k ⟨[], N, []⟩ xs).1.all noOwn = true) {K0 : Exit → State → Prop} (hK0 : ∀ e S', K0 e S' → ∃ S'', Sbs S' S'' ∧ outX Ω T N rs xs.length R e S'') {S0 : State} (hs0 : Sbs (entryM k N xs) S0) (h : vC Ω P T c S0 K0) : XCtr P g xs R := by
  have hN := Nat.le_of_ble_eq_true hN
  obtain ⟨hen, fn, h1, h2, h3, h4⟩ := hf
  refine ⟨hen, fun w G vs F hG hFnd hFG hl => ?_⟩
  have hlen := hl.length
  have hFlt := hl.lt
  refine calls_of_wp h1 h2 ?_
  generalize htm : vs.toArray ++ Array.replicate (fn.ntmps - vs.toArray.size) undef = tm
  have htms : tm.size = N := by rw [← htm]; simp; omega
  have hinv0 : Inv (P := P) ⟨w, G, (· ∈ F), fun i => vs.getD (i - N) undef⟩ G (fun _ => (none, [])) ⟨[], N, []⟩ tm w := by
    refine ⟨fun _ _ _ => rfl, rfl, rfl, rfl, Nat.le_refl _, htms, fun _ h => h, fun _ h => .inl h, hG, ?_, ?_, ?_, ?_, fun i => .un⟩
    · intro r row hr; simp [rowAt] at hr
    · intro r row hr; simp [rowAt] at hr
    · intro r row hr; simp [rowAt] at hr
    · intro r r' row row' hr; simp [rowAt] at hr
  have hres0 : Res (P := P) ⟨w, G, (· ∈ F), fun i => vs.getD (i - N) undef⟩ G (fun _ => (none, [])) (State.rows ⟨[], N, []⟩) (F ++ []) := by
    rw [List.append_nil]
    exact ⟨hFnd, fun b hb => ⟨hFG b hb, .inl hb⟩, fun r row hr => by simp [rowAt] at hr⟩
  obtain ⟨gs1, r1, r2⟩ := rootL_ok (rootA_ok k) xs ⟨[], N, []⟩ _ vs F [] hinv0 hres0 (fun b hb => hFlt b (by simpa using hb)) hl hno
  have hzl : (rootA.rootL k ⟨[], N, []⟩ xs).1.length = xs.length := by rw [← r2.length, hlen]
  have hi1 := r1.inv
  have hinv : Inv (P := P) ⟨w, G, (· ∈ F), fun i => vs.getD (i - N) undef⟩ G gs1 (entryM k N xs) tm w := by
    refine ⟨hi1.keep, hi1.os, hi1.tape, hi1.output, hi1.size, htms, hi1.gsub, hi1.gnew, hi1.glt, hi1.row, hi1.nod, hi1.own, hi1.dis, fun i => ?_⟩
    show TRel w G (rootA.rootL k ⟨[], N, []⟩ xs).2.rows gs1 (lk (entryT 0 _ ++ entryT N _) i) _ []
    rw [entryT_lk]
    by_cases hi : i < xs.length
    · rw [if_pos ⟨by omega, by rw [hzl]; omega⟩]
      unfold vat
      rw [if_pos (by rw [htms]; omega)]
      have := r2.get' i (by rw [hzl]; exact hi)
      have e : tm.getD i undef = vs.getD i undef := by
        rw [← htm, Array.getD_eq_getD_getElem?, Array.getElem?_append_left (by simp; omega)]
        simp
      rw [e, Nat.sub_zero]; exact this
    · rw [if_neg (by rw [hzl]; omega), lk_entryT]
      by_cases hi2 : N ≤ i ∧ i < N + xs.length
      · rw [if_pos hi2.1]
        unfold vat
        rw [if_neg (by rw [htms]; omega)]
        exact r2.get' (i - N) (by rw [hzl]; omega)
      · have : (if N ≤ i then (rootA.rootL k ⟨[], N, []⟩ xs).1.getD (i - N) .un else .un) = A.un := by
          split
          · rw [List.getD_eq_getElem?_getD, List.getElem?_eq_none (by rw [hzl]; omega)]; rfl
          · rfl
        rw [this]; exact .un
  subst hΩ
  have hwalk := (VC.post (vstart hT rfl h) (K' := outX std T N rs xs.length R) hK0).sub hs0
  refine wp_mono (hwalk ⟨w, G, (· ∈ F), fun i => vs.getD (i - N) undef⟩ { tmps := tm, defers := [] } w ⟨rfl, G, _, hinv⟩) ?_
  rintro e a' w' ⟨S', ⟨hd, G', gs', hi'⟩, hK⟩
  have fin : vOutX std T N S' rs xs.length R → a'.defers = [] ∧ ∃ v, (results fn a'.tmps).run P w' = .ok v w' ∧ (∃ v_1 Fx Fo x outs, R x outs ∧ Ending.returned v = .returned v_1 ∧
      (w'.os = w.os ∧ w'.tape = w.tape ∧ w'.output = w.output ∧ w.heap.size ≤ w'.heap.size ∧ ∀ b, b < w.heap.size → b ∉ F → w'.heap[b]? = w.heap[b]?) ∧
      (Fx ++ Fo).Nodup ∧ (∀ b ∈ Fx ++ Fo, b ∈ F ∨ w.heap.size ≤ b) ∧ Rel w' (fun b => (G b ∨ b ∈ F ∨ (w.heap.size ≤ b ∧ b < w'.heap.size)) ∧ b ∉ Fx ++ Fo) x v_1 Fx ∧
      RelL w' (fun b => (G b ∨ b ∈ F ∨ (w.heap.size ≤ b ∧ b < w'.heap.size)) ∧ b ∉ Fx ++ Fo) outs vs Fo) := by
    intro ho'
    refine ⟨hd, ?_⟩
    unfold vOutX at ho'
    split at ho' <;> try exact ho'.elim
    rename_i hSN
    obtain ⟨zs, us, g1, g2, g3⟩ := vRes_ok hT hi' ho'
    have hgl : TRelL w' G' S'.rows gs' ((List.range xs.length).map fun i => lk S'.t (S'.N + i)) vs [] := by
      have e : vs = (List.range xs.length).map fun i => vat (P := P) ⟨w, G, (· ∈ F), fun i => vs.getD (i - N) undef⟩ a'.tmps (S'.N + i) := by
        have hsz := hi'.sz
        apply List.ext_getElem?
        intro i
        rw [List.getElem?_map]
        by_cases hi : i < xs.length
        · rw [List.getElem?_range hi]
          unfold vat
          rw [Option.map_some, if_neg (by rw [hsz]; omega), hSN]
          show vs[i]? = some (vs.getD (N + i - N) undef)
          rw [Nat.add_sub_cancel_left, List.getD_eq_getElem?_getD, List.getElem?_eq_getElem (by omega)]
          rfl
        · rw [List.getElem?_eq_none (by rw [hlen]; omega), List.getElem?_eq_none (by simp; omega)]; rfl
      have : ∀ l : List Nat, TRelL w' G' S'.rows gs' (l.map fun i => lk S'.t (S'.N + i)) (l.map fun i => vat (P := P) ⟨w, G, (· ∈ F), fun i => vs.getD (i - N) undef⟩ a'.tmps (S'.N + i)) [] := fun l => by
        induction l with
        | nil => exact .nil
        | cons i l ih => exact .cons (F := []) (Fs := []) (hi'.tmp _) ih
      obtain ⟨us, hus⟩ : ∃ us, us = (List.range xs.length).map fun i => vat (P := P) ⟨w, G, (· ∈ F), fun i => vs.getD (i - N) undef⟩ a'.tmps (S'.N + i) := ⟨_, rfl⟩
      have h2 := this (List.range xs.length)
      rw [← hus] at h2
      rw [← hus] at e
      rw [e]; exact h2
    split at g1 <;> try exact g1.elim
    rename_i hok
    obtain ⟨hc, x, outs, hfit, hfits, hR, ho⟩ := vStash_ok _ _ _ _ g1
    obtain ⟨k1, hfit⟩ := hfit.h
    obtain ⟨k2, hfits⟩ := hfits.h
    have hall := g3.append0 hgl
    obtain ⟨Fz, hst, hrel⟩ := stashL_ok _ _ S' _ [] rfl hi' Res.nil (flat_rel hall hok) hc
    rw [List.append_nil] at hst
    have hrg := regroup_rel hall hok hrel
    obtain ⟨Fx, Fo, rfl, q1, q2⟩ := hrg.split_at
    rw [g3.length] at q1 q2
    have hx := fitA_rel k1 _ _ _ _ hfit (oneA_rel q1)
    have hos := fitL_rel (fun x y v F => fitA_rel k2 x y v F) _ _ _ _ hfits q2
    have hGG : ∀ b, G' b → ((G b ∨ b ∈ F ∨ (w.heap.size ≤ b ∧ b < w'.heap.size)) ∧ b ∉ Fx ++ Fo) ∧ w'.heap[b]? = w'.heap[b]? := fun b hb => by
      refine ⟨⟨?_, fun hF => (hst.res.own b hF).1 hb⟩, rfl⟩
      rcases hi'.gnew b hb with h | h | h
      · exact .inl h
      · exact .inr (.inl h)
      · exact .inr (.inr ⟨h, hi'.glt b hb⟩)
    exact ⟨oneV us, h4 _ _ _ g2, _, Fx, Fo, x, outs, hR, rfl, ⟨hi'.os, hi'.tape, hi'.output, hi'.size, fun b hb hF => hi'.keep b hb hF⟩, hst.res.nod, fun b hb => (hst.res.own b hb).2, hx.move_ hGG (fun _ _ => rfl), hos.move_ hGG (fun _ _ => rfl)⟩
  cases e with
  | normal => exact fin hK
  | ret => exact fin hK
  | _ => exact hK.elim
theorem XCtr.walk (hT : TabOK P T) {Ω : Opq} (hΩ : Ω = std) (k : Nat) {g : Nat} {c : Code} {N : Nat} {rs : List ResultVar} {xs : List A} {R : A → List A → Prop} (hf : FnAt P g c N rs) (hN : Nat.ble xs.length N = true)
    (hno : (rootA.rootL k ⟨[], N, []⟩ xs).1.all noOwn = true) (h : vC Ω P T c (entryM k N xs) (outX Ω T N rs xs.length R)) : XCtr P g xs R := XCtr.walkG hT hΩ k hf hN hno (fun _ S' h => ⟨S', Sbs.refl _, h⟩) (Sbs.refl _) h
/-- The same, what is handed over told otherwise first, and the end too. -/
theorem MCtr.walkSE (hT : TabOK P T) {Ω : Opq} (hΩ : Ω = std) (k : Nat) {g : Nat} {c : Code} {N : Nat} {rs : List ResultVar} {xs : List A} {x : A} {outs : List A} (hf : FnAt P g c N rs) (hN : Nat.ble xs.length N = true)
    (hno : (rootA.rootL k ⟨[], N, []⟩ xs).1.all noOwn = true) (ho : outs.length = xs.length) {K0 : Exit → State → Prop} (hK0 : ∀ e S', K0 e S' → ∃ S'', Sbs S' S'' ∧ outM Ω T N rs x outs e S'') {S0 : State} (hs0 : Sbs (entryM k N xs) S0) (h : vC Ω P T c S0 K0) : MCtr P g xs x outs := by
  refine (XCtr.walkG hT hΩ k hf hN hno (R := fun x' o' => x' = x ∧ o' = outs) (fun e S' h => ?_) hs0 h).m
  obtain ⟨S'', h1, h2⟩ := hK0 e S' h
  refine ⟨S'', h1, ?_⟩
  cases e <;> first | exact ho ▸ vOutM_X h2 ⟨rfl, rfl⟩ | exact h2
theorem MCtr.walkS (hT : TabOK P T) {Ω : Opq} (hΩ : Ω = std) (k : Nat) {g : Nat} {c : Code} {N : Nat} {rs : List ResultVar} {xs : List A} {x : A} {outs : List A} (hf : FnAt P g c N rs) (hN : Nat.ble xs.length N = true)
    (hno : (rootA.rootL k ⟨[], N, []⟩ xs).1.all noOwn = true) (ho : outs.length = xs.length) {S0 : State} (hs0 : Sbs (entryM k N xs) S0) (h : vC Ω P T c S0 (outM Ω T N rs x outs)) : MCtr P g xs x outs := by
  refine MCtr.walkSE hT hΩ k hf hN hno ho (K0 := outM Ω T N rs x outs) (fun e S' h => ⟨S', Sbs.refl _, h⟩) hs0 h
theorem MCtr.walk (hT : TabOK P T) {Ω : Opq} (hΩ : Ω = std) (k : Nat) {g : Nat} {c : Code} {N : Nat} {rs : List ResultVar} {xs : List A} {x : A} {outs : List A} (hf : FnAt P g c N rs) (hN : Nat.ble xs.length N = true)
    (hno : (rootA.rootL k ⟨[], N, []⟩ xs).1.all noOwn = true) (ho : outs.length = xs.length) (h : vC Ω P T c (entryM k N xs) (outM Ω T N rs x outs)) : MCtr P g xs x outs :=
  MCtr.walkS hT hΩ k hf hN hno ho (Sbs.refl _) h
end
end Go.Fw

/- The same rules with lengths kept shut. Plain theorems, no condition. -/
set_option linter.unusedVariables false
set_option linter.unusedSimpArgs false
namespace Go.Fw
def rootO (Ω : Opq) : Nat → State → A → A × State
  | 0, S, x => (x, S)
  | k + 1, S, x => match x with
    | .sl true n xs => (.vw S.rows.length 0 (Ω.len xs), S.addRow ⟨n, xs, false⟩)
    | .bx xs => (.pt S.rows.length 0 0, S.addRow ⟨xs.length, [.agg xs], true⟩)
    | .agg xs => (.agg (rootOL k S xs).1, (rootOL k S xs).2)
    | .tup xs => (.tup (rootOL k S xs).1, (rootOL k S xs).2)
    | x => (x, S)
where rootOL (k : Nat) (S : State) : List A → List A × State
    | [] => ([], S)
    | x :: xs => ((rootO Ω k S x).1 :: (rootOL k (rootO Ω k S x).2 xs).1, (rootOL k (rootO Ω k S x).2 xs).2)
theorem rootOL_std {k : Nat} (ih : ∀ S x, rootO std k S x = rootA k S x) : ∀ (xs : List A) (S : State), rootO.rootOL std k S xs = rootA.rootL k S xs
  | [], S => by rw [rootO.rootOL, rootA.rootL]
  | x :: xs, S => by rw [rootO.rootOL, rootA.rootL, ih, rootOL_std ih xs]
theorem rootO_std : ∀ (k : Nat) (S : State) (x : A), rootO std k S x = rootA k S x
  | 0, S, x => by rw [rootO, rootA]
  | k + 1, S, x => by
    have ih := rootOL_std (rootO_std k)
    unfold rootO rootA
    cases x with
    | sl o n xs => cases o <;> rfl
    | agg xs => simp only; rw [ih]
    | tup xs => simp only; rw [ih]
    | _ => rfl
def entryO (Ω : Opq) (k N : Nat) (xs : List A) : State :=
  ⟨entryT 0 (rootO.rootOL Ω k ⟨[], N, []⟩ xs).1 ++ entryT N (rootO.rootOL Ω k ⟨[], N, []⟩ xs).1, N, (rootO.rootOL Ω k ⟨[], N, []⟩ xs).2.rows⟩
section
variable {P : Program} {T : Nat → Option TI} {S : State} {Ω : Opq}
theorem call_pure (hΩ : Ω = std) (k : Nat) {g : Nat} {args ys0 ys : List A} {x : A} {K : A → State → Prop} (hc : PCtr P g ys x) (h1 : mapO (roO S k) args = some ys0) (h2 : fitA.fitL k ys0 ys) (hx : roFree x = true)
    (hno : noOwn (rootO Ω k S x).1 = true) (hK : K (rootO Ω k S x).1 (rootO Ω k S x).2) : CallX P g args S K := by
  subst hΩ
  rw [rootO_std] at hno hK
  exact ⟨CallOK_pure hc h1 h2 hx hno hK⟩
theorem call_share (hΩ : Ω = std) (k : Nat) {g : Nat} {args ys : List A} {x : A} {K : A → State → Prop} (hc : PCtr P g ys x) (h1 : args.all isData = true) (h2 : fitA.fitL k args ys)
    (hno : noOwn (rootO Ω k S x).1 = true) (hK : K (rootO Ω k S x).1 (rootO Ω k S x).2) : CallX P g args S K := by
  subst hΩ
  rw [rootO_std] at hno hK
  exact ⟨CallOK_share hc h1 h2 hno hK⟩
theorem MCtr.walkO (hT : TabOK P T) (hΩ : Ω = std) (k : Nat) {g : Nat} {c : Code} {N : Nat} {rs : List ResultVar} {xs : List A} {x : A} {outs : List A} (hf : FnAt P g c N rs) (hN : Nat.ble xs.length N = true)
    (hno : (rootO.rootOL Ω k ⟨[], N, []⟩ xs).1.all noOwn = true) (ho : outs.length = xs.length) (h : vC Ω P T c (entryO Ω k N xs) (outM Ω T N rs x outs)) : MCtr P g xs x outs := by
  have e := rootOL_std (rootO_std k)
  refine MCtr.walk hT hΩ k hf hN ?_ ho ?_
  · subst hΩ; rw [← e]; exact hno
  · have : entryO Ω k N xs = entryM k N xs := by subst hΩ; unfold entryO entryM; rw [e]
    rw [← this]; exact h
theorem XCtr.walkO (hT : TabOK P T) (hΩ : Ω = std) (k : Nat) {g : Nat} {c : Code} {N : Nat} {rs : List ResultVar} {xs : List A} {R : A → List A → Prop} (hf : FnAt P g c N rs) (hN : Nat.ble xs.length N = true)
    (hno : (rootO.rootOL Ω k ⟨[], N, []⟩ xs).1.all noOwn = true) (h : vC Ω P T c (entryO Ω k N xs) (outX Ω T N rs xs.length R)) : XCtr P g xs R := by
  have e := rootOL_std (rootO_std k)
  refine XCtr.walk hT hΩ k hf hN ?_ ?_
  · subst hΩ; rw [← e]; exact hno
  · have : entryO Ω k N xs = entryM k N xs := by subst hΩ; unfold entryO entryM; rw [e]
    rw [← this]; exact h
theorem call_rel (hΩ : Ω = std) (k : Nat) {g : Nat} {args ys : List A} {R : A → List A → Prop} {K : A → State → Prop} (hc : XCtr P g ys R) (l0 : List (Nat × List A)) (hr0 : (l0.map (·.1)).Nodup) (hg : ∃ outs, MutL S args ys outs l0)
    (h : ∀ x outs, R x outs → ∃ l, l.map (·.1) = l0.map (·.1) ∧ MutL S args ys outs l ∧ noOwn (rootO Ω k (S.mut l) x).1 = true ∧ K (rootO Ω k (S.mut l) x).1 (rootO Ω k (S.mut l) x).2) : CallX P g args S K := by
  subst hΩ
  exact ⟨CallOK_rel (k := k) hc l0 hr0 (fun x outs hR => by simp only [← rootO_std]; exact h x outs hR) hg⟩
end
end Go.Fw

/- Calls that are handed own data for good. Plain theorems, no condition. -/
set_option linter.unusedVariables false
set_option linter.unusedSimpArgs false
namespace Go.Fw
/-- A contract of a function that is handed own data for good: what comes back may hold them. -/
structure ECtr (P : Program) (g : Nat) (args : List A) (x : A) : Prop where
  enter : Enter P g
  run : ∀ (w : World) (G : Nat → Prop) (vs : List Value) (F : List Nat), GoodG P w G → F.Nodup → (∀ b ∈ F, ¬ G b) → RelL w G args vs F → Calls P g vs.toArray w (fun e w' => ∃ v Fx, e = .returned v ∧
    (w'.os = w.os ∧ w'.tape = w.tape ∧ w'.output = w.output ∧ w.heap.size ≤ w'.heap.size ∧ ∀ b, b < w.heap.size → b ∉ F → w'.heap[b]? = w.heap[b]?) ∧
    Fx.Nodup ∧ (∀ b ∈ Fx, b ∈ F ∨ w.heap.size ≤ b) ∧ Rel w' (fun b => (G b ∨ b ∈ F ∨ (w.heap.size ≤ b ∧ b < w'.heap.size)) ∧ b ∉ Fx) x v Fx)
def entryE (Ω : Opq) (k N : Nat) (xs : List A) : State := ⟨entryT 0 (rootO.rootOL Ω k ⟨[], N, []⟩ xs).1, N, (rootO.rootOL Ω k ⟨[], N, []⟩ xs).2.rows⟩
section
variable {P : Program} {T : Nat → Option TI} {S : State} {Ω : Opq}
theorem ECtr.walk (hT : TabOK P T) (hΩ : Ω = std) (k : Nat) {g : Nat} {c : Code} {N : Nat} {rs : List ResultVar} {xs : List A} {x : A} (hf : FnAt P g c N rs) (hN : Nat.ble xs.length N = true)
    (hno : (rootO.rootOL Ω k ⟨[], N, []⟩ xs).1.all noOwn = true) (h : vC Ω P T c (entryE Ω k N xs) (outV Ω T rs x)) : ECtr P g xs x := by
  subst hΩ
  have hroot := rootOL_std (rootO_std k)
  unfold entryE at h
  rw [hroot] at h hno
  have hN := Nat.le_of_ble_eq_true hN
  obtain ⟨hen, fn, h1, h2, h3, h4⟩ := hf
  refine ⟨hen, fun w G vs F hG hFnd hFG hl => ?_⟩
  have hlen := hl.length
  have hFlt := hl.lt
  refine calls_of_wp h1 h2 ?_
  generalize htm : vs.toArray ++ Array.replicate (fn.ntmps - vs.toArray.size) undef = tm
  have htms : tm.size = N := by rw [← htm]; simp; omega
  have hinv0 : Inv (P := P) ⟨w, G, (· ∈ F), fun _ => undef⟩ G (fun _ => (none, [])) ⟨[], N, []⟩ tm w := by
    refine ⟨fun _ _ _ => rfl, rfl, rfl, rfl, Nat.le_refl _, htms, fun _ h => h, fun _ h => .inl h, hG, ?_, ?_, ?_, ?_, fun i => .un⟩
    · intro r row hr; simp [rowAt] at hr
    · intro r row hr; simp [rowAt] at hr
    · intro r row hr; simp [rowAt] at hr
    · intro r r' row row' hr; simp [rowAt] at hr
  have hres0 : Res (P := P) ⟨w, G, (· ∈ F), fun _ => undef⟩ G (fun _ => (none, [])) (State.rows ⟨[], N, []⟩) (F ++ []) := by
    rw [List.append_nil]
    exact ⟨hFnd, fun b hb => ⟨hFG b hb, .inl hb⟩, fun r row hr => by simp [rowAt] at hr⟩
  obtain ⟨gs1, r1, r2⟩ := rootL_ok (rootA_ok k) xs ⟨[], N, []⟩ _ vs F [] hinv0 hres0 (fun b hb => hFlt b (by simpa using hb)) hl hno
  have hzl : (rootA.rootL k ⟨[], N, []⟩ xs).1.length = xs.length := by rw [← r2.length, hlen]
  have hi1 := r1.inv
  have hinv : Inv (P := P) ⟨w, G, (· ∈ F), fun _ => undef⟩ G gs1 ⟨entryT 0 (rootA.rootL k ⟨[], N, []⟩ xs).1, N, (rootA.rootL k ⟨[], N, []⟩ xs).2.rows⟩ tm w := by
    refine ⟨hi1.keep, hi1.os, hi1.tape, hi1.output, hi1.size, htms, hi1.gsub, hi1.gnew, hi1.glt, hi1.row, hi1.nod, hi1.own, hi1.dis, fun i => ?_⟩
    show TRel w G (rootA.rootL k ⟨[], N, []⟩ xs).2.rows gs1 (lk (entryT 0 _) i) _ []
    rw [lk_entryT, if_pos (Nat.zero_le _), Nat.sub_zero]
    by_cases hi : i < xs.length
    · unfold vat
      rw [if_pos (by rw [htms]; omega)]
      have := r2.get' i (by rw [hzl]; exact hi)
      have e : tm.getD i undef = vs.getD i undef := by
        rw [← htm, Array.getD_eq_getD_getElem?, Array.getElem?_append_left (by simp; omega)]
        simp
      rw [e]; exact this
    · rw [List.getD_eq_getElem?_getD, List.getElem?_eq_none (by omega)]
      exact .un
  refine wp_mono ((VC.mono (vstart hT rfl h) fun e S' h => outV_ok hT h) ⟨w, G, (· ∈ F), fun _ => undef⟩ { tmps := tm, defers := [] } w ⟨rfl, G, _, hinv⟩) ?_
  rintro e a' w' ⟨S', ⟨hd, G', gs', hi'⟩, hK⟩
  have fin : Outs P rs x S' → a'.defers = [] ∧ ∃ v, (results fn a'.tmps).run P w' = .ok v w' ∧ (∃ v_1 Fx, Ending.returned v = .returned v_1 ∧
      (w'.os = w.os ∧ w'.tape = w.tape ∧ w'.output = w.output ∧ w.heap.size ≤ w'.heap.size ∧ ∀ b, b < w.heap.size → b ∉ F → w'.heap[b]? = w.heap[b]?) ∧
      Fx.Nodup ∧ (∀ b ∈ Fx, b ∈ F ∨ w.heap.size ≤ b) ∧ Rel w' (fun b => (G b ∨ b ∈ F ∨ (w.heap.size ≤ b ∧ b < w'.heap.size)) ∧ b ∉ Fx) x v_1 Fx) := by
    intro ho
    refine ⟨hd, ?_⟩
    obtain ⟨vs', zs, Fx, k', g1, g2, g3, g4, g5⟩ := ho _ _ _ _ _ hi'
    refine ⟨oneV vs', h4 _ _ _ g1, _, Fx, rfl, ⟨hi'.os, hi'.tape, hi'.output, hi'.size, fun b hb hF => hi'.keep b hb hF⟩, g3, fun b hb => (g4 b hb).2, ?_⟩
    refine (fitA_rel k' _ _ _ _ g5 (oneA_rel g2)).move_ (fun b hb => ⟨⟨?_, fun hF => (g4 b hF).1 hb⟩, rfl⟩) (fun _ _ => rfl)
    rcases hi'.gnew b hb with h | h | h
    · exact .inl h
    · exact .inr (.inl h)
    · exact .inr (.inr ⟨h, hi'.glt b hb⟩)
  cases e with
  | normal => exact fin hK
  | ret => exact fin hK
  | _ => exact hK.elim
theorem eat_end {E : Env P} {G : Nat → Prop} {gs : Gh} {S1 : State} {tmps : Array Value} {w w' : World} {F Fx : List Nat} {x : A} {v : Value} (k : Nat) (hi1 : Inv E G gs S1 tmps w) (hR : Res E G gs S1.rows F) (hRlt : ∀ b ∈ F, b < w.heap.size)
    (hos : w'.os = w.os) (htape : w'.tape = w.tape) (hout : w'.output = w.output) (hsize : w.heap.size ≤ w'.heap.size) (hold : ∀ b, b < w.heap.size → b ∉ F → w'.heap[b]? = w.heap[b]?)
    (hnd : Fx.Nodup) (hmem : ∀ b ∈ Fx, b ∈ F ∨ w.heap.size ≤ b) (hx : Rel w' (fun b => (G b ∨ b ∈ F ∨ (w.heap.size ≤ b ∧ b < w'.heap.size)) ∧ b ∉ Fx) x v Fx) (hno : noOwn (rootA k S1 x).1 = true) :
    ∃ gs2, Inv E (fun b => (G b ∨ b ∈ F ∨ (w.heap.size ≤ b ∧ b < w'.heap.size)) ∧ b ∉ Fx) gs2 (rootA k S1 x).2 tmps w' ∧ TRel w' (fun b => (G b ∨ b ∈ F ∨ (w.heap.size ≤ b ∧ b < w'.heap.size)) ∧ b ∉ Fx) (rootA k S1 x).2.rows gs2 (rootA k S1 x).1 v [] := by
  have hrow : ∀ r row, rowAt S1.rows r = some row → ∀ b ∈ gs.all r, w'.heap[b]? = w.heap[b]? ∧ b ∉ Fx := fun r row hr b hb => by
    have h1 := hi1.block_lt hr b hb
    have h2 := hR.dis r row hr b hb
    refine ⟨hold b h1 h2, fun hF => ?_⟩
    rcases hmem b hF with h | h
    · exact h2 h
    · omega
  have hGF : ∀ b, G b → b ∉ Fx := fun b h hF => by
    have := hi1.glt b h
    rcases hmem b hF with h2 | h2
    · exact (hR.own b h2).1 h
    · omega
  have hG : ∀ b, G b → ((G b ∨ b ∈ F ∨ (w.heap.size ≤ b ∧ b < w'.heap.size)) ∧ b ∉ Fx) ∧ w'.heap[b]? = w.heap[b]? := fun b h => ⟨⟨.inl h, hGF b h⟩, hold b (hi1.glt b h) fun hF => (hR.own b hF).1 h⟩
  have hle : ∀ r, RowLe w w' S1.rows S1.rows gs gs r := fun r => RowLe.refl_of fun row h => ⟨h, rfl, fun b hob => (hrow r row h b (by simp [Gh.all, hob])).1⟩
  have hi' : Inv E (fun b => (G b ∨ b ∈ F ∨ (w.heap.size ≤ b ∧ b < w'.heap.size)) ∧ b ∉ Fx) gs S1 tmps w' := by
    refine ⟨fun b h hf => ?_, hos.trans hi1.os, htape.trans hi1.tape, hout.trans hi1.output, Nat.le_trans hi1.size hsize, hi1.sz, fun b h => ⟨.inl (hi1.gsub b h), hGF b (hi1.gsub b h)⟩, fun b h => ?_, hi1.glt.move (fun b h => (hG b h).1) (fun b h => (hG b h).2) (fun b h => ?_), fun r row hr => ?_,
      hi1.nod, fun r row hr b hb => ?_, hi1.dis, fun i => (hi1.tmp i).step hG hle (by simp)⟩
    · rw [hold b (Nat.lt_of_lt_of_le h hi1.size) fun hF => ?_]
      · exact hi1.keep b h hf
      · rcases (hR.own b hF).2 with h2 | h2
        · exact hf h2
        · omega
    · rcases h.1 with h | h | h
      · exact hi1.gnew b h
      · exact .inr (hR.own b h).2
      · exact .inr (.inr (Nat.le_trans hi1.size h.1))
    · rcases h.1 with h | h | h
      · exact Nat.lt_of_lt_of_le (hi1.glt b h) hsize
      · exact Nat.lt_of_lt_of_le (hRlt b h) hsize
      · exact h.2
    · exact (hi1.row r row hr).step hG hle fun c hc => (hrow r row hr c hc).1
    · obtain ⟨g1, g2⟩ := hi1.own r row hr b hb
      refine ⟨fun h => ?_, g2⟩
      have := hi1.block_lt hr b hb
      rcases h.1 with h | h | h
      · exact g1 h
      · exact hR.dis r row hr b hb h
      · omega
  have hR' : Res E (fun b => (G b ∨ b ∈ F ∨ (w.heap.size ≤ b ∧ b < w'.heap.size)) ∧ b ∉ Fx) gs S1.rows (Fx ++ []) := by
    rw [List.append_nil]
    refine ⟨hnd, fun b hb' => ⟨fun h => h.2 hb', ?_⟩, fun r row hr b hb1 hb2 => (hrow r row hr b hb1).2 hb2⟩
    rcases hmem b hb' with h2 | h2
    · exact (hR.own b h2).2
    · exact .inr (Nat.le_trans hi1.size h2)
  obtain ⟨gs2, q1, q2⟩ := rootA_ok k S1 gs x v Fx [] hi' hR' (fun b hb' => hx.lt b (by simpa using hb')) hx hno
  exact ⟨gs2, q1.inv, q2⟩
theorem mapO_relG {f : A → Option A} {w : World} {G G' : Nat → Prop} {gs : Gh} {rows : List (Option Row)} (hf : ∀ x v F y, (∀ b ∈ F, G' b) → TRel w G rows gs x v F → f x = some y → Rel w G' y v []) : ∀ {xs : List A} {vs : List Value} {F : List Nat} {ys : List A},
    (∀ b ∈ F, G' b) → TRelL w G rows gs xs vs F → mapO f xs = some ys → RelL w G' ys vs []
  | [], _, _, ys, _, h, hm => by
    cases h
    simp only [mapO, Option.some.injEq] at hm
    subst hm; exact .nil
  | x :: xs, _, _, ys, hF, h, hm => by
    cases h with
    | cons h hl =>
      simp only [mapO] at hm
      cases hx : f x with
      | none => rw [hx] at hm; simp at hm
      | some y =>
        rw [hx] at hm
        cases hxs : mapO f xs with
        | none => rw [hxs] at hm; simp at hm
        | some us =>
          rw [hxs] at hm
          simp only [Option.some.injEq] at hm
          subst hm
          exact .cons (F := []) (Fs := []) (hf _ _ _ _ (fun b hb => hF b (by simp [hb])) h hx) (mapO_relG hf (fun b hb => hF b (by simp [hb])) hl hxs)
theorem roO_relG {E : Env P} {G G' : Nat → Prop} {gs : Gh} {tmps : Array Value} {w : World} (hi : Inv E G gs S tmps w) (hGO : ∀ b, G b → G' b) (hrow : ∀ r row, rowAt S.rows r = some row → ∀ b ∈ gs.all r, G' b) :
    ∀ (k : Nat) (x : A) (v : Value) (F : List Nat) (y : A), (∀ b ∈ F, G' b) → TRel w G S.rows gs x v F → roO S k x = some y → Rel w G' y v [] := by
  intro k
  induction k with
  | zero => intro x v F y _ _ hy; simp [roO] at hy
  | succ k ih =>
    intro x v F y hF h hy
    have plain : ∀ {x : A} {v : Value}, TRel w G S.rows gs x v F → isData x = true → Rel w G' (Fw.frz x) v [] := fun h hd => (h.data hd).frz hGO hF
    cases x with
    | un => simp [roO] at hy
    | mp r => simp [roO] at hy
    | al u x => simp [roO] at hy
    | rmp es =>
      simp only [roO, Option.some.injEq] at hy; subst hy
      have h0 := h.data rfl
      obtain rfl : F = [] := h0.noOwn rfl
      exact h0.move_ (fun b hb => ⟨hGO b hb, rfl⟩) (by simp)
    | sc u =>
      simp only [roO, Option.some.injEq] at hy; subst hy
      have := plain h (isData_sc u); rwa [frz_sc] at this
    | nil =>
      simp only [roO, Option.some.injEq] at hy; subst hy
      have := plain h isData_nil; rwa [frz_nil] at this
    | sl o n xs =>
      cases o with
      | true =>
        simp only [roO, Option.some.injEq] at hy; subst hy
        have := plain h (isData_sl true n xs); rwa [frz_sl] at this
      | false =>
        simp only [roO, Option.some.injEq] at hy; subst hy
        exact (h.data (isData_sl false n xs)).noOwn (by simp [noOwn_sl]) ▸ (h.data (isData_sl false n xs)).move_ (fun b hb => ⟨hGO b hb, rfl⟩) (fun b hb => rfl)
    | rp xs =>
      simp only [roO, Option.some.injEq] at hy; subst hy
      exact (h.data (isData_rp xs)).noOwn (by simp [noOwn_rp]) ▸ (h.data (isData_rp xs)).move_ (fun b hb => ⟨hGO b hb, rfl⟩) (fun b hb => rfl)
    | bx xs =>
      simp only [roO, Option.some.injEq] at hy; subst hy
      have := plain h (isData_bx xs); rwa [frz_bx] at this
    | agg xs =>
      simp only [roO, Option.map_eq_some_iff] at hy
      obtain ⟨ys, h1, rfl⟩ := hy
      obtain ⟨cs, rfl, hl⟩ := agg_inv h
      have := Rel.agg (mapO_relG (G' := G') (fun x v F y hF hx hy => ih x v F y hF hx hy) hF hl h1)
      simpa using this
    | tup xs =>
      simp only [roO, Option.map_eq_some_iff] at hy
      obtain ⟨ys, h1, rfl⟩ := hy
      obtain ⟨cs, rfl, hl⟩ := tup_inv h
      have := Rel.tup (mapO_relG (G' := G') (fun x v F y hF hx hy => ih x v F y hF hx hy) hF hl h1)
      simpa using this
    | clo g xs =>
      simp only [roO, Option.map_eq_some_iff] at hy
      obtain ⟨ys, h1, rfl⟩ := hy
      cases h with
      | of h => cases h with | clo hl => exact .clo (mapO_relG (gs := gs) (rows := S.rows) (G' := G') (fun x v F y hF hx hy => ih x v F y hF hx hy) hF (.of hl) h1)
      | clo hl => exact .clo (mapO_relG (G' := G') (fun x v F y hF hx hy => ih x v F y hF hx hy) hF hl h1)
    | vw r off len =>
      simp only [roO] at hy
      cases hr : rowAt S.rows r with
      | none => simp [hr] at hy
      | some row =>
        simp only [hr] at hy
        split at hy
        · simp at hy
        · rename_i hlk
          simp only [Option.some.injEq] at hy
          subst hy
          rcases vw_inv h with ⟨row', kk, cap, cur, e, b, hr', hob, g1, g2, g3, g4, g5, g6, rfl⟩ | ⟨row', hr', hob, hxs, rfl, rfl, rfl⟩
          · rw [hr] at hr'
            obtain rfl := Option.some.inj hr'
            have hrr := hi.row r row hr
            rw [hob] at hrr
            obtain ⟨cur', e', cap', h1, h2, h3, h4, h5, h6, h7⟩ := hrr.ex
            rw [g2] at h1
            simp only [Option.some.injEq, Obj.cells.injEq] at h1
            obtain ⟨rfl, rfl, _⟩ := h1
            unfold CellsRel at h7
            rw [if_neg hlk] at h7
            obtain ⟨F1, F2, e1, _, k2⟩ := h7.take_ (off * row.n)
            obtain ⟨F3, F4, e2, k3, _⟩ := k2.take_ (len * row.n)
            rw [flat_drop off h5, flat_take len (fun y hy => h5 y (List.mem_of_mem_drop hy))] at k3
            have hle : (off + len) * row.n ≤ row.xs.length * row.n := Nat.mul_le_mul_right _ g1
            rw [Nat.add_mul] at hle
            rw [List.drop_take, List.take_take, Nat.min_eq_left (by omega)] at k3
            have k4 := RelL.frz k3 (G' := G') hGO (fun c hc => hrow r row hr c (by simp [Gh.all, e1, e2, hc]))
            rw [← flat_frz] at k4
            have hlen : len = (((row.xs.drop off).take len).map Fw.frz).length := by simp; omega
            have hw : ∀ y ∈ ((row.xs.drop off).take len).map Fw.frz, y.width = row.n := fun y hy => by
              obtain ⟨z, hz, rfl⟩ := List.mem_map.1 hy
              rw [width_frz]; exact h5 z (List.mem_of_mem_drop (List.mem_of_mem_take hz))
            have hold : G' b := hrow r row hr b (by simp [Gh.all, hob])
            refine .ro g2 hold hw hlen rfl ?_ (by omega) (by omega)
            rcases g6 with hk | hk
            · rw [hk]; exact k4
            · have h0 : len = 0 := by omega
              subst h0
              simpa using k4
          · rw [hr] at hr'
            obtain rfl := Option.some.inj hr'
            simpa using Rel.nils
    | pt r j o =>
      simp only [roO] at hy
      cases hr : rowAt S.rows r with
      | none => simp [hr] at hy
      | some row =>
        simp only [hr] at hy
        by_cases hjo : j < row.xs.length ∧ o ≤ row.n
        case neg => rw [if_neg hjo] at hy; simp at hy
        rw [if_pos hjo] at hy
        obtain ⟨row', b, hr', hb, rfl⟩ := pt_inv h
        rw [hr] at hr'
        obtain rfl := Option.some.inj hr'
        obtain ⟨b', hb', hrc⟩ := row_real hi hr (by omega) (.inr ⟨_, hb⟩)
        rw [hb] at hb'
        obtain rfl := Option.some.inj hb'
        obtain ⟨cur, e, cap, h1, h2, h3, h4, h5, h6, h7⟩ := hrc.ex
        have hz : row.xs[j]? = some (row.xs.getD j .un) := by simp [List.getD_eq_getElem?_getD, List.getElem?_eq_getElem hjo.1]
        generalize row.xs.getD j .un = x at hy hz
        have hw := h5 x (List.mem_of_getElem? hz)
        unfold A.width at hw
        have hseg := flat_seg h5 hz o (row.n - o) (by omega)
        have hxl : ((x.cells.drop o).take (row.n - o)) = x.cells.drop o := by rw [List.take_of_length_le (by simp; omega)]
        have hle : (j + 1) * row.n ≤ row.xs.length * row.n := Nat.mul_le_mul_right _ hjo.1
        rw [Nat.add_mul] at hle
        have hcur : ((cur.toList.take (row.xs.length * row.n)).drop (j * row.n + o)).take (row.n - o) = (cur.toList.drop (j * row.n + o)).take (row.n - o) := by
          rw [List.drop_take, List.take_take, Nat.min_eq_left (by omega)]
        have hold : G' b := hrow r row hr b (by simp [Gh.all, hb])
        have hlenx : (x.cells.drop o).length = row.n - o := by simp; omega
        obtain ⟨F1, F2, e1, _, k2⟩ := h7.t.take_ (j * row.n + o)
        obtain ⟨F3, F4, e2, k3, _⟩ := k2.take_ (row.n - o)
        rw [hseg, hxl, hcur] at k3
        by_cases hlk : row.lk = true
        · rw [if_pos hlk] at hy
          simp only [Option.map_eq_some_iff] at hy
          obtain ⟨ys, hm, rfl⟩ := hy
          have k4 := mapO_relG (G' := G') (fun x v F y hF hx hy => ih x v F y hF hx hy) (fun c hc => hrow r row hr c (by simp [Gh.all, e1, e2, hc])) k3 hm
          have hyl : ys.length = row.n - o := by rw [← k4.length, k3.length, hlenx]
          exact .rp h1 hold rfl (by rw [hyl]; exact k4)
        · rw [if_neg hlk] at hy
          simp only [Option.some.injEq] at hy
          subst hy
          unfold CellsRel at h7
          rw [if_neg hlk] at h7
          obtain ⟨F1', F2', e1', _, k2'⟩ := h7.take_ (j * row.n + o)
          obtain ⟨F3', F4', e2', k3', _⟩ := k2'.take_ (row.n - o)
          rw [hseg, hxl, hcur] at k3'
          have k4 := RelL.frz k3' (G' := G') hGO (fun c hc => hrow r row hr c (by simp [Gh.all, e1', e2', hc]))
          exact .rp h1 hold rfl (by rw [List.length_map, hlenx]; exact k4)

/-- One own row is handed over for good, all else is only read. -/
theorem CallOK_eat2 {g k r len : Nat} {row : Row} {rest ys0 ys : List A} {x : A} {K : A → State → Prop} (hc : ECtr P g (.sl true row.n row.xs :: ys) x) (hr : rowAt S.rows r = some row) (hlk : row.lk = false) (hlen : len = row.xs.length)
    (h1 : mapO (roO (S.turn r none) k) (rest.map (kill r)) = some ys0) (h2 : fitA.fitL k ys0 ys) (hxf : roFree x = true) (hno : noOwn (rootA k (S.turn r none) x).1 = true) (hK : K (rootA k (S.turn r none) x).1 (rootA k (S.turn r none) x).2) :
    CallOK P g (.vw r 0 len :: rest) S K := by
  refine ⟨hc.enter, fun E G gs tmps w vs hi hl => ?_⟩
  generalize hF0 : ([] : List Nat) = F0 at hl
  cases hl with
  | cons hv hl =>
    rename_i v0 Fa vs Fb
    have hFF : Fa = [] ∧ Fb = [] := by simpa using hF0.symm
    obtain ⟨rfl, rfl⟩ := hFF
    have hst1 : stash1 S (.vw r 0 len) = (0 = 0 ∧ len ≤ row.xs.length ∧ row.lk = false, .sl true row.n (row.xs.take len), S.turn r none, [r]) := by simp only [stash1, hr]
    obtain ⟨F, hst, hrel⟩ := stash1_ok (R := []) hi Res.nil hv (by rw [hst1]; exact ⟨rfl, by omega, hlk⟩)
    rw [hst1] at hst hrel
    rw [List.take_of_length_le (by omega)] at hrel
    rw [List.append_nil] at hst
    have hi1 : Inv E G gs (S.turn r none) tmps w := hst.inv
    have hR : Res E G gs (S.turn r none).rows F := hst.res
    have hlt : ∀ b ∈ F, b < w.heap.size := hst.lt (by simp)
    have hl' : TRelL w G (S.turn r none).rows gs (rest.map (kill r)) vs [] := by
      have := hst.stepL rest vs hl
      exact this
    have hys := fitL_rel (fun x y v F => fitA_rel k x y v F) ys0 ys vs [] h2 (mapO_relG (G' := fun b => b < w.heap.size ∧ b ∉ F) (fun x v F y hF hx hy => roO_relG hi1 (fun b hb => ⟨hi1.glt b hb, fun hb2 => (hR.own b hb2).1 hb⟩) (fun r row hr b hb => ⟨hi1.block_lt hr b hb, hR.dis r row hr b hb⟩) k x v F y hF hx hy) (by simp) hl' h1)
    have hargs : RelL w (fun b => b < w.heap.size ∧ b ∉ F) (.sl true row.n row.xs :: ys) (v0 :: vs) F := by
      have := RelL.cons (hrel.move_ (w' := w) (G' := fun b => b < w.heap.size ∧ b ∉ F) (fun b hb => ⟨⟨hi1.glt b hb, fun hb2 => (hR.own b hb2).1 hb⟩, rfl⟩) (fun _ _ => rfl)) hys
      simpa using this
    refine Calls.mono (hc.run w (fun b => b < w.heap.size ∧ b ∉ F) (v0 :: vs) F (hi1.glt.move (fun b hb => ⟨hi1.glt b hb, fun hb2 => (hR.own b hb2).1 hb⟩) (fun _ _ => rfl) fun b hb => hb.1) hR.nod (fun b hb h => h.2 hb) hargs) ?_
    rintro e w' ⟨v, Fx, rfl, ⟨hos, htape, hout, hsize, hold⟩, hnd, hmem, hx⟩
    obtain ⟨gs2, q1, q2⟩ := eat_end k hi1 hR hlt hos htape hout hsize hold hnd hmem (hx.anyG hxf _) hno
    exact ⟨v, _, _, _, gs2, rfl, hK, q1, q2⟩
theorem call_eat2 (hΩ : Ω = std) (k : Nat) {g r len : Nat} {row : Row} {rest ys0 ys : List A} {x : A} {K : A → State → Prop} (hc : ECtr P g (.sl true row.n row.xs :: ys) x) (hr : rowAt S.rows r = some row) (hlk : row.lk = false) (hlen : len = row.xs.length)
    (h1 : mapO (roO (S.turn r none) k) (rest.map (kill r)) = some ys0) (h2 : fitA.fitL k ys0 ys) (hxf : roFree x = true) (hno : noOwn (rootO Ω k (S.turn r none) x).1 = true) (hK : K (rootO Ω k (S.turn r none) x).1 (rootO Ω k (S.turn r none) x).2) :
    CallX P g (.vw r 0 len :: rest) S K := by
  subst hΩ
  rw [rootO_std] at hno hK
  exact ⟨CallOK_eat2 hc hr hlk hlen h1 h2 hxf hno hK⟩
end
section
variable {P : Program} {E : Env P} {G : Nat → Prop} {gs : Gh} {S : State} {w : World} {tmps : Array Value}
/-- One cell of a row: what is told of it may be told otherwise. -/
theorem Inv.cell (hi : Inv E G gs S tmps w) {r j q : Nat} {row : Row} {y z : A} (hr : rowAt S.rows r = some row) (hlkr : row.lk = true) (hy : row.xs[j]? = some y) (hz : y.cells[q]? = some z) :
    ∃ b cur e v F1 Fz F3, (gs r).1 = some b ∧ w.heap[b]? = some (.cells cur e (0, 0)) ∧ cur[j * row.n + q]? = some v ∧ cellV v = true ∧ TRel w G S.rows gs z v Fz ∧ (gs r).2 = F1 ++ (Fz ++ F3) ∧
      ∀ z' Fy, z'.cells = [z'] → Res E G gs S.rows Fy → TRel w G S.rows gs z' v Fy → Inv E G (gs.add r (some b) (F1 ++ (Fy ++ F3))) (S.setRow r ⟨row.n, row.xs.set j (newElem y q [z']), true⟩) tmps w ∧
        Res E G (gs.add r (some b) (F1 ++ (Fy ++ F3))) (S.setRow r ⟨row.n, row.xs.set j (newElem y q [z']), true⟩).rows Fz ∧
        ∀ x u, TRel w G S.rows gs x u [] → TRel w G (S.setRow r ⟨row.n, row.xs.set j (newElem y q [z']), true⟩).rows (gs.add r (some b) (F1 ++ (Fy ++ F3))) x u [] := by
  have hj : j < row.xs.length := (List.getElem?_eq_some_iff.1 hy).1
  obtain ⟨b, hb, hrc⟩ := row_real hi hr (by omega) (.inl hlkr)
  obtain ⟨cur, e, cap, h1, h2, h3, h4, h5, h6, h7⟩ := hrc.ex
  have hyw := h5 y (List.mem_of_getElem? hy)
  have hq : q < y.cells.length := (List.getElem?_eq_some_iff.1 hz).1
  unfold A.width at hyw
  have hle : (j + 1) * row.n ≤ row.xs.length * row.n := Nat.mul_le_mul_right _ hj
  rw [Nat.add_mul] at hle
  have hle2 : row.xs.length * row.n ≤ cap * row.n := Nat.mul_le_mul_right _ h3.le
  obtain ⟨F1, F4, e1, k1, k2⟩ := h7.t.take_ (j * row.n + q)
  obtain ⟨Fz, F3, e2, k3, k4⟩ := k2.take_ 1
  rw [List.drop_drop] at k4
  have hseg := flat_seg h5 hy q 1 (by omega)
  have hseg2 : (y.cells.drop q).take 1 = [z] := by
    rw [List.drop_eq_getElem_cons hq]
    rw [List.getElem?_eq_getElem hq] at hz
    simp only [Option.some.injEq] at hz
    simp [hz]
  rw [hseg, hseg2] at k3
  obtain ⟨v, hv⟩ : ∃ v, cur[j * row.n + q]? = some v := ⟨_, Array.getElem?_eq_getElem (by omega)⟩
  have hvs : ((cur.toList.take (row.xs.length * row.n)).drop (j * row.n + q)).take 1 = [v] := by
    rw [List.drop_take, List.take_take, Nat.min_eq_left (by omega)]
    obtain ⟨hv1, hv2⟩ := Array.getElem?_eq_some_iff.1 hv
    rw [List.drop_eq_getElem_cons (by simpa using hv1)]
    simp [hv2]
  rw [hvs] at k3
  have hzv : TRel w G S.rows gs z v Fz := by
    generalize hu : [v] = us at k3
    cases k3 with
    | cons a c =>
      cases c
      cases hu
      simpa using a
  have hcv : cellV v = true := h6 v (by
    have : v ∈ ((cur.toList.take (row.xs.length * row.n)).drop (j * row.n + q)).take 1 := by rw [hvs]; simp
    exact List.mem_of_mem_drop (List.mem_of_mem_take this))
  subst e2
  refine ⟨b, cur, e, v, F1, Fz, F3, hb, h1, hv, hcv, hzv, e1, fun z' Fy hz' hRy hz2 => ?_⟩
  have hcl := newElem_cells' (x := y) (q := q) (ys := [z']) (by unfold A.width; simp; omega) (by simp) (by simpa using hz')
  have hflat := flat_set h5 hy (q := q) (ys := [z']) (by simp; omega) hcl
  have hnod := hi.nod r row hr
  rw [show gs.all r = b :: (F1 ++ (Fz ++ F3)) by simp [Gh.all, hb, e1]] at hnod
  have hnd := (List.nodup_cons.1 hnod).2
  have hdy : ∀ c ∈ b :: (F1 ++ (Fz ++ F3)), c ∉ Fy := fun c hc => hRy.dis r row hr c (by rw [show gs.all r = b :: (F1 ++ (Fz ++ F3)) by simp [Gh.all, hb, e1]]; exact hc)
  refine hi.recast (Fy := Fy) (row' := ⟨row.n, row.xs.set j (newElem y q [z']), true⟩) hr rfl List.length_set hb hRy (R := Fz) (F' := F1 ++ (Fy ++ F3)) (fun c hc => ?_) ?_ ?_
  · rw [e1]
    simp only [List.mem_append] at hc ⊢
    rcases hc with (h | h | h) | h
    · exact .inl (.inl h)
    · exact .inr h
    · exact .inl (.inr (.inr h))
    · exact .inl (.inr (.inl h))
  · rw [List.nodup_append] at hnd ⊢
    obtain ⟨m1, m2, m3⟩ := hnd
    rw [List.nodup_append] at m2
    obtain ⟨m4, m5, m6⟩ := m2
    refine ⟨List.nodup_append.2 ⟨m1, List.nodup_append.2 ⟨hRy.nod, m5, fun a ha c hc h => by subst h; exact hdy a (by simp [hc]) ha⟩, fun a ha c hc h => ?_⟩, m4, fun a ha c hc h => ?_⟩
    · subst h
      rcases List.mem_append.1 hc with hc | hc
      · exact hdy a (by simp [ha]) hc
      · exact m3 a ha a (by simp [hc]) rfl
    · subst h
      rcases List.mem_append.1 ha with ha | ha
      · exact m3 a ha a (by simp [hc]) rfl
      · rcases List.mem_append.1 ha with ha | ha
        · exact hdy a (by simp [hc]) ha
        · exact m6 a hc a ha rfl
  · refine ⟨cur, e, cap, h1, h2, by rw [hlkr] at h3; simpa using h3, h4, ?_, ?_, ?_⟩
    · intro u hu
      rcases List.mem_or_eq_of_mem_set hu with hu | rfl
      · exact h5 u hu
      · show (newElem y q [z']).cells.length = row.n
        rw [hcl]; simp; omega
    · simpa using h6
    · show CellsRel true w G S.rows gs (flat (row.xs.set j (newElem y q [z']))) (cur.toList.take ((row.xs.set j (newElem y q [z'])).length * row.n)) (F1 ++ (Fy ++ F3))
      unfold CellsRel
      rw [if_pos rfl, List.length_set, hflat]
      generalize cur.toList.take (row.xs.length * row.n) = l at hvs k1 k4
      generalize j * row.n + q = p at hvs k1 k4
      have hs1 : l.drop p = [v] ++ (l.drop p).drop 1 := by rw [← hvs, List.take_append_drop]
      have hs2 : l = l.take p ++ ([v] ++ (l.drop p).drop 1) := by rw [← hs1, List.take_append_drop]
      rw [List.append_assoc]
      have := k1.append ((TRelL.cons hz2 .nil).append k4)
      rw [← hs2] at this
      simpa using this
/-- A nil slice in a cell of an own row told as an own row without a block. -/
theorem Sbs.nilCell {r j q n : Nat} {row : Row} {y : A} (hr : rowAt S.rows r = some row) (hy : row.xs[j]? = some y) (hz : y.cells[q]? = some .nil) (hlkr : row.lk = true := by rfl) :
    Sbs S ((S.addRow ⟨n, [], false⟩).setRow r ⟨row.n, row.xs.set j (newElem y q [.vw S.rows.length 0 0]), true⟩) := by
  intro P E a w ⟨hd, G, gs, hi⟩
  have hR := adopt_res (R1 := []) (R2 := []) (ob := none) (F := []) hi Res.nil (by simp) rfl (row := ⟨n, [], false⟩) (fun _ _ => .inl ⟨rfl, rfl⟩)
  have hlt := rowAt_lt hr
  have hr1 : rowAt (S.addRow ⟨n, [], false⟩).rows r = some row := by
    show rowAt (S.rows ++ [some ⟨n, [], false⟩]) r = _
    rw [rowAt_push, if_neg (by omega)]; exact hr
  obtain ⟨b, cur, e, v, F1, Fz, F3, _, _, _, _, hzv, _, hcell⟩ := hR.inv.cell hr1 hlkr hy hz
  have hv : v = .slice none 0 0 := by
    cases hzv with | of h => cases h; rfl
  have hself : (gs.add S.rows.length none []) S.rows.length = (none, []) := by simp [Gh.add]
  obtain ⟨h1, _, _⟩ := hcell (.vw S.rows.length 0 0) [] rfl Res.nil (by
    rw [hv]
    refine .vwn (row := ⟨n, [], false⟩) ?_ (by rw [hself]) rfl
    show rowAt (S.rows ++ [some ⟨n, [], false⟩]) S.rows.length = _
    rw [rowAt_push, if_pos rfl])
  exact ⟨hd, G, _, h1⟩
end
end Go.Fw

/- The table of the types that the walks ask for. Plain theorems, no condition. -/
namespace Go.Proofs.YtomfmdfamlmfiaaGreat
open Go.Fw
def T : Nat → Option TI
  | 2 => some ⟨1, 8, none, false, false, false, [], (some (.int .i64 0)), (some .i64), none⟩
  | 3 => some ⟨1, 8, none, false, false, false, [], (some (.int .i64 0)), (some .i64), none⟩
  | 4 => some ⟨1, 1, none, false, false, true, [], (some (.bool false)), none, none⟩
  | 5 => some ⟨1, 1, none, false, false, false, [], (some (.int .u8 0)), (some .u8), none⟩
  | 6 => some ⟨1, 1, none, false, false, false, [], (some (.int .u8 0)), (some .u8), none⟩
  | 7 => some ⟨4, 24, none, true, false, false, [(0, 1, false), (1, 1, false), (2, 1, false), (3, 1, false)], (some (.agg #[(.int .i64 0), (.int .i64 0), (.bool false), (.int .u8 0)])), none, none⟩
  | 8 => some ⟨4, 24, none, true, false, false, [(0, 1, false), (1, 1, false), (2, 1, false), (3, 1, false)], (some (.agg #[(.int .i64 0), (.int .i64 0), (.bool false), (.int .u8 0)])), none, none⟩
  | 9 => some ⟨1, 16, none, false, true, false, [], (some (.string ⟨#[]⟩)), none, none⟩
  | 10 => some ⟨1, 16, none, false, true, false, [], (some (.string ⟨#[]⟩)), none, none⟩
  | 11 => some ⟨1, 16, none, false, true, false, [], (some (.string ⟨#[]⟩)), none, none⟩
  | 12 => some ⟨1, 8, none, false, false, false, [], (some (.int .u64 0)), (some .u64), none⟩
  | 13 => some ⟨2, 24, none, true, false, false, [(0, 1, false), (1, 1, false)], (some (.agg #[(.string ⟨#[]⟩), (.int .u64 0)])), none, none⟩
  | 14 => some ⟨2, 24, none, true, false, false, [(0, 1, false), (1, 1, false)], (some (.agg #[(.string ⟨#[]⟩), (.int .u64 0)])), none, none⟩
  | 15 => some ⟨1, 8, none, false, false, false, [], (some (.pointer none)), none, none⟩
  | 16 => some ⟨1, 8, none, false, false, false, [], (some (.pointer none)), none, none⟩
  | 17 => some ⟨1, 8, none, false, false, false, [], (some (.pointer none)), none, none⟩
  | 18 => some ⟨1, 8, none, true, false, false, [(0, 1, false)], (some (.agg #[(.pointer none)])), none, none⟩
  | 19 => some ⟨1, 8, none, true, false, false, [(0, 1, false)], (some (.agg #[(.pointer none)])), none, none⟩
  | 21 => some ⟨1, 4, none, false, false, false, [], (some (.int .i32 0)), (some .i32), none⟩
  | 22 => some ⟨1, 24, (some 70), false, false, false, [], (some (.slice none 0 0)), none, none⟩
  | 23 => some ⟨1, 24, (some 2), false, false, false, [], (some (.slice none 0 0)), none, none⟩
  | 24 => some ⟨1, 24, (some 73), false, false, false, [], (some (.slice none 0 0)), none, none⟩
  | 27 => some ⟨3, 40, none, true, false, false, [(0, 1, false), (1, 1, false), (2, 1, false)], (some (.agg #[(.int .i64 0), (.int .i64 0), (.slice none 0 0)])), none, none⟩
  | 28 => some ⟨3, 40, none, true, false, false, [(0, 1, false), (1, 1, false), (2, 1, false)], (some (.agg #[(.int .i64 0), (.int .i64 0), (.slice none 0 0)])), none, none⟩
  | 30 => some ⟨1, 24, (some 62), false, false, false, [], (some (.slice none 0 0)), none, none⟩
  | 33 => some ⟨1, 24, (some 64), false, false, false, [], (some (.slice none 0 0)), none, none⟩
  | 44 => some ⟨2, 32, none, true, false, false, [(0, 1, false), (1, 1, false)], (some (.agg #[(.int .i64 0), (.slice none 0 0)])), none, none⟩
  | 45 => some ⟨2, 32, none, true, false, false, [(0, 1, false), (1, 1, false)], (some (.agg #[(.int .i64 0), (.slice none 0 0)])), none, none⟩
  | 50 => some ⟨1, 24, (some 5), false, false, false, [], (some (.slice none 0 0)), none, none⟩
  | 57 => some ⟨3, 24, none, true, false, false, [(0, 1, false), (1, 1, false), (2, 1, false)], (some (.agg #[(.int .i64 0), (.int .i64 0), (.int .i64 0)])), none, none⟩
  | 58 => some ⟨3, 24, none, true, false, false, [(0, 1, false), (1, 1, false), (2, 1, false)], (some (.agg #[(.int .i64 0), (.int .i64 0), (.int .i64 0)])), none, none⟩
  | 59 => some ⟨1, 24, (some 9), false, false, false, [], (some (.slice none 0 0)), none, none⟩
  | 60 => some ⟨1, 24, (some 33), false, false, false, [], (some (.slice none 0 0)), none, none⟩
  | 61 => some ⟨8, 120, none, true, false, false, [(0, 1, false), (1, 3, true), (4, 1, false), (5, 1, false), (6, 1, false), (7, 1, false)], (some (.agg #[(.string ⟨#[]⟩), (.int .i64 0), (.int .i64 0), (.int .i64 0), (.int .i64 0), (.slice none 0 0), (.slice none 0 0), (.slice none 0 0)])), none, none⟩
  | 62 => some ⟨8, 120, none, true, false, false, [(0, 1, false), (1, 3, true), (4, 1, false), (5, 1, false), (6, 1, false), (7, 1, false)], (some (.agg #[(.string ⟨#[]⟩), (.int .i64 0), (.int .i64 0), (.int .i64 0), (.int .i64 0), (.slice none 0 0), (.slice none 0 0), (.slice none 0 0)])), none, none⟩
  | 63 => some ⟨7, 64, none, true, false, false, [(0, 1, false), (1, 3, true), (4, 3, true)], (some (.agg #[(.string ⟨#[]⟩), (.int .i64 0), (.int .i64 0), (.int .i64 0), (.int .i64 0), (.int .i64 0), (.int .i64 0)])), none, none⟩
  | 64 => some ⟨7, 64, none, true, false, false, [(0, 1, false), (1, 3, true), (4, 3, true)], (some (.agg #[(.string ⟨#[]⟩), (.int .i64 0), (.int .i64 0), (.int .i64 0), (.int .i64 0), (.int .i64 0), (.int .i64 0)])), none, none⟩
  | 67 => some ⟨3, 24, none, true, false, false, [(0, 1, false), (1, 1, false), (2, 1, false)], (some (.agg #[(.int .i64 0), (.int .i64 0), (.int .i64 0)])), none, none⟩
  | 68 => some ⟨1, 24, (some 24), false, false, false, [], (some (.slice none 0 0)), none, none⟩
  | 69 => some ⟨8, 120, none, true, false, false, [(0, 1, false), (1, 3, true), (4, 1, false), (5, 1, false), (6, 1, false), (7, 1, false)], (some (.agg #[(.string ⟨#[]⟩), (.int .i64 0), (.int .i64 0), (.int .i64 0), (.int .i64 0), (.slice none 0 0), (.slice none 0 0), (.slice none 0 0)])), none, none⟩
  | 70 => some ⟨8, 120, none, true, false, false, [(0, 1, false), (1, 3, true), (4, 1, false), (5, 1, false), (6, 1, false), (7, 1, false)], (some (.agg #[(.string ⟨#[]⟩), (.int .i64 0), (.int .i64 0), (.int .i64 0), (.int .i64 0), (.slice none 0 0), (.slice none 0 0), (.slice none 0 0)])), none, none⟩
  | 72 => some ⟨7, 64, none, true, false, false, [(0, 1, false), (1, 3, true), (4, 3, true)], (some (.agg #[(.string ⟨#[]⟩), (.int .i64 0), (.int .i64 0), (.int .i64 0), (.int .i64 0), (.int .i64 0), (.int .i64 0)])), none, none⟩
  | 73 => some ⟨7, 64, none, true, false, false, [(0, 1, false), (1, 3, true), (4, 3, true)], (some (.agg #[(.string ⟨#[]⟩), (.int .i64 0), (.int .i64 0), (.int .i64 0), (.int .i64 0), (.int .i64 0), (.int .i64 0)])), none, none⟩
  | 78 => some ⟨1, 8, none, false, false, false, [], (some (.map none)), none, none⟩
  | 81 => some ⟨1, 8, none, false, false, false, [], (some .nilFunc), none, none⟩
  | 89 => some ⟨1, 8, none, false, false, false, [], (some (.pointer none)), none, none⟩
  | 106 => some ⟨1, 24, (some 23), false, false, false, [], (some (.slice none 0 0)), none, none⟩
  | 112 => some ⟨2, 32, none, true, false, false, [(0, 1, false), (1, 1, false)], (some (.agg #[(.slice none 0 0), (.int .i64 0)])), none, none⟩
  | 113 => some ⟨2, 32, none, true, false, false, [(0, 1, false), (1, 1, false)], (some (.agg #[(.slice none 0 0), (.int .i64 0)])), none, none⟩
  | 119 => some ⟨3, 40, none, true, false, false, [(0, 1, false), (1, 1, false), (2, 1, false)], (some (.agg #[(.int .i64 0), (.int .i64 0), (.slice none 0 0)])), none, none⟩
  | 120 => some ⟨3, 40, none, true, false, false, [(0, 1, false), (1, 1, false), (2, 1, false)], (some (.agg #[(.int .i64 0), (.int .i64 0), (.slice none 0 0)])), none, none⟩
  | 141 => some ⟨1, 24, (some 144), false, false, false, [], (some (.slice none 0 0)), none, none⟩
  | 143 => some ⟨3, 24, none, true, false, false, [(0, 1, false), (1, 1, false), (2, 1, false)], (some (.agg #[(.int .i64 0), (.int .i64 0), (.int .i64 0)])), none, none⟩
  | 144 => some ⟨3, 24, none, true, false, false, [(0, 1, false), (1, 1, false), (2, 1, false)], (some (.agg #[(.int .i64 0), (.int .i64 0), (.int .i64 0)])), none, none⟩
  | 146 => some ⟨1, 24, (some 151), false, false, false, [], (some (.slice none 0 0)), none, none⟩
  | 150 => some ⟨2, 32, none, true, false, false, [(0, 1, false), (1, 1, false)], (some (.agg #[(.int .i64 0), (.slice none 0 0)])), none, none⟩
  | 151 => some ⟨2, 32, none, true, false, false, [(0, 1, false), (1, 1, false)], (some (.agg #[(.int .i64 0), (.slice none 0 0)])), none, none⟩
  | 171 => some ⟨1, 24, (some 3), false, false, false, [], (some (.slice none 0 0)), none, none⟩
  | 175 => some ⟨4, 40, none, true, false, false, [(0, 1, false), (1, 1, false), (2, 1, false), (3, 1, false)], (some (.agg #[(.pointer none), (.pointer none), (.pointer none), (.string ⟨#[]⟩)])), none, none⟩
  | 176 => some ⟨4, 40, none, true, false, false, [(0, 1, false), (1, 1, false), (2, 1, false), (3, 1, false)], (some (.agg #[(.pointer none), (.pointer none), (.pointer none), (.string ⟨#[]⟩)])), none, none⟩
  | 177 => some ⟨0, 0, none, true, false, false, [], (some (.agg #[])), none, (some (0, 1))⟩
  | 178 => some ⟨0, 0, none, true, false, false, [(0, 0, true)], (some (.agg #[])), none, none⟩
  | 179 => some ⟨0, 0, none, true, false, false, [(0, 0, true)], (some (.agg #[])), none, none⟩
  | 181 => some ⟨1, 4, none, false, false, false, [], (some (.int .u32 0)), (some .u32), none⟩
  | 182 => some ⟨1, 1, none, false, false, false, [], (some (.int .u8 0)), (some .u8), none⟩
  | 183 => some ⟨1, 1, none, false, false, false, [], (some (.int .u8 0)), (some .u8), none⟩
  | 185 => some ⟨1, 8, none, false, false, false, [], (some (.pointer none)), none, none⟩
  | 186 => some ⟨1, 4, none, false, false, false, [], (some (.int .i32 0)), (some .i32), none⟩
  | 187 => some ⟨1, 4, none, false, false, false, [], (some (.int .i32 0)), (some .i32), none⟩
  | 190 => some ⟨1, 8, none, false, false, false, [], (some (.pointer none)), none, none⟩
  | _ => none

set_option maxRecDepth 100000 in
theorem T_ok : ∀ t i, T t = some i → tiOf Tryz.prog t = some i := by
  intro t i h
  unfold T at h
  split at h
  all_goals (cases h <;> kernel_rfl)
end Go.Proofs.YtomfmdfamlmfiaaGreat

/- The functions: their numbers, bodies, temporaries, results. Plain theorems, no condition. -/
namespace Go.Proofs.YtomfmdfamlmfiaaGreat
open Go.Fw
noncomputable abbrev PP : Program := Tryz.prog
theorem tab : TabOK PP T := T_ok
abbrev n_laws_FnWhys : Nat := 5
theorem fn_laws_FnWhys : FnAt PP 5 (Tryz.f5.body.getD .skip) 130 [.tmp 2] := FnAt.of (fn := Tryz.f5) (by kernel_rfl) (by kernel_rfl) (by kernel_rfl) (by kernel_rfl) (by kernel_rfl) (by decide)
abbrev n_impl_OrphansOf : Nat := 12
theorem fn_impl_OrphansOf : FnAt PP 12 (Tryz.f12.body.getD .skip) 25 [.cell 6 28] := FnAt.of (fn := Tryz.f12) (by kernel_rfl) (by kernel_rfl) (by kernel_rfl) (by kernel_rfl) (by kernel_rfl) (by decide)
abbrev n_spec_WhyOf : Nat := 22
theorem fn_spec_WhyOf : FnAt PP 22 (Tryz.f22.body.getD .skip) 42 [.cell 8 45] := FnAt.of (fn := Tryz.f22) (by kernel_rfl) (by kernel_rfl) (by kernel_rfl) (by kernel_rfl) (by kernel_rfl) (by decide)
abbrev n_impl_WhyOf : Nat := 23
theorem fn_impl_WhyOf : FnAt PP 23 (Tryz.f23.body.getD .skip) 40 [.cell 8 45] := FnAt.of (fn := Tryz.f23) (by kernel_rfl) (by kernel_rfl) (by kernel_rfl) (by kernel_rfl) (by kernel_rfl) (by decide)
abbrev n_laws_lwBig : Nat := 27
theorem fn_laws_lwBig : FnAt PP 27 (Tryz.f27.body.getD .skip) 6 [.tmp 2] := FnAt.of (fn := Tryz.f27) (by kernel_rfl) (by kernel_rfl) (by kernel_rfl) (by kernel_rfl) (by kernel_rfl) (by decide)
abbrev n_spec_DrawWhyOf : Nat := 28
theorem fn_spec_DrawWhyOf : FnAt PP 28 (Tryz.f28.body.getD .skip) 25 [.tmp 2, .tmp 3, .tmp 4, .tmp 5] := FnAt.of (fn := Tryz.f28) (by kernel_rfl) (by kernel_rfl) (by kernel_rfl) (by kernel_rfl) (by kernel_rfl) (by decide)
abbrev n_laws_lwHas : Nat := 29
theorem fn_laws_lwHas : FnAt PP 29 (Tryz.f29.body.getD .skip) 18 [.tmp 4] := FnAt.of (fn := Tryz.f29) (by kernel_rfl) (by kernel_rfl) (by kernel_rfl) (by kernel_rfl) (by kernel_rfl) (by decide)
abbrev n_spec_SetFault : Nat := 30
theorem fn_spec_SetFault : FnAt PP 30 (Tryz.f30.body.getD .skip) 15 [.tmp 4] := FnAt.of (fn := Tryz.f30) (by kernel_rfl) (by kernel_rfl) (by kernel_rfl) (by kernel_rfl) (by kernel_rfl) (by decide)
abbrev n_impl_GivesTerm : Nat := 31
theorem fn_impl_GivesTerm : FnAt PP 31 (Tryz.f31.body.getD .skip) 18 [.tmp 4] := FnAt.of (fn := Tryz.f31) (by kernel_rfl) (by kernel_rfl) (by kernel_rfl) (by kernel_rfl) (by kernel_rfl) (by decide)
abbrev n_impl_NeedersOf : Nat := 32
theorem fn_impl_NeedersOf : FnAt PP 32 (Tryz.f32.body.getD .skip) 27 [.cell 6 28] := FnAt.of (fn := Tryz.f32) (by kernel_rfl) (by kernel_rfl) (by kernel_rfl) (by kernel_rfl) (by kernel_rfl) (by decide)
abbrev n_spec_l13Asked : Nat := 35
theorem fn_spec_l13Asked : FnAt PP 35 (Tryz.f35.body.getD .skip) 19 [.tmp 6] := FnAt.of (fn := Tryz.f35) (by kernel_rfl) (by kernel_rfl) (by kernel_rfl) (by kernel_rfl) (by kernel_rfl) (by decide)
abbrev n_spec_l13Far : Nat := 36
theorem fn_spec_l13Far : FnAt PP 36 (Tryz.f36.body.getD .skip) 83 [.tmp 6] := FnAt.of (fn := Tryz.f36) (by kernel_rfl) (by kernel_rfl) (by kernel_rfl) (by kernel_rfl) (by kernel_rfl) (by decide)
abbrev n_impl_asksCode : Nat := 39
theorem fn_impl_asksCode : FnAt PP 39 (Tryz.f39.body.getD .skip) 23 [.tmp 6] := FnAt.of (fn := Tryz.f39) (by kernel_rfl) (by kernel_rfl) (by kernel_rfl) (by kernel_rfl) (by kernel_rfl) (by decide)
abbrev n_impl_ways : Nat := 40
theorem fn_impl_ways : FnAt PP 40 (Tryz.f40.body.getD .skip) 95 [.tmp 6] := FnAt.of (fn := Tryz.f40) (by kernel_rfl) (by kernel_rfl) (by kernel_rfl) (by kernel_rfl) (by kernel_rfl) (by decide)
abbrev n_impl_those : Nat := 41
theorem fn_impl_those : FnAt PP 41 (Tryz.f41.body.getD .skip) 9 [.tmp 4] := FnAt.of (fn := Tryz.f41) (by kernel_rfl) (by kernel_rfl) (by kernel_rfl) (by kernel_rfl) (by kernel_rfl) (by decide)
abbrev n_impl_OrphansOf_1 : Nat := 42
theorem fn_impl_OrphansOf_1 : FnAt PP 42 (Tryz.f42.body.getD .skip) 9 [.tmp 3] := FnAt.of (fn := Tryz.f42) (by kernel_rfl) (by kernel_rfl) (by kernel_rfl) (by kernel_rfl) (by kernel_rfl) (by decide)
abbrev n_spec_l1Has : Nat := 49
theorem fn_spec_l1Has : FnAt PP 49 (Tryz.f49.body.getD .skip) 18 [.tmp 4] := FnAt.of (fn := Tryz.f49) (by kernel_rfl) (by kernel_rfl) (by kernel_rfl) (by kernel_rfl) (by kernel_rfl) (by decide)
abbrev n_spec_l13Place : Nat := 50
theorem fn_spec_l13Place : FnAt PP 50 (Tryz.f50.body.getD .skip) 19 [.tmp 4] := FnAt.of (fn := Tryz.f50) (by kernel_rfl) (by kernel_rfl) (by kernel_rfl) (by kernel_rfl) (by kernel_rfl) (by decide)
abbrev n_spec_l13Way : Nat := 51
theorem fn_spec_l13Way : FnAt PP 51 (Tryz.f51.body.getD .skip) 72 [.tmp 8] := FnAt.of (fn := Tryz.f51) (by kernel_rfl) (by kernel_rfl) (by kernel_rfl) (by kernel_rfl) (by kernel_rfl) (by decide)
abbrev n_slices_Contains_L_int64_int64 : Nat := 52
theorem fn_slices_Contains_L_int64_int64 : FnAt PP 52 (Tryz.f52.body.getD .skip) 9 [.tmp 4] := FnAt.of (fn := Tryz.f52) (by kernel_rfl) (by kernel_rfl) (by kernel_rfl) (by kernel_rfl) (by kernel_rfl) (by decide)
abbrev n_slices_Clone_L_int64_int64 : Nat := 53
theorem fn_slices_Clone_L_int64_int64 : FnAt PP 53 (Tryz.f53.body.getD .skip) 8 [.tmp 2] := FnAt.of (fn := Tryz.f53) (by kernel_rfl) (by kernel_rfl) (by kernel_rfl) (by kernel_rfl) (by kernel_rfl) (by decide)
abbrev n_spec_l1Source : Nat := 54
theorem fn_spec_l1Source : FnAt PP 54 (Tryz.f54.body.getD .skip) 6 [.tmp 2] := FnAt.of (fn := Tryz.f54) (by kernel_rfl) (by kernel_rfl) (by kernel_rfl) (by kernel_rfl) (by kernel_rfl) (by decide)
abbrev n_spec_l13Draw : Nat := 55
theorem fn_spec_l13Draw : FnAt PP 55 (Tryz.f55.body.getD .skip) 52 [.tmp 2, .tmp 3, .tmp 4] := FnAt.of (fn := Tryz.f55) (by kernel_rfl) (by kernel_rfl) (by kernel_rfl) (by kernel_rfl) (by kernel_rfl) (by decide)
abbrev n_spec_l13At : Nat := 56
theorem fn_spec_l13At : FnAt PP 56 (Tryz.f56.body.getD .skip) 29 [.tmp 6] := FnAt.of (fn := Tryz.f56) (by kernel_rfl) (by kernel_rfl) (by kernel_rfl) (by kernel_rfl) (by kernel_rfl) (by decide)
abbrev n_spec_CatalogFault : Nat := 57
theorem fn_spec_CatalogFault : FnAt PP 57 (Tryz.f57.body.getD .skip) 37 [.tmp 2] := FnAt.of (fn := Tryz.f57) (by kernel_rfl) (by kernel_rfl) (by kernel_rfl) (by kernel_rfl) (by kernel_rfl) (by decide)
abbrev n_spec_l3Set : Nat := 58
theorem fn_spec_l3Set : FnAt PP 58 (Tryz.f58.body.getD .skip) 37 [.tmp 4] := FnAt.of (fn := Tryz.f58) (by kernel_rfl) (by kernel_rfl) (by kernel_rfl) (by kernel_rfl) (by kernel_rfl) (by decide)
abbrev n_impl_PackFault : Nat := 59
theorem fn_impl_PackFault : FnAt PP 59 (Tryz.f59.body.getD .skip) 93 [.tmp 2] := FnAt.of (fn := Tryz.f59) (by kernel_rfl) (by kernel_rfl) (by kernel_rfl) (by kernel_rfl) (by kernel_rfl) (by decide)
abbrev n_impl_TermFault : Nat := 60
theorem fn_impl_TermFault : FnAt PP 60 (Tryz.f60.body.getD .skip) 35 [.tmp 2] := FnAt.of (fn := Tryz.f60) (by kernel_rfl) (by kernel_rfl) (by kernel_rfl) (by kernel_rfl) (by kernel_rfl) (by decide)
abbrev n_impl_Pack_gives : Nat := 61
theorem fn_impl_Pack_gives : FnAt PP 61 (Tryz.f61.body.getD .skip) 9 [.tmp 4] := FnAt.of (fn := Tryz.f61) (by kernel_rfl) (by kernel_rfl) (by kernel_rfl) (by kernel_rfl) (by kernel_rfl) (by decide)
abbrev n_impl_SetFault : Nat := 62
theorem fn_impl_SetFault : FnAt PP 62 (Tryz.f62.body.getD .skip) 32 [.tmp 4] := FnAt.of (fn := Tryz.f62) (by kernel_rfl) (by kernel_rfl) (by kernel_rfl) (by kernel_rfl) (by kernel_rfl) (by decide)
abbrev n_impl_NeedersOf_1 : Nat := 63
theorem fn_impl_NeedersOf_1 : FnAt PP 63 (Tryz.f63.body.getD .skip) 9 [.tmp 4] := FnAt.of (fn := Tryz.f63) (by kernel_rfl) (by kernel_rfl) (by kernel_rfl) (by kernel_rfl) (by kernel_rfl) (by decide)
abbrev n_impl_leans : Nat := 64
theorem fn_impl_leans : FnAt PP 64 (Tryz.f64.body.getD .skip) 23 [.tmp 6] := FnAt.of (fn := Tryz.f64) (by kernel_rfl) (by kernel_rfl) (by kernel_rfl) (by kernel_rfl) (by kernel_rfl) (by decide)
abbrev n_spec_l2Terms : Nat := 67
theorem fn_spec_l2Terms : FnAt PP 67 (Tryz.f67.body.getD .skip) 19 [.tmp 2] := FnAt.of (fn := Tryz.f67) (by kernel_rfl) (by kernel_rfl) (by kernel_rfl) (by kernel_rfl) (by kernel_rfl) (by decide)
abbrev n_spec_l13Asks : Nat := 68
theorem fn_spec_l13Asks : FnAt PP 68 (Tryz.f68.body.getD .skip) 23 [.tmp 6] := FnAt.of (fn := Tryz.f68) (by kernel_rfl) (by kernel_rfl) (by kernel_rfl) (by kernel_rfl) (by kernel_rfl) (by decide)
abbrev n_spec_l13Leans : Nat := 69
theorem fn_spec_l13Leans : FnAt PP 69 (Tryz.f69.body.getD .skip) 45 [.tmp 6] := FnAt.of (fn := Tryz.f69) (by kernel_rfl) (by kernel_rfl) (by kernel_rfl) (by kernel_rfl) (by kernel_rfl) (by decide)
abbrev n_impl_termsFault : Nat := 73
theorem fn_impl_termsFault : FnAt PP 73 (Tryz.f73.body.getD .skip) 18 [.tmp 2] := FnAt.of (fn := Tryz.f73) (by kernel_rfl) (by kernel_rfl) (by kernel_rfl) (by kernel_rfl) (by kernel_rfl) (by decide)
abbrev n_impl_Pack_givesOne : Nat := 74
theorem fn_impl_Pack_givesOne : FnAt PP 74 (Tryz.f74.body.getD .skip) 9 [.tmp 4] := FnAt.of (fn := Tryz.f74) (by kernel_rfl) (by kernel_rfl) (by kernel_rfl) (by kernel_rfl) (by kernel_rfl) (by decide)
abbrev n_slices_DeleteFunc_L_int64_int64 : Nat := 75
theorem fn_slices_DeleteFunc_L_int64_int64 : FnAt PP 75 (Tryz.f75.body.getD .skip) 42 [.tmp 4] := FnAt.of (fn := Tryz.f75) (by kernel_rfl) (by kernel_rfl) (by kernel_rfl) (by kernel_rfl) (by kernel_rfl) (by decide)
abbrev n_impl_those_1 : Nat := 76
theorem fn_impl_those_1 : FnAt PP 76 (Tryz.f76.body.getD .skip) 8 [.tmp 3] := FnAt.of (fn := Tryz.f76) (by kernel_rfl) (by kernel_rfl) (by kernel_rfl) (by kernel_rfl) (by kernel_rfl) (by decide)
abbrev n_spec_l13Less : Nat := 80
theorem fn_spec_l13Less : FnAt PP 80 (Tryz.f80.body.getD .skip) 30 [.tmp 4] := FnAt.of (fn := Tryz.f80) (by kernel_rfl) (by kernel_rfl) (by kernel_rfl) (by kernel_rfl) (by kernel_rfl) (by decide)
abbrev n_slices_Index_L_int64_int64 : Nat := 81
theorem fn_slices_Index_L_int64_int64 : FnAt PP 81 (Tryz.f81.body.getD .skip) 19 [.tmp 4] := FnAt.of (fn := Tryz.f81) (by kernel_rfl) (by kernel_rfl) (by kernel_rfl) (by kernel_rfl) (by kernel_rfl) (by decide)
abbrev n_spec_l2Catalog : Nat := 82
theorem fn_spec_l2Catalog : FnAt PP 82 (Tryz.f82.body.getD .skip) 53 [.tmp 2] := FnAt.of (fn := Tryz.f82) (by kernel_rfl) (by kernel_rfl) (by kernel_rfl) (by kernel_rfl) (by kernel_rfl) (by decide)
abbrev n_spec_l3Asks : Nat := 83
theorem fn_spec_l3Asks : FnAt PP 83 (Tryz.f83.body.getD .skip) 26 [.tmp 2] := FnAt.of (fn := Tryz.f83) (by kernel_rfl) (by kernel_rfl) (by kernel_rfl) (by kernel_rfl) (by kernel_rfl) (by decide)
abbrev n_spec_l3DrawSet : Nat := 84
theorem fn_spec_l3DrawSet : FnAt PP 84 (Tryz.f84.body.getD .skip) 73 [.tmp 4] := FnAt.of (fn := Tryz.f84) (by kernel_rfl) (by kernel_rfl) (by kernel_rfl) (by kernel_rfl) (by kernel_rfl) (by decide)
abbrev n_spec_l1Chance : Nat := 85
theorem fn_spec_l1Chance : FnAt PP 85 (Tryz.f85.body.getD .skip) 9 [.tmp 4] := FnAt.of (fn := Tryz.f85) (by kernel_rfl) (by kernel_rfl) (by kernel_rfl) (by kernel_rfl) (by kernel_rfl) (by decide)
abbrev n_spec_l3Ask : Nat := 86
theorem fn_spec_l3Ask : FnAt PP 86 (Tryz.f86.body.getD .skip) 33 [.tmp 4] := FnAt.of (fn := Tryz.f86) (by kernel_rfl) (by kernel_rfl) (by kernel_rfl) (by kernel_rfl) (by kernel_rfl) (by decide)
abbrev n_spec_l4Solve : Nat := 87
theorem fn_spec_l4Solve : FnAt PP 87 (Tryz.f87.body.getD .skip) 79 [.cell 8 120] := FnAt.of (fn := Tryz.f87) (by kernel_rfl) (by kernel_rfl) (by kernel_rfl) (by kernel_rfl) (by kernel_rfl) (by decide)
abbrev n_spec_l1Next : Nat := 88
theorem fn_spec_l1Next : FnAt PP 88 (Tryz.f88.body.getD .skip) 71 [.tmp 4] := FnAt.of (fn := Tryz.f88) (by kernel_rfl) (by kernel_rfl) (by kernel_rfl) (by kernel_rfl) (by kernel_rfl) (by decide)
abbrev n_spec_l1Pick : Nat := 89
theorem fn_spec_l1Pick : FnAt PP 89 (Tryz.f89.body.getD .skip) 12 [.tmp 4] := FnAt.of (fn := Tryz.f89) (by kernel_rfl) (by kernel_rfl) (by kernel_rfl) (by kernel_rfl) (by kernel_rfl) (by decide)
abbrev n_spec_PackFault : Nat := 90
theorem fn_spec_PackFault : FnAt PP 90 (Tryz.f90.body.getD .skip) 118 [.tmp 2] := FnAt.of (fn := Tryz.f90) (by kernel_rfl) (by kernel_rfl) (by kernel_rfl) (by kernel_rfl) (by kernel_rfl) (by decide)
abbrev n_spec_l2Find : Nat := 91
theorem fn_spec_l2Find : FnAt PP 91 (Tryz.f91.body.getD .skip) 32 [.tmp 6] := FnAt.of (fn := Tryz.f91) (by kernel_rfl) (by kernel_rfl) (by kernel_rfl) (by kernel_rfl) (by kernel_rfl) (by decide)
abbrev n_spec_l1In : Nat := 92
theorem fn_spec_l1In : FnAt PP 92 (Tryz.f92.body.getD .skip) 15 [.tmp 6] := FnAt.of (fn := Tryz.f92) (by kernel_rfl) (by kernel_rfl) (by kernel_rfl) (by kernel_rfl) (by kernel_rfl) (by decide)
abbrev n_impl_firstCode : Nat := 93
theorem fn_impl_firstCode : FnAt PP 93 (Tryz.f93.body.getD .skip) 15 [.tmp 2] := FnAt.of (fn := Tryz.f93) (by kernel_rfl) (by kernel_rfl) (by kernel_rfl) (by kernel_rfl) (by kernel_rfl) (by decide)
abbrev n_impl_NameFault : Nat := 94
theorem fn_impl_NameFault : FnAt PP 94 (Tryz.f94.body.getD .skip) 33 [.tmp 2] := FnAt.of (fn := Tryz.f94) (by kernel_rfl) (by kernel_rfl) (by kernel_rfl) (by kernel_rfl) (by kernel_rfl) (by decide)
abbrev n_impl_VersionFault : Nat := 95
theorem fn_impl_VersionFault : FnAt PP 95 (Tryz.f95.body.getD .skip) 19 [.tmp 2] := FnAt.of (fn := Tryz.f95) (by kernel_rfl) (by kernel_rfl) (by kernel_rfl) (by kernel_rfl) (by kernel_rfl) (by decide)
abbrev n_impl_within : Nat := 96
theorem fn_impl_within : FnAt PP 96 (Tryz.f96.body.getD .skip) 15 [.tmp 6] := FnAt.of (fn := Tryz.f96) (by kernel_rfl) (by kernel_rfl) (by kernel_rfl) (by kernel_rfl) (by kernel_rfl) (by decide)
abbrev n_slices_ContainsFunc_L_L_impl_Term_L_impl_Term : Nat := 97
theorem fn_slices_ContainsFunc_L_L_impl_Term_L_impl_Term : FnAt PP 97 (Tryz.f97.body.getD .skip) 9 [.tmp 4] := FnAt.of (fn := Tryz.f97) (by kernel_rfl) (by kernel_rfl) (by kernel_rfl) (by kernel_rfl) (by kernel_rfl) (by decide)
abbrev n_impl_PackFault_1 : Nat := 98
theorem fn_impl_PackFault_1 : FnAt PP 98 (Tryz.f98.body.getD .skip) 6 [.tmp 2] := FnAt.of (fn := Tryz.f98) (by kernel_rfl) (by kernel_rfl) (by kernel_rfl) (by kernel_rfl) (by kernel_rfl) (by decide)
abbrev n_slices_Contains_L_string_string : Nat := 99
theorem fn_slices_Contains_L_string_string : FnAt PP 99 (Tryz.f99.body.getD .skip) 9 [.tmp 4] := FnAt.of (fn := Tryz.f99) (by kernel_rfl) (by kernel_rfl) (by kernel_rfl) (by kernel_rfl) (by kernel_rfl) (by decide)
abbrev n_impl_top : Nat := 100
theorem fn_impl_top : FnAt PP 100 (Tryz.f100.body.getD .skip) 2 [.cell 0 58] := FnAt.of (fn := Tryz.f100) (by kernel_rfl) (by kernel_rfl) (by kernel_rfl) (by kernel_rfl) (by kernel_rfl) (by decide)
abbrev n_impl_compare : Nat := 101
theorem fn_impl_compare : FnAt PP 101 (Tryz.f101.body.getD .skip) 22 [.tmp 4] := FnAt.of (fn := Tryz.f101) (by kernel_rfl) (by kernel_rfl) (by kernel_rfl) (by kernel_rfl) (by kernel_rfl) (by decide)
abbrev n_slices_ContainsFunc_L_string_string : Nat := 102
theorem fn_slices_ContainsFunc_L_string_string : FnAt PP 102 (Tryz.f102.body.getD .skip) 9 [.tmp 4] := FnAt.of (fn := Tryz.f102) (by kernel_rfl) (by kernel_rfl) (by kernel_rfl) (by kernel_rfl) (by kernel_rfl) (by decide)
abbrev n_impl_Pack_names : Nat := 103
theorem fn_impl_Pack_names : FnAt PP 103 (Tryz.f103.body.getD .skip) 9 [.tmp 2] := FnAt.of (fn := Tryz.f103) (by kernel_rfl) (by kernel_rfl) (by kernel_rfl) (by kernel_rfl) (by kernel_rfl) (by decide)
abbrev n_impl_Pack_gives_1 : Nat := 104
theorem fn_impl_Pack_gives_1 : FnAt PP 104 (Tryz.f104.body.getD .skip) 10 [.tmp 4] := FnAt.of (fn := Tryz.f104) (by kernel_rfl) (by kernel_rfl) (by kernel_rfl) (by kernel_rfl) (by kernel_rfl) (by decide)
abbrev n_impl_Term_has : Nat := 105
theorem fn_impl_Term_has : FnAt PP 105 (Tryz.f105.body.getD .skip) 25 [.tmp 6] := FnAt.of (fn := Tryz.f105) (by kernel_rfl) (by kernel_rfl) (by kernel_rfl) (by kernel_rfl) (by kernel_rfl) (by decide)
abbrev n_impl_CatalogFault : Nat := 106
theorem fn_impl_CatalogFault : FnAt PP 106 (Tryz.f106.body.getD .skip) 31 [.tmp 2] := FnAt.of (fn := Tryz.f106) (by kernel_rfl) (by kernel_rfl) (by kernel_rfl) (by kernel_rfl) (by kernel_rfl) (by decide)
abbrev n_impl_arePlaces : Nat := 107
theorem fn_impl_arePlaces : FnAt PP 107 (Tryz.f107.body.getD .skip) 9 [.tmp 4] := FnAt.of (fn := Tryz.f107) (by kernel_rfl) (by kernel_rfl) (by kernel_rfl) (by kernel_rfl) (by kernel_rfl) (by decide)
abbrev n_spec_TermFault : Nat := 108
theorem fn_spec_TermFault : FnAt PP 108 (Tryz.f108.body.getD .skip) 33 [.tmp 2] := FnAt.of (fn := Tryz.f108) (by kernel_rfl) (by kernel_rfl) (by kernel_rfl) (by kernel_rfl) (by kernel_rfl) (by decide)
abbrev n_spec_l2Gives : Nat := 109
theorem fn_spec_l2Gives : FnAt PP 109 (Tryz.f109.body.getD .skip) 25 [.tmp 4] := FnAt.of (fn := Tryz.f109) (by kernel_rfl) (by kernel_rfl) (by kernel_rfl) (by kernel_rfl) (by kernel_rfl) (by decide)
abbrev n_slices_ContainsFunc_L_impl_Term_impl_Term : Nat := 110
theorem fn_slices_ContainsFunc_L_impl_Term_impl_Term : FnAt PP 110 (Tryz.f110.body.getD .skip) 9 [.tmp 4] := FnAt.of (fn := Tryz.f110) (by kernel_rfl) (by kernel_rfl) (by kernel_rfl) (by kernel_rfl) (by kernel_rfl) (by decide)
abbrev n_slices_IndexFunc_L_int64_int64 : Nat := 111
theorem fn_slices_IndexFunc_L_int64_int64 : FnAt PP 111 (Tryz.f111.body.getD .skip) 19 [.tmp 4] := FnAt.of (fn := Tryz.f111) (by kernel_rfl) (by kernel_rfl) (by kernel_rfl) (by kernel_rfl) (by kernel_rfl) (by decide)
abbrev n_spec_l2Pack : Nat := 112
theorem fn_spec_l2Pack : FnAt PP 112 (Tryz.f112.body.getD .skip) 63 [.cell 2 62] := FnAt.of (fn := Tryz.f112) (by kernel_rfl) (by kernel_rfl) (by kernel_rfl) (by kernel_rfl) (by kernel_rfl) (by decide)
abbrev n_spec_l2BentPack : Nat := 113
theorem fn_spec_l2BentPack : FnAt PP 113 (Tryz.f113.body.getD .skip) 76 [.cell 2 62] := FnAt.of (fn := Tryz.f113) (by kernel_rfl) (by kernel_rfl) (by kernel_rfl) (by kernel_rfl) (by kernel_rfl) (by decide)
abbrev n_spec_l1Term : Nat := 114
theorem fn_spec_l1Term : FnAt PP 114 (Tryz.f114.body.getD .skip) 24 [.cell 2 64] := FnAt.of (fn := Tryz.f114) (by kernel_rfl) (by kernel_rfl) (by kernel_rfl) (by kernel_rfl) (by kernel_rfl) (by decide)
abbrev n_spec_l1BentTerm : Nat := 115
theorem fn_spec_l1BentTerm : FnAt PP 115 (Tryz.f115.body.getD .skip) 29 [.cell 2 64] := FnAt.of (fn := Tryz.f115) (by kernel_rfl) (by kernel_rfl) (by kernel_rfl) (by kernel_rfl) (by kernel_rfl) (by decide)
abbrev n_spec_l3Faults : Nat := 116
theorem fn_spec_l3Faults : FnAt PP 116 (Tryz.f116.body.getD .skip) 103 [.tmp 4] := FnAt.of (fn := Tryz.f116) (by kernel_rfl) (by kernel_rfl) (by kernel_rfl) (by kernel_rfl) (by kernel_rfl) (by decide)
abbrev n_spec_AnyTerm : Nat := 117
theorem fn_spec_AnyTerm : FnAt PP 117 (Tryz.f117.body.getD .skip) 6 [.cell 2 64] := FnAt.of (fn := Tryz.f117) (by kernel_rfl) (by kernel_rfl) (by kernel_rfl) (by kernel_rfl) (by kernel_rfl) (by decide)
abbrev n_spec_l4Chosen : Nat := 118
theorem fn_spec_l4Chosen : FnAt PP 118 (Tryz.f118.body.getD .skip) 21 [.tmp 2] := FnAt.of (fn := Tryz.f118) (by kernel_rfl) (by kernel_rfl) (by kernel_rfl) (by kernel_rfl) (by kernel_rfl) (by decide)
abbrev n_spec_l4Unmet : Nat := 119
theorem fn_spec_l4Unmet : FnAt PP 119 (Tryz.f119.body.getD .skip) 65 [.tmp 6] := FnAt.of (fn := Tryz.f119) (by kernel_rfl) (by kernel_rfl) (by kernel_rfl) (by kernel_rfl) (by kernel_rfl) (by decide)
abbrev n_spec_l4Sorted : Nat := 120
theorem fn_spec_l4Sorted : FnAt PP 120 (Tryz.f120.body.getD .skip) 19 [.tmp 2] := FnAt.of (fn := Tryz.f120) (by kernel_rfl) (by kernel_rfl) (by kernel_rfl) (by kernel_rfl) (by kernel_rfl) (by decide)
abbrev n_spec_l4Candidates : Nat := 121
theorem fn_spec_l4Candidates : FnAt PP 121 (Tryz.f121.body.getD .skip) 90 [.tmp 10] := FnAt.of (fn := Tryz.f121) (by kernel_rfl) (by kernel_rfl) (by kernel_rfl) (by kernel_rfl) (by kernel_rfl) (by decide)
abbrev n_spec_NameFault : Nat := 122
theorem fn_spec_NameFault : FnAt PP 122 (Tryz.f122.body.getD .skip) 29 [.tmp 2] := FnAt.of (fn := Tryz.f122) (by kernel_rfl) (by kernel_rfl) (by kernel_rfl) (by kernel_rfl) (by kernel_rfl) (by decide)
abbrev n_spec_VersionFault : Nat := 123
theorem fn_spec_VersionFault : FnAt PP 123 (Tryz.f123.body.getD .skip) 19 [.tmp 2] := FnAt.of (fn := Tryz.f123) (by kernel_rfl) (by kernel_rfl) (by kernel_rfl) (by kernel_rfl) (by kernel_rfl) (by decide)
abbrev n_spec_l2Holds : Nat := 124
theorem fn_spec_l2Holds : FnAt PP 124 (Tryz.f124.body.getD .skip) 18 [.tmp 4] := FnAt.of (fn := Tryz.f124) (by kernel_rfl) (by kernel_rfl) (by kernel_rfl) (by kernel_rfl) (by kernel_rfl) (by decide)
abbrev n_spec_CompareVersions : Nat := 125
theorem fn_spec_CompareVersions : FnAt PP 125 (Tryz.f125.body.getD .skip) 28 [.tmp 4] := FnAt.of (fn := Tryz.f125) (by kernel_rfl) (by kernel_rfl) (by kernel_rfl) (by kernel_rfl) (by kernel_rfl) (by decide)
abbrev n_impl_isNameByte : Nat := 126
theorem fn_impl_isNameByte : FnAt PP 126 (Tryz.f126.body.getD .skip) 21 [.tmp 2] := FnAt.of (fn := Tryz.f126) (by kernel_rfl) (by kernel_rfl) (by kernel_rfl) (by kernel_rfl) (by kernel_rfl) (by decide)
abbrev n_slices_IndexFunc_L_L_impl_Term_L_impl_Term : Nat := 127
theorem fn_slices_IndexFunc_L_L_impl_Term_L_impl_Term : FnAt PP 127 (Tryz.f127.body.getD .skip) 19 [.tmp 4] := FnAt.of (fn := Tryz.f127) (by kernel_rfl) (by kernel_rfl) (by kernel_rfl) (by kernel_rfl) (by kernel_rfl) (by decide)
abbrev n_slices_Index_L_string_string : Nat := 128
theorem fn_slices_Index_L_string_string : FnAt PP 128 (Tryz.f128.body.getD .skip) 19 [.tmp 4] := FnAt.of (fn := Tryz.f128) (by kernel_rfl) (by kernel_rfl) (by kernel_rfl) (by kernel_rfl) (by kernel_rfl) (by decide)
abbrev n_cmp_Or_int : Nat := 129
theorem fn_cmp_Or_int : FnAt PP 129 (Tryz.f129.body.getD .skip) 18 [.tmp 2] := FnAt.of (fn := Tryz.f129) (by kernel_rfl) (by kernel_rfl) (by kernel_rfl) (by kernel_rfl) (by kernel_rfl) (by decide)
abbrev n_cmp_Compare_int64 : Nat := 130
theorem fn_cmp_Compare_int64 : FnAt PP 130 (Tryz.f130.body.getD .skip) 20 [.tmp 4] := FnAt.of (fn := Tryz.f130) (by kernel_rfl) (by kernel_rfl) (by kernel_rfl) (by kernel_rfl) (by kernel_rfl) (by decide)
abbrev n_slices_IndexFunc_L_string_string : Nat := 131
theorem fn_slices_IndexFunc_L_string_string : FnAt PP 131 (Tryz.f131.body.getD .skip) 19 [.tmp 4] := FnAt.of (fn := Tryz.f131) (by kernel_rfl) (by kernel_rfl) (by kernel_rfl) (by kernel_rfl) (by kernel_rfl) (by decide)
abbrev n_impl_find : Nat := 132
theorem fn_impl_find : FnAt PP 132 (Tryz.f132.body.getD .skip) 10 [.tmp 6] := FnAt.of (fn := Tryz.f132) (by kernel_rfl) (by kernel_rfl) (by kernel_rfl) (by kernel_rfl) (by kernel_rfl) (by decide)
abbrev n_slices_ContainsFunc_L_int64_int64 : Nat := 133
theorem fn_slices_ContainsFunc_L_int64_int64 : FnAt PP 133 (Tryz.f133.body.getD .skip) 9 [.tmp 4] := FnAt.of (fn := Tryz.f133) (by kernel_rfl) (by kernel_rfl) (by kernel_rfl) (by kernel_rfl) (by kernel_rfl) (by decide)
abbrev n_impl_arePlaces_1 : Nat := 134
theorem fn_impl_arePlaces_1 : FnAt PP 134 (Tryz.f134.body.getD .skip) 10 [.tmp 3] := FnAt.of (fn := Tryz.f134) (by kernel_rfl) (by kernel_rfl) (by kernel_rfl) (by kernel_rfl) (by kernel_rfl) (by decide)
abbrev n_spec_l1Top : Nat := 135
theorem fn_spec_l1Top : FnAt PP 135 (Tryz.f135.body.getD .skip) 2 [.cell 0 58] := FnAt.of (fn := Tryz.f135) (by kernel_rfl) (by kernel_rfl) (by kernel_rfl) (by kernel_rfl) (by kernel_rfl) (by decide)
abbrev n_spec_l1InTerm : Nat := 136
theorem fn_spec_l1InTerm : FnAt PP 136 (Tryz.f136.body.getD .skip) 25 [.tmp 6] := FnAt.of (fn := Tryz.f136) (by kernel_rfl) (by kernel_rfl) (by kernel_rfl) (by kernel_rfl) (by kernel_rfl) (by decide)
abbrev n_slices_IndexFunc_L_impl_Term_impl_Term : Nat := 137
theorem fn_slices_IndexFunc_L_impl_Term_impl_Term : FnAt PP 137 (Tryz.f137.body.getD .skip) 19 [.tmp 4] := FnAt.of (fn := Tryz.f137) (by kernel_rfl) (by kernel_rfl) (by kernel_rfl) (by kernel_rfl) (by kernel_rfl) (by decide)
abbrev n_spec_l1DrawName : Nat := 138
theorem fn_spec_l1DrawName : FnAt PP 138 (Tryz.f138.body.getD .skip) 8 [.tmp 2] := FnAt.of (fn := Tryz.f138) (by kernel_rfl) (by kernel_rfl) (by kernel_rfl) (by kernel_rfl) (by kernel_rfl) (by decide)
abbrev n_spec_l1BentName : Nat := 139
theorem fn_spec_l1BentName : FnAt PP 139 (Tryz.f139.body.getD .skip) 12 [.tmp 2] := FnAt.of (fn := Tryz.f139) (by kernel_rfl) (by kernel_rfl) (by kernel_rfl) (by kernel_rfl) (by kernel_rfl) (by decide)
abbrev n_spec_l1BentVersion : Nat := 140
theorem fn_spec_l1BentVersion : FnAt PP 140 (Tryz.f140.body.getD .skip) 27 [.cell 2 58] := FnAt.of (fn := Tryz.f140) (by kernel_rfl) (by kernel_rfl) (by kernel_rfl) (by kernel_rfl) (by kernel_rfl) (by decide)
abbrev n_spec_l1Version : Nat := 141
theorem fn_spec_l1Version : FnAt PP 141 (Tryz.f141.body.getD .skip) 16 [.cell 2 58] := FnAt.of (fn := Tryz.f141) (by kernel_rfl) (by kernel_rfl) (by kernel_rfl) (by kernel_rfl) (by kernel_rfl) (by decide)
abbrev n_spec_l3Met : Nat := 142
theorem fn_spec_l3Met : FnAt PP 142 (Tryz.f142.body.getD .skip) 21 [.tmp 6] := FnAt.of (fn := Tryz.f142) (by kernel_rfl) (by kernel_rfl) (by kernel_rfl) (by kernel_rfl) (by kernel_rfl) (by decide)
abbrev n_spec_l3Given : Nat := 143
theorem fn_spec_l3Given : FnAt PP 143 (Tryz.f143.body.getD .skip) 33 [.tmp 8] := FnAt.of (fn := Tryz.f143) (by kernel_rfl) (by kernel_rfl) (by kernel_rfl) (by kernel_rfl) (by kernel_rfl) (by decide)
abbrev n_spec_l3Put : Nat := 144
theorem fn_spec_l3Put : FnAt PP 144 (Tryz.f144.body.getD .skip) 43 [.tmp 4] := FnAt.of (fn := Tryz.f144) (by kernel_rfl) (by kernel_rfl) (by kernel_rfl) (by kernel_rfl) (by kernel_rfl) (by decide)
abbrev n_spec_l4Fits : Nat := 145
theorem fn_spec_l4Fits : FnAt PP 145 (Tryz.f145.body.getD .skip) 54 [.tmp 6] := FnAt.of (fn := Tryz.f145) (by kernel_rfl) (by kernel_rfl) (by kernel_rfl) (by kernel_rfl) (by kernel_rfl) (by decide)
abbrev n_spec_l4Ahead : Nat := 146
theorem fn_spec_l4Ahead : FnAt PP 146 (Tryz.f146.body.getD .skip) 38 [.tmp 8] := FnAt.of (fn := Tryz.f146) (by kernel_rfl) (by kernel_rfl) (by kernel_rfl) (by kernel_rfl) (by kernel_rfl) (by decide)
abbrev n_spec_l1Letter : Nat := 147
theorem fn_spec_l1Letter : FnAt PP 147 (Tryz.f147.body.getD .skip) 9 [.tmp 2] := FnAt.of (fn := Tryz.f147) (by kernel_rfl) (by kernel_rfl) (by kernel_rfl) (by kernel_rfl) (by kernel_rfl) (by decide)
abbrev n_spec_l1Name : Nat := 148
theorem fn_spec_l1Name : FnAt PP 148 (Tryz.f148.body.getD .skip) 13 [.tmp 2] := FnAt.of (fn := Tryz.f148) (by kernel_rfl) (by kernel_rfl) (by kernel_rfl) (by kernel_rfl) (by kernel_rfl) (by decide)
abbrev n_spec_l1Sign : Nat := 149
theorem fn_spec_l1Sign : FnAt PP 149 (Tryz.f149.body.getD .skip) 11 [.tmp 4] := FnAt.of (fn := Tryz.f149) (by kernel_rfl) (by kernel_rfl) (by kernel_rfl) (by kernel_rfl) (by kernel_rfl) (by decide)
abbrev n_cmp_isNaN_int64 : Nat := 150
theorem fn_cmp_isNaN_int64 : FnAt PP 150 (Tryz.f150.body.getD .skip) 6 [.tmp 2] := FnAt.of (fn := Tryz.f150) (by kernel_rfl) (by kernel_rfl) (by kernel_rfl) (by kernel_rfl) (by kernel_rfl) (by decide)
abbrev n_slices_IndexFunc_L_impl_Pack_impl_Pack : Nat := 151
theorem fn_slices_IndexFunc_L_impl_Pack_impl_Pack : FnAt PP 151 (Tryz.f151.body.getD .skip) 19 [.tmp 4] := FnAt.of (fn := Tryz.f151) (by kernel_rfl) (by kernel_rfl) (by kernel_rfl) (by kernel_rfl) (by kernel_rfl) (by decide)
abbrev n_impl_find_1 : Nat := 152
theorem fn_impl_find_1 : FnAt PP 152 (Tryz.f152.body.getD .skip) 15 [.tmp 4] := FnAt.of (fn := Tryz.f152) (by kernel_rfl) (by kernel_rfl) (by kernel_rfl) (by kernel_rfl) (by kernel_rfl) (by decide)
abbrev n_spec_l4BarsOne : Nat := 153
theorem fn_spec_l4BarsOne : FnAt PP 153 (Tryz.f153.body.getD .skip) 23 [.tmp 6] := FnAt.of (fn := Tryz.f153) (by kernel_rfl) (by kernel_rfl) (by kernel_rfl) (by kernel_rfl) (by kernel_rfl) (by decide)
abbrev n_spec_l1Digit : Nat := 154
theorem fn_spec_l1Digit : FnAt PP 154 (Tryz.f154.body.getD .skip) 9 [.tmp 2] := FnAt.of (fn := Tryz.f154) (by kernel_rfl) (by kernel_rfl) (by kernel_rfl) (by kernel_rfl) (by kernel_rfl) (by decide)
end Go.Proofs.YtomfmdfamlmfiaaGreat

/- The program's data as plain data, and how memory tells of them. Definitions. -/
set_option linter.unusedVariables false
namespace Go.Proofs.YtomfmdfamlmfiaaGreat
open Go Go.Fw
def i64 (x : Int) : A := .sc (.int .i64 x)
def boo (x : Bool) : A := .sc (.bool x)
def str (x : List UInt8) : A := .sc (.string (mkS x))
structure Ver where
  a : Int
  b : Int
  c : Int
  deriving DecidableEq
def Ver.cells (v : Ver) : List A := [i64 v.a, i64 v.b, i64 v.c]
def Ver.enc (v : Ver) : A := .agg v.cells
def Ver.zero : Ver := ⟨0, 0, 0⟩
/-! Sizes. -/
theorem inc64 {n : Nat} (h : n < 9223372036854775807) : IntKind.i64.wrap ((n : Int) + 1) = ((n + 1 : Nat) : Int) := by rw [wrap64 (by omega) (by omega)]; omega
/-! Steps that all loops have. -/
section
variable {Ω : Opq}
theorem ltI (hΩ : Ω = std) {i : Nat} {xs : List A} (h : Ω.cmp .lss (Ω.int i) (Ω.int (Ω.len xs)) = true) : i < xs.length := by
  subst hΩ
  have h : (i : Int) < xs.length := lt_t h
  omega
theorem geI (hΩ : Ω = std) {i : Nat} {xs : List A} (h : Ω.cmp .lss (Ω.int i) (Ω.int (Ω.len xs)) = false) : xs.length ≤ i := by
  subst hΩ
  have h : (xs.length : Int) ≤ i := lt_f h
  omega
theorem ltN (hΩ : Ω = std) {i n : Nat} (h : Ω.cmp .lss (Ω.int i) (Ω.int n) = true) : i < n := by
  subst hΩ
  have h : (i : Int) < n := lt_t h
  omega
theorem geN (hΩ : Ω = std) {i n : Nat} (h : Ω.cmp .lss (Ω.int i) (Ω.int n) = false) : n ≤ i := by
  subst hΩ
  have h : (n : Int) ≤ i := lt_f h
  omega
theorem nnI (hΩ : Ω = std) {i : Nat} : 0 ≤ Ω.int i := by subst hΩ; exact Int.natCast_nonneg i
theorem rdI (hΩ : Ω = std) {α : Type} {f : α → A} {cs : List α} {xs : List A} {i : Nat} {c : α} (hxs : xs = cs.map f) (hc : cs[i]? = some c) : xs[(Ω.int i).toNat]? = some (f c) := by
  subst hΩ
  show xs[i]? = _
  rw [hxs, List.getElem?_map, hc]; rfl
theorem incI (hΩ : Ω = std) {i : Nat} (h : i < 9223372036854775807) : i64 (Ω.ar .add .i64 (Ω.int i) 1) = i64 (Ω.int (i + 1)) := by subst hΩ; exact congrArg i64 (inc64 h)
theorem zeroI (hΩ : Ω = std) : i64 0 = i64 (Ω.int 0) := by subst hΩ; rfl
end
theorem okAll {xs : List A} (h : (flat xs).all okCell = true) : ∀ c ∈ flat xs, okCell c = true := List.all_eq_true.1 h
theorem eqI_t {Ω : Opq} (hΩ : Ω = std) {x y : Int} (h : Ω.cmp .eql x y = true) : x = y := by subst hΩ; exact eq_t h
theorem eqI_f {Ω : Opq} (hΩ : Ω = std) {x y : Int} (h : Ω.cmp .eql x y = false) : x ≠ y := by subst hΩ; exact eq_f h
theorem neI_t {Ω : Opq} (hΩ : Ω = std) {x y : Int} (h : Ω.cmp .neq x y = true) : x ≠ y := by subst hΩ; exact ne_t h
theorem neI_f {Ω : Opq} (hΩ : Ω = std) {x y : Int} (h : Ω.cmp .neq x y = false) : x = y := by subst hΩ; exact ne_f h
theorem geI_t {Ω : Opq} (hΩ : Ω = std) {x y : Int} (h : Ω.cmp .geq x y = true) : y ≤ x := by subst hΩ; exact ge_t h
theorem geI_f {Ω : Opq} (hΩ : Ω = std) {x y : Int} (h : Ω.cmp .geq x y = false) : x < y := by subst hΩ; exact ge_f h
theorem leI_t {Ω : Opq} (hΩ : Ω = std) {x y : Int} (h : Ω.cmp .leq x y = true) : x ≤ y := by subst hΩ; exact le_t h
theorem leI_f {Ω : Opq} (hΩ : Ω = std) {x y : Int} (h : Ω.cmp .leq x y = false) : y < x := by subst hΩ; exact le_f h
theorem ltI_t {Ω : Opq} (hΩ : Ω = std) {x y : Int} (h : Ω.cmp .lss x y = true) : x < y := by subst hΩ; exact lt_t h
theorem ltI_f {Ω : Opq} (hΩ : Ω = std) {x y : Int} (h : Ω.cmp .lss x y = false) : y ≤ x := by subst hΩ; exact lt_f h
theorem gtI_t {Ω : Opq} (hΩ : Ω = std) {x y : Int} (h : Ω.cmp .gtr x y = true) : y < x := by subst hΩ; exact gt_t h
theorem gtI_f {Ω : Opq} (hΩ : Ω = std) {x y : Int} (h : Ω.cmp .gtr x y = false) : x ≤ y := by subst hΩ; exact gt_f h
theorem ixI {Ω : Opq} (hΩ : Ω = std) {i n : Nat} (h : i < n) : 0 ≤ Ω.int i ∧ Ω.int i < (n : Int) := by subst hΩ; exact ⟨Int.natCast_nonneg i, Int.ofNat_lt.2 h⟩
theorem atI {Ω : Opq} (hΩ : Ω = std) {i : Nat} {xs : List A} {z : A} (h : xs[i]? = some z) : xs[Ω.plus 0 (Ω.nat (Ω.int i))]? = some z := by
  subst hΩ; show xs[0 + i]? = _; rw [Nat.zero_add]; exact h
theorem at_of {α : Type} {cs : List α} {i : Nat} (h : i < cs.length) : ∃ c, cs[i]? = some c := ⟨_, List.getElem?_eq_getElem h⟩
theorem hmo : PP.follows .mixedOrders = true := by kernel_rfl
end Go.Proofs.YtomfmdfamlmfiaaGreat

/- Packages, terms, and what the program's functions say of them, as plain functions. Definitions and plain theorems. -/
set_option linter.unusedVariables false
set_option linter.unusedSimpArgs false
namespace Go.Proofs.YtomfmdfamlmfiaaGreat
open Go Go.Fw
structure Trm where
  n : List UInt8
  l : Ver
  h : Ver
  deriving DecidableEq
def Trm.cells (t : Trm) : List A := [str t.n, i64 t.l.a, i64 t.l.b, i64 t.l.c, i64 t.h.a, i64 t.h.b, i64 t.h.c]
def Trm.enc (t : Trm) : A := .agg t.cells
def Trm.zero : Trm := ⟨[], Ver.zero, Ver.zero⟩
structure Pck where
  n : List UInt8
  v : Ver
  s : Int
  p : List (List UInt8)
  d : List (List Trm)
  b : List Trm
  deriving DecidableEq
def encTs (o : Bool) (l : List Trm) : A := .sl o 7 (l.map Trm.enc)
def Pck.cells (o : Bool) (p : Pck) : List A := [str p.n, i64 p.v.a, i64 p.v.b, i64 p.v.c, i64 p.s, .sl o 1 (p.p.map str), .sl o 1 (p.d.map (encTs o)), .sl o 7 (p.b.map Trm.enc)]
def Pck.enc (o : Bool) (p : Pck) : A := .agg (p.cells o)

/-! What the program's functions say. -/
def letterB (c : UInt8) : Bool := decide (97 ≤ (c.toNat : Int)) && decide ((c.toNat : Int) ≤ 122)
def digitB (c : UInt8) : Bool := decide (48 ≤ (c.toNat : Int)) && decide ((c.toNat : Int) ≤ 57)
def nameB (c : UInt8) : Bool := letterB c || (digitB c || decide ((c.toNat : Int) = 95))
def allCode {α : Type} (p : α → Bool) (k : Int) : List α → Int
  | [] => 0
  | x :: xs => if p x then allCode p k xs else k
def nameF (n : List UInt8) : Int := if (n.length : Int) < 1 then 5 else if (12 : Int) < n.length then 5 else if letterB (n.headD 0) then allCode nameB 5 n else 5
def inB (v l u : Int) : Bool := decide (l ≤ v) && decide (v ≤ u)
def verF (v : Ver) : Int := if inB v.a 0 999 && (inB v.b 0 999 && inB v.c 0 999) then 0 else 3
def sgn (a b : Int) : Int := if a < b then -1 else if b < a then 1 else 0
def cmpV (a b : Ver) : Int := if sgn a.a b.a ≠ 0 then sgn a.a b.a else if sgn a.b b.b ≠ 0 then sgn a.b b.b else sgn a.c b.c
def topV : Ver := ⟨1000, 0, 0⟩
def trmF (t : Trm) : Int :=
  if nameF t.n ≠ 0 then nameF t.n else if verF t.l ≠ 0 then verF t.l else if t.h ≠ topV ∧ verF t.h ≠ 0 then 3 else if 0 ≤ cmpV t.l t.h then 1 else 0
def hasB (t : Trm) (n : List UInt8) (v : Ver) : Bool := (t.n == n) && (decide (cmpV t.l v ≤ 0) && decide (cmpV v t.h < 0))
/-- The first fault of all. -/
def firstF {α : Type} (f : α → Int) : List α → Int
  | [] => 0
  | x :: xs => if f x ≠ 0 then f x else firstF f xs
def inTop (n : List UInt8) : Trm := ⟨n, Ver.zero, topV⟩
theorem sgn_zero {a b : Int} : sgn a b = 0 ↔ a = b := by
  unfold sgn
  split
  · omega
  · split <;> omega
theorem cmpV_zero {a b : Ver} : cmpV a b = 0 ↔ a = b := by
  obtain ⟨x, y, z⟩ := a
  obtain ⟨x', y', z'⟩ := b
  have h1 := @sgn_zero x x'
  have h2 := @sgn_zero y y'
  have h3 := @sgn_zero z z'
  rw [Ver.mk.injEq, ← h1, ← h2, ← h3]
  unfold cmpV
  dsimp only
  generalize sgn x x' = p
  generalize sgn y y' = q
  generalize sgn z z' = r
  repeat' split
  all_goals omega
theorem sgn_swap (a b : Int) : sgn a b = - sgn b a := by
  unfold sgn
  repeat' split
  all_goals omega
theorem cmpV_swap (a b : Ver) : cmpV a b = - cmpV b a := by
  unfold cmpV
  rw [sgn_swap a.a b.a, sgn_swap a.b b.b, sgn_swap a.c b.c]
  generalize sgn b.a a.a = p
  generalize sgn b.b a.b = q
  generalize sgn b.c a.c = r
  repeat' split
  all_goals omega
theorem firstF_at {α : Type} (f : α → Int) {cs : List α} {i : Nat} {c : α} (h : cs[i]? = some c) : firstF f (cs.drop i) = if f c ≠ 0 then f c else firstF f (cs.drop (i + 1)) := by
  obtain ⟨h1, h2⟩ := List.getElem?_eq_some_iff.1 h
  rw [List.drop_eq_getElem_cons h1, h2, firstF]
theorem allCode_at {α : Type} (p : α → Bool) (k : Int) {cs : List α} {i : Nat} {c : α} (h : cs[i]? = some c) : allCode p k (cs.drop i) = if p c then allCode p k (cs.drop (i + 1)) else k := by
  obtain ⟨h1, h2⟩ := List.getElem?_eq_some_iff.1 h
  rw [List.drop_eq_getElem_cons h1, h2, allCode]
theorem any_at {α : Type} (p : α → Bool) {cs : List α} {i : Nat} {c : α} (h : cs[i]? = some c) : (cs.drop i).any p = (p c || (cs.drop (i + 1)).any p) := by
  obtain ⟨h1, h2⟩ := List.getElem?_eq_some_iff.1 h
  rw [List.drop_eq_getElem_cons h1, h2, List.any_cons]
@[simp] theorem std_cmp (op : BinOp) (x y : Int) : std.cmp op x y = cmpIS op x y := rfl
@[simp] theorem std_cmpS (op : BinOp) (x y : List UInt8) : std.cmpS op x y = cmpSS op x y := rfl
@[simp] theorem std_not (x : Bool) : std.not x = !x := rfl
@[simp] theorem std_ite (b x y : Bool) : std.ite b x y = if b then x else y := rfl
@[simp] theorem std_ar (op : BinOp) (k : IntKind) (x y : Int) : std.ar op k x y = arS op k x y := rfl
@[simp] theorem std_int (n : Nat) : std.int n = (n : Int) := rfl
@[simp] theorem std_len (n : List A) : std.len n = n.length := rfl
@[simp] theorem std_lenS (n : List UInt8) : std.lenS n = n.length := rfl
@[simp] theorem std_u8 (n : UInt8) : std.u8 n = (n.toNat : Int) := rfl
theorem notT' {Ω : Opq} (hΩ : Ω = std) {b : Bool} (h : Ω.not b = true) : b = false := by subst hΩ; simpa using h
theorem notF' {Ω : Opq} (hΩ : Ω = std) {b : Bool} (h : Ω.not b = false) : b = true := by subst hΩ; simpa using h
end Go.Proofs.YtomfmdfamlmfiaaGreat

/- Walks: bytes, names, versions. Plain theorems. -/
set_option linter.unusedVariables false
set_option linter.unusedSimpArgs false
namespace Go.Proofs.YtomfmdfamlmfiaaGreat
open Go Go.Fw
set_option maxRecDepth 100000
def u8 (c : UInt8) : A := .sc (.int .u8 (c.toNat : Int))
theorem c_within (v l u : Int) : PCtr PP n_impl_within [i64 v, i64 l, i64 u] (boo (inB v l u)) := by
  obtain ⟨Ω, hΩ⟩ : ∃ Ω, Ω = std := ⟨_, rfl⟩
  obtain ⟨r, hr⟩ : ∃ r, r = inB v l u := ⟨_, rfl⟩
  rw [← hr]
  unfold inB at hr
  have htab := tab
  have hmo := hmo
  refine PCtr.walk tab hΩ fn_impl_within rfl ?_
  generalize PP = P at *
  cbv
  repeat' (first | (refine br (fun h => ?_) (fun h => ?_) <;> cbv) | (refine ⟨VC_drawn htab hΩ hmo (by kernel_rfl) ?_⟩; cbv))
  all_goals (refine .of (congrArg boo ?_); subst hΩ; subst hr; rw [Bool.eq_iff_iff]; simp at *; try omega)
theorem c_l1In (v l u : Int) : PCtr PP n_spec_l1In [i64 v, i64 l, i64 u] (boo (inB v l u)) := by
  obtain ⟨Ω, hΩ⟩ : ∃ Ω, Ω = std := ⟨_, rfl⟩
  obtain ⟨r, hr⟩ : ∃ r, r = inB v l u := ⟨_, rfl⟩
  rw [← hr]
  unfold inB at hr
  have htab := tab
  have hmo := hmo
  refine PCtr.walk tab hΩ fn_spec_l1In rfl ?_
  generalize PP = P at *
  cbv
  repeat' (first | (refine br (fun h => ?_) (fun h => ?_) <;> cbv) | (refine ⟨VC_drawn htab hΩ hmo (by kernel_rfl) ?_⟩; cbv))
  all_goals (refine .of (congrArg boo ?_); subst hΩ; subst hr; rw [Bool.eq_iff_iff]; simp at *; try omega)
theorem c_isNameByte (c : UInt8) : PCtr PP n_impl_isNameByte [u8 c] (boo (nameB c)) := by
  obtain ⟨Ω, hΩ⟩ : ∃ Ω, Ω = std := ⟨_, rfl⟩
  obtain ⟨r, hr⟩ : ∃ r, r = nameB c := ⟨_, rfl⟩
  rw [← hr]
  unfold nameB letterB digitB at hr
  unfold u8
  generalize (c.toNat : Int) = n at *
  have htab := tab
  have hmo := hmo
  refine PCtr.walk tab hΩ fn_impl_isNameByte rfl ?_
  generalize PP = P at *
  cbv
  repeat' (first | (refine br (fun h => ?_) (fun h => ?_) <;> cbv) | (refine ⟨VC_drawn htab hΩ hmo (by kernel_rfl) ?_⟩; cbv))
  all_goals (refine .of (congrArg boo ?_); subst hΩ; subst hr; rw [Bool.eq_iff_iff]; simp at *; try omega)
theorem c_l1Letter (c : UInt8) : PCtr PP n_spec_l1Letter [u8 c] (boo (letterB c)) := by
  obtain ⟨Ω, hΩ⟩ : ∃ Ω, Ω = std := ⟨_, rfl⟩
  obtain ⟨r, hr⟩ : ∃ r, r = letterB c := ⟨_, rfl⟩
  rw [← hr]
  unfold letterB at hr
  unfold u8
  generalize (c.toNat : Int) = n at *
  have htab := tab
  have hmo := hmo
  refine PCtr.walk tab hΩ fn_spec_l1Letter rfl ?_
  generalize PP = P at *
  cbv
  repeat' (first | (refine br (fun h => ?_) (fun h => ?_) <;> cbv) | (refine ⟨VC_drawn htab hΩ hmo (by kernel_rfl) ?_⟩; cbv))
  all_goals (refine .of (congrArg boo ?_); subst hΩ; subst hr; rw [Bool.eq_iff_iff]; simp at *; try omega)
theorem c_l1Digit (c : UInt8) : PCtr PP n_spec_l1Digit [u8 c] (boo (digitB c)) := by
  obtain ⟨Ω, hΩ⟩ : ∃ Ω, Ω = std := ⟨_, rfl⟩
  obtain ⟨r, hr⟩ : ∃ r, r = digitB c := ⟨_, rfl⟩
  rw [← hr]
  unfold digitB at hr
  unfold u8
  generalize (c.toNat : Int) = n at *
  have htab := tab
  have hmo := hmo
  refine PCtr.walk tab hΩ fn_spec_l1Digit rfl ?_
  generalize PP = P at *
  cbv
  repeat' (first | (refine br (fun h => ?_) (fun h => ?_) <;> cbv) | (refine ⟨VC_drawn htab hΩ hmo (by kernel_rfl) ?_⟩; cbv))
  all_goals (refine .of (congrArg boo ?_); subst hΩ; subst hr; rw [Bool.eq_iff_iff]; simp at *; try omega)
theorem c_l1Name (c : UInt8) : PCtr PP n_spec_l1Name [u8 c] (boo (nameB c)) := by
  obtain ⟨Ω, hΩ⟩ : ∃ Ω, Ω = std := ⟨_, rfl⟩
  obtain ⟨r, hr⟩ : ∃ r, r = nameB c := ⟨_, rfl⟩
  rw [← hr]
  have hc0 := c_l1Letter c
  have hc1 := c_l1Digit c
  unfold nameB at hr
  unfold u8 at *
  generalize (c.toNat : Int) = n at *
  generalize letterB c = b1 at *
  generalize digitB c = b2 at *
  have htab := tab
  have hmo := hmo
  refine PCtr.walk tab hΩ fn_spec_l1Name rfl ?_
  generalize PP = P at *
  cbv
  repeat' (first | (refine br (fun h => ?_) (fun h => ?_) <;> cbv) | (refine ⟨VC_drawn htab hΩ hmo (by kernel_rfl) ?_⟩; cbv) | (refine QCall_pure (k := 3) (hc0) rfl (fits _) rfl ?_; cbv) | (refine QCall_pure (k := 3) (hc1) rfl (fits _) rfl ?_; cbv) | (refine call_pure hΩ 3 (hc0) rfl (fits _) rfl rfl ?_; cbv) | (refine call_pure hΩ 3 (hc1) rfl (fits _) rfl rfl ?_; cbv))
  all_goals (refine .of (congrArg boo ?_); subst hΩ; subst hr; clear hc0 hc1 htab hmo; first | (rw [show b1 = true by assumption]; rfl) | (rw [show b1 = false by assumption, show b2 = true by assumption]; rfl) | (rw [show b1 = false by assumption, show b2 = false by assumption]; rfl))
theorem c_implVersionFault (v : Ver) : PCtr PP n_impl_VersionFault [v.enc] (i64 (verF v)) := by
  obtain ⟨Ω, hΩ⟩ : ∃ Ω, Ω = std := ⟨_, rfl⟩
  obtain ⟨r, hr⟩ : ∃ r, r = verF v := ⟨_, rfl⟩
  rw [← hr]
  have hc0 := c_within
  unfold verF at hr
  generalize inB = F at *
  have htab := tab
  have hmo := hmo
  refine PCtr.walk tab hΩ fn_impl_VersionFault rfl ?_
  generalize PP = P at *
  cbv
  repeat' (first | (refine br (fun h => ?_) (fun h => ?_) <;> cbv) | (refine ⟨VC_drawn htab hΩ hmo (by kernel_rfl) ?_⟩; cbv) | (refine QCall_pure (k := 3) (hc0 _ _ _) rfl (fits _) rfl ?_; cbv) | (refine call_pure hΩ 3 (hc0 _ _ _) rfl (fits _) rfl rfl ?_; cbv))
  all_goals (refine .of (congrArg i64 ?_); subst hΩ; subst hr; clear hc0 htab hmo; simp_all)
theorem c_specVersionFault (v : Ver) : PCtr PP n_spec_VersionFault [v.enc] (i64 (verF v)) := by
  obtain ⟨Ω, hΩ⟩ : ∃ Ω, Ω = std := ⟨_, rfl⟩
  obtain ⟨r, hr⟩ : ∃ r, r = verF v := ⟨_, rfl⟩
  rw [← hr]
  have hc0 := c_l1In
  unfold verF at hr
  generalize inB = F at *
  have htab := tab
  have hmo := hmo
  refine PCtr.walk tab hΩ fn_spec_VersionFault rfl ?_
  generalize PP = P at *
  cbv
  repeat' (first | (refine br (fun h => ?_) (fun h => ?_) <;> cbv) | (refine ⟨VC_drawn htab hΩ hmo (by kernel_rfl) ?_⟩; cbv) | (refine QCall_pure (k := 3) (hc0 _ _ _) rfl (fits _) rfl ?_; cbv) | (refine call_pure hΩ 3 (hc0 _ _ _) rfl (fits _) rfl rfl ?_; cbv))
  all_goals (refine .of (congrArg i64 ?_); subst hΩ; subst hr; clear hc0 htab hmo; simp_all)
theorem c_isNaN (x : Int) : PCtr PP n_cmp_isNaN_int64 [i64 x] (boo (false)) := by
  obtain ⟨Ω, hΩ⟩ : ∃ Ω, Ω = std := ⟨_, rfl⟩
  obtain ⟨r, hr⟩ : ∃ r, r = false := ⟨_, rfl⟩
  rw [← hr]
  have htab := tab
  have hmo := hmo
  refine PCtr.walk tab hΩ fn_cmp_isNaN_int64 rfl ?_
  generalize PP = P at *
  cbv
  repeat' (first | (refine br (fun h => ?_) (fun h => ?_) <;> cbv) | (refine ⟨VC_drawn htab hΩ hmo (by kernel_rfl) ?_⟩; cbv))
  all_goals (refine .of (congrArg boo ?_); subst hΩ; subst hr; simp_all)
theorem c_Compare (x y : Int) : PCtr PP n_cmp_Compare_int64 [i64 x, i64 y] (i64 (sgn x y)) := by
  obtain ⟨Ω, hΩ⟩ : ∃ Ω, Ω = std := ⟨_, rfl⟩
  obtain ⟨r, hr⟩ : ∃ r, r = sgn x y := ⟨_, rfl⟩
  rw [← hr]
  have hc0 := c_isNaN
  unfold sgn at hr
  have htab := tab
  have hmo := hmo
  refine PCtr.walk tab hΩ fn_cmp_Compare_int64 rfl ?_
  generalize PP = P at *
  cbv
  repeat' (first | (refine br (fun h => ?_) (fun h => ?_) <;> cbv) | (refine ⟨VC_drawn htab hΩ hmo (by kernel_rfl) ?_⟩; cbv) | (refine QCall_pure (k := 3) (hc0 _) rfl (fits _) rfl ?_; cbv) | (refine call_pure hΩ 3 (hc0 _) rfl (fits _) rfl rfl ?_; cbv))
  all_goals (refine .of (congrArg i64 ?_); subst hΩ; subst hr; simp only [std_cmp, cmpIS_lss, cmpIS_gtr, decide_eq_true_eq, decide_eq_false_iff_not] at *; (repeat' split) <;> omega)
theorem c_l1Sign (x y : Int) : PCtr PP n_spec_l1Sign [i64 x, i64 y] (i64 (sgn x y)) := by
  obtain ⟨Ω, hΩ⟩ : ∃ Ω, Ω = std := ⟨_, rfl⟩
  obtain ⟨r, hr⟩ : ∃ r, r = sgn x y := ⟨_, rfl⟩
  rw [← hr]
  unfold sgn at hr
  have htab := tab
  have hmo := hmo
  refine PCtr.walk tab hΩ fn_spec_l1Sign rfl ?_
  generalize PP = P at *
  cbv
  repeat' (first | (refine br (fun h => ?_) (fun h => ?_) <;> cbv) | (refine ⟨VC_drawn htab hΩ hmo (by kernel_rfl) ?_⟩; cbv))
  all_goals (refine .of (congrArg i64 ?_); subst hΩ; subst hr; simp only [std_cmp, cmpIS_lss, cmpIS_gtr, decide_eq_true_eq, decide_eq_false_iff_not] at *; (repeat' split) <;> omega)
theorem c_CompareVersions (x y : Ver) : PCtr PP n_spec_CompareVersions [x.enc, y.enc] (i64 (cmpV x y)) := by
  obtain ⟨Ω, hΩ⟩ : ∃ Ω, Ω = std := ⟨_, rfl⟩
  obtain ⟨r, hr⟩ : ∃ r, r = cmpV x y := ⟨_, rfl⟩
  rw [← hr]
  have hc0 := c_l1Sign
  unfold cmpV at hr
  generalize sgn = F at *
  have htab := tab
  have hmo := hmo
  refine PCtr.walk tab hΩ fn_spec_CompareVersions rfl ?_
  generalize PP = P at *
  cbv
  repeat' (first | (refine br (fun h => ?_) (fun h => ?_) <;> cbv) | (refine ⟨VC_drawn htab hΩ hmo (by kernel_rfl) ?_⟩; cbv) | (refine QCall_pure (k := 3) (hc0 _ _) rfl (fits _) rfl ?_; cbv) | (refine call_pure hΩ 3 (hc0 _ _) rfl (fits _) rfl rfl ?_; cbv))
  all_goals (refine .of (congrArg i64 ?_); subst hΩ; subst hr; simp_all)
theorem c_implTop : PCtr PP n_impl_top [] topV.enc := by
  obtain ⟨Ω, hΩ⟩ : ∃ Ω, Ω = std := ⟨_, rfl⟩
  refine PCtr.walk tab hΩ fn_impl_top rfl ?_
  generalize PP = P at *
  cbv
  exact .same
theorem c_specTop : PCtr PP n_spec_l1Top [] topV.enc := by
  obtain ⟨Ω, hΩ⟩ : ∃ Ω, Ω = std := ⟨_, rfl⟩
  refine PCtr.walk tab hΩ fn_spec_l1Top rfl ?_
  generalize PP = P at *
  cbv
  exact .same
end Go.Proofs.YtomfmdfamlmfiaaGreat

/- Regions that draw their order, of which some operations only read what nobody in it writes, and the others stand in one order. Plain theorems, no condition. -/
set_option linter.unusedVariables false
set_option linter.unusedSimpArgs false
namespace Go.Fw
section
variable {P : Program} {T : Nat → Option TI} {S : State} {o : Oper}
def Agree (G : Nat → Prop) (w w' : World) : Prop := ∀ b, G b → w'.heap[b]? = w.heap[b]?
/-- The operation yields a value told by x, the same one as long as what may be read stands. -/
def VOG (P : Program) (o : Oper) (S : State) (x : A) : Prop :=
  ∀ (E : Env P) (G : Nat → Prop) (gs : Gh) (a : Act) (w : World), Inv E G gs S a.tmps w →
    ∃ v, (∀ w', Agree G w w' → (execOp a.eval o).run P w' = .ok (.value v) w') ∧ TRel w G S.rows gs x v []
theorem VOG_move {x : Operand} (ho : o.op = .move x ∨ o.op = .assign x) (hx : okO x = true) : VOG P o S (ev S x) :=
  fun E G gs a w hi => ⟨a.eval x, fun w' hw' => by rcases ho with h | h <;> simp [execOp, h], ev_rel hi x hx⟩
theorem VOG_load_rp {t : TypeId} {x : Operand} {xs : List A} {z : A} (ho : o.op = .load t x) (hx : okO x = true) (he : ev S x = .rp xs)
    (ha : aggT P t = some false) (hz : xs[0]? = some z) : VOG P o S z := by
  refine fun E G gs a w hi => ?_
  have h1 := ev_rel hi x hx
  rw [he] at h1
  obtain ⟨b, k, cur, e, fr, hv, hh, hg, hl⟩ := rp_inv h1
  obtain ⟨v, hv1, hv2⟩ := hl.get 0 z hz
  have hcur : cur[k]? = some v := by
    have h0 : 0 < xs.length := by
      rcases Nat.eq_zero_or_pos xs.length with h | h
      · rw [List.eq_nil_of_length_eq_zero h] at hz; simp at hz
      · exact h
    rw [List.getElem?_take_of_lt h0, List.getElem?_drop] at hv1
    simpa using hv1
  exact ⟨v, fun w' hw' => by simp [execOp, ho, Instr.loadAt, hv, Instr.sureAddr, run_loadVar_cell ha ((hw' b hg).trans hh) hcur], .of hv2⟩
theorem VOG_load_rpAgg {t : TypeId} {x : Operand} {xs : List A} {s : Nat} (ho : o.op = .load t x) (hx : okO x = true) (he : ev S x = .rp xs)
    (ha : aggT P t = some true) (hs : szT P t = some s) (hq : s ≤ xs.length) : VOG P o S (.agg (xs.take s)) := by
  refine fun E G gs a w hi => ?_
  have h1 := ev_rel hi x hx
  rw [he] at h1
  obtain ⟨b, k, cur, e, fr, hv, hh, hg, hl⟩ := rp_inv h1
  have h2 := hl.take0 s
  have h3 := h2.length
  rw [List.take_take, Nat.min_eq_left hq] at h2 h3
  exact ⟨.agg ((cur.toList.drop k).take s).toArray, by
    intro w' hw'
    simp [execOp, ho, Instr.loadAt, hv, Instr.sureAddr, run_loadVar_agg ha hs ((hw' b hg).trans hh) rfl (by rw [h3]; simp; omega)], .of (.agg h2)⟩
theorem VOG_slice_sl {t e : TypeId} {x : Operand} {lo hi : Option Operand} {n : Nat} {xs : List A} {l h : Nat} (ho : o.op = .slice t x lo hi none) (hx : okO x = true) (hlo : okOpt lo = true) (hhi : okOpt hi = true)
    (he : ev S x = .sl false n xs) (ht : elemT P t = some e) (hs : szT P e = some n) (h1 : bnd (lo.map (ev S)) 0 = some (l : Int)) (h2 : bnd (hi.map (ev S)) xs.length = some (h : Int)) (hlh : l ≤ h) (hhl : h ≤ xs.length)
    : VOG P o S (.sl false n ((xs.take h).drop l)) := by
  refine fun E G gs a w hinv => ?_
  have e1 := ev_rel hinv x hx
  rw [he] at e1
  obtain ⟨a1, a2⟩ := opt_rel hinv lo hlo
  obtain ⟨b1, b2⟩ := opt_rel hinv hi hhi
  have hu := elemT_inv ht
  rcases slf_inv e1 with ⟨⟨oa, hv⟩, rfl⟩ | ⟨b, k, cap, cur, et, fr, hv, hh, hg, hw, hrel, hcap, hm⟩
  · simp at hhl
    subst hhl
    have : l = 0 := by omega
    subst this
    have hb := slice_bounds (P := P) (isS := true) (lo.map a.eval) (hi.map a.eval) _ _ h1 h2 a1 a2 b1 b2 (by omega) (by simp) (cap := 0) (by simp)
    simp only [List.length_nil] at hb
    refine ⟨.slice oa 0 0, ?_, .of (by cases oa with | none => simpa using Rel.nils | some ad => simpa using Rel.roz)⟩
    intro w' hw'
    cases oa <;>
    simp [execOp, ho, hv, Instr.sliceAt, run_underlying hu, Instr.slice, hb, run_sizeOf hs]
  · have hb := slice_bounds (P := P) (isS := true) (lo.map a.eval) (hi.map a.eval) _ _ h1 h2 a1 a2 b1 b2 hlh hhl hcap
    have hlen : h - l = ((xs.take h).drop l).length := by simp; omega
    refine ⟨.slice (some ⟨b, if cap = l then k else k + l * n, none⟩) (h - l) (cap - l), ?_, .of (.ro hh hg (fun x hx => hw x (List.mem_of_mem_take (List.mem_of_mem_drop hx))) hlen rfl ?_ (by omega) (by omega))⟩
    · intro w' hw'
      simp [execOp, ho, hv, Instr.sliceAt, run_underlying hu, Instr.slice, hb, run_sizeOf hs]
      split <;> simp [add_none]
    · have h3 := (hrel.take0 (h * n)).drop0 (l * n)
      rw [flat_take h hw, flat_drop l (fun x hx => hw x (List.mem_of_mem_take hx))] at h3
      have hle : h * n ≤ xs.length * n := Nat.mul_le_mul_right _ hhl
      have e4 : List.drop (l * n) (List.take (h * n) (List.take (xs.length * n) (cur.toList.drop k))) = (cur.toList.drop (k + l * n)).take ((h - l) * n) := by
        rw [List.take_take, Nat.min_eq_left hle, List.drop_take, List.drop_drop, ← Nat.sub_mul]
      rw [e4] at h3
      split
      · rename_i hc
        have h0 : h - l = 0 := by omega
        rw [h0] at h3 ⊢
        simpa using h3
      · exact h3
theorem VOG_binOp {op : BinOp} {t t' : TypeId} {x y : Operand} {u v : Value} (ho : o.op = .binOp op t x y t') (hx : okO x = true) (hy : okO y = true)
    (h1 : ev S x = .sc u) (h2 : ev S y = .sc v) (h : (binS P op t u v).1) : VOG P o S (.sc (binS P op t u v).2) := by
  refine fun E G gs a w hi => ?_
  have e1 := ev_rel hi x hx
  have e2 := ev_rel hi y hy
  rw [h1] at e1
  rw [h2] at e2
  have v1 := (sc_inv e1).1
  have v2 := (sc_inv e2).1
  refine ⟨_, fun w' hw' => ?_, .of (.sc (binS_run h x y w).2)⟩
  have hr := (binS_run h x y w').1
  simp only [execOp, ho, v1, v2, Sem.run_bind] at hr ⊢
  rw [hr]
  rfl
theorem VOG_makeFunc {fn : FuncId} {first caps : Array Operand} (ho : o.op = .makeFunc (.func fn) first caps) (hf : first.toList = []) (hg : fn < 1000000) : VOG P o S (.clo fn (caps.toList.map (ev S))) := by
  refine fun E G gs a w hi => ⟨mkFn fn (caps.toList.map a.eval), fun w' hw' => ?_, .clo (evs_rel hi caps.toList)⟩
  have : first = #[] := by apply Array.toList_inj.1; simpa using hf
  subst this
  have e : (caps.toList.map a.eval).toArray = caps.map a.eval := by apply Array.toList_inj.1; simp
  unfold mkFn
  rw [if_pos hg, e]
  simp [execOp, ho, Instr.makeFunc]
theorem vBin_sc (hT : TabOK P T) {k : A → Prop} {op : BinOp} {t : TypeId} {x y : A} (h : vBin std T op t x y k) : ∃ u v, x = .sc u ∧ y = .sc v ∧ (binS P op t u v).1 ∧ k (.sc (binS P op t u v).2) := by
  unfold vBin at h
  split at h <;> try exact h.elim
  · rename_i ka a kb b
    have go : (binS P op t (.int ka a) (.int kb b)).1 → k (.sc (binS P op t (.int ka a) (.int kb b)).2) → ∃ u v, A.sc (.int ka a) = .sc u ∧ A.sc (.int kb b) = .sc v ∧ (binS P op t u v).1 ∧ k (.sc (binS P op t u v).2) := fun hc hk => ⟨_, _, rfl, rfl, hc, hk⟩
    unfold vBinI at h
    split at h
    · exact go h.1.h h.2
    · exact go h.1.h h.2
    · split at h <;> try exact h.elim
      rename_i hk
      subst hk
      split at h
      · exact go rfl h
      · exact go rfl h
      · exact go rfl h
      · exact go rfl h
      · exact go rfl h
      · exact go rfl h
      · exact go rfl h
      · exact go ⟨rfl, h.1.h⟩ h.2
      · exact go ⟨rfl, h.1.h⟩ h.2
      · cases op <;> first | exact go rfl h | simp_all
  · rename_i a b
    have go : (binS P op t (.string a) (.string b)).1 → k (.sc (binS P op t (.string a) (.string b)).2) → ∃ u v, A.sc (.string a) = .sc u ∧ A.sc (.string b) = .sc v ∧ (binS P op t u v).1 ∧ k (.sc (binS P op t u v).2) := fun hc hk => ⟨_, _, rfl, rfl, hc, hk⟩
    unfold vBinS at h
    split at h <;> try exact h.elim
    · exact go h.1.h h.2
    all_goals exact go trivial h
  · rename_i a b
    split at h <;> try exact h.elim
    · rename_i i hi
      split at h <;> try exact h.elim
      rename_i hb
      exact ⟨_, _, rfl, rfl, by rw [← (tiOf_ok (hT _ _ hi)).bool] at hb; exact hb, h⟩
    · rename_i i hi
      split at h <;> try exact h.elim
      rename_i hb
      exact ⟨_, _, rfl, rfl, by rw [← (tiOf_ok (hT _ _ hi)).bool] at hb; exact hb, h⟩
/-- What an operation reads that nobody writes. -/
def vGOp (Ω : Opq) (T : Nat → Option TI) (o : Oper) (S : State) (k : A → Prop) : Prop :=
  match o.op with
  | .move x => k (ev S x)
  | .assign x => k (ev S x)
  | .binOp op t x y _ => vBin Ω T op t (ev S x) (ev S y) k
  | .load t x => (match T t, ev S x with
    | some i, .rp xs => if i.ag then (if i.sz ≤ xs.length then k (.agg (xs.take i.sz)) else False) else (match xs[0]? with
      | some z => k z
      | none => False)
    | _, _ => False)
  | .slice t x lo hi none => (match ev S x, szEl T t with
    | .sl false n xs, some (_, ei) => if ei.sz = n then vLo Ω (lo.map (ev S)) 0 fun c1 l => vLo Ω (hi.map (ev S)) (Ω.len xs) fun c2 h => Ob (fun _ => c1 () ∧ c2 () ∧ l ≤ h ∧ h ≤ xs.length) ∧ k (.sl false n (Ω.seg l h xs)) else False
    | _, _ => False)
  | .makeFunc (.func g) first caps => (match first.toList with
    | [] => if g < 1000000 then k (.clo g (caps.toList.map (ev S))) else False
    | _ => False)
  | _ => False
theorem vGOp_ok (hT : TabOK P T) {k : A → Prop} (h : vGOp std T o S k) : ∃ z, VOG P o S z ∧ k z := by
  have ok : ∀ x : Option Operand, okOpt x = true := fun x => by cases x <;> rfl
  unfold vGOp at h
  split at h
  · rename_i x ho; exact ⟨_, VOG_move (.inl ho) rfl, h⟩
  · rename_i x ho; exact ⟨_, VOG_move (.inr ho) rfl, h⟩
  · rename_i ho
    obtain ⟨u, v, h1, h2, h3, h4⟩ := vBin_sc hT h
    exact ⟨_, VOG_binOp ho rfl rfl h1 h2 h3, h4⟩
  · rename_i t x ho
    split at h <;> try exact h.elim
    rename_i i xs hi hx
    have hti := tiOf_ok (hT _ _ hi)
    split at h
    · rename_i hag
      split at h <;> try exact h.elim
      rename_i hle
      exact ⟨_, VOG_load_rpAgg ho rfl hx (by rw [hti.ag, hag]) hti.sz hle, h⟩
    · rename_i hag
      split at h <;> try exact h.elim
      rename_i z hz
      exact ⟨_, VOG_load_rp ho rfl hx (by rw [hti.ag]; simpa using hag) hz, h⟩
  · rename_i t x lo hi ho
    split at h <;> try exact h.elim
    rename_i n xs e ei hx hs
    obtain ⟨he, hei⟩ := szEl_ok hT hs
    split at h <;> try exact h.elim
    rename_i hn
    obtain ⟨c1, l, h, g1⟩ := vLo_ok h
    obtain ⟨c2, u, h, g2⟩ := vLo_ok h
    obtain ⟨h0, h⟩ := h
    obtain ⟨h1, h2, h3, h4⟩ := h0.h
    exact ⟨_, VOG_slice_sl ho rfl (ok _) (ok _) hx he (by rw [hei.sz, hn]) (g1 h1) (g2 h2) h3 h4, h⟩
  · rename_i g first caps ho
    split at h <;> try exact h.elim
    rename_i hf
    split at h <;> try exact h.elim
    rename_i hg
    exact ⟨_, VOG_makeFunc ho hf hg, h⟩
  · exact h.elim
def vGs (Ω : Opq) (T : Nat → Option TI) (ops : List Oper) : List Nat → State → (State → Prop) → Prop
  | [], S, K => K S
  | q :: qs, S, K => match ops[q]? with
    | some o => (match o.guard with
      | none => vGOp Ω T o S fun z => vGs Ω T ops qs (S.put o.dst z) K
      | some _ => False)
    | none => False
def vNs (Ω : Opq) (P : Program) (T : Nat → Option TI) (ops : List Oper) : Option Nat → List Nat → State → (State → Prop) → Prop
  | _, [], S, K => K S
  | mv, n :: ns, S, K => match ops[n]? with
    | some o => (match o.guard with
      | none => vOp Ω P T mv o S fun S' => vNs Ω P T ops (madeBy o) ns S' K
      | some _ => False)
    | none => False
/-- The surroundings from the region's own beginning on. -/
def envAt (E : Env P) (G : Nat → Prop) (gs : Gh) (S : State) (w : World) : Env P :=
  ⟨w, G, fun b => ∃ r row, rowAt S.rows r = some row ∧ b ∈ gs.all r, E.gv⟩
theorem Inv.at {E : Env P} {G : Nat → Prop} {gs : Gh} {tmps : Array Value} {w : World} (hi : Inv E G gs S tmps w) : Inv (envAt E G gs S w) G gs S tmps w :=
  ⟨fun _ _ _ => rfl, rfl, rfl, rfl, Nat.le_refl _, hi.sz, fun _ h => h, fun _ h => .inl h, hi.glt, hi.row, hi.nod, fun r row hr b hb => ⟨(hi.own r row hr b hb).1, .inl ⟨r, row, hr, hb⟩⟩, hi.dis, hi.tmp⟩
theorem Inv.back {E : Env P} {G G' : Nat → Prop} {gs gs' : Gh} {S' : State} {tmps tmps' : Array Value} {w w' : World} (hi : Inv E G gs S tmps w) (hi' : Inv (envAt E G gs S w) G' gs' S' tmps' w') : Inv E G' gs' S' tmps' w' := by
  have hfin : ∀ b, (∃ r row, rowAt S.rows r = some row ∧ b ∈ gs.all r) → E.Fin b ∨ E.w0.heap.size ≤ b := fun b ⟨r, row, hr, hb⟩ => (hi.own r row hr b hb).2
  refine ⟨fun b h hf => ?_, hi'.os.trans hi.os, hi'.tape.trans hi.tape, hi'.output.trans hi.output, Nat.le_trans hi.size hi'.size, hi'.sz, fun b h => hi'.gsub b (hi.gsub b h), fun b h => ?_, hi'.glt, hi'.row, hi'.nod, fun r row hr b hb => ?_, hi'.dis, hi'.tmp⟩
  · rw [hi'.keep b (Nat.lt_of_lt_of_le h hi.size) fun hb => by
      rcases hfin b hb with h1 | h1
      · exact hf h1
      · omega]
    exact hi.keep b h hf
  · rcases hi'.gnew b h with h1 | ⟨r, row, hr, hb⟩ | h1
    · exact hi.gnew b h1
    · exact .inr (hi.own r row hr b hb).2
    · exact .inr (.inr (Nat.le_trans hi.size h1))
  · refine ⟨(hi'.own r row hr b hb).1, ?_⟩
    rcases (hi'.own r row hr b hb).2 with h1 | h1
    · exact hfin b h1
    · exact .inr (Nat.le_trans hi.size h1)
theorem Inv.agree {E : Env P} {G G' : Nat → Prop} {gs gs' : Gh} {S' : State} {tmps tmps' : Array Value} {w w' : World} (hi : Inv E G gs S tmps w) (hi' : Inv (envAt E G gs S w) G' gs' S' tmps' w') : Agree G w w' := fun b hb =>
  hi'.keep b (hi.glt b hb) fun ⟨r, row, hr, h⟩ => (hi.own r row hr b h).1 hb
end
end Go.Fw

/- Regions that draw their order, in which operations read rows that others leave alone for a while. Plain theorems, no condition. -/
set_option linter.unusedVariables false
set_option linter.unusedSimpArgs false
namespace Go.Fw

/-! The order of a region: what keeps a condition on the world, and what need not. -/
section
variable {P : Program} {ops : Array Oper} {Q : Exit → Act → World → Prop} {md : Region.Mode} {kp : Nat → Bool} {Sc : World → Prop}
/-- Whatever order is drawn; those that 'kp' names keep Sc. -/
def anyK (P : Program) (md : Region.Mode) (ops : Array Oper) (Q : Exit → Act → World → Prop) (kp : Nat → Bool) (Sc : World → Prop) : Nat → Array Bool → Act → World → Prop
  | 0, l, a, w => Region.ready md ops l = [] ∧ Q .normal a w
  | f + 1, l, a, w => (Region.ready md ops l = [] → Q .normal a w) ∧
    ∀ i ∈ Region.ready md ops l, wpOp P ops Q i (fun a' w' => (kp i = true → Sc w') ∧ anyK P md ops Q kp Sc f (l.setIfInBounds i true) a' w') a w
theorem any_of_K : ∀ (f : Nat) (l : Array Bool) (a : Act) (w : World), anyK P md ops Q kp Sc f l a w → wpAny P md ops Q f l a w
  | 0, _, _, _, h => h
  | f + 1, _, _, _, h => ⟨h.1, fun i hi => wpOp_mono (fun a' w' h' => any_of_K f _ a' w' h'.2) (h.2 i hi)⟩
/-- j waits for i, maybe through others. -/
def waitsB (md : Region.Mode) (ops : Array Oper) (i : Nat) : Nat → Nat → Bool
  | 0, _ => false
  | f + 1, j => match ops[j]? with
    | some oj => oj.after.any fun e => Region.binds md e && (e.on == i || waitsB md ops i f e.on)
    | none => false
/-- What has come up has come behind all that it waits for. -/
structure Closed (md : Region.Mode) (ops : Array Oper) (l : Array Bool) : Prop where
  h : ∀ j oj, ops[j]? = some oj → l.getD j false = true → ∀ e ∈ oj.after, Region.binds md e = true → l.getD e.on false = true
def closedB (md : Region.Mode) (ops : Array Oper) (l : Array Bool) : Bool :=
  (List.range ops.size).all fun j => !l.getD j false || match ops[j]? with
    | some oj => oj.after.all fun e => !Region.binds md e || l.getD e.on false
    | none => true
theorem closedB_ok {l : Array Bool} (h : closedB md ops l = true) : Closed md ops l := ⟨fun j oj hj hl e he hb => by
  simp only [closedB, List.all_eq_true, List.mem_range] at h
  have h1 := h j (Array.getElem?_eq_some_iff.1 hj).1
  simp only [hj, hl, Bool.not_true, Bool.false_or, Array.all_eq_true_iff_forall_mem] at h1
  have h2 := h1 e he
  simpa [hb] using h2⟩
theorem Closed.waits {l : Array Bool} (hc : Closed md ops l) {i : Nat} (hi : l.getD i true = false) : ∀ (f j : Nat), (∀ oj, ops[j]? = some oj → ∀ e ∈ oj.after, Region.binds md e = true → l.getD e.on false = true) → waitsB md ops i f j = false
  | 0, j, _ => rfl
  | f + 1, j, h => by
    unfold waitsB
    split
    · rename_i oj hj
      rw [Array.any_eq_false]
      intro k hk
      simp only [Bool.and_eq_true, Bool.or_eq_true, beq_iff_eq, not_and, not_or]
      intro hb
      have h1 := h oj hj _ (Array.getElem_mem hk) hb
      refine ⟨fun e => ?_, by simp [hc.waits hi f _ fun oj' hj' => hc.h _ oj' hj' h1]⟩
      rw [e, getD_both hi] at h1
      cases h1
    · rfl
theorem Closed.set {l : Array Bool} (hc : Closed md ops l) {j : Nat} (hj : j ∈ Region.ready md ops l) : Closed md ops (l.setIfInBounds j true) := ⟨fun k ok hk hl e he hb => by
  obtain ⟨_, oj, hoj, hall⟩ := mem_ready.1 hj
  refine getD_set_true ?_
  by_cases hjk : j = k
  · subst hjk
    rw [hoj] at hk
    obtain rfl := Option.some.inj hk
    exact hall e he hb
  · rw [getD_set_ne false hjk] at hl
    exact hc.h k ok hk hl e he hb⟩
/-- All that may still come ahead of i keeps Sc. -/
def kfree (md : Region.Mode) (ops : Array Oper) (kp : Nat → Bool) (l : Array Bool) (i : Nat) : Bool :=
  closedB md ops l && (List.range ops.size).all fun j => j == i || l.getD j true || match ops[j]? with
    | some oj => waitsB md ops i ops.size j || (oj.after.any (fun e => Region.binds md e && e.on == i) || kp j) && (match ops[i]? with
      | some oi => oi.apart ops oj
      | none => false)
    | none => true
theorem kfree_spec {i : Nat} {oi : Oper} {l : Array Bool} (hi : ops[i]? = some oi) (h : kfree md ops kp l i = true) (j : Nat) (oj : Oper) (hj : ops[j]? = some oj) (hne : j ≠ i) (hun : l.getD j true = false)
    (hno : waitsB md ops i ops.size j = false) (hdir : ∀ e ∈ oj.after, Region.binds md e = true → e.on ≠ i) : oi.apart ops oj = true ∧ kp j = true := by
  simp only [kfree, Bool.and_eq_true, List.all_eq_true, List.mem_range] at h
  have h1 := h.2 j (Array.getElem?_eq_some_iff.1 hj).1
  simp only [hj, hi, Bool.or_eq_true, beq_iff_eq, hne, false_or, hun, hno, Bool.false_eq_true, Bool.and_eq_true] at h1
  refine ⟨h1.2, h1.1.resolve_left fun h2 => ?_⟩
  obtain ⟨e, he, hb⟩ := Array.any_eq_true'.1 h2
  simp only [Bool.and_eq_true, beq_iff_eq] at hb
  exact hdir e he hb.1 hb.2
theorem anyK_first {i : Nat} {oi : Oper} {v : Value} (hi : ops[i]? = some oi) (hsel : ∀ (j : Nat) (o : Oper) cs b, ops[j]? = some o → o.op ≠ .select cs b)
    (hQ : ∀ c a w, Q (.panic c) (a.put oi.dst v) w → Q (.panic c) a w) : ∀ (f : Nat) (l : Array Bool) (a : Act) (w : World), Closed md ops l →
    (∀ j oj, ops[j]? = some oj → j ≠ i → l.getD j true = false → waitsB md ops i ops.size j = false → (∀ e ∈ oj.after, Region.binds md e = true → e.on ≠ i) → oi.apart ops oj = true ∧ kp j = true) →
    i ∈ Region.ready md ops l → YieldsIf P ops Sc oi v a → Sc w → anyK P md ops Q kp Sc f (l.setIfInBounds i true) (a.put oi.dst v) w → anyK P md ops Q kp Sc (f + 1) l a w := by
  intro f
  induction f with
  | zero =>
    intro l a w _ _ hr hy hS H
    refine ⟨fun h => (by rw [h] at hr; cases hr), fun j hj => ?_⟩
    by_cases hji : j = i
    · subst hji; exact hy.wpOp hi hS ⟨fun _ => hS, H⟩
    · have h1 := ready_mono hj hji
      rw [H.1] at h1
      cases h1
  | succ f ih =>
    intro l a w hcl hfree hr hy hS H
    refine ⟨fun h => (by rw [h] at hr; cases hr), fun j hj => ?_⟩
    by_cases hji : j = i
    · subst hji; exact hy.wpOp hi hS ⟨fun _ => hS, H⟩
    · obtain ⟨hjun, oj, hoj, hall⟩ := mem_ready.1 hj
      have hin := (mem_ready.1 hr).1
      have hnot : ∀ e ∈ oj.after, Region.binds md e = true → e.on ≠ i := fun e he hb heq => by
        have h1 := hall e he hb
        rw [heq, getD_both hin] at h1
        cases h1
      have hw : waitsB md ops i ops.size j = false := hcl.waits hin _ _ fun oj' hj' e he hb => by
        rw [hoj] at hj'
        obtain rfl := Option.some.inj hj'
        exact hall e he hb
      obtain ⟨hap, hkp⟩ := hfree j oj hoj hji hjun hw hnot
      refine wpOp_mono (fun a' w' h3 => ⟨fun _ => h3.2.1 hkp, ih (l.setIfInBounds j true) a' w' (hcl.set hj) (fun k ok hk hki hun hno hd => ?_) (ready_mono hr (Ne.symm hji)) h3.1 (h3.2.1 hkp) ?_⟩)
        (wpOp_putIf hoj hap (fun cs b => hsel i oi cs b hi) (fun cs b => hsel j oj cs b hoj) hQ hy (H.2 j (ready_mono hj hji)))
      · refine hfree k ok hk hki ?_ hno hd
        by_cases hjk : j = k
        · subst hjk; exact hjun
        · rw [getD_set_ne true hjk] at hun; exact hun
      · rw [Array.setIfInBounds_comm _ _ hji]
        exact h3.2.2
theorem anyK_take {i : Nat} {oi : Oper} {v : Value} {f : Nat} {l : Array Bool} {a : Act} {w : World} (hi : ops[i]? = some oi) (hs : Region.noSelect ops = true) (hk : kfree md ops kp l i = true)
    (hr : (Region.ready md ops l).contains i = true) (hQ : ∀ c a w, Q (.panic c) (a.put oi.dst v) w → Q (.panic c) a w) (hy : YieldsIf P ops Sc oi v a) (hS : Sc w)
    (h : anyK P md ops Q kp Sc f (l.setIfInBounds i true) (a.put oi.dst v) w) : anyK P md ops Q kp Sc (f + 1) l a w :=
  anyK_first hi (Region.noSelect_spec hs) hQ f l a w (closedB_ok (by simp only [kfree, Bool.and_eq_true] at hk; exact hk.1)) (kfree_spec hi hk) (by simpa using hr) hy hS h
end

/-! Rows that are lent: for a while nothing is told of them but that they stand. -/
mutual
/-- It leads into rows rs alone. -/
def onlyR (rs : List Nat) : A → Bool
  | .vw r _ _ => rs.contains r
  | .pt r _ _ => rs.contains r
  | .agg xs => onlyRL rs xs
  | .tup xs => onlyRL rs xs
  | .clo _ xs => onlyRL rs xs
  | .un => true
  | .sc _ => true
  | .nil => true
  | .sl _ _ _ => true
  | .rp _ => true
  | .bx _ => true
  | .mp r => rs.contains r
  | .rmp _ => true
  | .al _ x => onlyR rs x
def onlyRL (rs : List Nat) : List A → Bool
  | [] => true
  | x :: xs => onlyR rs x && onlyRL rs xs
end
theorem onlyRL_eq (rs : List Nat) : ∀ xs : List A, onlyRL rs xs = xs.all (onlyR rs)
  | [] => rfl
  | x :: xs => by rw [onlyRL, onlyRL_eq rs xs, List.all_cons]
theorem TRel.on {w w' : World} {G G' : Nat → Prop} {rows rows' : List (Option Row)} {gs gs' : Gh} {rs : List Nat} (hG : ∀ b, G b → G' b ∧ w'.heap[b]? = w.heap[b]?) (hR : ∀ r ∈ rs, RowLe w w' rows rows' gs gs' r)
    {x : A} {v : Value} {F : List Nat} (h : TRel w G rows gs x v F) (ho : onlyR rs x = true) (hF : ∀ b ∈ F, w'.heap[b]? = w.heap[b]?) : TRel w' G' rows' gs' x v F := by
  refine TRel.rec (motive_1 := fun x v F _ => onlyR rs x = true → (∀ b ∈ F, w'.heap[b]? = w.heap[b]?) → TRel w' G' rows' gs' x v F)
    (motive_2 := fun xs vs F _ => xs.all (onlyR rs) = true → (∀ b ∈ F, w'.heap[b]? = w.heap[b]?) → TRelL w' G' rows' gs' xs vs F) ?_ ?_ ?_ ?_ ?_ ?_ ?_ ?_ ?_ ?_ ?_ ?_ h ho hF
  · intros; exact .un
  · intro x v F h _ hF; exact .of (h.move_ hG hF)
  · intro r off len k cap b row cur e hr hob hl hh hs hm hc hk ho _
    obtain ⟨row', hr', hg, hn, hx, hb⟩ := (hR r (by simpa [onlyR] using ho)).le row hr
    obtain ⟨cur', e', hh', hs'⟩ := hb b cur e hob hh
    exact .vw hr' (by rw [hg]; exact hob) (by omega) hh' (by rw [hs', hs, hn]) hm (by omega) (by rw [hn]; exact hk)
  · intro r row hr hob hxs ho _
    obtain ⟨row', hr', hg, hn, hx, hb⟩ := (hR r (by simpa [onlyR] using ho)).le row hr
    exact .vwn hr' (by rw [(hR r (by simpa [onlyR] using ho)).nn row hr (by rw [hob])]; exact hob) (by rw [hxs] at hx; exact List.eq_nil_of_length_eq_zero hx)
  · intro r j o k b row hr hob hk ho _
    obtain ⟨row', hr', hg, hn, hx, hb⟩ := (hR r (by simpa [onlyR] using ho)).le row hr
    exact .pt hr' (by rw [hg]; exact hob) (by rw [hn]; exact hk)
  · intro xs cs F hl ih ho hF; exact .agg (ih (by rw [← onlyRL_eq]; simpa [onlyR] using ho) hF)
  · intro xs cs F hl ih ho hF; exact .tup (ih (by rw [← onlyRL_eq]; simpa [onlyR] using ho) hF)
  · intro g caps cs F hl ih ho hF; exact .clo (ih (by rw [← onlyRL_eq]; simpa [onlyR] using ho) hF)
  · intro r b row hr hob ho _
    obtain ⟨row', hr', hg, hn, hx, hb⟩ := (hR r (by simpa [onlyR] using ho)).le row hr
    exact .mp hr' (by rw [(hR r (by simpa [onlyR] using ho)).nn row hr (by rw [hob])]; exact hob)
  · intro x v F h ih ho hF; exact .al (ih (by simpa [onlyR] using ho) hF)
  · intro _ _; exact .nil
  · intro x v F xs vs Fs h hl ih ih' ho hF
    rw [List.all_cons, Bool.and_eq_true] at ho
    exact .cons (ih ho.1 fun b hb => hF b (by simp [hb])) (ih' ho.2 fun b hb => hF b (by simp [hb]))
theorem TRelL.on {w w' : World} {G G' : Nat → Prop} {rows rows' : List (Option Row)} {gs gs' : Gh} {rs : List Nat} (hG : ∀ b, G b → G' b ∧ w'.heap[b]? = w.heap[b]?) (hR : ∀ r ∈ rs, RowLe w w' rows rows' gs gs' r) :
    ∀ {xs : List A} {vs : List Value} {F : List Nat}, TRelL w G rows gs xs vs F → xs.all (onlyR rs) = true → (∀ b ∈ F, w'.heap[b]? = w.heap[b]?) → TRelL w' G' rows' gs' xs vs F
  | _, _, _, .nil, _, _ => .nil
  | _, _, _, .cons h hl, ho, hF => by
    rw [List.all_cons, Bool.and_eq_true] at ho
    exact .cons (h.on hG hR ho.1 fun b hb => hF b (by simp [hb])) (hl.on hG hR ho.2 fun b hb => hF b (by simp [hb]))
def rowOnly (rs : List Nat) (row : Row) : Bool := !row.lk || (flat row.xs).all (onlyR rs)
theorem RowRel.on {w w' : World} {G G' : Nat → Prop} {rows rows' : List (Option Row)} {gs gs' : Gh} {rs : List Nat} (hG : ∀ b, G b → G' b ∧ w'.heap[b]? = w.heap[b]?) (hR : ∀ r ∈ rs, RowLe w w' rows rows' gs gs' r)
    {row : Row} {ob : Option Nat} {F : List Nat} (h : RowRel w G rows gs row ob F) (ho : rowOnly rs row = true) (hF : ∀ b ∈ ob.toList ++ F, w'.heap[b]? = w.heap[b]?) : RowRel w' G' rows' gs' row ob F := by
  cases ob with
  | none => exact h.imp id fun h => h.step hG hF
  | some b =>
    obtain ⟨cur, e, cap, h1, h2, h3, h4, h5, h6, h7⟩ := h.ex
    have hF' : ∀ c ∈ F, w'.heap[c]? = w.heap[c]? := fun c hc => hF c (by simp [hc])
    refine ⟨cur, e, cap, by rw [hF b (by simp)]; exact h1, h2, h3, h4, h5, h6, ?_⟩
    unfold CellsRel at h7 ⊢
    split
    · rename_i hl
      rw [if_pos hl] at h7
      exact h7.on hG hR (by simpa [rowOnly, hl] using ho) hF'
    · rename_i hl
      rw [if_neg hl] at h7
      exact h7.move_ hG hF'

def State.turns : List Nat → State → State
  | [], S => S
  | r :: rs, S => State.turns rs (S.turn r none)
def lentT (vs : Nat → Value) : List Nat → List (Nat × A) → List (Nat × A)
  | [], t => t
  | i :: hs, t => (i, .sc (vs i)) :: lentT vs hs t
/-- Rows rs are lent; the temporaries hs are kept as they are. -/
def State.lend (S : State) (rs hs : List Nat) (vs : Nat → Value) : State := ⟨lentT vs hs (S.turns rs).t, S.N, (S.turns rs).rows⟩
def backT (S : State) : List Nat → List (Nat × A) → List (Nat × A)
  | [], t => t
  | i :: hs, t => (i, lk S.t i) :: backT S hs t
def backR (S : State) : List Nat → List (Option Row) → List (Option Row)
  | [], rows => rows
  | r :: rs, rows => backR S rs (rows.set r (rowAt S.rows r))
/-- They are given back. -/
def State.unlend (S2 S : State) (rs hs : List Nat) : State := ⟨backT S hs S2.t, S2.N, backR S rs S2.rows⟩
theorem lk_lentT (vs : Nat → Value) : ∀ (hs : List Nat) (t : List (Nat × A)) (i : Nat), lk (lentT vs hs t) i = if i ∈ hs then .sc (vs i) else lk t i
  | [], t, i => by simp [lentT]
  | j :: hs, t, i => by
    simp only [lentT, lk, lk_lentT vs hs t i, List.mem_cons]
    by_cases h : j = i
    · subst h; simp
    · rw [if_neg h]
      by_cases h2 : i ∈ hs
      · simp [h2]
      · simp only [h2, or_false, if_false]
        rw [if_neg fun e => h e.symm]
theorem lk_backT (S : State) : ∀ (hs : List Nat) (t : List (Nat × A)) (i : Nat), lk (backT S hs t) i = if i ∈ hs then lk S.t i else lk t i
  | [], t, i => by simp [backT]
  | j :: hs, t, i => by
    simp only [backT, lk, lk_backT S hs t i, List.mem_cons]
    by_cases h : j = i
    · subst h; simp
    · rw [if_neg h]
      by_cases h2 : i ∈ hs
      · simp [h2]
      · simp only [h2, or_false, if_false]
        rw [if_neg fun e => h e.symm]
theorem rowAt_backR (S : State) : ∀ (rs : List Nat) (rows : List (Option Row)) (i : Nat), (∀ r ∈ rs, r < rows.length) → rowAt (backR S rs rows) i = if i ∈ rs then rowAt S.rows i else rowAt rows i
  | [], rows, i, _ => by simp [backR]
  | r :: rs, rows, i, h => by
    rw [backR, rowAt_backR S rs _ i (fun q hq => by rw [List.length_set]; exact h q (by simp [hq]))]
    simp only [List.mem_cons]
    by_cases h2 : i ∈ rs
    · simp [h2]
    · rw [if_neg h2, rowAt_set _ _ _ _ (h r (by simp))]
      by_cases h3 : i = r
      · subst h3; simp
      · simp [h2, h3]
section
variable {P : Program} {T : Nat → Option TI} {E : Env P} {G : Nat → Prop} {gs : Gh} {S : State} {a : Act} {w : World} {tmps : Array Value}
theorem Inv.turns : ∀ (rs : List Nat) {S : State} {gs : Gh}, Inv E G gs S tmps w → rs.Nodup → (∀ r ∈ rs, ∃ row, rowAt S.rows r = some row) →
    ∃ gs', Inv E G gs' (S.turns rs) tmps w ∧ (∀ r, r ∉ rs → gs' r = gs r) ∧ ∀ r ∈ rs, rowAt (S.turns rs).rows r = none
  | [], S, gs, hi, _, _ => ⟨gs, hi, fun _ _ => rfl, by simp⟩
  | q :: rs, S, gs, hi, hnd, hr => by
    obtain ⟨row, hq⟩ := hr q (by simp)
    rw [List.nodup_cons] at hnd
    have h1 := hi.turn (x := none) (ob := none) (F := []) hq rfl rfl rfl (Nat.le_refl _) (fun _ _ _ => rfl) (by simp) (by simp) (by simp) (by simp)
    obtain ⟨gs', h2, h3, h4⟩ := Inv.turns rs h1 hnd.2 (fun r hrr => by
      obtain ⟨row', h⟩ := hr r (by simp [hrr])
      refine ⟨killRow q row', ?_⟩
      rw [rowAt_turn hq, if_neg (fun e => hnd.1 (by rw [← e]; exact hrr)), h]; rfl)
    have keepNone : ∀ (rs : List Nat) (S : State), rowAt S.rows q = none → rowAt (S.turns rs).rows q = none := by
      intro rs
      induction rs with
      | nil => intro S h; exact h
      | cons r rs ih =>
        intro S h
        refine ih _ ?_
        show rowAt ((killRows r S.rows).set r none) q = none
        by_cases hlt : r < (killRows r S.rows).length
        · rw [rowAt_set _ _ _ _ hlt]
          split
          · rfl
          · rw [rowAt_killRows, h]; rfl
        · rw [List.set_eq_of_length_le (by omega), rowAt_killRows, h]; rfl
    refine ⟨gs', h2, fun r hrn => ?_, fun r hrr => ?_⟩
    · rw [h3 r (fun h => hrn (by simp [h]))]
      simp only [Gh.add]
      rw [if_neg fun e => hrn (by simp [e])]
    · rcases List.mem_cons.1 hrr with rfl | h
      · refine keepNone rs _ ?_
        rw [rowAt_turn hq, if_pos rfl]
      · exact h4 r h
/-- One cell. -/
def oneA' : A → Bool
  | .agg _ => false
  | .tup _ => false
  | .clo _ _ => false
  | .un => false
  | .al _ _ => false
  | _ => true
theorem cell_of {rows : List (Option Row)} {x : A} {v : Value} (h : TRel w G rows gs x v []) (hx : oneA' x = true) : cellV v = true := by
  cases h with
  | un => cases hx
  | of h => cases h <;> first | rfl | assumption | cases hx
  | vw => rfl
  | vwn => rfl
  | pt => rfl
  | agg => cases hx
  | tup => cases hx
  | clo => cases hx
  | mp => rfl
  | al => cases hx
def AgreeR (G : Nat → Prop) (gs : Gh) (rs : List Nat) (w w' : World) : Prop := ∀ b, (G b ∨ ∃ r ∈ rs, b ∈ gs.all r) → w'.heap[b]? = w.heap[b]?
def envL (E : Env P) (G : Nat → Prop) (gs gs' : Gh) (S : State) (rs : List Nat) (tmps : Array Value) (w : World) : Env P := ⟨w, G, fun b => ∃ r row, rowAt (S.turns rs).rows r = some row ∧ b ∈ gs'.all r, E.gv⟩
theorem Inv.lend (hi : Inv E G gs S tmps w) {rs hs : List Nat} (hnd : rs.Nodup) (hr : ∀ r ∈ rs, ∃ row, rowAt S.rows r = some row) (hone : ∀ i ∈ hs, oneA' (lk S.t i) = true) :
    ∃ gs', Inv (envL E G gs gs' S rs tmps w) G gs' (S.lend rs hs (vat E tmps)) tmps w ∧ (∀ r, r ∉ rs → gs' r = gs r) ∧ ∀ r ∈ rs, rowAt (S.turns rs).rows r = none := by
  obtain ⟨gs', h1, h2, h3⟩ := Inv.turns rs hi hnd hr
  refine ⟨gs', ⟨fun _ _ _ => rfl, rfl, rfl, rfl, Nat.le_refl _, hi.sz, fun _ h => h, fun _ h => .inl h, hi.glt, h1.row, h1.nod, fun r row hr b hb => ⟨(h1.own r row hr b hb).1, .inl ⟨r, row, hr, hb⟩⟩, h1.dis, fun i => ?_⟩, h2, h3⟩
  show TRel w G (S.turns rs).rows gs' (lk (lentT (vat E tmps) hs (S.turns rs).t) i) (vat E tmps i) []
  rw [lk_lentT]
  split
  · rename_i h
    exact .of (.sc (cell_of (hi.tmp i) (hone i h)))
  · exact h1.tmp i
theorem turns_none {rs : List Nat} : ∀ {S : State} {r : Nat}, rowAt S.rows r = none → rowAt (S.turns rs).rows r = none := by
  induction rs with
  | nil => exact id
  | cons q rs ih =>
    intro S r h
    refine ih ?_
    show rowAt ((killRows q S.rows).set q none) r = none
    by_cases hlt : q < (killRows q S.rows).length
    · rw [rowAt_set _ _ _ _ hlt]
      split
      · rfl
      · rw [rowAt_killRows, h]; rfl
    · rw [List.set_eq_of_length_le (by omega), rowAt_killRows, h]; rfl
theorem lent_fin (hi : Inv E G gs S tmps w) {rs : List Nat} {gs0 : Gh} (hgs0 : ∀ r, r ∉ rs → gs0 r = gs r) (hno : ∀ r ∈ rs, rowAt (S.turns rs).rows r = none) (hrow : ∀ r ∈ rs, ∃ row, rowAt S.rows r = some row) :
    ∀ r ∈ rs, ∀ b ∈ gs.all r, ¬ (envL E G gs gs0 S rs tmps w).Fin b := fun r hr b hb ⟨r', row', hr', hb'⟩ => by
  obtain ⟨row, hrw⟩ := hrow r hr
  have hne : r' ∉ rs := fun h => by rw [hno r' h] at hr'; cases hr'
  have e : gs0.all r' = gs.all r' := by simp only [Gh.all, hgs0 r' hne]
  rw [e] at hb'
  obtain ⟨row0, h0⟩ : ∃ row0, rowAt S.rows r' = some row0 := by
    cases h : rowAt S.rows r' with
    | none => rw [turns_none h] at hr'; cases hr'
    | some row0 => exact ⟨row0, rfl⟩
  exact hi.dis r r' row row0 hrw h0 (fun e => hne (by rw [← e]; exact hr)) b hb hb'
theorem lent_agree (hi : Inv E G gs S tmps w) {rs : List Nat} {gs0 : Gh} (hgs0 : ∀ r, r ∉ rs → gs0 r = gs r) (hno : ∀ r ∈ rs, rowAt (S.turns rs).rows r = none) {G' : Nat → Prop} {gs2 : Gh} {S2 : State} {tmps' : Array Value} {w' : World}
    (hi2 : Inv (envL E G gs gs0 S rs tmps w) G' gs2 S2 tmps' w') (hrow : ∀ r ∈ rs, ∃ row, rowAt S.rows r = some row) : AgreeR G gs rs w w' := fun b hb => by
  rcases hb with hb | ⟨r, hr, hb⟩
  · refine hi2.keep b (hi.glt b hb) fun ⟨r', row', hr', hb'⟩ => ?_
    have hne : r' ∉ rs := fun h => by rw [hno r' h] at hr'; cases hr'
    have e : gs0.all r' = gs.all r' := by simp only [Gh.all, hgs0 r' hne]
    rw [e] at hb'
    obtain ⟨row0, h0⟩ : ∃ row0, rowAt S.rows r' = some row0 := by
      cases h : rowAt S.rows r' with
      | none => rw [turns_none h] at hr'; cases hr'
      | some row0 => exact ⟨row0, rfl⟩
    exact (hi.own r' row0 h0 b hb').1 hb
  · obtain ⟨row, hrw⟩ := hrow r hr
    exact hi2.keep b (hi.block_lt hrw b hb) (lent_fin hi hgs0 hno hrow r hr b hb)
theorem Inv.unlend (hi : Inv E G gs S tmps w) {rs hs : List Nat} {gs0 : Gh} (hgs0 : ∀ r, r ∉ rs → gs0 r = gs r) (hno : ∀ r ∈ rs, rowAt (S.turns rs).rows r = none) {G' : Nat → Prop} {gs2 : Gh} {S2 : State} {tmps' : Array Value} {w' : World}
    (hi2 : Inv (envL E G gs gs0 S rs tmps w) G' gs2 S2 tmps' w') (h1 : ∀ i ∈ hs, lk S2.t i = .sc (vat E tmps i)) (h2 : ∀ r ∈ rs, rowAt S2.rows r = none ∧ r < S2.rows.length)
    (hon : ∀ i ∈ hs, onlyR rs (lk S.t i) = true) (hrow : ∀ r ∈ rs, ∃ row, rowAt S.rows r = some row ∧ rowOnly rs row = true) :
    Inv (envAt E G gs S w) G' (fun r => if r ∈ rs then gs r else gs2 r) (S2.unlend S rs hs) tmps' w' ∧ AgreeR G gs rs w w' := by
  have hsame : ∀ r, rowAt S.rows r = none → rowAt (S.turns rs).rows r = none := fun r h => turns_none h
  have hrow' : ∀ r ∈ rs, ∃ row, rowAt S.rows r = some row := fun r hr => let ⟨row, h, _⟩ := hrow r hr; ⟨row, h⟩
  have hfin := lent_fin (E := E) hi hgs0 hno hrow'
  have hag := lent_agree hi hgs0 hno hi2 hrow'
  refine ⟨?_, hag⟩
  have hG : ∀ b, G b → G' b ∧ w'.heap[b]? = w.heap[b]? := fun b hb => ⟨hi2.gsub b hb, hag b (.inl hb)⟩
  have hrat : ∀ r, rowAt (S2.unlend S rs hs).rows r = if r ∈ rs then rowAt S.rows r else rowAt S2.rows r := fun r => rowAt_backR S rs S2.rows r fun q hq => (h2 q hq).2
  have hleS : ∀ r ∈ rs, RowLe w w' S.rows (S2.unlend S rs hs).rows gs (fun r => if r ∈ rs then gs r else gs2 r) r := fun r hr => RowLe.mk (fun row hrw => by
    refine ⟨row, by rw [hrat, if_pos hr]; exact hrw, by simp [hr], rfl, rfl, fun b cur e hob hh => ⟨cur, e, ?_, rfl⟩⟩
    rw [hag b (.inr ⟨r, hr, by simp [Gh.all, hob]⟩)]; exact hh) fun _ _ _ => by simp [hr]
  have hle2 : ∀ r, RowLe w' w' S2.rows (S2.unlend S rs hs).rows gs2 (fun r => if r ∈ rs then gs r else gs2 r) r := fun r => RowLe.refl_of fun row hrw => by
    have hne : r ∉ rs := fun h => by rw [(h2 r h).1] at hrw; cases hrw
    exact ⟨by rw [hrat, if_neg hne]; exact hrw, by simp [hne], fun _ _ => rfl⟩
  have hall1 : ∀ r ∈ rs, Gh.all (fun r => if r ∈ rs then gs r else gs2 r) r = gs.all r := fun r hr => by simp only [Gh.all, if_pos hr]
  have hall2 : ∀ r, r ∉ rs → Gh.all (fun r => if r ∈ rs then gs r else gs2 r) r = gs2.all r := fun r hr => by simp only [Gh.all, if_neg hr]
  have hsz : (envL E G gs gs0 S rs tmps w).w0 = w := rfl
  have fin2 : ∀ b, (envL E G gs gs0 S rs tmps w).Fin b → (envAt E G gs S w).Fin b := fun b ⟨r', row', hr', hb'⟩ => by
    have hne : r' ∉ rs := fun h => by rw [hno r' h] at hr'; cases hr'
    have e : gs0.all r' = gs.all r' := by simp only [Gh.all, hgs0 r' hne]
    rw [e] at hb'
    cases h : rowAt S.rows r' with
    | none => rw [hsame r' h] at hr'; cases hr'
    | some row0 => exact ⟨r', row0, h, hb'⟩
  have hdis : ∀ r ∈ rs, ∀ r' row', r' ∉ rs → rowAt S2.rows r' = some row' → ∀ b ∈ gs.all r, b ∉ gs2.all r' := fun r hr r' row' hne hr' b hb hb' => by
    obtain ⟨row, hrw, _⟩ := hrow r hr
    rcases (hi2.own r' row' hr' b hb').2 with h | h
    · exact hfin r hr b hb h
    · have := hi.block_lt hrw b hb
      rw [hsz] at h
      omega
  refine ⟨fun b hb hf => hi2.keep b hb fun h => hf (fin2 b h), hi2.os, hi2.tape, hi2.output, hi2.size, hi2.sz, hi2.gsub, fun b hb => (hi2.gnew b hb).imp id (Or.imp (fin2 b) id), hi2.glt, fun r row hr => ?_, fun r row hr => ?_, fun r row hr b hb => ?_, fun r r' row row' hr hr' hne b hb hb' => ?_, fun i => ?_⟩
  · rw [hrat] at hr
    split at hr
    · rename_i h
      obtain ⟨row0, h0, h3⟩ := hrow r h
      rw [hr] at h0
      obtain rfl := Option.some.inj h0
      rw [if_pos h]
      exact (hi.row r row hr).on hG hleS h3 fun b hb => hag b (.inr ⟨r, h, hb⟩)
    · rename_i h
      rw [if_neg h]
      exact (hi2.row r row hr).step (fun b hb => ⟨hb, rfl⟩) hle2 fun _ _ => rfl
  · rw [hrat] at hr
    split at hr
    · rename_i h; rw [hall1 r h]; exact hi.nod r row hr
    · rename_i h; rw [hall2 r h]; exact hi2.nod r row hr
  · rw [hrat] at hr
    split at hr
    · rename_i h
      rw [hall1 r h] at hb
      refine ⟨fun hg => ?_, .inl ⟨r, row, hr, hb⟩⟩
      rcases hi2.gnew b hg with h' | h' | h'
      · exact (hi.own r row hr b hb).1 h'
      · exact hfin r h b hb h'
      · have := hi.block_lt hr b hb
        rw [hsz] at h'
        omega
    · rename_i h
      rw [hall2 r h] at hb
      obtain ⟨g1, g2⟩ := hi2.own r row hr b hb
      exact ⟨g1, g2.imp (fin2 b) id⟩
  · rw [hrat] at hr hr'
    split at hr
    · rename_i h
      rw [hall1 r h] at hb
      split at hr'
      · rename_i h'
        rw [hall1 r' h'] at hb'
        exact hi.dis r r' row row' hr hr' hne b hb hb'
      · rename_i h'
        rw [hall2 r' h'] at hb'
        exact hdis r h r' row' h' hr' b hb hb'
    · rename_i h
      rw [hall2 r h] at hb
      split at hr'
      · rename_i h'
        rw [hall1 r' h'] at hb'
        exact hdis r' h' r row h hr b hb' hb
      · rename_i h'
        rw [hall2 r' h'] at hb'
        exact hi2.dis r r' row row' hr hr' hne b hb hb'
  · show TRel w' G' (S2.unlend S rs hs).rows _ (lk (backT S hs S2.t) i) (vat (envAt E G gs S w) tmps' i) []
    rw [lk_backT]
    have hv : vat (envAt E G gs S w) tmps' i = vat (envL E G gs gs0 S rs tmps w) tmps' i := rfl
    rw [hv]
    split
    · rename_i h
      have h3 := hi2.tmp i
      rw [h1 i h] at h3
      rw [(sc_inv h3).1]
      exact (hi.tmp i).on hG hleS (hon i h) (by simp)
    · exact (hi2.tmp i).step (fun b hb => ⟨hb, rfl⟩) hle2 (by simp)
end
end Go.Fw

/- Regions that draw their order, in which some operations read rows that others leave alone: what is read, and the rule. Plain theorems, no condition. -/
set_option linter.unusedVariables false
set_option linter.unusedSimpArgs false
namespace Go.Fw
section
variable {P : Program} {T : Nat → Option TI} {S : State} {o : Oper} {rs : List Nat}
/-- The operation yields a value told by x, the same one as long as what may be read, and rows rs, stand. -/
def VOR (P : Program) (o : Oper) (S : State) (rs : List Nat) (x : A) : Prop :=
  ∀ (E : Env P) (G : Nat → Prop) (gs : Gh) (a : Act) (w : World), Inv E G gs S a.tmps w →
    ∃ v, (∀ w', AgreeR G gs rs w w' → (execOp a.eval o).run P w' = .ok (.value v) w') ∧ TRel w G S.rows gs x v []
theorem VOG.r {x : A} (h : VOG P o S x) : VOR P o S rs x := fun E G gs a w hi => by
  obtain ⟨v, h1, h2⟩ := h E G gs a w hi
  exact ⟨v, fun w' hw' => h1 w' fun b hb => hw' b (.inl hb), h2⟩
theorem VOR_load_pt {t : TypeId} {x : Operand} {r j q : Nat} {row : Row} {y z : A} (ho : o.op = .load t x) (hx : okO x = true) (he : ev S x = .pt r j q) (hr : rowAt S.rows r = some row) (hrs : r ∈ rs)
    (hy : row.xs[j]? = some y) (ha : aggT P t = some false) (hz : y.cells[q]? = some z) (hno : noOwn z = true) : VOR P o S rs z := by
  refine fun E G gs a w hi => ?_
  have h1 := ev_rel hi x hx
  rw [he] at h1
  obtain ⟨row', b, hr', hb, hv⟩ := pt_inv h1
  rw [hr] at hr'
  obtain rfl := Option.some.inj hr'
  have hq : q < y.cells.length := by
    rcases Nat.lt_or_ge q y.cells.length with h | h
    · exact h
    · rw [List.getElem?_eq_none h] at hz; simp at hz
  have hw : y.width = row.n := by
    obtain ⟨b', _, hrc⟩ := row_real hi hr (by
      intro h0
      rw [List.eq_nil_of_length_eq_zero h0] at hy
      simp at hy) (.inr ⟨_, hb⟩)
    obtain ⟨_, _, _, _, _, _, _, h5, _⟩ := hrc.ex
    exact h5 y (List.mem_of_getElem? hy)
  unfold A.width at hw
  have hseg : (y.cells.drop q).take 1 = [z] := by
    rw [List.drop_eq_getElem_cons hq]
    rw [List.getElem?_eq_getElem hq] at hz
    simp only [Option.some.injEq] at hz
    simp [hz]
  obtain ⟨b1, cur, e, cs, g0, g1, g2, g3, g4⟩ := row_seg hi hr hy (o := q) (s := 1) (by omega) (by rw [hseg]; simpa using hno) (.inr ⟨_, hb⟩)
  rw [hb] at g0
  obtain rfl := Option.some.inj g0
  rw [hseg] at g3
  obtain ⟨v, hv1, hv2⟩ := g3.get 0 z rfl
  have hcur : cur[j * row.n + q]? = some v := by
    rw [← g2] at hv1
    rw [List.getElem?_take_of_lt (by omega), List.getElem?_drop] at hv1
    simpa using hv1
  exact ⟨v, fun w' hw' => by simp [execOp, ho, Instr.loadAt, hv, Instr.sureAddr, run_loadVar_cell ha ((hw' _ (.inr ⟨r, hrs, by simp [Gh.all, hb]⟩)).trans g1) hcur], hv2⟩
theorem VOR_load_ptAgg {t : TypeId} {x : Operand} {r j q s : Nat} {row : Row} {y : A} (ho : o.op = .load t x) (hx : okO x = true) (he : ev S x = .pt r j q) (hr : rowAt S.rows r = some row) (hrs : r ∈ rs)
    (hy : row.xs[j]? = some y) (ha : aggT P t = some true) (hs : szT P t = some s) (hq : q + s ≤ row.n) (hno : ((y.cells.drop q).take s).all noOwn = true) : VOR P o S rs (.agg ((y.cells.drop q).take s)) := by
  refine fun E G gs a w hi => ?_
  have h1 := ev_rel hi x hx
  rw [he] at h1
  obtain ⟨row', b, hr', hb, hv⟩ := pt_inv h1
  rw [hr] at hr'
  obtain rfl := Option.some.inj hr'
  obtain ⟨b1, cur, e, cs, g0, g1, g2, g3, g4⟩ := row_seg hi hr hy hq hno (.inr ⟨_, hb⟩)
  rw [hb] at g0
  obtain rfl := Option.some.inj g0
  exact ⟨.agg cs.toArray, fun w' hw' => by simp [execOp, ho, Instr.loadAt, hv, Instr.sureAddr, run_loadVar_agg ha hs ((hw' _ (.inr ⟨r, hrs, by simp [Gh.all, hb]⟩)).trans g1) g2 g4], .agg g3⟩
theorem VOR_fieldAddr_pt {t : TypeId} {x : Operand} {i r j q off s : Nat} {g : Bool} (ho : o.op = .fieldAddr t x i) (hx : okO x = true) (he : ev S x = .pt r j q)
    (hf : fieldT P t i = some (off, s, g)) (hs : s ≠ 0) : VOR P o S rs (.pt r j (q + off)) := by
  refine fun E G gs a w hi => ?_
  have h1 := ev_rel hi x hx
  rw [he] at h1
  obtain ⟨row, b, hr, hb, hv⟩ := pt_inv h1
  unfold fieldT at hf
  split at hf <;> try simp at hf
  rename_i fs hu
  split at hf <;> try simp at hf
  rename_i f hfi
  split at hf <;> try simp at hf
  rename_i s' g' hsz hag
  obtain ⟨rfl, rfl, rfl⟩ := hf
  refine ⟨.pointer (some ⟨b, j * row.n + (q + f.offset), none⟩), ?_, .pt hr hb rfl⟩
  intro w' hw'
  simp [execOp, ho, Instr.fieldAt, run_underlying hu, hfi, hv, Instr.sureAddr, fieldPlace, run_sizeOf hsz, hs, add_none, Nat.add_assoc]
theorem VOR_fieldAddr_rp {t : TypeId} {x : Operand} {xs : List A} {i off s : Nat} {g : Bool} (ho : o.op = .fieldAddr t x i) (hx : okO x = true) (he : ev S x = .rp xs)
    (hf : fieldT P t i = some (off, s, g)) (hs : s ≠ 0) : VOR P o S rs (.rp (xs.drop off)) := by
  refine fun E G gs a w hi => ?_
  have h1 := ev_rel hi x hx
  rw [he] at h1
  obtain ⟨b, k, cur, e, fr, hv, hh, hg, hl⟩ := rp_inv h1
  unfold fieldT at hf
  split at hf <;> try simp at hf
  rename_i fs hu
  split at hf <;> try simp at hf
  rename_i f hfi
  split at hf <;> try simp at hf
  rename_i s' g' hsz hag
  obtain ⟨rfl, rfl, rfl⟩ := hf
  refine ⟨.pointer (some ⟨b, k + f.offset, none⟩), ?_, .of (.rp hh hg rfl ?_)⟩
  · intro w' hw'
    simp [execOp, ho, Instr.fieldAt, run_underlying hu, hfi, hv, Instr.sureAddr, fieldPlace, run_sizeOf hsz, hs, add_none]
  · have := hl.drop0 f.offset
    rw [List.drop_take, List.drop_drop] at this
    simpa using this
theorem VOR_indexAddr_vw {t e : TypeId} {x y : Operand} {r off len : Nat} {k : IntKind} {i : Int} {row : Row} (ho : o.op = .indexAddr t x y) (hx : okO x = true) (hy : okO y = true)
    (h1 : ev S x = .vw r off len) (h2 : ev S y = .sc (.int k i)) (hr : rowAt S.rows r = some row) (he : elemT P t = some e) (hs : szT P e = some row.n) (h0 : 0 ≤ i) (hl : i < len)
    : VOR P o S rs (.pt r (off + i.toNat) 0) := by
  refine fun E G gs a w hi => ?_
  have e1 := ev_rel hi x hx
  have e2 := ev_rel hi y hy
  rw [h1] at e1
  rw [h2] at e2
  obtain ⟨row', kk, cap, cur, et, b, hr', hob, g1, g2, g3, g4, g5, g6, hv⟩ := (vw_inv e1).resolve_right (by
    intro ⟨_, _, _, _, _, h0, _⟩
    omega)
  rw [hr] at hr'
  obtain rfl := Option.some.inj hr'
  have hv2 := (sc_inv e2).1
  have hk : kk = off * row.n := by rcases g6 with h | h <;> omega
  subst hk
  refine ⟨_, ?_, .pt hr hob rfl⟩
  intro w' hw'
  simp [execOp, ho, hv, hv2, Instr.indexAt, asIntOf, run_underlying (elemT_inv he), h0, hl, run_sizeOf hs, add_none, Nat.add_mul]
theorem VOR_indexAddr_sl {t e : TypeId} {x y : Operand} {n : Nat} {xs : List A} {k : IntKind} {i : Int} {z : A} (ho : o.op = .indexAddr t x y) (hx : okO x = true) (hy : okO y = true)
    (h1 : ev S x = .sl false n xs) (h2 : ev S y = .sc (.int k i)) (he : elemT P t = some e) (hs : szT P e = some n) (h0 : 0 ≤ i) (hz : xs[i.toNat]? = some z)
    : VOR P o S rs (.rp z.cells) := by
  refine fun E G gs a w hi => ?_
  have e1 := ev_rel hi x hx
  have e2 := ev_rel hi y hy
  rw [h1] at e1
  rw [h2] at e2
  have hv2 := (sc_inv e2).1
  have hl : i.toNat < xs.length := by
    rcases Nat.lt_or_ge i.toNat xs.length with h | h
    · exact h
    · rw [List.getElem?_eq_none h] at hz; simp at hz
  rcases slf_inv e1 with ⟨_, rfl⟩ | ⟨b, kk, cap, cur, et, fr, hv, hh, hg, hw, hrel, hcap, hm⟩
  · simp at hl
  · refine ⟨.pointer (some ⟨b, kk + i.toNat * n, none⟩), ?_, .of (.rp hh hg rfl ?_)⟩
    · have : i < (xs.length : Int) := by omega
      intro w' hw'
      simp [execOp, ho, hv, hv2, Instr.indexAt, asIntOf, run_underlying (elemT_inv he), h0, this, run_sizeOf hs, add_none]
    · have h3 := (hrel.drop0 (i.toNat * n)).take0 n
      have hseg := flat_seg hw hz 0 n (by omega)
      simp only [Nat.add_zero, List.drop_zero] at hseg
      have hzw := hw z (List.mem_of_getElem? hz)
      unfold A.width at hzw
      rw [hseg, ← hzw, List.take_length, hzw] at h3
      have hle : (i.toNat + 1) * n ≤ xs.length * n := Nat.mul_le_mul_right _ hl
      rw [Nat.add_mul] at hle
      rw [List.drop_take, List.take_take, Nat.min_eq_left (by omega), List.drop_drop] at h3
      rw [hzw]
      exact h3
theorem VOR_nilCheck_pt {x : Operand} {r j q : Nat} (ho : o.op = .nilCheck x) (hx : okO x = true) (he : ev S x = .pt r j q)
    : VOR P o S rs (.pt r j q) := by
  refine fun E G gs a w hi => ?_
  have h1 := ev_rel hi x hx
  rw [he] at h1
  obtain ⟨row, b, hr, hb, hv⟩ := pt_inv h1
  exact ⟨_, fun w' hw' => by simp [execOp, ho, hv], hv ▸ h1⟩
theorem VOR_nilCheck_rp {x : Operand} {xs : List A} (ho : o.op = .nilCheck x) (hx : okO x = true) (he : ev S x = .rp xs)
    : VOR P o S rs (.rp xs) := by
  refine fun E G gs a w hi => ?_
  have h1 := ev_rel hi x hx
  rw [he] at h1
  obtain ⟨b, k, cur, e, fr, hv, hh, hg, hl⟩ := rp_inv h1
  exact ⟨_, fun w' hw' => by simp [execOp, ho, hv], hv ▸ h1⟩
theorem vFieldAddrR_ok {k : A → Prop} (hT : TabOK P T) {t : TypeId} {x : Operand} {i : Nat} (ho : o.op = .fieldAddr t x i) (h : vFieldAddr T t i (ev S x) k) : ∃ z, VOR P o S rs z ∧ k z := by
  unfold vFieldAddr at h
  split at h <;> try exact h.elim
  rename_i ti hi
  have hti := tiOf_ok (hT _ _ hi)
  split at h <;> try exact h.elim
  rename_i off s g hf
  split at h <;> try exact h.elim
  rename_i hs
  split at h <;> try exact h.elim
  · rename_i r j q hx
    exact ⟨_, VOR_fieldAddr_pt ho rfl hx (hti.fs _ _ hf) hs, h⟩
  · rename_i xs hx
    exact ⟨_, VOR_fieldAddr_rp ho rfl hx (hti.fs _ _ hf) hs, h⟩
theorem VOR_indexAddr_pa {t : TypeId} {x y : Operand} {r j q n s : Nat} {k : IntKind} {i : Int} (ho : o.op = .indexAddr t x y) (hx : okO x = true) (hy : okO y = true)
    (h1 : ev S x = .pt r j q) (h2 : ev S y = .sc (.int k i)) (ha : arT P t = some (n, s)) (h0 : 0 ≤ i) (hl : i < n) : VOR P o S rs (.pt r j (q + i.toNat * s)) := by
  refine fun E G gs a w hi => ?_
  have e1 := ev_rel hi x hx
  have e2 := ev_rel hi y hy
  rw [h1] at e1
  rw [h2] at e2
  obtain ⟨row, b, hr, hb, hv⟩ := pt_inv e1
  have hv2 := (sc_inv e2).1
  unfold arT at ha
  split at ha
  case h_2 => cases ha
  rename_i n' e hu
  obtain ⟨s', hs, hns⟩ := Option.map_eq_some_iff.1 ha
  obtain ⟨rfl, rfl⟩ := Prod.mk.inj hns
  refine ⟨.pointer (some ⟨b, j * row.n + (q + i.toNat * s'), none⟩), ?_, .pt hr hb rfl⟩
  intro w' hw'
  simp [execOp, ho, hv, hv2, Instr.indexAt, asIntOf, run_underlying hu, Instr.sureAddr, h0, hl, run_sizeOf hs, add_none, Nat.add_assoc]
theorem vIndexAddrR_ok {k : A → Prop} (hT : TabOK P T) {t : TypeId} {x y : Operand} (ho : o.op = .indexAddr t x y) (h : vIndexAddr std T t S (ev S x) (ev S y) k) : ∃ z, VOR P o S rs z ∧ k z := by
  unfold vIndexAddr at h
  split at h <;> try exact h.elim
  · rename_i e ti k i hs hy
    obtain ⟨he, hti⟩ := szEl_ok hT hs
    split at h <;> try exact h.elim
    · rename_i r off len hx
      split at h <;> try exact h.elim
      rename_i row hr
      split at h <;> try exact h.elim
      rename_i hn
      exact ⟨_, VOR_indexAddr_vw ho rfl rfl hx hy hr he (by rw [hti.sz, hn]) h.1.h.1 h.1.h.2, h.2⟩
    · rename_i n xs hx
      split at h <;> try exact h.elim
      rename_i hn
      obtain ⟨h1, z, hz, h⟩ := h
      exact ⟨_, VOR_indexAddr_sl ho rfl rfl hx hy he (by rw [hti.sz, hn]) h1.h hz, h⟩
  · rename_i k i hs hy
    split at h <;> try exact h.elim
    rename_i ti ht
    split at h <;> try exact h.elim
    rename_i n s ha
    split at h <;> try exact h.elim
    rename_i r j q hx
    exact ⟨_, VOR_indexAddr_pa ho rfl rfl hx hy (by rw [(tiOf_ok (hT _ _ ht)).ar]; exact ha) h.1.h.1 h.1.h.2, h.2⟩
theorem vNilCheckR_ok {k : A → Prop} {x : Operand} (ho : o.op = .nilCheck x) (h : vNilCheck (ev S x) k) : ∃ z, VOR P o S rs z ∧ k z := by
  unfold vNilCheck at h
  split at h <;> try exact h.elim
  · rename_i hx; exact ⟨_, VOR_nilCheck_pt ho rfl hx, h⟩
  · rename_i hx; exact ⟨_, VOR_nilCheck_rp ho rfl hx, h⟩
def vLoadR (T : Nat → Option TI) (t : TypeId) (S : State) (rs : List Nat) (x : A) (k : A → Prop) : Prop :=
  match T t with
  | some i => (match x with
    | .rp xs => if i.ag then (if i.sz ≤ xs.length then k (.agg (xs.take i.sz)) else False) else (match xs[0]? with
      | some z => k z
      | none => False)
    | .pt r j q => if rs.contains r then (match rowAt S.rows r with
      | some row => (match row.lk with
        | true => (match row.xs[j]? with
          | some y => vCell i row.n y q k
          | none => False)
        | false => ∃ y, row.xs[j]? = some y ∧ vCell i row.n y q k)
      | none => False) else False
    | _ => False)
  | none => False
theorem vLoadR_ok {k : A → Prop} (hT : TabOK P T) {t : TypeId} {x : Operand} (ho : o.op = .load t x) (h : vLoadR T t S rs (ev S x) k) : ∃ z, VOR P o S rs z ∧ k z := by
  unfold vLoadR at h
  split at h <;> try exact h.elim
  rename_i i hi
  have hti := tiOf_ok (hT _ _ hi)
  split at h <;> try exact h.elim
  · rename_i xs hx
    split at h
    · rename_i hag
      split at h <;> try exact h.elim
      rename_i hle
      exact ⟨_, (VOG_load_rpAgg ho rfl hx (by rw [hti.ag, hag]) hti.sz hle).r, h⟩
    · rename_i hag
      split at h <;> try exact h.elim
      rename_i z hz
      exact ⟨_, (VOG_load_rp ho rfl hx (by rw [hti.ag]; simpa using hag) hz).r, h⟩
  · rename_i r j q hx
    split at h <;> try exact h.elim
    rename_i hrs
    have hrs : r ∈ rs := by simpa using hrs
    split at h <;> try exact h.elim
    rename_i row hr
    have cell : ∀ y, row.xs[j]? = some y → vCell i row.n y q k → ∃ z, VOR P o S rs z ∧ k z := fun y hy h => by
      unfold vCell at h
      split at h
      · rename_i hag
        split at h <;> try exact h.elim
        rename_i hq
        split at h <;> try exact h.elim
        rename_i hno
        exact ⟨_, VOR_load_ptAgg ho rfl hx hr hrs hy (by rw [hti.ag, hag]) hti.sz hq hno, h⟩
      · rename_i hag
        split at h <;> try exact h.elim
        rename_i z hz
        split at h <;> try exact h.elim
        rename_i hno
        exact ⟨_, VOR_load_pt ho rfl hx hr hrs hy (by rw [hti.ag]; simpa using hag) hz hno, h⟩
    split at h
    · split at h <;> try exact h.elim
      rename_i y hy
      exact cell y hy h
    · obtain ⟨y, hy, h⟩ := h
      exact cell y hy h
/-- What an operation reads of rows rs, or of what nobody writes. -/
def vROp (Ω : Opq) (T : Nat → Option TI) (rs : List Nat) (o : Oper) (S : State) (k : A → Prop) : Prop :=
  match o.op with
  | .load t x => vLoadR T t S rs (ev S x) k
  | .fieldAddr t x i => vFieldAddr T t i (ev S x) k
  | .nilCheck x => vNilCheck (ev S x) k
  | .indexAddr t x y => vIndexAddr Ω T t S (ev S x) (ev S y) k
  | _ => vGOp Ω T o S k
theorem vROp_ok (hT : TabOK P T) {k : A → Prop} (h : vROp std T rs o S k) : ∃ z, VOR P o S rs z ∧ k z := by
  unfold vROp at h
  split at h
  · rename_i ho; exact vLoadR_ok hT ho h
  · rename_i ho; exact vFieldAddrR_ok hT ho h
  · rename_i ho; exact vNilCheckR_ok ho h
  · rename_i ho; exact vIndexAddrR_ok hT ho h
  · obtain ⟨z, h1, h2⟩ := vGOp_ok hT h
    exact ⟨z, h1.r, h2⟩
def vRs (Ω : Opq) (T : Nat → Option TI) (rs : List Nat) (ops : List Oper) : List Nat → State → (State → Prop) → Prop
  | [], S, K => K S
  | q :: qs, S, K => match ops[q]? with
    | some o => (match o.guard with
      | none => vROp Ω T rs o S fun z => vRs Ω T rs ops qs (S.put o.dst z) K
      | some _ => False)
    | none => False
def chainB (ops : Array Oper) : List Nat → Array Bool → Bool
  | [], _ => true
  | n :: ns, l => decide (Region.ready .any ops l = [n]) && chainB ops ns (l.setIfInBounds n true)
def listAll : List Nat → Array Bool → Array Bool
  | [], l => l
  | n :: ns, l => listAll ns (l.setIfInBounds n true)
def quietB (ops : Array Oper) (kp : Nat → Bool) : List Nat → Array Bool → Bool
  | [], _ => true
  | q :: qs, l => (Region.ready .any ops l).contains q && (kfree .any ops kp l q && (quietB ops kp qs (l.setIfInBounds q true)))
/-- qs read, n1 leave the lent rows alone, n2 come last. -/
def lentB (ops : Array Oper) (qs n1 n2 : List Nat) : Bool :=
  Region.noSelect ops && (decide (qs.length + (n1.length + n2.length) = ops.size) && (quietB ops (fun j => !n2.contains j) qs (Array.replicate ops.size false) &&
    (n1.all (fun j => !n2.contains j) && (chainB ops n1 (listAll qs (Array.replicate ops.size false)) && (chainB ops n2 (listAll n1 (listAll qs (Array.replicate ops.size false))) &&
    (Region.ready .any ops (listAll n2 (listAll n1 (listAll qs (Array.replicate ops.size false))))).isEmpty)))))
variable {ops : List Oper} {Q : Exit → Act → World → Prop} {kp : Nat → Bool} {Sc : World → Prop}
theorem chain_ok (hT : TabOK P T) {E : Env P} {m : Nat} : ∀ (ns : List Nat) (l : Array Bool) (mv : Option Nat) (S : State) (K : State → Prop) (a : Act) (w : World), chainB ops.toArray ns l = true →
    (∀ n ∈ ns, kp n = true → ∀ S a w, SInv E S a w → Sc w) → vNs std P T ops mv ns S K → SInv E S a w →
    (∀ S' a' w', K S' → SInv E S' a' w' → anyK P .any ops.toArray Q kp Sc m (listAll ns l) a' w') → anyK P .any ops.toArray Q kp Sc (ns.length + m) l a w
  | [], l, mv, S, K, a, w, hB, hSc, h, hs, hK => by rw [List.length_nil, Nat.zero_add]; exact hK S a w h hs
  | n :: ns, l, mv, S, K, a, w, hB, hSc, h, hs, hK => by
    simp only [chainB, Bool.and_eq_true, decide_eq_true_eq] at hB
    unfold vNs at h
    split at h <;> try exact h.elim
    rename_i o ho
    split at h <;> try exact h.elim
    rename_i hg
    rw [List.length_cons, show ns.length + 1 + m = (ns.length + m) + 1 by omega]
    refine ⟨fun h0 => (by rw [hB.1] at h0; cases h0), fun i hi => ?_⟩
    rw [hB.1] at hi
    have hin : i = n := by simpa using hi
    subst hin
    unfold wpOp
    rw [show ops.toArray[i]? = some o by simpa using ho]
    simp only
    rw [if_pos (by simp [Region.wanted, hg])]
    exact .inl (vOp_ok hT h E a w _ _ hs fun S' a' w' hK' hs' => ⟨fun hk => hSc i (by simp) hk _ _ _ hs', chain_ok hT ns _ _ S' K a' w' hB.2 (fun n hn => hSc n (by simp [hn])) hK' hs' hK⟩)
theorem put_rows (S : State) (d : Option Nat) (z : A) : (S.put d z).rows = S.rows := by
  cases d with
  | none => rfl
  | some d => simp only [State.put]; split <;> rfl
theorem quiet_ok (hT : TabOK P T) {E : Env P} {G : Nat → Prop} {gs : Gh} {w : World} {m : Nat} {rs : List Nat} (hQ : ∀ c a w, ¬ Q (.panic c) a w) (hsel : Region.noSelect ops.toArray = true) {K : State → Prop} : ∀ (qs : List Nat) (l : Array Bool) (S : State) (a : Act), quietB ops.toArray kp qs l = true →
    vRs std T rs ops qs S K → a.defers = [] → Inv E G gs S a.tmps w → (∀ S' a', K S' → S'.rows = S.rows → a'.defers = [] → Inv E G gs S' a'.tmps w → anyK P .any ops.toArray Q kp (AgreeR G gs rs w) m (listAll qs l) a' w) →
    anyK P .any ops.toArray Q kp (AgreeR G gs rs w) (qs.length + m) l a w
  | [], l, S, a, hB, h, hd, hi, hK => by rw [List.length_nil, Nat.zero_add]; exact hK S a h rfl hd hi
  | q :: qs, l, S, a, hB, h, hd, hi, hK => by
    simp only [quietB, Bool.and_eq_true] at hB
    unfold vRs at h
    split at h <;> try exact h.elim
    rename_i o ho
    split at h <;> try exact h.elim
    rename_i hg
    obtain ⟨z, h1, h2⟩ := vROp_ok hT h
    obtain ⟨v, h3, h4⟩ := h1 E G gs a w hi
    rw [List.length_cons, show qs.length + 1 + m = (qs.length + m) + 1 by omega]
    refine anyK_take (oi := o) (v := v) (by simpa using ho) hsel hB.2.1 hB.1 (fun c a w h => (hQ _ _ _ h).elim) (.inl ⟨by simp [Region.wanted, hg], fun w' hw' => h3 w' hw'⟩) (fun _ _ => rfl) ?_
    exact quiet_ok hT hQ hsel qs _ _ _ hB.2.2 h2 (by rw [put_defers]; exact hd) (hi.put h4 o.dst) (fun S' a' h1 h2 => hK S' a' h1 (h2.trans (put_rows _ _ _)))
/-- What must be seen of a state whose rows rs are lent, the temporaries hs being kept. -/
def lendB (S : State) (rs hs : List Nat) : Bool :=
  decide rs.Nodup && (rs.all (fun r => match rowAt S.rows r with
    | some row => rowOnly rs row
    | none => false) && hs.all fun i => oneA' (lk S.t i) && onlyR rs (lk S.t i))
def keptA (S2 : State) (vs : Nat → Value) : List Nat → Prop
  | [] => True
  | i :: hs => lk S2.t i = .sc (vs i) ∧ keptA S2 vs hs
def backB (S2 : State) (rs : List Nat) : Bool := rs.all fun r => (match rowAt S2.rows r with
  | none => true
  | some _ => false) && decide (r < S2.rows.length)
theorem keptA_spec {S2 : State} {vs : Nat → Value} : ∀ {hs : List Nat}, keptA S2 vs hs → ∀ i ∈ hs, lk S2.t i = .sc (vs i)
  | [], _, i, hi => by cases hi
  | j :: hs, h, i, hi => by
    rcases List.mem_cons.1 hi with rfl | hi
    · exact h.1
    · exact keptA_spec h.2 i hi
/-- Who was made last. -/
def mvOf (ops : List Oper) : List Nat → Option Nat → Option Nat
  | [], mv => mv
  | n :: ns, _ => mvOf ops ns (match ops[n]? with
    | some o => madeBy o
    | none => none)
/-- A region that draws its order: qs read rows rs; n1 leave these alone; n2 come behind all. -/
theorem VC_lent (hT : TabOK P T) {Ω : Opq} (hΩ : Ω = std) (hm : P.follows .mixedOrders = true) (qs n1 n2 rs hs : List Nat) {id : Nat} {ops : Array Oper} {K : Exit → State → Prop} (hB : lentB ops qs n1 n2 = true)
    (h : vRs Ω T rs ops.toList qs S fun S1 => lendB S1 rs hs = true ∧ ∀ vs : Nat → Value, vNs Ω P T ops.toList none n1 (S1.lend rs hs vs) fun S2 => keptA S2 vs hs ∧ backB S2 rs = true ∧
      vNs Ω P T ops.toList (mvOf ops.toList n1 none) n2 (S2.unlend S1 rs hs) (K .normal)) : VC P (.region id ops true) S K := by
  subst hΩ
  intro E a w hs0
  have hops : ops = ops.toList.toArray := by simp
  rw [hops] at hB ⊢
  obtain ⟨hd, G, gs, hi⟩ := hs0
  simp only [lentB, Bool.and_eq_true, decide_eq_true_eq] at hB
  obtain ⟨hsel, hsz, hq, hkp, hc1, hc2, hend⟩ := hB
  have hw1 : Go.RowKit.Below w.heap.size w { w with drawn := w.drawn + 1 } := ⟨rfl, rfl, rfl, Nat.le_refl _, fun _ _ => rfl⟩
  have hi1 : Inv E G gs S a.tmps { w with drawn := w.drawn + 1 } := hi.below hw1 (fun _ h => h) (fun _ h => .inl h) (fun b h => Nat.lt_of_lt_of_le (hi.glt b h) hw1.size)
  generalize hw1e : { w with drawn := w.drawn + 1 } = w1 at *
  have hwp : wpAny P .any ops.toList.toArray (fun e a' w' => e = .normal ∧ ∃ S', (∃ S1, S1.rows = S.rows ∧ SInv (envAt E G gs S1 w1) S' a' w') ∧ K .normal S') ops.toList.toArray.size (Array.replicate ops.toList.toArray.size false) a w1 := by
    refine any_of_K (kp := fun j => !n2.contains j) (Sc := AgreeR G gs rs w1) _ _ _ _ ?_
    have e1 : ops.toList.toArray.size = qs.length + (n1.length + (n2.length + 0)) := by omega
    refine Eq.mp (congrArg (fun n => anyK P .any ops.toList.toArray _ _ _ n (Array.replicate ops.toList.toArray.size false) a w1) e1.symm) ?_
    refine quiet_ok (rs := rs) hT (fun c a w h => by cases h.1) hsel qs _ S a hq h hd hi1 ?_
    rintro S1 a1 ⟨hl, hvs⟩ hr1 hd1 hi2
    simp only [lendB, Bool.and_eq_true, decide_eq_true_eq, List.all_eq_true] at hl
    obtain ⟨hnd, hrows, hhs⟩ := hl
    have hrow : ∀ r ∈ rs, ∃ row, rowAt S1.rows r = some row ∧ rowOnly rs row = true := fun r hr => by
      have := hrows r hr
      split at this
      · rename_i row h; exact ⟨row, h, this⟩
      · cases this
    obtain ⟨gs0, hl1, hl2, hl3⟩ := hi2.lend (rs := rs) (hs := hs) hnd (fun r hr => let ⟨row, h, _⟩ := hrow r hr; ⟨row, h⟩) (fun i hi => (hhs i hi).1)
    have hSc : ∀ S' a' w', SInv (envL E G gs gs0 S1 rs a1.tmps w1) S' a' w' → AgreeR G gs rs w1 w' := fun S' a' w' ⟨_, G', gs', hi'⟩ => by
      have hcore := lent_agree hi2 hl2 hl3 hi' (fun r hr => let ⟨row, h, _⟩ := hrow r hr; ⟨row, h⟩)
      exact hcore
    refine chain_ok hT n1 _ none _ _ a1 w1 hc1 (fun n _ _ S' a' w' hs' => hSc S' a' w' hs') (hvs (vat E a1.tmps)) ⟨hd1, G, gs0, hl1⟩ ?_
    rintro S2 a2 w2 ⟨hk, hb, hn2⟩ ⟨hd2, G2, gs2, hi3⟩
    simp only [backB, List.all_eq_true, Bool.and_eq_true, decide_eq_true_eq] at hb
    obtain ⟨hu, _⟩ := hi2.unlend (hs := hs) hl2 hl3 hi3 (keptA_spec hk) (fun r hr => by
      obtain ⟨h1, h2⟩ := hb r hr
      refine ⟨?_, h2⟩
      split at h1
      · assumption
      · cases h1) (fun i hi => (hhs i hi).2) hrow
    refine chain_ok hT n2 _ _ _ _ a2 w2 hc2 (fun n hn hk => by simp [hn] at hk) hn2 ⟨hd2, G2, _, hu⟩ ?_
    intro S3 a3 w3 hK3 hs3
    exact ⟨by simpa using hend, rfl, S3, ⟨S1, hr1, hs3⟩, hK3⟩
  have hwp2 : (Code.region id ops.toList.toArray true).wp P (fun e a' w' => e = .normal ∧ ∃ S', (∃ S1, S1.rows = S.rows ∧ SInv (envAt E G gs S1 w1) S' a' w') ∧ K .normal S') a w := wp_region_any hm (by rw [hw1e]; exact hwp)
  refine wp_mono hwp2 ?_
  rintro e a' w' ⟨rfl, S', ⟨S1, hr1, hd', G', gs', hi'⟩, hK'⟩
  have e2 : envAt E G gs S1 w1 = envAt E G gs S w1 := by unfold envAt; rw [hr1]
  rw [e2] at hi'
  exact ⟨S', ⟨hd', G', gs', hi1.back hi'⟩, hK'⟩
end
end Go.Fw

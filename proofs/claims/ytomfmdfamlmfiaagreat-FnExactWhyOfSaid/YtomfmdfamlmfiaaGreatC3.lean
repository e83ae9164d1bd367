/- Calls that write into what they are handed. Plain theorems, no condition. -/
import Derived.Test.YtomfmdfamlmfiaaGreatC2
import Derived.Test.YtomfmdfamlmfiaaGreatProg
import Derived.Laws.StructEq
set_option linter.unusedVariables false
set_option linter.unusedSimpArgs false
namespace Go.Fw

/-- A contract of a function that may write into what it is handed as held alone: told 'outs' afterwards. -/
structure MCtr (P : Program) (g : Nat) (args : List A) (x : A) (outs : List A) : Prop where
  enter : Enter P g
  run : ∀ (w : World) (G : Nat → Prop) (vs : List Value) (F : List Nat), GoodG P w G → F.Nodup → (∀ b ∈ F, ¬ G b) → RelL w G args vs F → Calls P g vs.toArray w (fun e w' => ∃ v Fx Fo, e = .returned v ∧
    (w'.os = w.os ∧ w'.tape = w.tape ∧ w'.output = w.output ∧ w.heap.size ≤ w'.heap.size ∧ ∀ b, b < w.heap.size → b ∉ F → w'.heap[b]? = w.heap[b]?) ∧
    (Fx ++ Fo).Nodup ∧ (∀ b ∈ Fx ++ Fo, b ∈ F ∨ w.heap.size ≤ b) ∧ Rel w' (fun b => (G b ∨ b ∈ F ∨ (w.heap.size ≤ b ∧ b < w'.heap.size)) ∧ b ∉ Fx ++ Fo) x v Fx ∧
    RelL w' (fun b => (G b ∨ b ∈ F ∨ (w.heap.size ≤ b ∧ b < w'.heap.size)) ∧ b ∉ Fx ++ Fo) outs vs Fo)

/-- The same, of some result and some 'outs' of which R speaks. -/
structure XCtr (P : Program) (g : Nat) (args : List A) (R : A → List A → Prop) : Prop where
  enter : Enter P g
  run : ∀ (w : World) (G : Nat → Prop) (vs : List Value) (F : List Nat), GoodG P w G → F.Nodup → (∀ b ∈ F, ¬ G b) → RelL w G args vs F → Calls P g vs.toArray w (fun e w' => ∃ v Fx Fo x outs, R x outs ∧ e = .returned v ∧
    (w'.os = w.os ∧ w'.tape = w.tape ∧ w'.output = w.output ∧ w.heap.size ≤ w'.heap.size ∧ ∀ b, b < w.heap.size → b ∉ F → w'.heap[b]? = w.heap[b]?) ∧
    (Fx ++ Fo).Nodup ∧ (∀ b ∈ Fx ++ Fo, b ∈ F ∨ w.heap.size ≤ b) ∧ Rel w' (fun b => (G b ∨ b ∈ F ∨ (w.heap.size ≤ b ∧ b < w'.heap.size)) ∧ b ∉ Fx ++ Fo) x v Fx ∧
    RelL w' (fun b => (G b ∨ b ∈ F ∨ (w.heap.size ≤ b ∧ b < w'.heap.size)) ∧ b ∉ Fx ++ Fo) outs vs Fo)
theorem XCtr.m {P : Program} {g : Nat} {args : List A} {x : A} {outs : List A} (h : XCtr P g args fun x' o' => x' = x ∧ o' = outs) : MCtr P g args x outs :=
  ⟨h.enter, fun w G vs F h1 h2 h3 h4 => Calls.mono (h.run w G vs F h1 h2 h3 h4) (by
    rintro e w' ⟨v, Fx, Fo, x', o', ⟨rfl, rfl⟩, rfl, h⟩
    exact ⟨v, Fx, Fo, rfl, h⟩)⟩
mutual
inductive Mut (S : State) : A → A → A → List (Nat × List A) → Prop
  | row {r len : Nat} {row : Row} {xs' : List A} (hr : rowAt S.rows r = some row) (hlk : row.lk = false) (hl : len = row.xs.length) (hl' : xs'.length = row.xs.length) : Mut S (.vw r 0 len) (.sl true row.n row.xs) (.sl true row.n xs') [(r, xs')]
  | pt {r : Nat} {row : Row} {ys' : List A} (hr : rowAt S.rows r = some row) (h1 : row.xs.length = 1) (hlk : row.lk = true) (hd : (flat row.xs).all isData = true) (hl : ys'.length = row.n) : Mut S (.pt r 0 0) (.bx (flat row.xs)) (.bx ys') [(r, [.agg ys'])]
  | data {x : A} (hd : isData x = true) (hn : noOwn x = true) : Mut S x x x []
  | agg {xs ys zs : List A} {l : List (Nat × List A)} (h : MutL S xs ys zs l) : Mut S (.agg xs) (.agg ys) (.agg zs) l
inductive MutL (S : State) : List A → List A → List A → List (Nat × List A) → Prop
  | nil : MutL S [] [] [] []
  | cons {x y z : A} {xs ys zs : List A} {l ls : List (Nat × List A)} (h : Mut S x y z l) (hl : MutL S xs ys zs ls) : MutL S (x :: xs) (y :: ys) (z :: zs) (l ++ ls)
end
def blocksOf (gs : Gh) (l : List (Nat × List A)) : List Nat := l.flatMap fun p => gs.all p.1
theorem blocksOf_append (gs : Gh) (l ls : List (Nat × List A)) : blocksOf gs (l ++ ls) = blocksOf gs l ++ blocksOf gs ls := by simp [blocksOf]
theorem blocksOf_congr {gs gs' : Gh} : ∀ {l : List (Nat × List A)}, (∀ p ∈ l, gs p.1 = gs' p.1) → blocksOf gs l = blocksOf gs' l
  | [], _ => rfl
  | p :: l, h => by
    have ih := blocksOf_congr (l := l) fun q hq => h q (by simp [hq])
    simp only [blocksOf, List.flatMap_cons] at ih ⊢
    rw [ih]
    simp only [Gh.all]; rw [h p (by simp)]
def mutRows : List (Nat × List A) → List (Option Row) → List (Option Row)
  | [], rows => rows
  | (r, xs) :: l, rows => mutRows l (rows.set r ((rowAt rows r).map fun row => { row with xs := xs }))
def State.mut (S : State) (l : List (Nat × List A)) : State := { S with rows := mutRows l S.rows }

theorem rowAt_set' (rows : List (Option Row)) (q : Nat) (f : Row → Row) (r : Nat) : rowAt (rows.set q ((rowAt rows q).map f)) r = if r = q then (rowAt rows q).map f else rowAt rows r := by
  by_cases hq : q < rows.length
  · rw [rowAt_set _ _ _ _ hq]
  · rw [rowAt_none (by omega : rows.length ≤ q)]
    rw [List.set_eq_of_length_le (by omega)]
    split
    · rename_i h; subst h; rw [rowAt_none (by omega)]; rfl
    · rfl
theorem rowAt_mut_not : ∀ (l : List (Nat × List A)) (rows : List (Option Row)) (r : Nat), r ∉ l.map (·.1) → rowAt (mutRows l rows) r = rowAt rows r
  | [], rows, r, _ => rfl
  | (q, xs) :: l, rows, r, h => by
    simp only [List.map_cons, List.mem_cons, not_or] at h
    rw [mutRows, rowAt_mut_not l _ r h.2, rowAt_set', if_neg h.1]
theorem rowAt_mut : ∀ (l : List (Nat × List A)) (rows : List (Option Row)) (r : Nat) (xs : List A), (l.map (·.1)).Nodup → (r, xs) ∈ l → rowAt (mutRows l rows) r = (rowAt rows r).map fun row => { row with xs := xs }
  | [], rows, r, xs, _, h => by simp at h
  | (q, ys) :: l, rows, r, xs, hn, h => by
    simp only [List.map_cons, List.nodup_cons] at hn
    rw [mutRows]
    rcases List.mem_cons.1 h with h2 | h2
    · simp only [Prod.mk.injEq] at h2
      obtain ⟨rfl, rfl⟩ := h2
      rw [rowAt_mut_not l _ r hn.1, rowAt_set', if_pos rfl]
    · have hne : r ≠ q := fun e => hn.1 (by rw [← e]; exact List.mem_map.2 ⟨(r, xs), h2, rfl⟩)
      rw [rowAt_mut l _ r xs hn.2 h2, rowAt_set', if_neg hne]
section
variable {P : Program} {E : Env P} {G : Nat → Prop} {gs : Gh} {S : State} {w : World} {tmps : Array Value}

theorem box_cells (hi : Inv E G gs S tmps w) {r b : Nat} {row : Row} (hr : rowAt S.rows r = some row) (hob : (gs r).1 = some b) (h1 : row.xs.length = 1) (hlk : row.lk = true) (hd : (flat row.xs).all isData = true) :
    ∃ cur e, w.heap[b]? = some (.cells cur e (0, 0)) ∧ cur.size = row.n ∧ RelL w G (flat row.xs) cur.toList (gs r).2 ∧ ∀ v ∈ cur.toList, cellV v = true := by
  have h := hi.row r row hr
  rw [hob] at h
  obtain ⟨cur, e, cap, g1, g2, g3, g4, g5, g6, g7⟩ := h.ex
  rw [h1, Nat.one_mul] at g6 g7
  unfold CellsRel at g7
  rw [if_pos hlk] at g7
  have hcap : cap = 1 := (g3.one hlk).trans h1
  have hsz : cur.size = row.n := by rw [g2, hcap, Nat.one_mul]
  have hall : cur.toList.take row.n = cur.toList := by
    rw [List.take_of_length_le]
    rw [Array.length_toList, hsz]
    exact Nat.le_refl _
  rw [hall] at g6 g7
  exact ⟨cur, e, g1, hsz, g7.data hd, g6⟩
/-- What is handed over. -/
theorem mut_give (hi : Inv E G gs S tmps w) {x y z : A} {l : List (Nat × List A)} (h : Mut S x y z l) : ∀ {v : Value}, TRel w G S.rows gs x v [] → Rel w G y v (blocksOf gs l) := by
  refine Mut.rec (motive_1 := fun x y z l _ => ∀ {v : Value}, TRel w G S.rows gs x v [] → Rel w G y v (blocksOf gs l))
    (motive_2 := fun xs ys zs l _ => ∀ {vs : List Value}, TRelL w G S.rows gs xs vs [] → RelL w G ys vs (blocksOf gs l)) ?_ ?_ ?_ ?_ ?_ ?_ h
  · intro r len row xs' hr hlk hl hl' v hx
    have hb : blocksOf gs [(r, xs')] = gs.all r := by simp [blocksOf]
    rw [hb]
    rcases vw_inv hx with ⟨row', k, cap, cur, e, b, hr', hob, g1, g2, g3, g4, g5, g6, hv⟩ | ⟨row', hr', hob, hx0, _, hlen, hv⟩
    · rw [hr] at hr'
      obtain rfl := Option.some.inj hr'
      have hrr := hi.row r row hr
      rw [hob] at hrr
      obtain ⟨cur', e', cap', h1, h2, h3, h4, h5, h6, h7⟩ := hrr.ex
      rw [g2] at h1
      simp only [Option.some.injEq, Obj.cells.injEq] at h1
      obtain ⟨rfl, rfl, _⟩ := h1
      unfold CellsRel at h7
      rw [if_neg (by simp [hlk])] at h7
      have hk : k = 0 := by rcases g6 with g | g <;> omega
      subst hk
      rw [hv, show gs.all r = b :: (gs r).2 by simp [Gh.all, hob], hl]
      exact .ow g2 h5 rfl rfl h7 (by omega) (by omega) g3 h6
    · rw [hr] at hr'
      obtain rfl := Option.some.inj hr'
      have hgn := vw_nil hx hob
      rw [hv, show gs.all r = [] by simp [Gh.all, hgn], hx0]
      exact .nils
  · intro r row ys' hr h1 hlk hd hl v hx
    obtain ⟨row', b, hr', hob, hv⟩ := pt_inv hx
    rw [hr] at hr'
    obtain rfl := Option.some.inj hr'
    obtain ⟨cur, e, hh, hs, hrel, h6⟩ := box_cells hi hr hob h1 hlk hd
    have hb : blocksOf gs [(r, [A.agg ys'])] = gs.all r := by simp [blocksOf]
    rw [hb, show gs.all r = b :: (gs r).2 by simp [Gh.all, hob], hv, show 0 * row.n + 0 = 0 by simp]
    exact .bx hh hrel h6
  · intro x hd hn v hx
    exact hx.data hd
  · intro xs ys zs l h ih v hx
    obtain ⟨cs, rfl, hl⟩ := agg_inv hx
    have := Rel.agg (ih hl)
    simpa using this
  · intro vs hx
    generalize hF : ([] : List Nat) = F at hx
    cases hx
    exact .nil
  · intro x y z xs ys zs l ls h hl ih ih' vs hx
    generalize hF : ([] : List Nat) = F at hx
    cases hx with
    | cons h1 h2 =>
      rename_i v F1 vs Fs
      have hF' : F1 = [] ∧ Fs = [] := by simpa using hF.symm
      obtain ⟨rfl, rfl⟩ := hF'
      rw [blocksOf_append]
      exact .cons (ih h1) (ih' h2)
theorem mut_giveL (hi : Inv E G gs S tmps w) {xs ys zs : List A} {l : List (Nat × List A)} (h : MutL S xs ys zs l) {vs : List Value} (hx : TRelL w G S.rows gs xs vs []) : RelL w G ys vs (blocksOf gs l) := by
  have := mut_give hi (.agg h) (.agg hx)
  cases this with | agg h => simpa using h

/-- What comes back of it. -/
structure Back (S : State) (w w' : World) (G' : Nat → Prop) (gs gs' : Gh) (l : List (Nat × List A)) : Prop where
  row : ∀ r xs, (r, xs) ∈ l → ∃ row, rowAt S.rows r = some row ∧ ((gs r).1 = none → gs' r = gs r) ∧ xs.length = row.xs.length ∧ (gs' r).1 = (gs r).1 ∧ (∀ rows'' gs'', RowRel w' G' rows'' gs'' { row with xs := xs } (gs' r).1 (gs' r).2) ∧
    ∀ b cur e, (gs r).1 = some b → w.heap[b]? = some (.cells cur e (0, 0)) → ∃ cur' e', w'.heap[b]? = some (.cells cur' e' (0, 0)) ∧ cur'.size = cur.size
  frame : ∀ r, r ∉ l.map (·.1) → gs' r = gs r
theorem mut_back (hi : Inv E G gs S tmps w) {w' : World} {G' : Nat → Prop} {x y z : A} {l : List (Nat × List A)} (h : Mut S x y z l) : ∀ {v : Value} {F : List Nat}, (l.map (·.1)).Nodup → TRel w G S.rows gs x v [] → Rel w' G' z v F → ∃ gs', Back S w w' G' gs gs' l ∧ F = blocksOf gs' l := by
  refine Mut.rec (motive_1 := fun x y z l _ => ∀ {v : Value} {F : List Nat}, (l.map (·.1)).Nodup → TRel w G S.rows gs x v [] → Rel w' G' z v F → ∃ gs', Back S w w' G' gs gs' l ∧ F = blocksOf gs' l)
    (motive_2 := fun xs ys zs l _ => ∀ {vs : List Value} {F : List Nat}, (l.map (·.1)).Nodup → TRelL w G S.rows gs xs vs [] → RelL w' G' zs vs F → ∃ gs', Back S w w' G' gs gs' l ∧ F = blocksOf gs' l) ?_ ?_ ?_ ?_ ?_ ?_ h
  · intro r len row xs' hr hlk hl hl' v F hnd hx hz
    rcases vw_inv hx with ⟨row', k, cap, cur, e, b, hr', hob, g1, g2, g3, g4, g5, g6, hv⟩ | ⟨row', hr', hob, hx0, _, hlen, hv⟩
    · rw [hr] at hr'
      obtain rfl := Option.some.inj hr'
      have hk : k = 0 := by rcases g6 with g | g <;> omega
      subst hk
      subst hv
      cases hz with
      | ow hh hw hlen hc hl2 hcap hm hs hv0 =>
        rename_i cur' e' cs F'
        refine ⟨gs.add r (some b) F', ⟨fun r2 xs2 h2 => ?_, fun r2 h2 => ?_⟩, by simp [blocksOf, Gh.all, Gh.add]⟩
        · simp only [List.mem_singleton, Prod.mk.injEq] at h2
          obtain ⟨rfl, rfl⟩ := h2
          have hself : (gs.add r2 (some b) F') r2 = (some b, F') := by simp [Gh.add]
          refine ⟨row, hr, (fun hn => by rw [hob] at hn; cases hn), hl', by rw [hself]; exact hob.symm, fun rows'' gs'' => ?_, fun b2 cur2 e2 hb2 hh2 => ?_⟩
          · rw [hself]
            refine ⟨cur', e', cap, hh, by simpa using hs, by show CapOK row.lk xs2.length cap; rw [hlk]; exact .of (by omega), by omega, hw, ?_, ?_⟩
            · show ∀ v ∈ cur'.toList.take (xs2.length * row.n), _
              rw [← hlen, ← hc]; exact hv0
            · show CellsRel row.lk w' G' rows'' gs'' (flat xs2) (cur'.toList.take (xs2.length * row.n)) F'
              unfold CellsRel
              rw [if_neg (by simp [hlk]), ← hlen, ← hc]; exact hl2
          · rw [hob] at hb2
            obtain rfl := Option.some.inj hb2
            rw [g2] at hh2
            simp only [Option.some.injEq, Obj.cells.injEq] at hh2
            obtain ⟨rfl, rfl, _⟩ := hh2
            exact ⟨cur', e', hh, by rw [hs, g3]; simp⟩
        · have : r2 ≠ r := by simpa using h2
          simp [Gh.add, this]
    · rw [hr] at hr'
      obtain rfl := Option.some.inj hr'
      have hgn := vw_nil hx hob
      subst hv
      have h0 : xs' = [] := List.eq_nil_of_length_eq_zero (by rw [hl', hx0]; rfl)
      subst h0
      cases hz
      refine ⟨gs.add r none [], ⟨fun r2 xs2 h2 => ?_, fun r2 h2 => ?_⟩, by simp [blocksOf, Gh.all, Gh.add]⟩
      · simp only [List.mem_singleton, Prod.mk.injEq] at h2
        obtain ⟨rfl, rfl⟩ := h2
        have hself : (gs.add r2 none []) r2 = (none, []) := by simp [Gh.add]
        exact ⟨row, hr, (fun _ => by rw [hself, hgn]), hl', by rw [hself]; exact hob.symm, fun rows'' gs'' => by rw [hself]; exact .inl ⟨rfl, rfl⟩, fun b2 cur2 e2 hb2 => by rw [hob] at hb2; simp at hb2⟩
      · have : r2 ≠ r := by simpa using h2
        simp [Gh.add, this]
  · intro r row ys' hr h1 hlk hd hl v F hnd hx hz
    obtain ⟨row', b, hr', hob, hv⟩ := pt_inv hx
    rw [hr] at hr'
    obtain rfl := Option.some.inj hr'
    obtain ⟨cur, e, hh, hs, -, -⟩ := box_cells hi hr hob h1 hlk hd
    rw [hv, show 0 * row.n + 0 = 0 by simp] at hz
    cases hz with
    | bx hh' hl' hv' =>
      rename_i cur' e' F'
      have hsz : cur'.size = row.n := by have := hl'.length; rw [Array.length_toList] at this; omega
      have htk : cur'.toList.take ([A.agg ys'].length * row.n) = cur'.toList := by
        rw [List.take_of_length_le]
        rw [Array.length_toList, hsz, List.length_singleton, Nat.one_mul]
        exact Nat.le_refl _
      refine ⟨gs.add r (some b) F', ⟨fun r2 xs2 h2 => ?_, fun r2 h2 => ?_⟩, by simp [blocksOf, Gh.all, Gh.add]⟩
      · simp only [List.mem_singleton, Prod.mk.injEq] at h2
        obtain ⟨rfl, rfl⟩ := h2
        have hself : (gs.add r2 (some b) F') r2 = (some b, F') := by simp [Gh.add]
        refine ⟨row, hr, (fun hn => by rw [hob] at hn; cases hn), by rw [h1]; rfl, by rw [hself]; exact hob.symm, fun rows'' gs'' => ?_, fun b2 cur2 e2 hb2 hh2 => ?_⟩
        · rw [hself]
          refine ⟨cur', e', 1, hh', by simpa using hsz, ⟨Nat.le_refl _, fun _ => rfl⟩, by simp [maxLen], ?_, ?_, ?_⟩
          · intro x hx
            have : x = A.agg ys' := by simpa using hx
            rw [this]
            exact hl
          · show ∀ v ∈ cur'.toList.take ([A.agg ys'].length * row.n), _
            rw [htk]; exact hv'
          · show CellsRel row.lk w' G' rows'' gs'' (flat [A.agg ys']) (cur'.toList.take ([A.agg ys'].length * row.n)) F'
            unfold CellsRel
            rw [if_pos hlk, htk, show flat [A.agg ys'] = ys' by simp [flat, A.cells]]
            exact .of hl'
        · rw [hob] at hb2
          obtain rfl := Option.some.inj hb2
          rw [hh] at hh2
          simp only [Option.some.injEq, Obj.cells.injEq] at hh2
          obtain ⟨rfl, rfl, _⟩ := hh2
          exact ⟨cur', e', hh', by rw [hsz, hs]⟩
      · have : r2 ≠ r := by simpa using h2
        simp [Gh.add, this]
  · intro x hd hn v F hnd hx hz
    have := hz.noOwn hn
    subst this
    exact ⟨gs, ⟨fun r xs h => by simp at h, fun r h => rfl⟩, rfl⟩
  · intro xs ys zs l h ih v F hnd hx hz
    obtain ⟨cs, rfl, hl⟩ := agg_inv hx
    cases hz with
    | agg hz => exact ih hnd (by simpa using hl) hz
  · intro vs F hnd hx hz
    cases hz
    exact ⟨gs, ⟨fun r xs h => by simp at h, fun r h => rfl⟩, rfl⟩
  · intro x y z xs ys zs l ls h hl ih ih' vs F hnd hx hz
    generalize hF : ([] : List Nat) = F0 at hx
    cases hx with
    | cons h1 h2 =>
      rename_i v F1 vs Fs
      have hF' : F1 = [] ∧ Fs = [] := by simpa using hF.symm
      obtain ⟨rfl, rfl⟩ := hF'
      cases hz with
      | cons z1 z2 =>
        rename_i Fa Fb
        rw [List.map_append, List.nodup_append] at hnd
        obtain ⟨n1, n2, n3⟩ := hnd
        obtain ⟨gs1, b1, rfl⟩ := ih n1 h1 z1
        obtain ⟨gs2, b2, rfl⟩ := ih' n2 h2 z2
        let gs' : Gh := fun r => if r ∈ l.map (·.1) then gs1 r else gs2 r
        have e1 : ∀ r, r ∈ l.map (·.1) → gs' r = gs1 r := fun r h => if_pos h
        have e2 : ∀ r, r ∈ ls.map (·.1) → gs' r = gs2 r := fun r h => if_neg fun h' => n3 r h' r h rfl
        refine ⟨gs', ⟨fun r xs hm => ?_, fun r hm => ?_⟩, ?_⟩
        · rcases List.mem_append.1 hm with hm | hm
          · rw [e1 r (List.mem_map.2 ⟨_, hm, rfl⟩)]; exact b1.row r xs hm
          · rw [e2 r (List.mem_map.2 ⟨_, hm, rfl⟩)]; exact b2.row r xs hm
        · rw [List.map_append, List.mem_append, not_or] at hm
          show (if r ∈ l.map (·.1) then gs1 r else gs2 r) = gs r
          rw [if_neg hm.1]; exact b2.frame r hm.2
        · rw [blocksOf_append]
          have f1 : blocksOf gs' l = blocksOf gs1 l := blocksOf_congr fun p hp => e1 p.1 (List.mem_map.2 ⟨p, hp, rfl⟩)
          have f2 : blocksOf gs' ls = blocksOf gs2 ls := blocksOf_congr fun p hp => e2 p.1 (List.mem_map.2 ⟨p, hp, rfl⟩)
          rw [f1, f2]
theorem mut_backL (hi : Inv E G gs S tmps w) {w' : World} {G' : Nat → Prop} {xs ys zs : List A} {l : List (Nat × List A)} (h : MutL S xs ys zs l) {vs : List Value} {F : List Nat} (hnd : (l.map (·.1)).Nodup) (hx : TRelL w G S.rows gs xs vs []) (hz : RelL w' G' zs vs F) :
    ∃ gs', Back S w w' G' gs gs' l ∧ F = blocksOf gs' l := mut_back hi (.agg h) hnd (.agg hx) (.agg hz)
theorem mem_blocksOf {gs : Gh} {l : List (Nat × List A)} {b : Nat} : b ∈ blocksOf gs l ↔ ∃ p ∈ l, b ∈ gs.all p.1 := by simp [blocksOf]
theorem mut_rows {x y z : A} {l : List (Nat × List A)} (h : Mut S x y z l) : ∀ p ∈ l, ∃ row, rowAt S.rows p.1 = some row := by
  refine Mut.rec (motive_1 := fun x y z l _ => ∀ p ∈ l, ∃ row, rowAt S.rows p.1 = some row) (motive_2 := fun xs ys zs l _ => ∀ p ∈ l, ∃ row, rowAt S.rows p.1 = some row) ?_ ?_ ?_ ?_ ?_ ?_ h
  · intro r len row xs' hr hlk hl hl' p hp
    simp only [List.mem_singleton] at hp
    subst hp
    exact ⟨row, hr⟩
  · intro r row ys' hr h1 hlk hd hl p hp
    simp only [List.mem_singleton] at hp
    subst hp
    exact ⟨row, hr⟩
  · intros; simp_all
  · intro xs ys zs l h ih; exact ih
  · intros; simp_all
  · intro x y z xs ys zs l ls h hl ih ih' p hp
    rcases List.mem_append.1 hp with hp | hp
    · exact ih p hp
    · exact ih' p hp
theorem blocks_sub {gs : Gh} : ∀ {l : List (Nat × List A)} {p : Nat × List A}, p ∈ l → (gs.all p.1).Sublist (blocksOf gs l)
  | q :: l, p, h => by
    show (gs.all p.1).Sublist (gs.all q.1 ++ blocksOf gs l)
    rcases List.mem_cons.1 h with rfl | h
    · exact List.sublist_append_left _ _
    · exact (blocks_sub h).trans (List.sublist_append_right _ _)
/-- Two rows of the list have no block in common. -/
theorem blocks_apart {gs : Gh} : ∀ {l : List (Nat × List A)} {p q : Nat × List A}, (blocksOf gs l).Nodup → p ∈ l → q ∈ l → p.1 ≠ q.1 → ∀ b ∈ gs.all p.1, b ∉ gs.all q.1
  | x :: l, p, q, hn, hp, hq, hne, b, hb, hb2 => by
    have hn' : (gs.all x.1 ++ blocksOf gs l).Nodup := hn
    rw [List.nodup_append] at hn'
    obtain ⟨h1, h2, h3⟩ := hn'
    rcases List.mem_cons.1 hp with hp1 | hp1
    · rcases List.mem_cons.1 hq with hq1 | hq1
      · subst hp1; subst hq1; exact hne rfl
      · subst hp1; exact h3 b hb b (mem_blocksOf.2 ⟨_, hq1, hb2⟩) rfl
    · rcases List.mem_cons.1 hq with hq1 | hq1
      · subst hq1; exact h3 b hb2 b (mem_blocksOf.2 ⟨_, hp1, hb⟩) rfl
      · exact blocks_apart h2 hp1 hq1 hne b hb hb2
theorem blocks_nodup (hi : Inv E G gs S tmps w) : ∀ {l : List (Nat × List A)}, (l.map (·.1)).Nodup → (∀ p ∈ l, ∃ row, rowAt S.rows p.1 = some row) → (blocksOf gs l).Nodup
  | [], _, _ => by simp [blocksOf]
  | p :: l, hn, hr => by
    simp only [List.map_cons, List.nodup_cons] at hn
    obtain ⟨row, hrow⟩ := hr p (by simp)
    have ih := blocks_nodup hi hn.2 fun q hq => hr q (by simp [hq])
    show (gs.all p.1 ++ blocksOf gs l).Nodup
    rw [List.nodup_append]
    refine ⟨hi.nod p.1 row hrow, ih, fun a ha b hb hab => ?_⟩
    subst hab
    obtain ⟨q, hq, hb⟩ := mem_blocksOf.1 hb
    obtain ⟨row', hrow'⟩ := hr q (by simp [hq])
    exact hi.dis p.1 q.1 row row' hrow hrow' (fun e => hn.1 (by rw [e]; exact List.mem_map.2 ⟨q, hq, rfl⟩)) a ha hb
theorem mut_post {k : Nat} {args ys outs : List A} {x : A} {l : List (Nat × List A)} {K : A → State → Prop} (hi : Inv E G gs S tmps w) {vs : List Value} (hl : TRelL w G S.rows gs args vs []) (hm : MutL S args ys outs l) (hnd : (l.map (·.1)).Nodup)
    (hno : noOwn (rootA k (S.mut l) x).1 = true) (hK : K (rootA k (S.mut l) x).1 (rootA k (S.mut l) x).2) {w' : World} {v : Value} {Fx Fo : List Nat} (hf : (w'.os = w.os ∧ w'.tape = w.tape ∧ w'.output = w.output ∧ w.heap.size ≤ w'.heap.size ∧ ∀ b, b < w.heap.size → b ∉ blocksOf gs l → w'.heap[b]? = w.heap[b]?) ∧
    (Fx ++ Fo).Nodup ∧ (∀ b ∈ Fx ++ Fo, b ∈ blocksOf gs l ∨ w.heap.size ≤ b) ∧ Rel w' (fun b => (G b ∨ b ∈ blocksOf gs l ∨ (w.heap.size ≤ b ∧ b < w'.heap.size)) ∧ b ∉ Fx ++ Fo) x v Fx ∧
    RelL w' (fun b => (G b ∨ b ∈ blocksOf gs l ∨ (w.heap.size ≤ b ∧ b < w'.heap.size)) ∧ b ∉ Fx ++ Fo) outs vs Fo) :
    ∃ v' x' S' G' gs', Ending.returned v = .returned v' ∧ K x' S' ∧ Inv E G' gs' S' tmps w' ∧ TRel w' G' S'.rows gs' x' v' [] := by
  have hrows := mut_rows (.agg hm)
  have hFnd := blocks_nodup hi hnd hrows
  have hFown : ∀ b ∈ blocksOf gs l, ¬ G b ∧ (E.Fin b ∨ E.w0.heap.size ≤ b) ∧ b < w.heap.size := fun b hb => by
    obtain ⟨p, hp, hb⟩ := mem_blocksOf.1 hb
    obtain ⟨row, hr⟩ := hrows p hp
    obtain ⟨h1, h2⟩ := hi.own p.1 row hr b hb
    exact ⟨h1, h2, hi.block_lt hr b hb⟩
  have hFdis : ∀ r row, rowAt S.rows r = some row → r ∉ l.map (·.1) → ∀ b ∈ gs.all r, b ∉ blocksOf gs l := fun r row hr hn b hb hb2 => by
    obtain ⟨p, hp, hb2⟩ := mem_blocksOf.1 hb2
    obtain ⟨row', hr'⟩ := hrows p hp
    exact hi.dis r p.1 row row' hr hr' (fun e => hn (by rw [e]; exact List.mem_map.2 ⟨p, hp, rfl⟩)) b hb hb2
  obtain ⟨⟨hos, htape, hout, hsize, hold⟩, hnd2, hmem, hx, ho⟩ := hf
  obtain ⟨gs', hb, rfl⟩ := mut_backL hi hm hnd hl ho
  have hGF : ∀ b, G b → b ∉ Fx ++ blocksOf gs' l := fun b h hF => by
    have := hi.glt b h
    rcases hmem b hF with h2 | h2
    · exact (hFown b h2).1 h
    · omega
  have hG : ∀ b, G b → ((G b ∨ b ∈ blocksOf gs l ∨ (w.heap.size ≤ b ∧ b < w'.heap.size)) ∧ b ∉ Fx ++ blocksOf gs' l) ∧ w'.heap[b]? = w.heap[b]? := fun b h => ⟨⟨.inl h, hGF b h⟩, hold b (hi.glt b h) fun hF => (hFown b hF).1 h⟩
  have hrow1 : ∀ r xs, (r, xs) ∈ l → rowAt (S.mut l).rows r = (rowAt S.rows r).map fun row => { row with xs := xs } := fun r xs h => rowAt_mut l S.rows r xs hnd h
  have hrow2 : ∀ r, r ∉ l.map (·.1) → rowAt (S.mut l).rows r = rowAt S.rows r := fun r h => rowAt_mut_not l S.rows r h
  have hle : ∀ r, RowLe w w' S.rows (S.mut l).rows gs gs' r := fun r => by
    by_cases hr : r ∈ l.map (·.1)
    · obtain ⟨⟨r', xs⟩, hp, rfl⟩ := List.mem_map.1 hr
      obtain ⟨row, h1, h2, h3, h4, h5, h6⟩ := hb.row _ _ hp
      refine ⟨fun row' h => ?_, fun row' h hn => ?_⟩
      case refine_2 => dsimp only at h hn ⊢; rw [h1] at h; obtain rfl := Option.some.inj h; exact h2 hn
      dsimp only at h
      rw [h1] at h
      obtain rfl := Option.some.inj h
      exact ⟨{ row with xs := xs }, by rw [hrow1 _ _ hp, h1]; rfl, h4, rfl, h3, fun b cur e hb' hh => h6 b cur e hb' hh⟩
    · exact RowLe.refl_of fun row h => ⟨by rw [hrow2 r hr]; exact h, by rw [hb.frame r hr], fun b hob => hold b (hi.block_lt h b (by simp [Gh.all, hob])) (hFdis r row h hr b (by simp [Gh.all, hob]))⟩
  have hcase : ∀ r row', rowAt (S.mut l).rows r = some row' → (∃ xs row, (r, xs) ∈ l ∧ rowAt S.rows r = some row ∧ row' = { row with xs := xs }) ∨ (r ∉ l.map (·.1) ∧ rowAt S.rows r = some row') := fun r row' h => by
    by_cases hr : r ∈ l.map (·.1)
    · obtain ⟨⟨r', xs⟩, hp, rfl⟩ := List.mem_map.1 hr
      rw [hrow1 _ _ hp] at h
      obtain ⟨row, h1, _⟩ := hb.row _ _ hp
      rw [h1] at h
      exact .inl ⟨xs, row, hp, h1, (Option.some.inj h).symm⟩
    · rw [hrow2 r hr] at h; exact .inr ⟨hr, h⟩
  have hin : ∀ r xs, (r, xs) ∈ l → ∀ b ∈ gs'.all r, b ∈ blocksOf gs' l := fun r xs h b hb' => mem_blocksOf.2 ⟨_, h, hb'⟩
  rw [List.nodup_append] at hnd2
  obtain ⟨n1, n2, n3⟩ := hnd2
  have hltR : ∀ r row, rowAt S.rows r = some row → r ∉ l.map (·.1) → ∀ b ∈ gs.all r, b ∉ Fx ++ blocksOf gs' l := fun r row h hn b hb hF => by
    have := hi.block_lt h b hb
    rcases hmem b hF with h2 | h2
    · exact hFdis r row h hn b hb h2
    · omega
  have hi' : Inv E (fun b => (G b ∨ b ∈ blocksOf gs l ∨ (w.heap.size ≤ b ∧ b < w'.heap.size)) ∧ b ∉ Fx ++ blocksOf gs' l) gs' (S.mut l) tmps w' := by
    refine ⟨fun b h hf => ?_, hos.trans hi.os, htape.trans hi.tape, hout.trans hi.output, Nat.le_trans hi.size hsize, hi.sz, fun b h => ⟨.inl (hi.gsub b h), hGF b (hi.gsub b h)⟩, fun b h => ?_, hi.glt.move (fun b h => (hG b h).1) (fun b h => (hG b h).2) (fun b h => ?_), fun r row' hr => ?_,
      fun r row' hr => ?_, fun r row' hr b hb' => ?_, fun r r' row row' hr hr' hne b hb1 hb2 => ?_, fun i => (hi.tmp i).step hG hle (by simp)⟩
    · rw [hold b (Nat.lt_of_lt_of_le h hi.size) fun hF => ?_]
      · exact hi.keep b h hf
      · rcases (hFown b hF).2.1 with h2 | h2
        · exact hf h2
        · omega
    · rcases h.1 with h | h | h
      · exact hi.gnew b h
      · exact .inr (hFown b h).2.1
      · exact .inr (.inr (Nat.le_trans hi.size h.1))
    · rcases h.1 with h | h | h
      · exact Nat.lt_of_lt_of_le (hi.glt b h) hsize
      · exact Nat.lt_of_lt_of_le (hFown b h).2.2 hsize
      · exact h.2
    · rcases hcase r row' hr with ⟨xs, row, hp, h1, rfl⟩ | ⟨hn, h1⟩
      · obtain ⟨row2, h2, _, _, _, h6, _⟩ := hb.row _ _ hp
        rw [h1] at h2
        obtain rfl := Option.some.inj h2
        exact h6 _ _
      · rw [hb.frame r hn]
        exact (hi.row r row' h1).step hG hle fun c hc => hold c (hi.block_lt h1 c hc) (hFdis r row' h1 hn c hc)
    · rcases hcase r row' hr with ⟨xs, row, hp, h1, rfl⟩ | ⟨hn, h1⟩
      · exact n2.sublist (blocks_sub hp)
      · have := hi.nod r row' h1
        simpa [Gh.all, hb.frame r hn] using this
    · rcases hcase r row' hr with ⟨xs, row, hp, h1, rfl⟩ | ⟨hn, h1⟩
      · have hbl := hin r xs hp b hb'
        refine ⟨fun h => h.2 (by rw [List.mem_append]; exact .inr hbl), ?_⟩
        rcases hmem b (by rw [List.mem_append]; exact .inr hbl) with h2 | h2
        · exact (hFown b h2).2.1
        · exact .inr (Nat.le_trans hi.size h2)
      · have hb2 : b ∈ gs.all r := by simpa [Gh.all, hb.frame r hn] using hb'
        obtain ⟨g1, g2⟩ := hi.own r row' h1 b hb2
        refine ⟨fun h => ?_, g2⟩
        have := hi.block_lt h1 b hb2
        rcases h.1 with h | h | h
        · exact g1 h
        · exact hFdis r row' h1 hn b hb2 h
        · omega
    · rcases hcase r row hr with ⟨xs, row1, hp, h1, rfl⟩ | ⟨hn, h1⟩
      · rcases hcase r' row' hr' with ⟨xs', row2, hp', h1', rfl⟩ | ⟨hn', h1'⟩
        · exact blocks_apart n2 hp hp' hne b hb1 hb2
        · exact hltR r' row' h1' hn' b (by simpa [Gh.all, hb.frame r' hn'] using hb2) (by rw [List.mem_append]; exact .inr (hin r xs hp b hb1))
      · rcases hcase r' row' hr' with ⟨xs', row2, hp', h1', rfl⟩ | ⟨hn', h1'⟩
        · exact hltR r row h1 hn b (by simpa [Gh.all, hb.frame r hn] using hb1) (by rw [List.mem_append]; exact .inr (hin r' xs' hp' b hb2))
        · exact hi.dis r r' row row' h1 h1' hne b (by simpa [Gh.all, hb.frame r hn] using hb1) (by simpa [Gh.all, hb.frame r' hn'] using hb2)
  have hR : Res E (fun b => (G b ∨ b ∈ blocksOf gs l ∨ (w.heap.size ≤ b ∧ b < w'.heap.size)) ∧ b ∉ Fx ++ blocksOf gs' l) gs' (S.mut l).rows (Fx ++ []) := by
    rw [List.append_nil]
    refine ⟨n1, fun b hb' => ⟨fun h => h.2 (by rw [List.mem_append]; exact .inl hb'), ?_⟩, fun r row' hr b hb1 hb2 => ?_⟩
    · rcases hmem b (by rw [List.mem_append]; exact .inl hb') with h2 | h2
      · exact (hFown b h2).2.1
      · exact .inr (Nat.le_trans hi.size h2)
    · rcases hcase r row' hr with ⟨xs, row, hp, h1, rfl⟩ | ⟨hn, h1⟩
      · exact n3 b hb2 b (hin r xs hp b hb1) rfl
      · exact hltR r row' h1 hn b (by simpa [Gh.all, hb.frame r hn] using hb1) (by rw [List.mem_append]; exact .inl hb2)
  obtain ⟨gs2, h1, h2⟩ := rootA_ok k (S.mut l) gs' x v Fx [] hi' hR (fun b hb' => hx.lt b (by simpa using hb')) hx hno
  exact ⟨v, _, _, _, gs2, rfl, hK, h1.inv, h2⟩
theorem CallOK_mut {g k : Nat} {args ys outs : List A} {x : A} {l : List (Nat × List A)} {K : A → State → Prop} (hc : MCtr P g ys x outs) (hm : MutL S args ys outs l) (hnd : (l.map (·.1)).Nodup)
    (hno : noOwn (rootA k (S.mut l) x).1 = true) (hK : K (rootA k (S.mut l) x).1 (rootA k (S.mut l) x).2) : CallOK P g args S K := by
  refine ⟨hc.enter, fun E G gs tmps w vs hi hl => ?_⟩
  have hrows := mut_rows (.agg hm)
  have hFnd := blocks_nodup hi hnd hrows
  have hFown : ∀ b ∈ blocksOf gs l, ¬ G b ∧ (E.Fin b ∨ E.w0.heap.size ≤ b) ∧ b < w.heap.size := fun b hb => by
    obtain ⟨p, hp, hb⟩ := mem_blocksOf.1 hb
    obtain ⟨row, hr⟩ := hrows p hp
    obtain ⟨h1, h2⟩ := hi.own p.1 row hr b hb
    exact ⟨h1, h2, hi.block_lt hr b hb⟩
  have hFdis : ∀ r row, rowAt S.rows r = some row → r ∉ l.map (·.1) → ∀ b ∈ gs.all r, b ∉ blocksOf gs l := fun r row hr hn b hb hb2 => by
    obtain ⟨p, hp, hb2⟩ := mem_blocksOf.1 hb2
    obtain ⟨row', hr'⟩ := hrows p hp
    exact hi.dis r p.1 row row' hr hr' (fun e => hn (by rw [e]; exact List.mem_map.2 ⟨p, hp, rfl⟩)) b hb hb2
  refine Calls.mono (hc.run w G vs (blocksOf gs l) hi.glt hFnd (fun b hb => (hFown b hb).1) (mut_giveL hi hm hl)) ?_
  rintro e w' ⟨v, Fx, Fo, rfl, hf⟩
  exact mut_post hi hl hm hnd hno hK hf
end
end Go.Fw

/- Contracts of functions that write into what they are handed, from a walk. Plain theorems, no condition. -/
set_option linter.unusedVariables false
set_option linter.unusedSimpArgs false
namespace Go.Fw

structure FitLX (us ys : List A) : Prop where
  h : ∃ k, fitA.fitL k us ys
theorem FitLX.same {xs : List A} : FitLX xs xs := ⟨0, fits xs⟩
theorem FitLX.of {xs ys : List A} (h : xs = ys) : FitLX xs ys := h ▸ FitLX.same
def entryM (k N : Nat) (xs : List A) : State :=
  ⟨entryT 0 (rootA.rootL k ⟨[], N, []⟩ xs).1 ++ entryT N (rootA.rootL k ⟨[], N, []⟩ xs).1, N, (rootA.rootL k ⟨[], N, []⟩ xs).2.rows⟩
def vOutM (Ω : Opq) (T : Nat → Option TI) (N : Nat) (S : State) (rs : List ResultVar) (x : A) (outs : List A) : Prop :=
  if S.N = N then vRes T S rs fun zs => if (flat (zs ++ (List.range outs.length).map fun i => lk S.t (S.N + i))).all okCell then
    vStash Ω (flat (zs ++ (List.range outs.length).map fun i => lk S.t (S.N + i))).length S (flat (zs ++ (List.range outs.length).map fun i => lk S.t (S.N + i))) fun ys _ _ =>
      FitX (oneA ((regroup (zs ++ (List.range outs.length).map fun i => lk S.t (S.N + i)) ys).take zs.length)) x ∧ FitLX ((regroup (zs ++ (List.range outs.length).map fun i => lk S.t (S.N + i)) ys).drop zs.length) outs else False else False
def outM (Ω : Opq) (T : Nat → Option TI) (N : Nat) (rs : List ResultVar) (x : A) (outs : List A) : Exit → State → Prop
  | .normal, S | .ret, S => vOutM Ω T N S rs x outs
  | _, _ => False
def vOutX (Ω : Opq) (T : Nat → Option TI) (N : Nat) (S : State) (rs : List ResultVar) (n : Nat) (R : A → List A → Prop) : Prop :=
  if S.N = N then vRes T S rs fun zs => if (flat (zs ++ (List.range n).map fun i => lk S.t (S.N + i))).all okCell then
    vStash Ω (flat (zs ++ (List.range n).map fun i => lk S.t (S.N + i))).length S (flat (zs ++ (List.range n).map fun i => lk S.t (S.N + i))) fun ys _ _ =>
      ∃ x outs, FitX (oneA ((regroup (zs ++ (List.range n).map fun i => lk S.t (S.N + i)) ys).take zs.length)) x ∧ FitLX ((regroup (zs ++ (List.range n).map fun i => lk S.t (S.N + i)) ys).drop zs.length) outs ∧ R x outs ∧ outs.length = n else False else False
theorem vRes_mono {T : Nat → Option TI} {S : State} : ∀ {rs : List ResultVar} {k k' : List A → Prop}, (∀ z, k z → k' z) → vRes T S rs k → vRes T S rs k'
  | [], k, k', hk, h => hk _ h
  | .tmp t :: rs, k, k', hk, h => vRes_mono (rs := rs) (fun z => hk _) h
  | .cell a t :: rs, k, k', hk, h => by
    unfold vRes at h ⊢
    split at h <;> try exact h.elim
    split at h <;> try exact h.elim
    split at h <;> try exact h.elim
    unfold vCell at h ⊢
    simp only at h ⊢
    split at h
    · rename_i hag
      rw [if_pos hag]
      split at h <;> try exact h.elim
      rename_i h1
      rw [if_pos h1]
      split at h <;> try exact h.elim
      rename_i h2
      rw [if_pos h2]
      exact vRes_mono (rs := rs) (fun z => hk _) h
    · rename_i hag
      rw [if_neg hag]
      split at h <;> try exact h.elim
      split at h <;> try exact h.elim
      rename_i h2
      rw [if_pos h2]
      exact vRes_mono (rs := rs) (fun z => hk _) h
theorem vStash_mono {Ω : Opq} : ∀ (n : Nat) (xs : List A) (S : State) {k k' : List A → State → List Nat → Prop}, (∀ a b c, k a b c → k' a b c) → vStash Ω n S xs k → vStash Ω n S xs k'
  | 0, [], S, k, k', hk, h => by unfold vStash at h ⊢; exact hk _ _ _ h
  | n + 1, [], S, k, k', hk, h => by unfold vStash at h ⊢; exact hk _ _ _ h
  | 0, _ :: _, S, k, k', hk, h => by simp [vStash] at h
  | n + 1, x :: xs, S, k, k', hk, h => by
    unfold vStash at h ⊢
    split at h
    · split at h <;> try exact h.elim
      split at h <;> try exact h.elim
      rename_i h1
      try simp only at h ⊢
      rw [if_neg h1]
      exact ⟨h.1, vStash_mono n _ _ (fun a b c => hk _ _ _) h.2⟩
    · split at h <;> try exact h.elim
      split at h <;> try exact h.elim
      rename_i h1
      try simp only at h ⊢
      rw [if_pos h1]
      exact vStash_mono n _ _ (fun a b c => hk _ _ _) h
    · split at h <;> try exact h.elim
      rename_i h1
      try simp only at h ⊢
      rw [if_pos h1]
      exact vStash_mono n _ _ (fun a b c => hk _ _ _) h
theorem vOutM_X {Ω : Opq} {T : Nat → Option TI} {N : Nat} {S : State} {rs : List ResultVar} {x : A} {outs : List A} (h : vOutM Ω T N S rs x outs) {R : A → List A → Prop} (hR : R x outs) : vOutX Ω T N S rs outs.length R := by
  unfold vOutM at h
  unfold vOutX
  split at h <;> try exact h.elim
  rename_i h1
  rw [if_pos h1]
  refine vRes_mono (fun z hz => ?_) h
  split at hz <;> try exact hz.elim
  rename_i h2
  rw [if_pos h2]
  exact vStash_mono _ _ _ (fun a b c h => ⟨x, outs, h.1, h.2, hR, rfl⟩) hz
def outX (Ω : Opq) (T : Nat → Option TI) (N : Nat) (rs : List ResultVar) (n : Nat) (R : A → List A → Prop) : Exit → State → Prop
  | .normal, S | .ret, S => vOutX Ω T N S rs n R
  | _, _ => False
theorem entryT_lk : ∀ (xs : List A) (t : List (Nat × A)) (i j : Nat), lk (entryT i xs ++ t) j = if i ≤ j ∧ j < i + xs.length then xs.getD (j - i) .un else lk t j
  | [], t, i, j => by simp [entryT]; omega
  | x :: xs, t, i, j => by
    simp only [entryT, List.cons_append, lk, entryT_lk xs t (i + 1) j]
    by_cases h : i = j
    · subst h; simp
    · rw [if_neg h]
      by_cases h2 : i + 1 ≤ j ∧ j < i + 1 + xs.length
      · obtain ⟨d, hd⟩ : ∃ d, j - i = d + 1 := ⟨j - i - 1, by omega⟩
        have : j - (i + 1) = d := by omega
        rw [if_pos h2, if_pos ⟨by omega, by simp; omega⟩, hd, this]; simp
      · rw [if_neg h2, if_neg (by simp; omega)]
section
variable {P : Program} {T : Nat → Option TI}
theorem TRelL.get' {G : Nat → Prop} {w : World} {rows : List (Option Row)} {gs : Gh} {xs : List A} {vs : List Value} (h : TRelL w G rows gs xs vs []) (i : Nat) (hi : i < xs.length) : TRel w G rows gs (xs.getD i .un) (vs.getD i undef) [] := by
  obtain ⟨v, h1, h2⟩ := h.get i xs[i] (List.getElem?_eq_getElem hi)
  rw [List.getD_eq_getElem?_getD, List.getD_eq_getElem?_getD, List.getElem?_eq_getElem hi, h1]
  exact h2
theorem VC.post {S : State} {K : Exit → State → Prop} {c : Code} {K' : Exit → State → Prop} (h : VC P c S K) (hk : ∀ e S', K e S' → ∃ S'', Sbs S' S'' ∧ K' e S'') : VC P c S K' :=
  fun E a w hs => wp_mono (h E a w hs) fun e a' w' ⟨S', h1, h2⟩ => let ⟨S'', h3, h4⟩ := hk e S' h2; ⟨S'', h3 P E a' w' h1, h4⟩
theorem XCtr.walkG (hT : TabOK P T) {Ω : Opq} (hΩ : Ω = std) (k : Nat) {g : Nat} {c : Code} {N : Nat} {rs : List ResultVar} {xs : List A} {R : A → List A → Prop} (hf : FnAt P g c N rs) (hN : Nat.ble xs.length N = true)
    (hno : (rootA.rootL k ⟨[], N, []⟩ xs).1.all noOwn = true) {K0 : Exit → State → Prop} (hK0 : ∀ e S', K0 e S' → ∃ S'', Sbs S' S'' ∧ outX Ω T N rs xs.length R e S'') {S0 : State} (hs0 : Sbs (entryM k N xs) S0) (h : vC Ω P T c S0 K0) : XCtr P g xs R := by
  have hN := Nat.le_of_ble_eq_true hN
  obtain ⟨hen, fn, h1, h2, h3, h4⟩ := hf
  refine ⟨hen, fun w G vs F hG hFnd hFG hl => ?_⟩
  have hlen := hl.length
  have hFlt := hl.lt
  refine calls_of_wp h1 h2 ?_
  generalize htm : vs.toArray ++ Array.replicate (fn.ntmps - vs.toArray.size) undef = tm
  have htms : tm.size = N := by rw [← htm]; simp; omega
  have hinv0 : Inv (P := P) ⟨w, G, (· ∈ F), fun i => vs.getD (i - N) undef⟩ G (fun _ => (none, [])) ⟨[], N, []⟩ tm w := by
    refine ⟨fun _ _ _ => rfl, rfl, rfl, rfl, Nat.le_refl _, htms, fun _ h => h, fun _ h => .inl h, hG, ?_, ?_, ?_, ?_, fun i => .un⟩
    · intro r row hr; simp [rowAt] at hr
    · intro r row hr; simp [rowAt] at hr
    · intro r row hr; simp [rowAt] at hr
    · intro r r' row row' hr; simp [rowAt] at hr
  have hres0 : Res (P := P) ⟨w, G, (· ∈ F), fun i => vs.getD (i - N) undef⟩ G (fun _ => (none, [])) (State.rows ⟨[], N, []⟩) (F ++ []) := by
    rw [List.append_nil]
    exact ⟨hFnd, fun b hb => ⟨hFG b hb, .inl hb⟩, fun r row hr => by simp [rowAt] at hr⟩
  obtain ⟨gs1, r1, r2⟩ := rootL_ok (rootA_ok k) xs ⟨[], N, []⟩ _ vs F [] hinv0 hres0 (fun b hb => hFlt b (by simpa using hb)) hl hno
  have hzl : (rootA.rootL k ⟨[], N, []⟩ xs).1.length = xs.length := by rw [← r2.length, hlen]
  have hi1 := r1.inv
  have hinv : Inv (P := P) ⟨w, G, (· ∈ F), fun i => vs.getD (i - N) undef⟩ G gs1 (entryM k N xs) tm w := by
    refine ⟨hi1.keep, hi1.os, hi1.tape, hi1.output, hi1.size, htms, hi1.gsub, hi1.gnew, hi1.glt, hi1.row, hi1.nod, hi1.own, hi1.dis, fun i => ?_⟩
    show TRel w G (rootA.rootL k ⟨[], N, []⟩ xs).2.rows gs1 (lk (entryT 0 _ ++ entryT N _) i) _ []
    rw [entryT_lk]
    by_cases hi : i < xs.length
    · rw [if_pos ⟨by omega, by rw [hzl]; omega⟩]
      unfold vat
      rw [if_pos (by rw [htms]; omega)]
      have := r2.get' i (by rw [hzl]; exact hi)
      have e : tm.getD i undef = vs.getD i undef := by
        rw [← htm, Array.getD_eq_getD_getElem?, Array.getElem?_append_left (by simp; omega)]
        simp
      rw [e, Nat.sub_zero]; exact this
    · rw [if_neg (by rw [hzl]; omega), lk_entryT]
      by_cases hi2 : N ≤ i ∧ i < N + xs.length
      · rw [if_pos hi2.1]
        unfold vat
        rw [if_neg (by rw [htms]; omega)]
        exact r2.get' (i - N) (by rw [hzl]; omega)
      · have : (if N ≤ i then (rootA.rootL k ⟨[], N, []⟩ xs).1.getD (i - N) .un else .un) = A.un := by
          split
          · rw [List.getD_eq_getElem?_getD, List.getElem?_eq_none (by rw [hzl]; omega)]; rfl
          · rfl
        rw [this]; exact .un
  subst hΩ
  have hwalk := (VC.post (vstart hT rfl h) (K' := outX std T N rs xs.length R) hK0).sub hs0
  refine wp_mono (hwalk ⟨w, G, (· ∈ F), fun i => vs.getD (i - N) undef⟩ { tmps := tm, defers := [] } w ⟨rfl, G, _, hinv⟩) ?_
  rintro e a' w' ⟨S', ⟨hd, G', gs', hi'⟩, hK⟩
  have fin : vOutX std T N S' rs xs.length R → a'.defers = [] ∧ ∃ v, (results fn a'.tmps).run P w' = .ok v w' ∧ (∃ v_1 Fx Fo x outs, R x outs ∧ Ending.returned v = .returned v_1 ∧
      (w'.os = w.os ∧ w'.tape = w.tape ∧ w'.output = w.output ∧ w.heap.size ≤ w'.heap.size ∧ ∀ b, b < w.heap.size → b ∉ F → w'.heap[b]? = w.heap[b]?) ∧
      (Fx ++ Fo).Nodup ∧ (∀ b ∈ Fx ++ Fo, b ∈ F ∨ w.heap.size ≤ b) ∧ Rel w' (fun b => (G b ∨ b ∈ F ∨ (w.heap.size ≤ b ∧ b < w'.heap.size)) ∧ b ∉ Fx ++ Fo) x v_1 Fx ∧
      RelL w' (fun b => (G b ∨ b ∈ F ∨ (w.heap.size ≤ b ∧ b < w'.heap.size)) ∧ b ∉ Fx ++ Fo) outs vs Fo) := by
    intro ho'
    refine ⟨hd, ?_⟩
    unfold vOutX at ho'
    split at ho' <;> try exact ho'.elim
    rename_i hSN
    obtain ⟨zs, us, g1, g2, g3⟩ := vRes_ok hT hi' ho'
    have hgl : TRelL w' G' S'.rows gs' ((List.range xs.length).map fun i => lk S'.t (S'.N + i)) vs [] := by
      have e : vs = (List.range xs.length).map fun i => vat (P := P) ⟨w, G, (· ∈ F), fun i => vs.getD (i - N) undef⟩ a'.tmps (S'.N + i) := by
        have hsz := hi'.sz
        apply List.ext_getElem?
        intro i
        rw [List.getElem?_map]
        by_cases hi : i < xs.length
        · rw [List.getElem?_range hi]
          unfold vat
          rw [Option.map_some, if_neg (by rw [hsz]; omega), hSN]
          show vs[i]? = some (vs.getD (N + i - N) undef)
          rw [Nat.add_sub_cancel_left, List.getD_eq_getElem?_getD, List.getElem?_eq_getElem (by omega)]
          rfl
        · rw [List.getElem?_eq_none (by rw [hlen]; omega), List.getElem?_eq_none (by simp; omega)]; rfl
      have : ∀ l : List Nat, TRelL w' G' S'.rows gs' (l.map fun i => lk S'.t (S'.N + i)) (l.map fun i => vat (P := P) ⟨w, G, (· ∈ F), fun i => vs.getD (i - N) undef⟩ a'.tmps (S'.N + i)) [] := fun l => by
        induction l with
        | nil => exact .nil
        | cons i l ih => exact .cons (F := []) (Fs := []) (hi'.tmp _) ih
      obtain ⟨us, hus⟩ : ∃ us, us = (List.range xs.length).map fun i => vat (P := P) ⟨w, G, (· ∈ F), fun i => vs.getD (i - N) undef⟩ a'.tmps (S'.N + i) := ⟨_, rfl⟩
      have h2 := this (List.range xs.length)
      rw [← hus] at h2
      rw [← hus] at e
      rw [e]; exact h2
    split at g1 <;> try exact g1.elim
    rename_i hok
    obtain ⟨hc, x, outs, hfit, hfits, hR, ho⟩ := vStash_ok _ _ _ _ g1
    obtain ⟨k1, hfit⟩ := hfit.h
    obtain ⟨k2, hfits⟩ := hfits.h
    have hall := g3.append0 hgl
    obtain ⟨Fz, hst, hrel⟩ := stashL_ok _ _ S' _ [] rfl hi' Res.nil (flat_rel hall hok) hc
    rw [List.append_nil] at hst
    have hrg := regroup_rel hall hok hrel
    obtain ⟨Fx, Fo, rfl, q1, q2⟩ := hrg.split_at
    rw [g3.length] at q1 q2
    have hx := fitA_rel k1 _ _ _ _ hfit (oneA_rel q1)
    have hos := fitL_rel (fun x y v F => fitA_rel k2 x y v F) _ _ _ _ hfits q2
    have hGG : ∀ b, G' b → ((G b ∨ b ∈ F ∨ (w.heap.size ≤ b ∧ b < w'.heap.size)) ∧ b ∉ Fx ++ Fo) ∧ w'.heap[b]? = w'.heap[b]? := fun b hb => by
      refine ⟨⟨?_, fun hF => (hst.res.own b hF).1 hb⟩, rfl⟩
      rcases hi'.gnew b hb with h | h | h
      · exact .inl h
      · exact .inr (.inl h)
      · exact .inr (.inr ⟨h, hi'.glt b hb⟩)
    exact ⟨oneV us, h4 _ _ _ g2, _, Fx, Fo, x, outs, hR, rfl, ⟨hi'.os, hi'.tape, hi'.output, hi'.size, fun b hb hF => hi'.keep b hb hF⟩, hst.res.nod, fun b hb => (hst.res.own b hb).2, hx.move_ hGG (fun _ _ => rfl), hos.move_ hGG (fun _ _ => rfl)⟩
  cases e with
  | normal => exact fin hK
  | ret => exact fin hK
  | _ => exact hK.elim
/-- The same, what is handed over told otherwise first, and the end too. -/
theorem MCtr.walkSE (hT : TabOK P T) {Ω : Opq} (hΩ : Ω = std) (k : Nat) {g : Nat} {c : Code} {N : Nat} {rs : List ResultVar} {xs : List A} {x : A} {outs : List A} (hf : FnAt P g c N rs) (hN : Nat.ble xs.length N = true)
    (hno : (rootA.rootL k ⟨[], N, []⟩ xs).1.all noOwn = true) (ho : outs.length = xs.length) {K0 : Exit → State → Prop} (hK0 : ∀ e S', K0 e S' → ∃ S'', Sbs S' S'' ∧ outM Ω T N rs x outs e S'') {S0 : State} (hs0 : Sbs (entryM k N xs) S0) (h : vC Ω P T c S0 K0) : MCtr P g xs x outs := by
  refine (XCtr.walkG hT hΩ k hf hN hno (R := fun x' o' => x' = x ∧ o' = outs) (fun e S' h => ?_) hs0 h).m
  obtain ⟨S'', h1, h2⟩ := hK0 e S' h
  refine ⟨S'', h1, ?_⟩
  cases e <;> first | exact ho ▸ vOutM_X h2 ⟨rfl, rfl⟩ | exact h2
theorem MCtr.walkS (hT : TabOK P T) {Ω : Opq} (hΩ : Ω = std) (k : Nat) {g : Nat} {c : Code} {N : Nat} {rs : List ResultVar} {xs : List A} {x : A} {outs : List A} (hf : FnAt P g c N rs) (hN : Nat.ble xs.length N = true)
    (hno : (rootA.rootL k ⟨[], N, []⟩ xs).1.all noOwn = true) (ho : outs.length = xs.length) {S0 : State} (hs0 : Sbs (entryM k N xs) S0) (h : vC Ω P T c S0 (outM Ω T N rs x outs)) : MCtr P g xs x outs := by
  refine MCtr.walkSE hT hΩ k hf hN hno ho (K0 := outM Ω T N rs x outs) (fun e S' h => ⟨S', Sbs.refl _, h⟩) hs0 h
theorem MCtr.walk (hT : TabOK P T) {Ω : Opq} (hΩ : Ω = std) (k : Nat) {g : Nat} {c : Code} {N : Nat} {rs : List ResultVar} {xs : List A} {x : A} {outs : List A} (hf : FnAt P g c N rs) (hN : Nat.ble xs.length N = true)
    (hno : (rootA.rootL k ⟨[], N, []⟩ xs).1.all noOwn = true) (ho : outs.length = xs.length) (h : vC Ω P T c (entryM k N xs) (outM Ω T N rs x outs)) : MCtr P g xs x outs :=
  MCtr.walkS hT hΩ k hf hN hno ho (Sbs.refl _) h
end
end Go.Fw

/- The same rules with lengths kept shut. Plain theorems, no condition. -/
set_option linter.unusedVariables false
set_option linter.unusedSimpArgs false
namespace Go.Fw
def rootO (Ω : Opq) : Nat → State → A → A × State
  | 0, S, x => (x, S)
  | k + 1, S, x => match x with
    | .sl true n xs => (.vw S.rows.length 0 (Ω.len xs), S.addRow ⟨n, xs, false⟩)
    | .bx xs => (.pt S.rows.length 0 0, S.addRow ⟨xs.length, [.agg xs], true⟩)
    | .agg xs => (.agg (rootOL k S xs).1, (rootOL k S xs).2)
    | .tup xs => (.tup (rootOL k S xs).1, (rootOL k S xs).2)
    | x => (x, S)
where rootOL (k : Nat) (S : State) : List A → List A × State
    | [] => ([], S)
    | x :: xs => ((rootO Ω k S x).1 :: (rootOL k (rootO Ω k S x).2 xs).1, (rootOL k (rootO Ω k S x).2 xs).2)
theorem rootOL_std {k : Nat} (ih : ∀ S x, rootO std k S x = rootA k S x) : ∀ (xs : List A) (S : State), rootO.rootOL std k S xs = rootA.rootL k S xs
  | [], S => by rw [rootO.rootOL, rootA.rootL]
  | x :: xs, S => by rw [rootO.rootOL, rootA.rootL, ih, rootOL_std ih xs]
theorem rootO_std : ∀ (k : Nat) (S : State) (x : A), rootO std k S x = rootA k S x
  | 0, S, x => by rw [rootO, rootA]
  | k + 1, S, x => by
    have ih := rootOL_std (rootO_std k)
    unfold rootO rootA
    cases x with
    | sl o n xs => cases o <;> rfl
    | agg xs => simp only; rw [ih]
    | tup xs => simp only; rw [ih]
    | _ => rfl
def entryO (Ω : Opq) (k N : Nat) (xs : List A) : State :=
  ⟨entryT 0 (rootO.rootOL Ω k ⟨[], N, []⟩ xs).1 ++ entryT N (rootO.rootOL Ω k ⟨[], N, []⟩ xs).1, N, (rootO.rootOL Ω k ⟨[], N, []⟩ xs).2.rows⟩
section
variable {P : Program} {T : Nat → Option TI} {S : State} {Ω : Opq}
theorem call_pure (hΩ : Ω = std) (k : Nat) {g : Nat} {args ys0 ys : List A} {x : A} {K : A → State → Prop} (hc : PCtr P g ys x) (h1 : mapO (roO S k) args = some ys0) (h2 : fitA.fitL k ys0 ys) (hx : roFree x = true)
    (hno : noOwn (rootO Ω k S x).1 = true) (hK : K (rootO Ω k S x).1 (rootO Ω k S x).2) : CallX P g args S K := by
  subst hΩ
  rw [rootO_std] at hno hK
  exact ⟨CallOK_pure hc h1 h2 hx hno hK⟩
theorem call_share (hΩ : Ω = std) (k : Nat) {g : Nat} {args ys : List A} {x : A} {K : A → State → Prop} (hc : PCtr P g ys x) (h1 : args.all isData = true) (h2 : fitA.fitL k args ys)
    (hno : noOwn (rootO Ω k S x).1 = true) (hK : K (rootO Ω k S x).1 (rootO Ω k S x).2) : CallX P g args S K := by
  subst hΩ
  rw [rootO_std] at hno hK
  exact ⟨CallOK_share hc h1 h2 hno hK⟩
theorem call_mut (hΩ : Ω = std) (k : Nat) {g : Nat} {args ys outs : List A} {x : A} {l : List (Nat × List A)} {K : A → State → Prop} (hc : MCtr P g ys x outs) (hm : MutL S args ys outs l) (hnd : (l.map (·.1)).Nodup)
    (hno : noOwn (rootO Ω k (S.mut l) x).1 = true) (hK : K (rootO Ω k (S.mut l) x).1 (rootO Ω k (S.mut l) x).2) : CallX P g args S K := by
  subst hΩ
  rw [rootO_std] at hno hK
  exact ⟨CallOK_mut hc hm hnd hno hK⟩
theorem MCtr.walkO (hT : TabOK P T) (hΩ : Ω = std) (k : Nat) {g : Nat} {c : Code} {N : Nat} {rs : List ResultVar} {xs : List A} {x : A} {outs : List A} (hf : FnAt P g c N rs) (hN : Nat.ble xs.length N = true)
    (hno : (rootO.rootOL Ω k ⟨[], N, []⟩ xs).1.all noOwn = true) (ho : outs.length = xs.length) (h : vC Ω P T c (entryO Ω k N xs) (outM Ω T N rs x outs)) : MCtr P g xs x outs := by
  have e := rootOL_std (rootO_std k)
  refine MCtr.walk hT hΩ k hf hN ?_ ho ?_
  · subst hΩ; rw [← e]; exact hno
  · have : entryO Ω k N xs = entryM k N xs := by subst hΩ; unfold entryO entryM; rw [e]
    rw [← this]; exact h
end
end Go.Fw

/- Calls that are handed own data for good. Plain theorems, no condition. -/
set_option linter.unusedVariables false
set_option linter.unusedSimpArgs false
namespace Go.Fw
/-- A contract of a function that is handed own data for good: what comes back may hold them. -/
structure ECtr (P : Program) (g : Nat) (args : List A) (x : A) : Prop where
  enter : Enter P g
  run : ∀ (w : World) (G : Nat → Prop) (vs : List Value) (F : List Nat), GoodG P w G → F.Nodup → (∀ b ∈ F, ¬ G b) → RelL w G args vs F → Calls P g vs.toArray w (fun e w' => ∃ v Fx, e = .returned v ∧
    (w'.os = w.os ∧ w'.tape = w.tape ∧ w'.output = w.output ∧ w.heap.size ≤ w'.heap.size ∧ ∀ b, b < w.heap.size → b ∉ F → w'.heap[b]? = w.heap[b]?) ∧
    Fx.Nodup ∧ (∀ b ∈ Fx, b ∈ F ∨ w.heap.size ≤ b) ∧ Rel w' (fun b => (G b ∨ b ∈ F ∨ (w.heap.size ≤ b ∧ b < w'.heap.size)) ∧ b ∉ Fx) x v Fx)
def entryE (Ω : Opq) (k N : Nat) (xs : List A) : State := ⟨entryT 0 (rootO.rootOL Ω k ⟨[], N, []⟩ xs).1, N, (rootO.rootOL Ω k ⟨[], N, []⟩ xs).2.rows⟩
section
variable {P : Program} {T : Nat → Option TI} {S : State} {Ω : Opq}
theorem ECtr.walk (hT : TabOK P T) (hΩ : Ω = std) (k : Nat) {g : Nat} {c : Code} {N : Nat} {rs : List ResultVar} {xs : List A} {x : A} (hf : FnAt P g c N rs) (hN : Nat.ble xs.length N = true)
    (hno : (rootO.rootOL Ω k ⟨[], N, []⟩ xs).1.all noOwn = true) (h : vC Ω P T c (entryE Ω k N xs) (outV Ω T rs x)) : ECtr P g xs x := by
  subst hΩ
  have hroot := rootOL_std (rootO_std k)
  unfold entryE at h
  rw [hroot] at h hno
  have hN := Nat.le_of_ble_eq_true hN
  obtain ⟨hen, fn, h1, h2, h3, h4⟩ := hf
  refine ⟨hen, fun w G vs F hG hFnd hFG hl => ?_⟩
  have hlen := hl.length
  have hFlt := hl.lt
  refine calls_of_wp h1 h2 ?_
  generalize htm : vs.toArray ++ Array.replicate (fn.ntmps - vs.toArray.size) undef = tm
  have htms : tm.size = N := by rw [← htm]; simp; omega
  have hinv0 : Inv (P := P) ⟨w, G, (· ∈ F), fun _ => undef⟩ G (fun _ => (none, [])) ⟨[], N, []⟩ tm w := by
    refine ⟨fun _ _ _ => rfl, rfl, rfl, rfl, Nat.le_refl _, htms, fun _ h => h, fun _ h => .inl h, hG, ?_, ?_, ?_, ?_, fun i => .un⟩
    · intro r row hr; simp [rowAt] at hr
    · intro r row hr; simp [rowAt] at hr
    · intro r row hr; simp [rowAt] at hr
    · intro r r' row row' hr; simp [rowAt] at hr
  have hres0 : Res (P := P) ⟨w, G, (· ∈ F), fun _ => undef⟩ G (fun _ => (none, [])) (State.rows ⟨[], N, []⟩) (F ++ []) := by
    rw [List.append_nil]
    exact ⟨hFnd, fun b hb => ⟨hFG b hb, .inl hb⟩, fun r row hr => by simp [rowAt] at hr⟩
  obtain ⟨gs1, r1, r2⟩ := rootL_ok (rootA_ok k) xs ⟨[], N, []⟩ _ vs F [] hinv0 hres0 (fun b hb => hFlt b (by simpa using hb)) hl hno
  have hzl : (rootA.rootL k ⟨[], N, []⟩ xs).1.length = xs.length := by rw [← r2.length, hlen]
  have hi1 := r1.inv
  have hinv : Inv (P := P) ⟨w, G, (· ∈ F), fun _ => undef⟩ G gs1 ⟨entryT 0 (rootA.rootL k ⟨[], N, []⟩ xs).1, N, (rootA.rootL k ⟨[], N, []⟩ xs).2.rows⟩ tm w := by
    refine ⟨hi1.keep, hi1.os, hi1.tape, hi1.output, hi1.size, htms, hi1.gsub, hi1.gnew, hi1.glt, hi1.row, hi1.nod, hi1.own, hi1.dis, fun i => ?_⟩
    show TRel w G (rootA.rootL k ⟨[], N, []⟩ xs).2.rows gs1 (lk (entryT 0 _) i) _ []
    rw [lk_entryT, if_pos (Nat.zero_le _), Nat.sub_zero]
    by_cases hi : i < xs.length
    · unfold vat
      rw [if_pos (by rw [htms]; omega)]
      have := r2.get' i (by rw [hzl]; exact hi)
      have e : tm.getD i undef = vs.getD i undef := by
        rw [← htm, Array.getD_eq_getD_getElem?, Array.getElem?_append_left (by simp; omega)]
        simp
      rw [e]; exact this
    · rw [List.getD_eq_getElem?_getD, List.getElem?_eq_none (by omega)]
      exact .un
  refine wp_mono ((VC.mono (vstart hT rfl h) fun e S' h => outV_ok hT h) ⟨w, G, (· ∈ F), fun _ => undef⟩ { tmps := tm, defers := [] } w ⟨rfl, G, _, hinv⟩) ?_
  rintro e a' w' ⟨S', ⟨hd, G', gs', hi'⟩, hK⟩
  have fin : Outs P rs x S' → a'.defers = [] ∧ ∃ v, (results fn a'.tmps).run P w' = .ok v w' ∧ (∃ v_1 Fx, Ending.returned v = .returned v_1 ∧
      (w'.os = w.os ∧ w'.tape = w.tape ∧ w'.output = w.output ∧ w.heap.size ≤ w'.heap.size ∧ ∀ b, b < w.heap.size → b ∉ F → w'.heap[b]? = w.heap[b]?) ∧
      Fx.Nodup ∧ (∀ b ∈ Fx, b ∈ F ∨ w.heap.size ≤ b) ∧ Rel w' (fun b => (G b ∨ b ∈ F ∨ (w.heap.size ≤ b ∧ b < w'.heap.size)) ∧ b ∉ Fx) x v_1 Fx) := by
    intro ho
    refine ⟨hd, ?_⟩
    obtain ⟨vs', zs, Fx, k', g1, g2, g3, g4, g5⟩ := ho _ _ _ _ _ hi'
    refine ⟨oneV vs', h4 _ _ _ g1, _, Fx, rfl, ⟨hi'.os, hi'.tape, hi'.output, hi'.size, fun b hb hF => hi'.keep b hb hF⟩, g3, fun b hb => (g4 b hb).2, ?_⟩
    refine (fitA_rel k' _ _ _ _ g5 (oneA_rel g2)).move_ (fun b hb => ⟨⟨?_, fun hF => (g4 b hF).1 hb⟩, rfl⟩) (fun _ _ => rfl)
    rcases hi'.gnew b hb with h | h | h
    · exact .inl h
    · exact .inr (.inl h)
    · exact .inr (.inr ⟨h, hi'.glt b hb⟩)
  cases e with
  | normal => exact fin hK
  | ret => exact fin hK
  | _ => exact hK.elim
theorem eat_end {E : Env P} {G : Nat → Prop} {gs : Gh} {S1 : State} {tmps : Array Value} {w w' : World} {F Fx : List Nat} {x : A} {v : Value} (k : Nat) (hi1 : Inv E G gs S1 tmps w) (hR : Res E G gs S1.rows F) (hRlt : ∀ b ∈ F, b < w.heap.size)
    (hos : w'.os = w.os) (htape : w'.tape = w.tape) (hout : w'.output = w.output) (hsize : w.heap.size ≤ w'.heap.size) (hold : ∀ b, b < w.heap.size → b ∉ F → w'.heap[b]? = w.heap[b]?)
    (hnd : Fx.Nodup) (hmem : ∀ b ∈ Fx, b ∈ F ∨ w.heap.size ≤ b) (hx : Rel w' (fun b => (G b ∨ b ∈ F ∨ (w.heap.size ≤ b ∧ b < w'.heap.size)) ∧ b ∉ Fx) x v Fx) (hno : noOwn (rootA k S1 x).1 = true) :
    ∃ gs2, Inv E (fun b => (G b ∨ b ∈ F ∨ (w.heap.size ≤ b ∧ b < w'.heap.size)) ∧ b ∉ Fx) gs2 (rootA k S1 x).2 tmps w' ∧ TRel w' (fun b => (G b ∨ b ∈ F ∨ (w.heap.size ≤ b ∧ b < w'.heap.size)) ∧ b ∉ Fx) (rootA k S1 x).2.rows gs2 (rootA k S1 x).1 v [] := by
  have hrow : ∀ r row, rowAt S1.rows r = some row → ∀ b ∈ gs.all r, w'.heap[b]? = w.heap[b]? ∧ b ∉ Fx := fun r row hr b hb => by
    have h1 := hi1.block_lt hr b hb
    have h2 := hR.dis r row hr b hb
    refine ⟨hold b h1 h2, fun hF => ?_⟩
    rcases hmem b hF with h | h
    · exact h2 h
    · omega
  have hGF : ∀ b, G b → b ∉ Fx := fun b h hF => by
    have := hi1.glt b h
    rcases hmem b hF with h2 | h2
    · exact (hR.own b h2).1 h
    · omega
  have hG : ∀ b, G b → ((G b ∨ b ∈ F ∨ (w.heap.size ≤ b ∧ b < w'.heap.size)) ∧ b ∉ Fx) ∧ w'.heap[b]? = w.heap[b]? := fun b h => ⟨⟨.inl h, hGF b h⟩, hold b (hi1.glt b h) fun hF => (hR.own b hF).1 h⟩
  have hle : ∀ r, RowLe w w' S1.rows S1.rows gs gs r := fun r => RowLe.refl_of fun row h => ⟨h, rfl, fun b hob => (hrow r row h b (by simp [Gh.all, hob])).1⟩
  have hi' : Inv E (fun b => (G b ∨ b ∈ F ∨ (w.heap.size ≤ b ∧ b < w'.heap.size)) ∧ b ∉ Fx) gs S1 tmps w' := by
    refine ⟨fun b h hf => ?_, hos.trans hi1.os, htape.trans hi1.tape, hout.trans hi1.output, Nat.le_trans hi1.size hsize, hi1.sz, fun b h => ⟨.inl (hi1.gsub b h), hGF b (hi1.gsub b h)⟩, fun b h => ?_, hi1.glt.move (fun b h => (hG b h).1) (fun b h => (hG b h).2) (fun b h => ?_), fun r row hr => ?_,
      hi1.nod, fun r row hr b hb => ?_, hi1.dis, fun i => (hi1.tmp i).step hG hle (by simp)⟩
    · rw [hold b (Nat.lt_of_lt_of_le h hi1.size) fun hF => ?_]
      · exact hi1.keep b h hf
      · rcases (hR.own b hF).2 with h2 | h2
        · exact hf h2
        · omega
    · rcases h.1 with h | h | h
      · exact hi1.gnew b h
      · exact .inr (hR.own b h).2
      · exact .inr (.inr (Nat.le_trans hi1.size h.1))
    · rcases h.1 with h | h | h
      · exact Nat.lt_of_lt_of_le (hi1.glt b h) hsize
      · exact Nat.lt_of_lt_of_le (hRlt b h) hsize
      · exact h.2
    · exact (hi1.row r row hr).step hG hle fun c hc => (hrow r row hr c hc).1
    · obtain ⟨g1, g2⟩ := hi1.own r row hr b hb
      refine ⟨fun h => ?_, g2⟩
      have := hi1.block_lt hr b hb
      rcases h.1 with h | h | h
      · exact g1 h
      · exact hR.dis r row hr b hb h
      · omega
  have hR' : Res E (fun b => (G b ∨ b ∈ F ∨ (w.heap.size ≤ b ∧ b < w'.heap.size)) ∧ b ∉ Fx) gs S1.rows (Fx ++ []) := by
    rw [List.append_nil]
    refine ⟨hnd, fun b hb' => ⟨fun h => h.2 hb', ?_⟩, fun r row hr b hb1 hb2 => (hrow r row hr b hb1).2 hb2⟩
    rcases hmem b hb' with h2 | h2
    · exact (hR.own b h2).2
    · exact .inr (Nat.le_trans hi1.size h2)
  obtain ⟨gs2, q1, q2⟩ := rootA_ok k S1 gs x v Fx [] hi' hR' (fun b hb' => hx.lt b (by simpa using hb')) hx hno
  exact ⟨gs2, q1.inv, q2⟩
theorem mapO_relG {f : A → Option A} {w : World} {G G' : Nat → Prop} {gs : Gh} {rows : List (Option Row)} (hf : ∀ x v F y, (∀ b ∈ F, G' b) → TRel w G rows gs x v F → f x = some y → Rel w G' y v []) : ∀ {xs : List A} {vs : List Value} {F : List Nat} {ys : List A},
    (∀ b ∈ F, G' b) → TRelL w G rows gs xs vs F → mapO f xs = some ys → RelL w G' ys vs []
  | [], _, _, ys, _, h, hm => by
    cases h
    simp only [mapO, Option.some.injEq] at hm
    subst hm; exact .nil
  | x :: xs, _, _, ys, hF, h, hm => by
    cases h with
    | cons h hl =>
      simp only [mapO] at hm
      cases hx : f x with
      | none => rw [hx] at hm; simp at hm
      | some y =>
        rw [hx] at hm
        cases hxs : mapO f xs with
        | none => rw [hxs] at hm; simp at hm
        | some us =>
          rw [hxs] at hm
          simp only [Option.some.injEq] at hm
          subst hm
          exact .cons (F := []) (Fs := []) (hf _ _ _ _ (fun b hb => hF b (by simp [hb])) h hx) (mapO_relG hf (fun b hb => hF b (by simp [hb])) hl hxs)
theorem roO_relG {E : Env P} {G G' : Nat → Prop} {gs : Gh} {tmps : Array Value} {w : World} (hi : Inv E G gs S tmps w) (hGO : ∀ b, G b → G' b) (hrow : ∀ r row, rowAt S.rows r = some row → ∀ b ∈ gs.all r, G' b) :
    ∀ (k : Nat) (x : A) (v : Value) (F : List Nat) (y : A), (∀ b ∈ F, G' b) → TRel w G S.rows gs x v F → roO S k x = some y → Rel w G' y v [] := by
  intro k
  induction k with
  | zero => intro x v F y _ _ hy; simp [roO] at hy
  | succ k ih =>
    intro x v F y hF h hy
    have plain : ∀ {x : A} {v : Value}, TRel w G S.rows gs x v F → isData x = true → Rel w G' (Fw.frz x) v [] := fun h hd => (h.data hd).frz hGO hF
    cases x with
    | un => simp [roO] at hy
    | mp r => simp [roO] at hy
    | al u x => simp [roO] at hy
    | rmp es =>
      simp only [roO, Option.some.injEq] at hy; subst hy
      have h0 := h.data rfl
      obtain rfl : F = [] := h0.noOwn rfl
      exact h0.move_ (fun b hb => ⟨hGO b hb, rfl⟩) (by simp)
    | sc u =>
      simp only [roO, Option.some.injEq] at hy; subst hy
      have := plain h (isData_sc u); rwa [frz_sc] at this
    | nil =>
      simp only [roO, Option.some.injEq] at hy; subst hy
      have := plain h isData_nil; rwa [frz_nil] at this
    | sl o n xs =>
      cases o with
      | true =>
        simp only [roO, Option.some.injEq] at hy; subst hy
        have := plain h (isData_sl true n xs); rwa [frz_sl] at this
      | false =>
        simp only [roO, Option.some.injEq] at hy; subst hy
        exact (h.data (isData_sl false n xs)).noOwn (by simp [noOwn_sl]) ▸ (h.data (isData_sl false n xs)).move_ (fun b hb => ⟨hGO b hb, rfl⟩) (fun b hb => rfl)
    | rp xs =>
      simp only [roO, Option.some.injEq] at hy; subst hy
      exact (h.data (isData_rp xs)).noOwn (by simp [noOwn_rp]) ▸ (h.data (isData_rp xs)).move_ (fun b hb => ⟨hGO b hb, rfl⟩) (fun b hb => rfl)
    | bx xs =>
      simp only [roO, Option.some.injEq] at hy; subst hy
      have := plain h (isData_bx xs); rwa [frz_bx] at this
    | agg xs =>
      simp only [roO, Option.map_eq_some_iff] at hy
      obtain ⟨ys, h1, rfl⟩ := hy
      obtain ⟨cs, rfl, hl⟩ := agg_inv h
      have := Rel.agg (mapO_relG (G' := G') (fun x v F y hF hx hy => ih x v F y hF hx hy) hF hl h1)
      simpa using this
    | tup xs =>
      simp only [roO, Option.map_eq_some_iff] at hy
      obtain ⟨ys, h1, rfl⟩ := hy
      obtain ⟨cs, rfl, hl⟩ := tup_inv h
      have := Rel.tup (mapO_relG (G' := G') (fun x v F y hF hx hy => ih x v F y hF hx hy) hF hl h1)
      simpa using this
    | clo g xs =>
      simp only [roO, Option.map_eq_some_iff] at hy
      obtain ⟨ys, h1, rfl⟩ := hy
      cases h with
      | of h => cases h with | clo hl => exact .clo (mapO_relG (gs := gs) (rows := S.rows) (G' := G') (fun x v F y hF hx hy => ih x v F y hF hx hy) hF (.of hl) h1)
      | clo hl => exact .clo (mapO_relG (G' := G') (fun x v F y hF hx hy => ih x v F y hF hx hy) hF hl h1)
    | vw r off len =>
      simp only [roO] at hy
      cases hr : rowAt S.rows r with
      | none => simp [hr] at hy
      | some row =>
        simp only [hr] at hy
        split at hy
        · simp at hy
        · rename_i hlk
          simp only [Option.some.injEq] at hy
          subst hy
          rcases vw_inv h with ⟨row', kk, cap, cur, e, b, hr', hob, g1, g2, g3, g4, g5, g6, rfl⟩ | ⟨row', hr', hob, hxs, rfl, rfl, rfl⟩
          · rw [hr] at hr'
            obtain rfl := Option.some.inj hr'
            have hrr := hi.row r row hr
            rw [hob] at hrr
            obtain ⟨cur', e', cap', h1, h2, h3, h4, h5, h6, h7⟩ := hrr.ex
            rw [g2] at h1
            simp only [Option.some.injEq, Obj.cells.injEq] at h1
            obtain ⟨rfl, rfl, _⟩ := h1
            unfold CellsRel at h7
            rw [if_neg hlk] at h7
            obtain ⟨F1, F2, e1, _, k2⟩ := h7.take_ (off * row.n)
            obtain ⟨F3, F4, e2, k3, _⟩ := k2.take_ (len * row.n)
            rw [flat_drop off h5, flat_take len (fun y hy => h5 y (List.mem_of_mem_drop hy))] at k3
            have hle : (off + len) * row.n ≤ row.xs.length * row.n := Nat.mul_le_mul_right _ g1
            rw [Nat.add_mul] at hle
            rw [List.drop_take, List.take_take, Nat.min_eq_left (by omega)] at k3
            have k4 := RelL.frz k3 (G' := G') hGO (fun c hc => hrow r row hr c (by simp [Gh.all, e1, e2, hc]))
            rw [← flat_frz] at k4
            have hlen : len = (((row.xs.drop off).take len).map Fw.frz).length := by simp; omega
            have hw : ∀ y ∈ ((row.xs.drop off).take len).map Fw.frz, y.width = row.n := fun y hy => by
              obtain ⟨z, hz, rfl⟩ := List.mem_map.1 hy
              rw [width_frz]; exact h5 z (List.mem_of_mem_drop (List.mem_of_mem_take hz))
            have hold : G' b := hrow r row hr b (by simp [Gh.all, hob])
            refine .ro g2 hold hw hlen rfl ?_ (by omega) (by omega)
            rcases g6 with hk | hk
            · rw [hk]; exact k4
            · have h0 : len = 0 := by omega
              subst h0
              simpa using k4
          · rw [hr] at hr'
            obtain rfl := Option.some.inj hr'
            simpa using Rel.nils
    | pt r j o =>
      simp only [roO] at hy
      cases hr : rowAt S.rows r with
      | none => simp [hr] at hy
      | some row =>
        simp only [hr] at hy
        by_cases hjo : j < row.xs.length ∧ o ≤ row.n
        case neg => rw [if_neg hjo] at hy; simp at hy
        rw [if_pos hjo] at hy
        obtain ⟨row', b, hr', hb, rfl⟩ := pt_inv h
        rw [hr] at hr'
        obtain rfl := Option.some.inj hr'
        obtain ⟨b', hb', hrc⟩ := row_real hi hr (by omega) (.inr ⟨_, hb⟩)
        rw [hb] at hb'
        obtain rfl := Option.some.inj hb'
        obtain ⟨cur, e, cap, h1, h2, h3, h4, h5, h6, h7⟩ := hrc.ex
        have hz : row.xs[j]? = some (row.xs.getD j .un) := by simp [List.getD_eq_getElem?_getD, List.getElem?_eq_getElem hjo.1]
        generalize row.xs.getD j .un = x at hy hz
        have hw := h5 x (List.mem_of_getElem? hz)
        unfold A.width at hw
        have hseg := flat_seg h5 hz o (row.n - o) (by omega)
        have hxl : ((x.cells.drop o).take (row.n - o)) = x.cells.drop o := by rw [List.take_of_length_le (by simp; omega)]
        have hle : (j + 1) * row.n ≤ row.xs.length * row.n := Nat.mul_le_mul_right _ hjo.1
        rw [Nat.add_mul] at hle
        have hcur : ((cur.toList.take (row.xs.length * row.n)).drop (j * row.n + o)).take (row.n - o) = (cur.toList.drop (j * row.n + o)).take (row.n - o) := by
          rw [List.drop_take, List.take_take, Nat.min_eq_left (by omega)]
        have hold : G' b := hrow r row hr b (by simp [Gh.all, hb])
        have hlenx : (x.cells.drop o).length = row.n - o := by simp; omega
        obtain ⟨F1, F2, e1, _, k2⟩ := h7.t.take_ (j * row.n + o)
        obtain ⟨F3, F4, e2, k3, _⟩ := k2.take_ (row.n - o)
        rw [hseg, hxl, hcur] at k3
        by_cases hlk : row.lk = true
        · rw [if_pos hlk] at hy
          simp only [Option.map_eq_some_iff] at hy
          obtain ⟨ys, hm, rfl⟩ := hy
          have k4 := mapO_relG (G' := G') (fun x v F y hF hx hy => ih x v F y hF hx hy) (fun c hc => hrow r row hr c (by simp [Gh.all, e1, e2, hc])) k3 hm
          have hyl : ys.length = row.n - o := by rw [← k4.length, k3.length, hlenx]
          exact .rp h1 hold rfl (by rw [hyl]; exact k4)
        · rw [if_neg hlk] at hy
          simp only [Option.some.injEq] at hy
          subst hy
          unfold CellsRel at h7
          rw [if_neg hlk] at h7
          obtain ⟨F1', F2', e1', _, k2'⟩ := h7.take_ (j * row.n + o)
          obtain ⟨F3', F4', e2', k3', _⟩ := k2'.take_ (row.n - o)
          rw [hseg, hxl, hcur] at k3'
          have k4 := RelL.frz k3' (G' := G') hGO (fun c hc => hrow r row hr c (by simp [Gh.all, e1', e2', hc]))
          exact .rp h1 hold rfl (by rw [List.length_map, hlenx]; exact k4)

/-- One own row is handed over for good, all else is only read. -/
theorem CallOK_eat2 {g k r len : Nat} {row : Row} {rest ys0 ys : List A} {x : A} {K : A → State → Prop} (hc : ECtr P g (.sl true row.n row.xs :: ys) x) (hr : rowAt S.rows r = some row) (hlk : row.lk = false) (hlen : len = row.xs.length)
    (h1 : mapO (roO (S.turn r none) k) (rest.map (kill r)) = some ys0) (h2 : fitA.fitL k ys0 ys) (hxf : roFree x = true) (hno : noOwn (rootA k (S.turn r none) x).1 = true) (hK : K (rootA k (S.turn r none) x).1 (rootA k (S.turn r none) x).2) :
    CallOK P g (.vw r 0 len :: rest) S K := by
  refine ⟨hc.enter, fun E G gs tmps w vs hi hl => ?_⟩
  generalize hF0 : ([] : List Nat) = F0 at hl
  cases hl with
  | cons hv hl =>
    rename_i v0 Fa vs Fb
    have hFF : Fa = [] ∧ Fb = [] := by simpa using hF0.symm
    obtain ⟨rfl, rfl⟩ := hFF
    have hst1 : stash1 S (.vw r 0 len) = (0 = 0 ∧ len ≤ row.xs.length ∧ row.lk = false, .sl true row.n (row.xs.take len), S.turn r none, [r]) := by simp only [stash1, hr]
    obtain ⟨F, hst, hrel⟩ := stash1_ok (R := []) hi Res.nil hv (by rw [hst1]; exact ⟨rfl, by omega, hlk⟩)
    rw [hst1] at hst hrel
    rw [List.take_of_length_le (by omega)] at hrel
    rw [List.append_nil] at hst
    have hi1 : Inv E G gs (S.turn r none) tmps w := hst.inv
    have hR : Res E G gs (S.turn r none).rows F := hst.res
    have hlt : ∀ b ∈ F, b < w.heap.size := hst.lt (by simp)
    have hl' : TRelL w G (S.turn r none).rows gs (rest.map (kill r)) vs [] := by
      have := hst.stepL rest vs hl
      exact this
    have hys := fitL_rel (fun x y v F => fitA_rel k x y v F) ys0 ys vs [] h2 (mapO_relG (G' := fun b => b < w.heap.size ∧ b ∉ F) (fun x v F y hF hx hy => roO_relG hi1 (fun b hb => ⟨hi1.glt b hb, fun hb2 => (hR.own b hb2).1 hb⟩) (fun r row hr b hb => ⟨hi1.block_lt hr b hb, hR.dis r row hr b hb⟩) k x v F y hF hx hy) (by simp) hl' h1)
    have hargs : RelL w (fun b => b < w.heap.size ∧ b ∉ F) (.sl true row.n row.xs :: ys) (v0 :: vs) F := by
      have := RelL.cons (hrel.move_ (w' := w) (G' := fun b => b < w.heap.size ∧ b ∉ F) (fun b hb => ⟨⟨hi1.glt b hb, fun hb2 => (hR.own b hb2).1 hb⟩, rfl⟩) (fun _ _ => rfl)) hys
      simpa using this
    refine Calls.mono (hc.run w (fun b => b < w.heap.size ∧ b ∉ F) (v0 :: vs) F (hi1.glt.move (fun b hb => ⟨hi1.glt b hb, fun hb2 => (hR.own b hb2).1 hb⟩) (fun _ _ => rfl) fun b hb => hb.1) hR.nod (fun b hb h => h.2 hb) hargs) ?_
    rintro e w' ⟨v, Fx, rfl, ⟨hos, htape, hout, hsize, hold⟩, hnd, hmem, hx⟩
    obtain ⟨gs2, q1, q2⟩ := eat_end k hi1 hR hlt hos htape hout hsize hold hnd hmem (hx.anyG hxf _) hno
    exact ⟨v, _, _, _, gs2, rfl, hK, q1, q2⟩
theorem call_eat2 (hΩ : Ω = std) (k : Nat) {g r len : Nat} {row : Row} {rest ys0 ys : List A} {x : A} {K : A → State → Prop} (hc : ECtr P g (.sl true row.n row.xs :: ys) x) (hr : rowAt S.rows r = some row) (hlk : row.lk = false) (hlen : len = row.xs.length)
    (h1 : mapO (roO (S.turn r none) k) (rest.map (kill r)) = some ys0) (h2 : fitA.fitL k ys0 ys) (hxf : roFree x = true) (hno : noOwn (rootO Ω k (S.turn r none) x).1 = true) (hK : K (rootO Ω k (S.turn r none) x).1 (rootO Ω k (S.turn r none) x).2) :
    CallX P g (.vw r 0 len :: rest) S K := by
  subst hΩ
  rw [rootO_std] at hno hK
  exact ⟨CallOK_eat2 hc hr hlk hlen h1 h2 hxf hno hK⟩
end
section
variable {P : Program} {E : Env P} {G : Nat → Prop} {gs : Gh} {S : State} {w : World} {tmps : Array Value}
end
end Go.Fw

/- The table of the types that the walks ask for. Plain theorems, no condition. -/
namespace Go.Proofs.YtomfmdfamlmfiaaGreat
open Go.Fw
def T : Nat → Option TI
  | 2 => some ⟨1, 8, none, false, false, false, [], (some (.int .i64 0)), (some .i64), none⟩
  | 3 => some ⟨1, 8, none, false, false, false, [], (some (.int .i64 0)), (some .i64), none⟩
  | 4 => some ⟨1, 1, none, false, false, true, [], (some (.bool false)), none, none⟩
  | 5 => some ⟨1, 1, none, false, false, false, [], (some (.int .u8 0)), (some .u8), none⟩
  | 6 => some ⟨1, 1, none, false, false, false, [], (some (.int .u8 0)), (some .u8), none⟩
  | 7 => some ⟨4, 24, none, true, false, false, [(0, 1, false), (1, 1, false), (2, 1, false), (3, 1, false)], (some (.agg #[(.int .i64 0), (.int .i64 0), (.bool false), (.int .u8 0)])), none, none⟩
  | 8 => some ⟨4, 24, none, true, false, false, [(0, 1, false), (1, 1, false), (2, 1, false), (3, 1, false)], (some (.agg #[(.int .i64 0), (.int .i64 0), (.bool false), (.int .u8 0)])), none, none⟩
  | 9 => some ⟨1, 16, none, false, true, false, [], (some (.string ⟨#[]⟩)), none, none⟩
  | 10 => some ⟨1, 16, none, false, true, false, [], (some (.string ⟨#[]⟩)), none, none⟩
  | 11 => some ⟨1, 16, none, false, true, false, [], (some (.string ⟨#[]⟩)), none, none⟩
  | 12 => some ⟨1, 8, none, false, false, false, [], (some (.int .u64 0)), (some .u64), none⟩
  | 13 => some ⟨2, 24, none, true, false, false, [(0, 1, false), (1, 1, false)], (some (.agg #[(.string ⟨#[]⟩), (.int .u64 0)])), none, none⟩
  | 14 => some ⟨2, 24, none, true, false, false, [(0, 1, false), (1, 1, false)], (some (.agg #[(.string ⟨#[]⟩), (.int .u64 0)])), none, none⟩
  | 15 => some ⟨1, 8, none, false, false, false, [], (some (.pointer none)), none, none⟩
  | 16 => some ⟨1, 8, none, false, false, false, [], (some (.pointer none)), none, none⟩
  | 17 => some ⟨1, 8, none, false, false, false, [], (some (.pointer none)), none, none⟩
  | 18 => some ⟨1, 8, none, true, false, false, [(0, 1, false)], (some (.agg #[(.pointer none)])), none, none⟩
  | 19 => some ⟨1, 8, none, true, false, false, [(0, 1, false)], (some (.agg #[(.pointer none)])), none, none⟩
  | 21 => some ⟨1, 4, none, false, false, false, [], (some (.int .i32 0)), (some .i32), none⟩
  | 22 => some ⟨1, 24, (some 70), false, false, false, [], (some (.slice none 0 0)), none, none⟩
  | 23 => some ⟨1, 24, (some 2), false, false, false, [], (some (.slice none 0 0)), none, none⟩
  | 24 => some ⟨1, 24, (some 73), false, false, false, [], (some (.slice none 0 0)), none, none⟩
  | 27 => some ⟨3, 40, none, true, false, false, [(0, 1, false), (1, 1, false), (2, 1, false)], (some (.agg #[(.int .i64 0), (.int .i64 0), (.slice none 0 0)])), none, none⟩
  | 28 => some ⟨3, 40, none, true, false, false, [(0, 1, false), (1, 1, false), (2, 1, false)], (some (.agg #[(.int .i64 0), (.int .i64 0), (.slice none 0 0)])), none, none⟩
  | 30 => some ⟨1, 24, (some 62), false, false, false, [], (some (.slice none 0 0)), none, none⟩
  | 33 => some ⟨1, 24, (some 64), false, false, false, [], (some (.slice none 0 0)), none, none⟩
  | 44 => some ⟨2, 32, none, true, false, false, [(0, 1, false), (1, 1, false)], (some (.agg #[(.int .i64 0), (.slice none 0 0)])), none, none⟩
  | 45 => some ⟨2, 32, none, true, false, false, [(0, 1, false), (1, 1, false)], (some (.agg #[(.int .i64 0), (.slice none 0 0)])), none, none⟩
  | 50 => some ⟨1, 24, (some 5), false, false, false, [], (some (.slice none 0 0)), none, none⟩
  | 57 => some ⟨3, 24, none, true, false, false, [(0, 1, false), (1, 1, false), (2, 1, false)], (some (.agg #[(.int .i64 0), (.int .i64 0), (.int .i64 0)])), none, none⟩
  | 58 => some ⟨3, 24, none, true, false, false, [(0, 1, false), (1, 1, false), (2, 1, false)], (some (.agg #[(.int .i64 0), (.int .i64 0), (.int .i64 0)])), none, none⟩
  | 59 => some ⟨1, 24, (some 9), false, false, false, [], (some (.slice none 0 0)), none, none⟩
  | 60 => some ⟨1, 24, (some 33), false, false, false, [], (some (.slice none 0 0)), none, none⟩
  | 61 => some ⟨8, 120, none, true, false, false, [(0, 1, false), (1, 3, true), (4, 1, false), (5, 1, false), (6, 1, false), (7, 1, false)], (some (.agg #[(.string ⟨#[]⟩), (.int .i64 0), (.int .i64 0), (.int .i64 0), (.int .i64 0), (.slice none 0 0), (.slice none 0 0), (.slice none 0 0)])), none, none⟩
  | 62 => some ⟨8, 120, none, true, false, false, [(0, 1, false), (1, 3, true), (4, 1, false), (5, 1, false), (6, 1, false), (7, 1, false)], (some (.agg #[(.string ⟨#[]⟩), (.int .i64 0), (.int .i64 0), (.int .i64 0), (.int .i64 0), (.slice none 0 0), (.slice none 0 0), (.slice none 0 0)])), none, none⟩
  | 63 => some ⟨7, 64, none, true, false, false, [(0, 1, false), (1, 3, true), (4, 3, true)], (some (.agg #[(.string ⟨#[]⟩), (.int .i64 0), (.int .i64 0), (.int .i64 0), (.int .i64 0), (.int .i64 0), (.int .i64 0)])), none, none⟩
  | 64 => some ⟨7, 64, none, true, false, false, [(0, 1, false), (1, 3, true), (4, 3, true)], (some (.agg #[(.string ⟨#[]⟩), (.int .i64 0), (.int .i64 0), (.int .i64 0), (.int .i64 0), (.int .i64 0), (.int .i64 0)])), none, none⟩
  | 67 => some ⟨3, 24, none, true, false, false, [(0, 1, false), (1, 1, false), (2, 1, false)], (some (.agg #[(.int .i64 0), (.int .i64 0), (.int .i64 0)])), none, none⟩
  | 68 => some ⟨1, 24, (some 24), false, false, false, [], (some (.slice none 0 0)), none, none⟩
  | 69 => some ⟨8, 120, none, true, false, false, [(0, 1, false), (1, 3, true), (4, 1, false), (5, 1, false), (6, 1, false), (7, 1, false)], (some (.agg #[(.string ⟨#[]⟩), (.int .i64 0), (.int .i64 0), (.int .i64 0), (.int .i64 0), (.slice none 0 0), (.slice none 0 0), (.slice none 0 0)])), none, none⟩
  | 70 => some ⟨8, 120, none, true, false, false, [(0, 1, false), (1, 3, true), (4, 1, false), (5, 1, false), (6, 1, false), (7, 1, false)], (some (.agg #[(.string ⟨#[]⟩), (.int .i64 0), (.int .i64 0), (.int .i64 0), (.int .i64 0), (.slice none 0 0), (.slice none 0 0), (.slice none 0 0)])), none, none⟩
  | 72 => some ⟨7, 64, none, true, false, false, [(0, 1, false), (1, 3, true), (4, 3, true)], (some (.agg #[(.string ⟨#[]⟩), (.int .i64 0), (.int .i64 0), (.int .i64 0), (.int .i64 0), (.int .i64 0), (.int .i64 0)])), none, none⟩
  | 73 => some ⟨7, 64, none, true, false, false, [(0, 1, false), (1, 3, true), (4, 3, true)], (some (.agg #[(.string ⟨#[]⟩), (.int .i64 0), (.int .i64 0), (.int .i64 0), (.int .i64 0), (.int .i64 0), (.int .i64 0)])), none, none⟩
  | 78 => some ⟨1, 8, none, false, false, false, [], (some (.map none)), none, none⟩
  | 81 => some ⟨1, 8, none, false, false, false, [], (some .nilFunc), none, none⟩
  | 89 => some ⟨1, 8, none, false, false, false, [], (some (.pointer none)), none, none⟩
  | 106 => some ⟨1, 24, (some 23), false, false, false, [], (some (.slice none 0 0)), none, none⟩
  | 112 => some ⟨2, 32, none, true, false, false, [(0, 1, false), (1, 1, false)], (some (.agg #[(.slice none 0 0), (.int .i64 0)])), none, none⟩
  | 113 => some ⟨2, 32, none, true, false, false, [(0, 1, false), (1, 1, false)], (some (.agg #[(.slice none 0 0), (.int .i64 0)])), none, none⟩
  | 119 => some ⟨3, 40, none, true, false, false, [(0, 1, false), (1, 1, false), (2, 1, false)], (some (.agg #[(.int .i64 0), (.int .i64 0), (.slice none 0 0)])), none, none⟩
  | 120 => some ⟨3, 40, none, true, false, false, [(0, 1, false), (1, 1, false), (2, 1, false)], (some (.agg #[(.int .i64 0), (.int .i64 0), (.slice none 0 0)])), none, none⟩
  | 141 => some ⟨1, 24, (some 144), false, false, false, [], (some (.slice none 0 0)), none, none⟩
  | 143 => some ⟨3, 24, none, true, false, false, [(0, 1, false), (1, 1, false), (2, 1, false)], (some (.agg #[(.int .i64 0), (.int .i64 0), (.int .i64 0)])), none, none⟩
  | 144 => some ⟨3, 24, none, true, false, false, [(0, 1, false), (1, 1, false), (2, 1, false)], (some (.agg #[(.int .i64 0), (.int .i64 0), (.int .i64 0)])), none, none⟩
  | 146 => some ⟨1, 24, (some 151), false, false, false, [], (some (.slice none 0 0)), none, none⟩
  | 150 => some ⟨2, 32, none, true, false, false, [(0, 1, false), (1, 1, false)], (some (.agg #[(.int .i64 0), (.slice none 0 0)])), none, none⟩
  | 151 => some ⟨2, 32, none, true, false, false, [(0, 1, false), (1, 1, false)], (some (.agg #[(.int .i64 0), (.slice none 0 0)])), none, none⟩
  | 171 => some ⟨1, 24, (some 3), false, false, false, [], (some (.slice none 0 0)), none, none⟩
  | 175 => some ⟨4, 40, none, true, false, false, [(0, 1, false), (1, 1, false), (2, 1, false), (3, 1, false)], (some (.agg #[(.pointer none), (.pointer none), (.pointer none), (.string ⟨#[]⟩)])), none, none⟩
  | 176 => some ⟨4, 40, none, true, false, false, [(0, 1, false), (1, 1, false), (2, 1, false), (3, 1, false)], (some (.agg #[(.pointer none), (.pointer none), (.pointer none), (.string ⟨#[]⟩)])), none, none⟩
  | 177 => some ⟨0, 0, none, true, false, false, [], (some (.agg #[])), none, (some (0, 1))⟩
  | 178 => some ⟨0, 0, none, true, false, false, [(0, 0, true)], (some (.agg #[])), none, none⟩
  | 179 => some ⟨0, 0, none, true, false, false, [(0, 0, true)], (some (.agg #[])), none, none⟩
  | 181 => some ⟨1, 4, none, false, false, false, [], (some (.int .u32 0)), (some .u32), none⟩
  | 182 => some ⟨1, 1, none, false, false, false, [], (some (.int .u8 0)), (some .u8), none⟩
  | 183 => some ⟨1, 1, none, false, false, false, [], (some (.int .u8 0)), (some .u8), none⟩
  | 185 => some ⟨1, 8, none, false, false, false, [], (some (.pointer none)), none, none⟩
  | 186 => some ⟨1, 4, none, false, false, false, [], (some (.int .i32 0)), (some .i32), none⟩
  | 187 => some ⟨1, 4, none, false, false, false, [], (some (.int .i32 0)), (some .i32), none⟩
  | 190 => some ⟨1, 8, none, false, false, false, [], (some (.pointer none)), none, none⟩
  | _ => none

set_option maxRecDepth 100000 in
theorem T_ok : ∀ t i, T t = some i → tiOf Tryz.prog t = some i := by
  intro t i h
  unfold T at h
  split at h
  all_goals (cases h <;> kernel_rfl)
end Go.Proofs.YtomfmdfamlmfiaaGreat

/- The functions: their numbers, bodies, temporaries, results. Plain theorems, no condition. -/
namespace Go.Proofs.YtomfmdfamlmfiaaGreat
open Go.Fw
noncomputable abbrev PP : Program := Tryz.prog
theorem tab : TabOK PP T := T_ok
abbrev n_laws_FnExactWhyOf : Nat := 4
theorem fn_laws_FnExactWhyOf : FnAt PP 4 (Tryz.f4.body.getD .skip) 118 [.tmp 8] := FnAt.of (fn := Tryz.f4) (by kernel_rfl) (by kernel_rfl) (by kernel_rfl) (by kernel_rfl) (by kernel_rfl) (by decide)
abbrev n_laws_szPackS : Nat := 6
theorem fn_laws_szPackS : FnAt PP 6 (Tryz.f6.body.getD .skip) 27 [.tmp 4] := FnAt.of (fn := Tryz.f6) (by kernel_rfl) (by kernel_rfl) (by kernel_rfl) (by kernel_rfl) (by kernel_rfl) (by decide)
abbrev n_laws_szTermS : Nat := 7
theorem fn_laws_szTermS : FnAt PP 7 (Tryz.f7.body.getD .skip) 27 [.tmp 4] := FnAt.of (fn := Tryz.f7) (by kernel_rfl) (by kernel_rfl) (by kernel_rfl) (by kernel_rfl) (by kernel_rfl) (by decide)
abbrev n_laws_toPackS : Nat := 9
theorem fn_laws_toPackS : FnAt PP 9 (Tryz.f9.body.getD .skip) 23 [.tmp 2] := FnAt.of (fn := Tryz.f9) (by kernel_rfl) (by kernel_rfl) (by kernel_rfl) (by kernel_rfl) (by kernel_rfl) (by decide)
abbrev n_laws_toInt64S : Nat := 10
theorem fn_laws_toInt64S : FnAt PP 10 (Tryz.f10.body.getD .skip) 22 [.tmp 2] := FnAt.of (fn := Tryz.f10) (by kernel_rfl) (by kernel_rfl) (by kernel_rfl) (by kernel_rfl) (by kernel_rfl) (by decide)
abbrev n_laws_toTermS : Nat := 11
theorem fn_laws_toTermS : FnAt PP 11 (Tryz.f11.body.getD .skip) 23 [.tmp 2] := FnAt.of (fn := Tryz.f11) (by kernel_rfl) (by kernel_rfl) (by kernel_rfl) (by kernel_rfl) (by kernel_rfl) (by decide)
abbrev n_laws_eqPackS : Nat := 14
theorem fn_laws_eqPackS : FnAt PP 14 (Tryz.f14.body.getD .skip) 27 [.tmp 4] := FnAt.of (fn := Tryz.f14) (by kernel_rfl) (by kernel_rfl) (by kernel_rfl) (by kernel_rfl) (by kernel_rfl) (by decide)
abbrev n_laws_eqInt64S : Nat := 15
theorem fn_laws_eqInt64S : FnAt PP 15 (Tryz.f15.body.getD .skip) 26 [.tmp 4] := FnAt.of (fn := Tryz.f15) (by kernel_rfl) (by kernel_rfl) (by kernel_rfl) (by kernel_rfl) (by kernel_rfl) (by decide)
abbrev n_laws_eqTermS : Nat := 16
theorem fn_laws_eqTermS : FnAt PP 16 (Tryz.f16.body.getD .skip) 27 [.tmp 4] := FnAt.of (fn := Tryz.f16) (by kernel_rfl) (by kernel_rfl) (by kernel_rfl) (by kernel_rfl) (by kernel_rfl) (by decide)
abbrev n_laws_markPackS : Nat := 17
theorem fn_laws_markPackS : FnAt PP 17 (Tryz.f17.body.getD .skip) 73 [.tmp 4] := FnAt.of (fn := Tryz.f17) (by kernel_rfl) (by kernel_rfl) (by kernel_rfl) (by kernel_rfl) (by kernel_rfl) (by decide)
abbrev n_laws_markInt64S : Nat := 18
theorem fn_laws_markInt64S : FnAt PP 18 (Tryz.f18.body.getD .skip) 19 [.tmp 4] := FnAt.of (fn := Tryz.f18) (by kernel_rfl) (by kernel_rfl) (by kernel_rfl) (by kernel_rfl) (by kernel_rfl) (by decide)
abbrev n_laws_markTermS : Nat := 19
theorem fn_laws_markTermS : FnAt PP 19 (Tryz.f19.body.getD .skip) 69 [.tmp 4] := FnAt.of (fn := Tryz.f19) (by kernel_rfl) (by kernel_rfl) (by kernel_rfl) (by kernel_rfl) (by kernel_rfl) (by decide)
abbrev n_spec_WhyOf : Nat := 22
theorem fn_spec_WhyOf : FnAt PP 22 (Tryz.f22.body.getD .skip) 42 [.cell 8 45] := FnAt.of (fn := Tryz.f22) (by kernel_rfl) (by kernel_rfl) (by kernel_rfl) (by kernel_rfl) (by kernel_rfl) (by decide)
abbrev n_impl_WhyOf : Nat := 23
theorem fn_impl_WhyOf : FnAt PP 23 (Tryz.f23.body.getD .skip) 40 [.cell 8 45] := FnAt.of (fn := Tryz.f23) (by kernel_rfl) (by kernel_rfl) (by kernel_rfl) (by kernel_rfl) (by kernel_rfl) (by decide)
abbrev n_laws_eqChainResult : Nat := 24
theorem fn_laws_eqChainResult : FnAt PP 24 (Tryz.f24.body.getD .skip) 16 [.tmp 4] := FnAt.of (fn := Tryz.f24) (by kernel_rfl) (by kernel_rfl) (by kernel_rfl) (by kernel_rfl) (by kernel_rfl) (by decide)
abbrev n_laws_markChainResult : Nat := 25
theorem fn_laws_markChainResult : FnAt PP 25 (Tryz.f25.body.getD .skip) 10 [.tmp 4] := FnAt.of (fn := Tryz.f25) (by kernel_rfl) (by kernel_rfl) (by kernel_rfl) (by kernel_rfl) (by kernel_rfl) (by decide)
abbrev n_laws_heldChainResult : Nat := 26
theorem fn_laws_heldChainResult : FnAt PP 26 (Tryz.f26.body.getD .skip) 12 [.tmp 4] := FnAt.of (fn := Tryz.f26) (by kernel_rfl) (by kernel_rfl) (by kernel_rfl) (by kernel_rfl) (by kernel_rfl) (by decide)
abbrev n_spec_SetFault : Nat := 30
theorem fn_spec_SetFault : FnAt PP 30 (Tryz.f30.body.getD .skip) 15 [.tmp 4] := FnAt.of (fn := Tryz.f30) (by kernel_rfl) (by kernel_rfl) (by kernel_rfl) (by kernel_rfl) (by kernel_rfl) (by decide)
abbrev n_laws_szPack : Nat := 33
theorem fn_laws_szPack : FnAt PP 33 (Tryz.f33.body.getD .skip) 31 [.tmp 4] := FnAt.of (fn := Tryz.f33) (by kernel_rfl) (by kernel_rfl) (by kernel_rfl) (by kernel_rfl) (by kernel_rfl) (by decide)
abbrev n_laws_szTerm : Nat := 34
theorem fn_laws_szTerm : FnAt PP 34 (Tryz.f34.body.getD .skip) 13 [.tmp 4] := FnAt.of (fn := Tryz.f34) (by kernel_rfl) (by kernel_rfl) (by kernel_rfl) (by kernel_rfl) (by kernel_rfl) (by decide)
abbrev n_spec_l13Asked : Nat := 35
theorem fn_spec_l13Asked : FnAt PP 35 (Tryz.f35.body.getD .skip) 19 [.tmp 6] := FnAt.of (fn := Tryz.f35) (by kernel_rfl) (by kernel_rfl) (by kernel_rfl) (by kernel_rfl) (by kernel_rfl) (by decide)
abbrev n_spec_l13Far : Nat := 36
theorem fn_spec_l13Far : FnAt PP 36 (Tryz.f36.body.getD .skip) 83 [.tmp 6] := FnAt.of (fn := Tryz.f36) (by kernel_rfl) (by kernel_rfl) (by kernel_rfl) (by kernel_rfl) (by kernel_rfl) (by decide)
abbrev n_laws_toPack : Nat := 37
theorem fn_laws_toPack : FnAt PP 37 (Tryz.f37.body.getD .skip) 27 [.cell 2 62] := FnAt.of (fn := Tryz.f37) (by kernel_rfl) (by kernel_rfl) (by kernel_rfl) (by kernel_rfl) (by kernel_rfl) (by decide)
abbrev n_laws_toTerm : Nat := 38
theorem fn_laws_toTerm : FnAt PP 38 (Tryz.f38.body.getD .skip) 16 [.cell 2 64] := FnAt.of (fn := Tryz.f38) (by kernel_rfl) (by kernel_rfl) (by kernel_rfl) (by kernel_rfl) (by kernel_rfl) (by decide)
abbrev n_impl_asksCode : Nat := 39
theorem fn_impl_asksCode : FnAt PP 39 (Tryz.f39.body.getD .skip) 23 [.tmp 6] := FnAt.of (fn := Tryz.f39) (by kernel_rfl) (by kernel_rfl) (by kernel_rfl) (by kernel_rfl) (by kernel_rfl) (by decide)
abbrev n_impl_ways : Nat := 40
theorem fn_impl_ways : FnAt PP 40 (Tryz.f40.body.getD .skip) 95 [.tmp 6] := FnAt.of (fn := Tryz.f40) (by kernel_rfl) (by kernel_rfl) (by kernel_rfl) (by kernel_rfl) (by kernel_rfl) (by decide)
abbrev n_laws_eqPack : Nat := 43
theorem fn_laws_eqPack : FnAt PP 43 (Tryz.f43.body.getD .skip) 39 [.tmp 4] := FnAt.of (fn := Tryz.f43) (by kernel_rfl) (by kernel_rfl) (by kernel_rfl) (by kernel_rfl) (by kernel_rfl) (by decide)
abbrev n_laws_eqTerm : Nat := 44
theorem fn_laws_eqTerm : FnAt PP 44 (Tryz.f44.body.getD .skip) 22 [.tmp 4] := FnAt.of (fn := Tryz.f44) (by kernel_rfl) (by kernel_rfl) (by kernel_rfl) (by kernel_rfl) (by kernel_rfl) (by decide)
abbrev n_laws_markText : Nat := 45
theorem fn_laws_markText : FnAt PP 45 (Tryz.f45.body.getD .skip) 20 [.tmp 2] := FnAt.of (fn := Tryz.f45) (by kernel_rfl) (by kernel_rfl) (by kernel_rfl) (by kernel_rfl) (by kernel_rfl) (by decide)
abbrev n_laws_markStringS : Nat := 46
theorem fn_laws_markStringS : FnAt PP 46 (Tryz.f46.body.getD .skip) 20 [.tmp 4] := FnAt.of (fn := Tryz.f46) (by kernel_rfl) (by kernel_rfl) (by kernel_rfl) (by kernel_rfl) (by kernel_rfl) (by decide)
abbrev n_laws_markTermSS : Nat := 47
theorem fn_laws_markTermSS : FnAt PP 47 (Tryz.f47.body.getD .skip) 19 [.tmp 4] := FnAt.of (fn := Tryz.f47) (by kernel_rfl) (by kernel_rfl) (by kernel_rfl) (by kernel_rfl) (by kernel_rfl) (by decide)
abbrev n_laws_heldInt64S : Nat := 48
theorem fn_laws_heldInt64S : FnAt PP 48 (Tryz.f48.body.getD .skip) 21 [.tmp 4] := FnAt.of (fn := Tryz.f48) (by kernel_rfl) (by kernel_rfl) (by kernel_rfl) (by kernel_rfl) (by kernel_rfl) (by decide)
abbrev n_spec_l1Has : Nat := 49
theorem fn_spec_l1Has : FnAt PP 49 (Tryz.f49.body.getD .skip) 18 [.tmp 4] := FnAt.of (fn := Tryz.f49) (by kernel_rfl) (by kernel_rfl) (by kernel_rfl) (by kernel_rfl) (by kernel_rfl) (by decide)
abbrev n_spec_l13Place : Nat := 50
theorem fn_spec_l13Place : FnAt PP 50 (Tryz.f50.body.getD .skip) 19 [.tmp 4] := FnAt.of (fn := Tryz.f50) (by kernel_rfl) (by kernel_rfl) (by kernel_rfl) (by kernel_rfl) (by kernel_rfl) (by decide)
abbrev n_spec_l13Way : Nat := 51
theorem fn_spec_l13Way : FnAt PP 51 (Tryz.f51.body.getD .skip) 72 [.tmp 8] := FnAt.of (fn := Tryz.f51) (by kernel_rfl) (by kernel_rfl) (by kernel_rfl) (by kernel_rfl) (by kernel_rfl) (by decide)
abbrev n_slices_Contains_L_int64_int64 : Nat := 52
theorem fn_slices_Contains_L_int64_int64 : FnAt PP 52 (Tryz.f52.body.getD .skip) 9 [.tmp 4] := FnAt.of (fn := Tryz.f52) (by kernel_rfl) (by kernel_rfl) (by kernel_rfl) (by kernel_rfl) (by kernel_rfl) (by decide)
abbrev n_slices_Clone_L_int64_int64 : Nat := 53
theorem fn_slices_Clone_L_int64_int64 : FnAt PP 53 (Tryz.f53.body.getD .skip) 8 [.tmp 2] := FnAt.of (fn := Tryz.f53) (by kernel_rfl) (by kernel_rfl) (by kernel_rfl) (by kernel_rfl) (by kernel_rfl) (by decide)
abbrev n_spec_CatalogFault : Nat := 57
theorem fn_spec_CatalogFault : FnAt PP 57 (Tryz.f57.body.getD .skip) 37 [.tmp 2] := FnAt.of (fn := Tryz.f57) (by kernel_rfl) (by kernel_rfl) (by kernel_rfl) (by kernel_rfl) (by kernel_rfl) (by decide)
abbrev n_spec_l3Set : Nat := 58
theorem fn_spec_l3Set : FnAt PP 58 (Tryz.f58.body.getD .skip) 37 [.tmp 4] := FnAt.of (fn := Tryz.f58) (by kernel_rfl) (by kernel_rfl) (by kernel_rfl) (by kernel_rfl) (by kernel_rfl) (by decide)
abbrev n_impl_PackFault : Nat := 59
theorem fn_impl_PackFault : FnAt PP 59 (Tryz.f59.body.getD .skip) 93 [.tmp 2] := FnAt.of (fn := Tryz.f59) (by kernel_rfl) (by kernel_rfl) (by kernel_rfl) (by kernel_rfl) (by kernel_rfl) (by decide)
abbrev n_impl_TermFault : Nat := 60
theorem fn_impl_TermFault : FnAt PP 60 (Tryz.f60.body.getD .skip) 35 [.tmp 2] := FnAt.of (fn := Tryz.f60) (by kernel_rfl) (by kernel_rfl) (by kernel_rfl) (by kernel_rfl) (by kernel_rfl) (by decide)
abbrev n_impl_Pack_gives : Nat := 61
theorem fn_impl_Pack_gives : FnAt PP 61 (Tryz.f61.body.getD .skip) 9 [.tmp 4] := FnAt.of (fn := Tryz.f61) (by kernel_rfl) (by kernel_rfl) (by kernel_rfl) (by kernel_rfl) (by kernel_rfl) (by decide)
abbrev n_impl_SetFault : Nat := 62
theorem fn_impl_SetFault : FnAt PP 62 (Tryz.f62.body.getD .skip) 32 [.tmp 4] := FnAt.of (fn := Tryz.f62) (by kernel_rfl) (by kernel_rfl) (by kernel_rfl) (by kernel_rfl) (by kernel_rfl) (by decide)
abbrev n_impl_leans : Nat := 64
theorem fn_impl_leans : FnAt PP 64 (Tryz.f64.body.getD .skip) 23 [.tmp 6] := FnAt.of (fn := Tryz.f64) (by kernel_rfl) (by kernel_rfl) (by kernel_rfl) (by kernel_rfl) (by kernel_rfl) (by decide)
abbrev n_laws_szStringS : Nat := 65
theorem fn_laws_szStringS : FnAt PP 65 (Tryz.f65.body.getD .skip) 28 [.tmp 4] := FnAt.of (fn := Tryz.f65) (by kernel_rfl) (by kernel_rfl) (by kernel_rfl) (by kernel_rfl) (by kernel_rfl) (by decide)
abbrev n_laws_szTermSS : Nat := 66
theorem fn_laws_szTermSS : FnAt PP 66 (Tryz.f66.body.getD .skip) 27 [.tmp 4] := FnAt.of (fn := Tryz.f66) (by kernel_rfl) (by kernel_rfl) (by kernel_rfl) (by kernel_rfl) (by kernel_rfl) (by decide)
abbrev n_spec_l2Terms : Nat := 67
theorem fn_spec_l2Terms : FnAt PP 67 (Tryz.f67.body.getD .skip) 19 [.tmp 2] := FnAt.of (fn := Tryz.f67) (by kernel_rfl) (by kernel_rfl) (by kernel_rfl) (by kernel_rfl) (by kernel_rfl) (by decide)
abbrev n_spec_l13Asks : Nat := 68
theorem fn_spec_l13Asks : FnAt PP 68 (Tryz.f68.body.getD .skip) 23 [.tmp 6] := FnAt.of (fn := Tryz.f68) (by kernel_rfl) (by kernel_rfl) (by kernel_rfl) (by kernel_rfl) (by kernel_rfl) (by decide)
abbrev n_spec_l13Leans : Nat := 69
theorem fn_spec_l13Leans : FnAt PP 69 (Tryz.f69.body.getD .skip) 45 [.tmp 6] := FnAt.of (fn := Tryz.f69) (by kernel_rfl) (by kernel_rfl) (by kernel_rfl) (by kernel_rfl) (by kernel_rfl) (by decide)
abbrev n_laws_toVersion : Nat := 70
theorem fn_laws_toVersion : FnAt PP 70 (Tryz.f70.body.getD .skip) 14 [.cell 2 58] := FnAt.of (fn := Tryz.f70) (by kernel_rfl) (by kernel_rfl) (by kernel_rfl) (by kernel_rfl) (by kernel_rfl) (by decide)
abbrev n_laws_toStringS : Nat := 71
theorem fn_laws_toStringS : FnAt PP 71 (Tryz.f71.body.getD .skip) 22 [.tmp 2] := FnAt.of (fn := Tryz.f71) (by kernel_rfl) (by kernel_rfl) (by kernel_rfl) (by kernel_rfl) (by kernel_rfl) (by decide)
abbrev n_laws_toTermSS : Nat := 72
theorem fn_laws_toTermSS : FnAt PP 72 (Tryz.f72.body.getD .skip) 23 [.tmp 2] := FnAt.of (fn := Tryz.f72) (by kernel_rfl) (by kernel_rfl) (by kernel_rfl) (by kernel_rfl) (by kernel_rfl) (by decide)
abbrev n_impl_termsFault : Nat := 73
theorem fn_impl_termsFault : FnAt PP 73 (Tryz.f73.body.getD .skip) 18 [.tmp 2] := FnAt.of (fn := Tryz.f73) (by kernel_rfl) (by kernel_rfl) (by kernel_rfl) (by kernel_rfl) (by kernel_rfl) (by decide)
abbrev n_impl_Pack_givesOne : Nat := 74
theorem fn_impl_Pack_givesOne : FnAt PP 74 (Tryz.f74.body.getD .skip) 9 [.tmp 4] := FnAt.of (fn := Tryz.f74) (by kernel_rfl) (by kernel_rfl) (by kernel_rfl) (by kernel_rfl) (by kernel_rfl) (by decide)
abbrev n_laws_eqVersion : Nat := 77
theorem fn_laws_eqVersion : FnAt PP 77 (Tryz.f77.body.getD .skip) 20 [.tmp 4] := FnAt.of (fn := Tryz.f77) (by kernel_rfl) (by kernel_rfl) (by kernel_rfl) (by kernel_rfl) (by kernel_rfl) (by decide)
abbrev n_laws_eqStringS : Nat := 78
theorem fn_laws_eqStringS : FnAt PP 78 (Tryz.f78.body.getD .skip) 26 [.tmp 4] := FnAt.of (fn := Tryz.f78) (by kernel_rfl) (by kernel_rfl) (by kernel_rfl) (by kernel_rfl) (by kernel_rfl) (by decide)
abbrev n_laws_eqTermSS : Nat := 79
theorem fn_laws_eqTermSS : FnAt PP 79 (Tryz.f79.body.getD .skip) 27 [.tmp 4] := FnAt.of (fn := Tryz.f79) (by kernel_rfl) (by kernel_rfl) (by kernel_rfl) (by kernel_rfl) (by kernel_rfl) (by decide)
abbrev n_spec_l13Less : Nat := 80
theorem fn_spec_l13Less : FnAt PP 80 (Tryz.f80.body.getD .skip) 30 [.tmp 4] := FnAt.of (fn := Tryz.f80) (by kernel_rfl) (by kernel_rfl) (by kernel_rfl) (by kernel_rfl) (by kernel_rfl) (by decide)
abbrev n_slices_Index_L_int64_int64 : Nat := 81
theorem fn_slices_Index_L_int64_int64 : FnAt PP 81 (Tryz.f81.body.getD .skip) 19 [.tmp 4] := FnAt.of (fn := Tryz.f81) (by kernel_rfl) (by kernel_rfl) (by kernel_rfl) (by kernel_rfl) (by kernel_rfl) (by decide)
abbrev n_spec_PackFault : Nat := 90
theorem fn_spec_PackFault : FnAt PP 90 (Tryz.f90.body.getD .skip) 118 [.tmp 2] := FnAt.of (fn := Tryz.f90) (by kernel_rfl) (by kernel_rfl) (by kernel_rfl) (by kernel_rfl) (by kernel_rfl) (by decide)
abbrev n_spec_l2Find : Nat := 91
theorem fn_spec_l2Find : FnAt PP 91 (Tryz.f91.body.getD .skip) 32 [.tmp 6] := FnAt.of (fn := Tryz.f91) (by kernel_rfl) (by kernel_rfl) (by kernel_rfl) (by kernel_rfl) (by kernel_rfl) (by decide)
abbrev n_spec_l1In : Nat := 92
theorem fn_spec_l1In : FnAt PP 92 (Tryz.f92.body.getD .skip) 15 [.tmp 6] := FnAt.of (fn := Tryz.f92) (by kernel_rfl) (by kernel_rfl) (by kernel_rfl) (by kernel_rfl) (by kernel_rfl) (by decide)
abbrev n_impl_firstCode : Nat := 93
theorem fn_impl_firstCode : FnAt PP 93 (Tryz.f93.body.getD .skip) 15 [.tmp 2] := FnAt.of (fn := Tryz.f93) (by kernel_rfl) (by kernel_rfl) (by kernel_rfl) (by kernel_rfl) (by kernel_rfl) (by decide)
abbrev n_impl_NameFault : Nat := 94
theorem fn_impl_NameFault : FnAt PP 94 (Tryz.f94.body.getD .skip) 33 [.tmp 2] := FnAt.of (fn := Tryz.f94) (by kernel_rfl) (by kernel_rfl) (by kernel_rfl) (by kernel_rfl) (by kernel_rfl) (by decide)
abbrev n_impl_VersionFault : Nat := 95
theorem fn_impl_VersionFault : FnAt PP 95 (Tryz.f95.body.getD .skip) 19 [.tmp 2] := FnAt.of (fn := Tryz.f95) (by kernel_rfl) (by kernel_rfl) (by kernel_rfl) (by kernel_rfl) (by kernel_rfl) (by decide)
abbrev n_impl_within : Nat := 96
theorem fn_impl_within : FnAt PP 96 (Tryz.f96.body.getD .skip) 15 [.tmp 6] := FnAt.of (fn := Tryz.f96) (by kernel_rfl) (by kernel_rfl) (by kernel_rfl) (by kernel_rfl) (by kernel_rfl) (by decide)
abbrev n_slices_ContainsFunc_L_L_impl_Term_L_impl_Term : Nat := 97
theorem fn_slices_ContainsFunc_L_L_impl_Term_L_impl_Term : FnAt PP 97 (Tryz.f97.body.getD .skip) 9 [.tmp 4] := FnAt.of (fn := Tryz.f97) (by kernel_rfl) (by kernel_rfl) (by kernel_rfl) (by kernel_rfl) (by kernel_rfl) (by decide)
abbrev n_impl_PackFault_1 : Nat := 98
theorem fn_impl_PackFault_1 : FnAt PP 98 (Tryz.f98.body.getD .skip) 6 [.tmp 2] := FnAt.of (fn := Tryz.f98) (by kernel_rfl) (by kernel_rfl) (by kernel_rfl) (by kernel_rfl) (by kernel_rfl) (by decide)
abbrev n_slices_Contains_L_string_string : Nat := 99
theorem fn_slices_Contains_L_string_string : FnAt PP 99 (Tryz.f99.body.getD .skip) 9 [.tmp 4] := FnAt.of (fn := Tryz.f99) (by kernel_rfl) (by kernel_rfl) (by kernel_rfl) (by kernel_rfl) (by kernel_rfl) (by decide)
abbrev n_impl_top : Nat := 100
theorem fn_impl_top : FnAt PP 100 (Tryz.f100.body.getD .skip) 2 [.cell 0 58] := FnAt.of (fn := Tryz.f100) (by kernel_rfl) (by kernel_rfl) (by kernel_rfl) (by kernel_rfl) (by kernel_rfl) (by decide)
abbrev n_impl_compare : Nat := 101
theorem fn_impl_compare : FnAt PP 101 (Tryz.f101.body.getD .skip) 22 [.tmp 4] := FnAt.of (fn := Tryz.f101) (by kernel_rfl) (by kernel_rfl) (by kernel_rfl) (by kernel_rfl) (by kernel_rfl) (by decide)
abbrev n_slices_ContainsFunc_L_string_string : Nat := 102
theorem fn_slices_ContainsFunc_L_string_string : FnAt PP 102 (Tryz.f102.body.getD .skip) 9 [.tmp 4] := FnAt.of (fn := Tryz.f102) (by kernel_rfl) (by kernel_rfl) (by kernel_rfl) (by kernel_rfl) (by kernel_rfl) (by decide)
abbrev n_impl_Pack_names : Nat := 103
theorem fn_impl_Pack_names : FnAt PP 103 (Tryz.f103.body.getD .skip) 9 [.tmp 2] := FnAt.of (fn := Tryz.f103) (by kernel_rfl) (by kernel_rfl) (by kernel_rfl) (by kernel_rfl) (by kernel_rfl) (by decide)
abbrev n_impl_Pack_gives_1 : Nat := 104
theorem fn_impl_Pack_gives_1 : FnAt PP 104 (Tryz.f104.body.getD .skip) 10 [.tmp 4] := FnAt.of (fn := Tryz.f104) (by kernel_rfl) (by kernel_rfl) (by kernel_rfl) (by kernel_rfl) (by kernel_rfl) (by decide)
abbrev n_impl_Term_has : Nat := 105
theorem fn_impl_Term_has : FnAt PP 105 (Tryz.f105.body.getD .skip) 25 [.tmp 6] := FnAt.of (fn := Tryz.f105) (by kernel_rfl) (by kernel_rfl) (by kernel_rfl) (by kernel_rfl) (by kernel_rfl) (by decide)
abbrev n_impl_CatalogFault : Nat := 106
theorem fn_impl_CatalogFault : FnAt PP 106 (Tryz.f106.body.getD .skip) 31 [.tmp 2] := FnAt.of (fn := Tryz.f106) (by kernel_rfl) (by kernel_rfl) (by kernel_rfl) (by kernel_rfl) (by kernel_rfl) (by decide)
abbrev n_impl_arePlaces : Nat := 107
theorem fn_impl_arePlaces : FnAt PP 107 (Tryz.f107.body.getD .skip) 9 [.tmp 4] := FnAt.of (fn := Tryz.f107) (by kernel_rfl) (by kernel_rfl) (by kernel_rfl) (by kernel_rfl) (by kernel_rfl) (by decide)
abbrev n_spec_TermFault : Nat := 108
theorem fn_spec_TermFault : FnAt PP 108 (Tryz.f108.body.getD .skip) 33 [.tmp 2] := FnAt.of (fn := Tryz.f108) (by kernel_rfl) (by kernel_rfl) (by kernel_rfl) (by kernel_rfl) (by kernel_rfl) (by decide)
abbrev n_spec_l2Gives : Nat := 109
theorem fn_spec_l2Gives : FnAt PP 109 (Tryz.f109.body.getD .skip) 25 [.tmp 4] := FnAt.of (fn := Tryz.f109) (by kernel_rfl) (by kernel_rfl) (by kernel_rfl) (by kernel_rfl) (by kernel_rfl) (by decide)
abbrev n_slices_ContainsFunc_L_impl_Term_impl_Term : Nat := 110
theorem fn_slices_ContainsFunc_L_impl_Term_impl_Term : FnAt PP 110 (Tryz.f110.body.getD .skip) 9 [.tmp 4] := FnAt.of (fn := Tryz.f110) (by kernel_rfl) (by kernel_rfl) (by kernel_rfl) (by kernel_rfl) (by kernel_rfl) (by decide)
abbrev n_slices_IndexFunc_L_int64_int64 : Nat := 111
theorem fn_slices_IndexFunc_L_int64_int64 : FnAt PP 111 (Tryz.f111.body.getD .skip) 19 [.tmp 4] := FnAt.of (fn := Tryz.f111) (by kernel_rfl) (by kernel_rfl) (by kernel_rfl) (by kernel_rfl) (by kernel_rfl) (by decide)
abbrev n_spec_NameFault : Nat := 122
theorem fn_spec_NameFault : FnAt PP 122 (Tryz.f122.body.getD .skip) 29 [.tmp 2] := FnAt.of (fn := Tryz.f122) (by kernel_rfl) (by kernel_rfl) (by kernel_rfl) (by kernel_rfl) (by kernel_rfl) (by decide)
abbrev n_spec_VersionFault : Nat := 123
theorem fn_spec_VersionFault : FnAt PP 123 (Tryz.f123.body.getD .skip) 19 [.tmp 2] := FnAt.of (fn := Tryz.f123) (by kernel_rfl) (by kernel_rfl) (by kernel_rfl) (by kernel_rfl) (by kernel_rfl) (by decide)
abbrev n_spec_l2Holds : Nat := 124
theorem fn_spec_l2Holds : FnAt PP 124 (Tryz.f124.body.getD .skip) 18 [.tmp 4] := FnAt.of (fn := Tryz.f124) (by kernel_rfl) (by kernel_rfl) (by kernel_rfl) (by kernel_rfl) (by kernel_rfl) (by decide)
abbrev n_spec_CompareVersions : Nat := 125
theorem fn_spec_CompareVersions : FnAt PP 125 (Tryz.f125.body.getD .skip) 28 [.tmp 4] := FnAt.of (fn := Tryz.f125) (by kernel_rfl) (by kernel_rfl) (by kernel_rfl) (by kernel_rfl) (by kernel_rfl) (by decide)
abbrev n_impl_isNameByte : Nat := 126
theorem fn_impl_isNameByte : FnAt PP 126 (Tryz.f126.body.getD .skip) 21 [.tmp 2] := FnAt.of (fn := Tryz.f126) (by kernel_rfl) (by kernel_rfl) (by kernel_rfl) (by kernel_rfl) (by kernel_rfl) (by decide)
abbrev n_slices_IndexFunc_L_L_impl_Term_L_impl_Term : Nat := 127
theorem fn_slices_IndexFunc_L_L_impl_Term_L_impl_Term : FnAt PP 127 (Tryz.f127.body.getD .skip) 19 [.tmp 4] := FnAt.of (fn := Tryz.f127) (by kernel_rfl) (by kernel_rfl) (by kernel_rfl) (by kernel_rfl) (by kernel_rfl) (by decide)
abbrev n_slices_Index_L_string_string : Nat := 128
theorem fn_slices_Index_L_string_string : FnAt PP 128 (Tryz.f128.body.getD .skip) 19 [.tmp 4] := FnAt.of (fn := Tryz.f128) (by kernel_rfl) (by kernel_rfl) (by kernel_rfl) (by kernel_rfl) (by kernel_rfl) (by decide)
abbrev n_cmp_Or_int : Nat := 129
theorem fn_cmp_Or_int : FnAt PP 129 (Tryz.f129.body.getD .skip) 18 [.tmp 2] := FnAt.of (fn := Tryz.f129) (by kernel_rfl) (by kernel_rfl) (by kernel_rfl) (by kernel_rfl) (by kernel_rfl) (by decide)
abbrev n_cmp_Compare_int64 : Nat := 130
theorem fn_cmp_Compare_int64 : FnAt PP 130 (Tryz.f130.body.getD .skip) 20 [.tmp 4] := FnAt.of (fn := Tryz.f130) (by kernel_rfl) (by kernel_rfl) (by kernel_rfl) (by kernel_rfl) (by kernel_rfl) (by decide)
abbrev n_slices_IndexFunc_L_string_string : Nat := 131
theorem fn_slices_IndexFunc_L_string_string : FnAt PP 131 (Tryz.f131.body.getD .skip) 19 [.tmp 4] := FnAt.of (fn := Tryz.f131) (by kernel_rfl) (by kernel_rfl) (by kernel_rfl) (by kernel_rfl) (by kernel_rfl) (by decide)
abbrev n_impl_find : Nat := 132
theorem fn_impl_find : FnAt PP 132 (Tryz.f132.body.getD .skip) 10 [.tmp 6] := FnAt.of (fn := Tryz.f132) (by kernel_rfl) (by kernel_rfl) (by kernel_rfl) (by kernel_rfl) (by kernel_rfl) (by decide)
abbrev n_slices_ContainsFunc_L_int64_int64 : Nat := 133
theorem fn_slices_ContainsFunc_L_int64_int64 : FnAt PP 133 (Tryz.f133.body.getD .skip) 9 [.tmp 4] := FnAt.of (fn := Tryz.f133) (by kernel_rfl) (by kernel_rfl) (by kernel_rfl) (by kernel_rfl) (by kernel_rfl) (by decide)
abbrev n_impl_arePlaces_1 : Nat := 134
theorem fn_impl_arePlaces_1 : FnAt PP 134 (Tryz.f134.body.getD .skip) 10 [.tmp 3] := FnAt.of (fn := Tryz.f134) (by kernel_rfl) (by kernel_rfl) (by kernel_rfl) (by kernel_rfl) (by kernel_rfl) (by decide)
abbrev n_spec_l1Top : Nat := 135
theorem fn_spec_l1Top : FnAt PP 135 (Tryz.f135.body.getD .skip) 2 [.cell 0 58] := FnAt.of (fn := Tryz.f135) (by kernel_rfl) (by kernel_rfl) (by kernel_rfl) (by kernel_rfl) (by kernel_rfl) (by decide)
abbrev n_spec_l1InTerm : Nat := 136
theorem fn_spec_l1InTerm : FnAt PP 136 (Tryz.f136.body.getD .skip) 25 [.tmp 6] := FnAt.of (fn := Tryz.f136) (by kernel_rfl) (by kernel_rfl) (by kernel_rfl) (by kernel_rfl) (by kernel_rfl) (by decide)
abbrev n_slices_IndexFunc_L_impl_Term_impl_Term : Nat := 137
theorem fn_slices_IndexFunc_L_impl_Term_impl_Term : FnAt PP 137 (Tryz.f137.body.getD .skip) 19 [.tmp 4] := FnAt.of (fn := Tryz.f137) (by kernel_rfl) (by kernel_rfl) (by kernel_rfl) (by kernel_rfl) (by kernel_rfl) (by decide)
abbrev n_spec_l1Letter : Nat := 147
theorem fn_spec_l1Letter : FnAt PP 147 (Tryz.f147.body.getD .skip) 9 [.tmp 2] := FnAt.of (fn := Tryz.f147) (by kernel_rfl) (by kernel_rfl) (by kernel_rfl) (by kernel_rfl) (by kernel_rfl) (by decide)
abbrev n_spec_l1Name : Nat := 148
theorem fn_spec_l1Name : FnAt PP 148 (Tryz.f148.body.getD .skip) 13 [.tmp 2] := FnAt.of (fn := Tryz.f148) (by kernel_rfl) (by kernel_rfl) (by kernel_rfl) (by kernel_rfl) (by kernel_rfl) (by decide)
abbrev n_spec_l1Sign : Nat := 149
theorem fn_spec_l1Sign : FnAt PP 149 (Tryz.f149.body.getD .skip) 11 [.tmp 4] := FnAt.of (fn := Tryz.f149) (by kernel_rfl) (by kernel_rfl) (by kernel_rfl) (by kernel_rfl) (by kernel_rfl) (by decide)
abbrev n_cmp_isNaN_int64 : Nat := 150
theorem fn_cmp_isNaN_int64 : FnAt PP 150 (Tryz.f150.body.getD .skip) 6 [.tmp 2] := FnAt.of (fn := Tryz.f150) (by kernel_rfl) (by kernel_rfl) (by kernel_rfl) (by kernel_rfl) (by kernel_rfl) (by decide)
abbrev n_slices_IndexFunc_L_impl_Pack_impl_Pack : Nat := 151
theorem fn_slices_IndexFunc_L_impl_Pack_impl_Pack : FnAt PP 151 (Tryz.f151.body.getD .skip) 19 [.tmp 4] := FnAt.of (fn := Tryz.f151) (by kernel_rfl) (by kernel_rfl) (by kernel_rfl) (by kernel_rfl) (by kernel_rfl) (by decide)
abbrev n_impl_find_1 : Nat := 152
theorem fn_impl_find_1 : FnAt PP 152 (Tryz.f152.body.getD .skip) 15 [.tmp 4] := FnAt.of (fn := Tryz.f152) (by kernel_rfl) (by kernel_rfl) (by kernel_rfl) (by kernel_rfl) (by kernel_rfl) (by decide)
abbrev n_spec_l1Digit : Nat := 154
theorem fn_spec_l1Digit : FnAt PP 154 (Tryz.f154.body.getD .skip) 9 [.tmp 2] := FnAt.of (fn := Tryz.f154) (by kernel_rfl) (by kernel_rfl) (by kernel_rfl) (by kernel_rfl) (by kernel_rfl) (by decide)
end Go.Proofs.YtomfmdfamlmfiaaGreat

/- The program's data as plain data, and how memory tells of them. Definitions. -/
set_option linter.unusedVariables false
namespace Go.Proofs.YtomfmdfamlmfiaaGreat
open Go Go.Fw
def i64 (x : Int) : A := .sc (.int .i64 x)
def boo (x : Bool) : A := .sc (.bool x)
def str (x : List UInt8) : A := .sc (.string (mkS x))
structure Ver where
  a : Int
  b : Int
  c : Int
  deriving DecidableEq
def Ver.cells (v : Ver) : List A := [i64 v.a, i64 v.b, i64 v.c]
def Ver.enc (v : Ver) : A := .agg v.cells
def Ver.zero : Ver := ⟨0, 0, 0⟩
/-! Sizes. -/
def szLoop {α : Type} (f : α → Int → Int) : List α → Int → Int
  | [], l => l
  | c :: cs, l => if f c l < 0 then -1 else szLoop f cs (f c l)
def szS {α : Type} (f : α → Int → Int) (cs : List α) (l : Int) : Int := if l - cs.length < 0 then -1 else szLoop f cs (l - cs.length)
theorem szw {n : Nat} {l : Int} (h0 : 0 ≤ l) (h1 : l ≤ 1048576) (hm : n ≤ maxLen) : IntKind.i64.wrap (l - n) = l - n := by
  simp only [maxLen] at hm
  exact wrap64 (by omega) (by omega)
theorem inc64 {n : Nat} (h : n < 9223372036854775807) : IntKind.i64.wrap ((n : Int) + 1) = ((n + 1 : Nat) : Int) := by rw [wrap64 (by omega) (by omega)]; omega
theorem szLoop_at {α : Type} (f : α → Int → Int) {cs : List α} {i : Nat} {c : α} (h : cs[i]? = some c) (l : Int) : szLoop f (cs.drop i) l = if f c l < 0 then -1 else szLoop f (cs.drop (i + 1)) (f c l) := by
  obtain ⟨h1, h2⟩ := List.getElem?_eq_some_iff.1 h
  rw [List.drop_eq_getElem_cons h1, h2, szLoop]

/-! Steps that all loops have. -/
section
variable {Ω : Opq}
theorem ltI (hΩ : Ω = std) {i : Nat} {xs : List A} (h : Ω.cmp .lss (Ω.int i) (Ω.int (Ω.len xs)) = true) : i < xs.length := by
  subst hΩ
  have h : (i : Int) < xs.length := lt_t h
  omega
theorem geI (hΩ : Ω = std) {i : Nat} {xs : List A} (h : Ω.cmp .lss (Ω.int i) (Ω.int (Ω.len xs)) = false) : xs.length ≤ i := by
  subst hΩ
  have h : (xs.length : Int) ≤ i := lt_f h
  omega
theorem ltN (hΩ : Ω = std) {i n : Nat} (h : Ω.cmp .lss (Ω.int i) (Ω.int n) = true) : i < n := by
  subst hΩ
  have h : (i : Int) < n := lt_t h
  omega
theorem geN (hΩ : Ω = std) {i n : Nat} (h : Ω.cmp .lss (Ω.int i) (Ω.int n) = false) : n ≤ i := by
  subst hΩ
  have h : (n : Int) ≤ i := lt_f h
  omega
theorem nnI (hΩ : Ω = std) {i : Nat} : 0 ≤ Ω.int i := by subst hΩ; exact Int.natCast_nonneg i
theorem rdI (hΩ : Ω = std) {α : Type} {f : α → A} {cs : List α} {xs : List A} {i : Nat} {c : α} (hxs : xs = cs.map f) (hc : cs[i]? = some c) : xs[(Ω.int i).toNat]? = some (f c) := by
  subst hΩ
  show xs[i]? = _
  rw [hxs, List.getElem?_map, hc]; rfl
theorem incI (hΩ : Ω = std) {i : Nat} (h : i < 9223372036854775807) : i64 (Ω.ar .add .i64 (Ω.int i) 1) = i64 (Ω.int (i + 1)) := by subst hΩ; exact congrArg i64 (inc64 h)
theorem zeroI (hΩ : Ω = std) : i64 0 = i64 (Ω.int 0) := by subst hΩ; rfl
theorem notT (hΩ : Ω = std) (h : Ω.not true = true) : False := by subst hΩ; cases (show (!true) = true from h)
theorem ne_self (hΩ : Ω = std) {x : Int} (h : Ω.cmp .neq x x = true) : False := by subst hΩ; exact ne_t h rfl
theorem sne_self (hΩ : Ω = std) {x : List UInt8} (h : Ω.cmpS .neq x x = true) : False := by subst hΩ; exact sne_t h rfl
end
theorem eqI_t {Ω : Opq} (hΩ : Ω = std) {x y : Int} (h : Ω.cmp .eql x y = true) : x = y := by subst hΩ; exact eq_t h
theorem eqI_f {Ω : Opq} (hΩ : Ω = std) {x y : Int} (h : Ω.cmp .eql x y = false) : x ≠ y := by subst hΩ; exact eq_f h
theorem neI_t {Ω : Opq} (hΩ : Ω = std) {x y : Int} (h : Ω.cmp .neq x y = true) : x ≠ y := by subst hΩ; exact ne_t h
theorem neI_f {Ω : Opq} (hΩ : Ω = std) {x y : Int} (h : Ω.cmp .neq x y = false) : x = y := by subst hΩ; exact ne_f h
theorem geI_t {Ω : Opq} (hΩ : Ω = std) {x y : Int} (h : Ω.cmp .geq x y = true) : y ≤ x := by subst hΩ; exact ge_t h
theorem geI_f {Ω : Opq} (hΩ : Ω = std) {x y : Int} (h : Ω.cmp .geq x y = false) : x < y := by subst hΩ; exact ge_f h
theorem leI_t {Ω : Opq} (hΩ : Ω = std) {x y : Int} (h : Ω.cmp .leq x y = true) : x ≤ y := by subst hΩ; exact le_t h
theorem leI_f {Ω : Opq} (hΩ : Ω = std) {x y : Int} (h : Ω.cmp .leq x y = false) : y < x := by subst hΩ; exact le_f h
theorem ltI_t {Ω : Opq} (hΩ : Ω = std) {x y : Int} (h : Ω.cmp .lss x y = true) : x < y := by subst hΩ; exact lt_t h
theorem ltI_f {Ω : Opq} (hΩ : Ω = std) {x y : Int} (h : Ω.cmp .lss x y = false) : y ≤ x := by subst hΩ; exact lt_f h
theorem gtI_t {Ω : Opq} (hΩ : Ω = std) {x y : Int} (h : Ω.cmp .gtr x y = true) : y < x := by subst hΩ; exact gt_t h
theorem gtI_f {Ω : Opq} (hΩ : Ω = std) {x y : Int} (h : Ω.cmp .gtr x y = false) : x ≤ y := by subst hΩ; exact gt_f h
theorem ixI {Ω : Opq} (hΩ : Ω = std) {i n : Nat} (h : i < n) : 0 ≤ Ω.int i ∧ Ω.int i < (n : Int) := by subst hΩ; exact ⟨Int.natCast_nonneg i, Int.ofNat_lt.2 h⟩
theorem atI {Ω : Opq} (hΩ : Ω = std) {i : Nat} {xs : List A} {z : A} (h : xs[i]? = some z) : xs[Ω.plus 0 (Ω.nat (Ω.int i))]? = some z := by
  subst hΩ; show xs[0 + i]? = _; rw [Nat.zero_add]; exact h
theorem setI {Ω : Opq} (hΩ : Ω = std) {i : Nat} {xs : List A} {z : A} (h : i < xs.length) : (Ω.set xs (Ω.plus 0 (Ω.nat (Ω.int i))) z)[Ω.plus 0 (Ω.nat (Ω.int i))]? = some z := by
  subst hΩ; show (xs.set (0 + i) z)[0 + i]? = _; rw [Nat.zero_add]; simp [h]
theorem setI_length {Ω : Opq} (hΩ : Ω = std) {i : Nat} {xs : List A} {z : A} : (Ω.set xs i z).length = xs.length := by subst hΩ; exact List.length_set
theorem setI_lt {Ω : Opq} (hΩ : Ω = std) {i j : Nat} {xs : List A} {z : A} (h : i < xs.length) : i < (Ω.set xs j z).length := by rw [setI_length hΩ]; exact h
theorem at_of {α : Type} {cs : List α} {i : Nat} (h : i < cs.length) : ∃ c, cs[i]? = some c := ⟨_, List.getElem?_eq_getElem h⟩
theorem hmo : PP.follows .mixedOrders = true := by kernel_rfl
end Go.Proofs.YtomfmdfamlmfiaaGreat

/- Packages, terms, and what the program's functions say of them, as plain functions. Definitions and plain theorems. -/
set_option linter.unusedVariables false
set_option linter.unusedSimpArgs false
namespace Go.Proofs.YtomfmdfamlmfiaaGreat
open Go Go.Fw
structure Trm where
  n : List UInt8
  l : Ver
  h : Ver
  deriving DecidableEq
def Trm.cells (t : Trm) : List A := [str t.n, i64 t.l.a, i64 t.l.b, i64 t.l.c, i64 t.h.a, i64 t.h.b, i64 t.h.c]
def Trm.enc (t : Trm) : A := .agg t.cells
def Trm.zero : Trm := ⟨[], Ver.zero, Ver.zero⟩
structure Pck where
  n : List UInt8
  v : Ver
  s : Int
  p : List (List UInt8)
  d : List (List Trm)
  b : List Trm
  deriving DecidableEq
def encTs (o : Bool) (l : List Trm) : A := .sl o 7 (l.map Trm.enc)
def Pck.cells (o : Bool) (p : Pck) : List A := [str p.n, i64 p.v.a, i64 p.v.b, i64 p.v.c, i64 p.s, .sl o 1 (p.p.map str), .sl o 1 (p.d.map (encTs o)), .sl o 7 (p.b.map Trm.enc)]
def Pck.enc (o : Bool) (p : Pck) : A := .agg (p.cells o)

/-! What the program's functions say. -/
def letterB (c : UInt8) : Bool := decide (97 ≤ (c.toNat : Int)) && decide ((c.toNat : Int) ≤ 122)
def digitB (c : UInt8) : Bool := decide (48 ≤ (c.toNat : Int)) && decide ((c.toNat : Int) ≤ 57)
def nameB (c : UInt8) : Bool := letterB c || (digitB c || decide ((c.toNat : Int) = 95))
def allCode {α : Type} (p : α → Bool) (k : Int) : List α → Int
  | [] => 0
  | x :: xs => if p x then allCode p k xs else k
def nameF (n : List UInt8) : Int := if (n.length : Int) < 1 then 5 else if (12 : Int) < n.length then 5 else if letterB (n.headD 0) then allCode nameB 5 n else 5
def inB (v l u : Int) : Bool := decide (l ≤ v) && decide (v ≤ u)
def verF (v : Ver) : Int := if inB v.a 0 999 && (inB v.b 0 999 && inB v.c 0 999) then 0 else 3
def sgn (a b : Int) : Int := if a < b then -1 else if b < a then 1 else 0
def cmpV (a b : Ver) : Int := if sgn a.a b.a ≠ 0 then sgn a.a b.a else if sgn a.b b.b ≠ 0 then sgn a.b b.b else sgn a.c b.c
def topV : Ver := ⟨1000, 0, 0⟩
def trmF (t : Trm) : Int :=
  if nameF t.n ≠ 0 then nameF t.n else if verF t.l ≠ 0 then verF t.l else if t.h ≠ topV ∧ verF t.h ≠ 0 then 3 else if 0 ≤ cmpV t.l t.h then 1 else 0
def hasB (t : Trm) (n : List UInt8) (v : Ver) : Bool := (t.n == n) && (decide (cmpV t.l v ≤ 0) && decide (cmpV v t.h < 0))
/-- The first fault of all. -/
def firstF {α : Type} (f : α → Int) : List α → Int
  | [] => 0
  | x :: xs => if f x ≠ 0 then f x else firstF f xs
theorem sgn_zero {a b : Int} : sgn a b = 0 ↔ a = b := by
  unfold sgn
  split
  · omega
  · split <;> omega
theorem cmpV_zero {a b : Ver} : cmpV a b = 0 ↔ a = b := by
  obtain ⟨x, y, z⟩ := a
  obtain ⟨x', y', z'⟩ := b
  have h1 := @sgn_zero x x'
  have h2 := @sgn_zero y y'
  have h3 := @sgn_zero z z'
  rw [Ver.mk.injEq, ← h1, ← h2, ← h3]
  unfold cmpV
  dsimp only
  generalize sgn x x' = p
  generalize sgn y y' = q
  generalize sgn z z' = r
  repeat' split
  all_goals omega
theorem sgn_swap (a b : Int) : sgn a b = - sgn b a := by
  unfold sgn
  repeat' split
  all_goals omega
theorem cmpV_swap (a b : Ver) : cmpV a b = - cmpV b a := by
  unfold cmpV
  rw [sgn_swap a.a b.a, sgn_swap a.b b.b, sgn_swap a.c b.c]
  generalize sgn b.a a.a = p
  generalize sgn b.b a.b = q
  generalize sgn b.c a.c = r
  repeat' split
  all_goals omega
theorem firstF_at {α : Type} (f : α → Int) {cs : List α} {i : Nat} {c : α} (h : cs[i]? = some c) : firstF f (cs.drop i) = if f c ≠ 0 then f c else firstF f (cs.drop (i + 1)) := by
  obtain ⟨h1, h2⟩ := List.getElem?_eq_some_iff.1 h
  rw [List.drop_eq_getElem_cons h1, h2, firstF]
theorem allCode_at {α : Type} (p : α → Bool) (k : Int) {cs : List α} {i : Nat} {c : α} (h : cs[i]? = some c) : allCode p k (cs.drop i) = if p c then allCode p k (cs.drop (i + 1)) else k := by
  obtain ⟨h1, h2⟩ := List.getElem?_eq_some_iff.1 h
  rw [List.drop_eq_getElem_cons h1, h2, allCode]
theorem any_at {α : Type} (p : α → Bool) {cs : List α} {i : Nat} {c : α} (h : cs[i]? = some c) : (cs.drop i).any p = (p c || (cs.drop (i + 1)).any p) := by
  obtain ⟨h1, h2⟩ := List.getElem?_eq_some_iff.1 h
  rw [List.drop_eq_getElem_cons h1, h2, List.any_cons]
@[simp] theorem std_cmp (op : BinOp) (x y : Int) : std.cmp op x y = cmpIS op x y := rfl
@[simp] theorem std_cmpS (op : BinOp) (x y : List UInt8) : std.cmpS op x y = cmpSS op x y := rfl
@[simp] theorem std_not (x : Bool) : std.not x = !x := rfl
@[simp] theorem std_ite (b x y : Bool) : std.ite b x y = if b then x else y := rfl
@[simp] theorem std_ar (op : BinOp) (k : IntKind) (x y : Int) : std.ar op k x y = arS op k x y := rfl
@[simp] theorem std_int (n : Nat) : std.int n = (n : Int) := rfl
@[simp] theorem std_len (n : List A) : std.len n = n.length := rfl
@[simp] theorem std_lenS (n : List UInt8) : std.lenS n = n.length := rfl
@[simp] theorem std_u8 (n : UInt8) : std.u8 n = (n.toNat : Int) := rfl
theorem notT' {Ω : Opq} (hΩ : Ω = std) {b : Bool} (h : Ω.not b = true) : b = false := by subst hΩ; simpa using h
theorem notF' {Ω : Opq} (hΩ : Ω = std) {b : Bool} (h : Ω.not b = false) : b = true := by subst hΩ; simpa using h
end Go.Proofs.YtomfmdfamlmfiaaGreat

/- Walks: bytes, names, versions. Plain theorems. -/
set_option linter.unusedVariables false
set_option linter.unusedSimpArgs false
namespace Go.Proofs.YtomfmdfamlmfiaaGreat
open Go Go.Fw
set_option maxRecDepth 100000
def u8 (c : UInt8) : A := .sc (.int .u8 (c.toNat : Int))
theorem c_within (v l u : Int) : PCtr PP n_impl_within [i64 v, i64 l, i64 u] (boo (inB v l u)) := by
  obtain ⟨Ω, hΩ⟩ : ∃ Ω, Ω = std := ⟨_, rfl⟩
  obtain ⟨r, hr⟩ : ∃ r, r = inB v l u := ⟨_, rfl⟩
  rw [← hr]
  unfold inB at hr
  have htab := tab
  have hmo := hmo
  refine PCtr.walk tab hΩ fn_impl_within rfl ?_
  generalize PP = P at *
  cbv
  repeat' (first | (refine br (fun h => ?_) (fun h => ?_) <;> cbv) | (refine ⟨VC_drawn htab hΩ hmo (by kernel_rfl) ?_⟩; cbv))
  all_goals (refine .of (congrArg boo ?_); subst hΩ; subst hr; rw [Bool.eq_iff_iff]; simp at *; try omega)
theorem c_l1In (v l u : Int) : PCtr PP n_spec_l1In [i64 v, i64 l, i64 u] (boo (inB v l u)) := by
  obtain ⟨Ω, hΩ⟩ : ∃ Ω, Ω = std := ⟨_, rfl⟩
  obtain ⟨r, hr⟩ : ∃ r, r = inB v l u := ⟨_, rfl⟩
  rw [← hr]
  unfold inB at hr
  have htab := tab
  have hmo := hmo
  refine PCtr.walk tab hΩ fn_spec_l1In rfl ?_
  generalize PP = P at *
  cbv
  repeat' (first | (refine br (fun h => ?_) (fun h => ?_) <;> cbv) | (refine ⟨VC_drawn htab hΩ hmo (by kernel_rfl) ?_⟩; cbv))
  all_goals (refine .of (congrArg boo ?_); subst hΩ; subst hr; rw [Bool.eq_iff_iff]; simp at *; try omega)
theorem c_isNameByte (c : UInt8) : PCtr PP n_impl_isNameByte [u8 c] (boo (nameB c)) := by
  obtain ⟨Ω, hΩ⟩ : ∃ Ω, Ω = std := ⟨_, rfl⟩
  obtain ⟨r, hr⟩ : ∃ r, r = nameB c := ⟨_, rfl⟩
  rw [← hr]
  unfold nameB letterB digitB at hr
  unfold u8
  generalize (c.toNat : Int) = n at *
  have htab := tab
  have hmo := hmo
  refine PCtr.walk tab hΩ fn_impl_isNameByte rfl ?_
  generalize PP = P at *
  cbv
  repeat' (first | (refine br (fun h => ?_) (fun h => ?_) <;> cbv) | (refine ⟨VC_drawn htab hΩ hmo (by kernel_rfl) ?_⟩; cbv))
  all_goals (refine .of (congrArg boo ?_); subst hΩ; subst hr; rw [Bool.eq_iff_iff]; simp at *; try omega)
theorem c_l1Letter (c : UInt8) : PCtr PP n_spec_l1Letter [u8 c] (boo (letterB c)) := by
  obtain ⟨Ω, hΩ⟩ : ∃ Ω, Ω = std := ⟨_, rfl⟩
  obtain ⟨r, hr⟩ : ∃ r, r = letterB c := ⟨_, rfl⟩
  rw [← hr]
  unfold letterB at hr
  unfold u8
  generalize (c.toNat : Int) = n at *
  have htab := tab
  have hmo := hmo
  refine PCtr.walk tab hΩ fn_spec_l1Letter rfl ?_
  generalize PP = P at *
  cbv
  repeat' (first | (refine br (fun h => ?_) (fun h => ?_) <;> cbv) | (refine ⟨VC_drawn htab hΩ hmo (by kernel_rfl) ?_⟩; cbv))
  all_goals (refine .of (congrArg boo ?_); subst hΩ; subst hr; rw [Bool.eq_iff_iff]; simp at *; try omega)
theorem c_l1Digit (c : UInt8) : PCtr PP n_spec_l1Digit [u8 c] (boo (digitB c)) := by
  obtain ⟨Ω, hΩ⟩ : ∃ Ω, Ω = std := ⟨_, rfl⟩
  obtain ⟨r, hr⟩ : ∃ r, r = digitB c := ⟨_, rfl⟩
  rw [← hr]
  unfold digitB at hr
  unfold u8
  generalize (c.toNat : Int) = n at *
  have htab := tab
  have hmo := hmo
  refine PCtr.walk tab hΩ fn_spec_l1Digit rfl ?_
  generalize PP = P at *
  cbv
  repeat' (first | (refine br (fun h => ?_) (fun h => ?_) <;> cbv) | (refine ⟨VC_drawn htab hΩ hmo (by kernel_rfl) ?_⟩; cbv))
  all_goals (refine .of (congrArg boo ?_); subst hΩ; subst hr; rw [Bool.eq_iff_iff]; simp at *; try omega)
theorem c_l1Name (c : UInt8) : PCtr PP n_spec_l1Name [u8 c] (boo (nameB c)) := by
  obtain ⟨Ω, hΩ⟩ : ∃ Ω, Ω = std := ⟨_, rfl⟩
  obtain ⟨r, hr⟩ : ∃ r, r = nameB c := ⟨_, rfl⟩
  rw [← hr]
  have hc0 := c_l1Letter c
  have hc1 := c_l1Digit c
  unfold nameB at hr
  unfold u8 at *
  generalize (c.toNat : Int) = n at *
  generalize letterB c = b1 at *
  generalize digitB c = b2 at *
  have htab := tab
  have hmo := hmo
  refine PCtr.walk tab hΩ fn_spec_l1Name rfl ?_
  generalize PP = P at *
  cbv
  repeat' (first | (refine br (fun h => ?_) (fun h => ?_) <;> cbv) | (refine ⟨VC_drawn htab hΩ hmo (by kernel_rfl) ?_⟩; cbv) | (refine QCall_pure (k := 3) (hc0) rfl (fits _) rfl ?_; cbv) | (refine QCall_pure (k := 3) (hc1) rfl (fits _) rfl ?_; cbv) | (refine call_pure hΩ 3 (hc0) rfl (fits _) rfl rfl ?_; cbv) | (refine call_pure hΩ 3 (hc1) rfl (fits _) rfl rfl ?_; cbv))
  all_goals (refine .of (congrArg boo ?_); subst hΩ; subst hr; clear hc0 hc1 htab hmo; first | (rw [show b1 = true by assumption]; rfl) | (rw [show b1 = false by assumption, show b2 = true by assumption]; rfl) | (rw [show b1 = false by assumption, show b2 = false by assumption]; rfl))
theorem c_implVersionFault (v : Ver) : PCtr PP n_impl_VersionFault [v.enc] (i64 (verF v)) := by
  obtain ⟨Ω, hΩ⟩ : ∃ Ω, Ω = std := ⟨_, rfl⟩
  obtain ⟨r, hr⟩ : ∃ r, r = verF v := ⟨_, rfl⟩
  rw [← hr]
  have hc0 := c_within
  unfold verF at hr
  generalize inB = F at *
  have htab := tab
  have hmo := hmo
  refine PCtr.walk tab hΩ fn_impl_VersionFault rfl ?_
  generalize PP = P at *
  cbv
  repeat' (first | (refine br (fun h => ?_) (fun h => ?_) <;> cbv) | (refine ⟨VC_drawn htab hΩ hmo (by kernel_rfl) ?_⟩; cbv) | (refine QCall_pure (k := 3) (hc0 _ _ _) rfl (fits _) rfl ?_; cbv) | (refine call_pure hΩ 3 (hc0 _ _ _) rfl (fits _) rfl rfl ?_; cbv))
  all_goals (refine .of (congrArg i64 ?_); subst hΩ; subst hr; clear hc0 htab hmo; simp_all)
theorem c_specVersionFault (v : Ver) : PCtr PP n_spec_VersionFault [v.enc] (i64 (verF v)) := by
  obtain ⟨Ω, hΩ⟩ : ∃ Ω, Ω = std := ⟨_, rfl⟩
  obtain ⟨r, hr⟩ : ∃ r, r = verF v := ⟨_, rfl⟩
  rw [← hr]
  have hc0 := c_l1In
  unfold verF at hr
  generalize inB = F at *
  have htab := tab
  have hmo := hmo
  refine PCtr.walk tab hΩ fn_spec_VersionFault rfl ?_
  generalize PP = P at *
  cbv
  repeat' (first | (refine br (fun h => ?_) (fun h => ?_) <;> cbv) | (refine ⟨VC_drawn htab hΩ hmo (by kernel_rfl) ?_⟩; cbv) | (refine QCall_pure (k := 3) (hc0 _ _ _) rfl (fits _) rfl ?_; cbv) | (refine call_pure hΩ 3 (hc0 _ _ _) rfl (fits _) rfl rfl ?_; cbv))
  all_goals (refine .of (congrArg i64 ?_); subst hΩ; subst hr; clear hc0 htab hmo; simp_all)
theorem c_isNaN (x : Int) : PCtr PP n_cmp_isNaN_int64 [i64 x] (boo (false)) := by
  obtain ⟨Ω, hΩ⟩ : ∃ Ω, Ω = std := ⟨_, rfl⟩
  obtain ⟨r, hr⟩ : ∃ r, r = false := ⟨_, rfl⟩
  rw [← hr]
  have htab := tab
  have hmo := hmo
  refine PCtr.walk tab hΩ fn_cmp_isNaN_int64 rfl ?_
  generalize PP = P at *
  cbv
  repeat' (first | (refine br (fun h => ?_) (fun h => ?_) <;> cbv) | (refine ⟨VC_drawn htab hΩ hmo (by kernel_rfl) ?_⟩; cbv))
  all_goals (refine .of (congrArg boo ?_); subst hΩ; subst hr; simp_all)
theorem c_Compare (x y : Int) : PCtr PP n_cmp_Compare_int64 [i64 x, i64 y] (i64 (sgn x y)) := by
  obtain ⟨Ω, hΩ⟩ : ∃ Ω, Ω = std := ⟨_, rfl⟩
  obtain ⟨r, hr⟩ : ∃ r, r = sgn x y := ⟨_, rfl⟩
  rw [← hr]
  have hc0 := c_isNaN
  unfold sgn at hr
  have htab := tab
  have hmo := hmo
  refine PCtr.walk tab hΩ fn_cmp_Compare_int64 rfl ?_
  generalize PP = P at *
  cbv
  repeat' (first | (refine br (fun h => ?_) (fun h => ?_) <;> cbv) | (refine ⟨VC_drawn htab hΩ hmo (by kernel_rfl) ?_⟩; cbv) | (refine QCall_pure (k := 3) (hc0 _) rfl (fits _) rfl ?_; cbv) | (refine call_pure hΩ 3 (hc0 _) rfl (fits _) rfl rfl ?_; cbv))
  all_goals (refine .of (congrArg i64 ?_); subst hΩ; subst hr; simp only [std_cmp, cmpIS_lss, cmpIS_gtr, decide_eq_true_eq, decide_eq_false_iff_not] at *; (repeat' split) <;> omega)
theorem c_l1Sign (x y : Int) : PCtr PP n_spec_l1Sign [i64 x, i64 y] (i64 (sgn x y)) := by
  obtain ⟨Ω, hΩ⟩ : ∃ Ω, Ω = std := ⟨_, rfl⟩
  obtain ⟨r, hr⟩ : ∃ r, r = sgn x y := ⟨_, rfl⟩
  rw [← hr]
  unfold sgn at hr
  have htab := tab
  have hmo := hmo
  refine PCtr.walk tab hΩ fn_spec_l1Sign rfl ?_
  generalize PP = P at *
  cbv
  repeat' (first | (refine br (fun h => ?_) (fun h => ?_) <;> cbv) | (refine ⟨VC_drawn htab hΩ hmo (by kernel_rfl) ?_⟩; cbv))
  all_goals (refine .of (congrArg i64 ?_); subst hΩ; subst hr; simp only [std_cmp, cmpIS_lss, cmpIS_gtr, decide_eq_true_eq, decide_eq_false_iff_not] at *; (repeat' split) <;> omega)
theorem c_CompareVersions (x y : Ver) : PCtr PP n_spec_CompareVersions [x.enc, y.enc] (i64 (cmpV x y)) := by
  obtain ⟨Ω, hΩ⟩ : ∃ Ω, Ω = std := ⟨_, rfl⟩
  obtain ⟨r, hr⟩ : ∃ r, r = cmpV x y := ⟨_, rfl⟩
  rw [← hr]
  have hc0 := c_l1Sign
  unfold cmpV at hr
  generalize sgn = F at *
  have htab := tab
  have hmo := hmo
  refine PCtr.walk tab hΩ fn_spec_CompareVersions rfl ?_
  generalize PP = P at *
  cbv
  repeat' (first | (refine br (fun h => ?_) (fun h => ?_) <;> cbv) | (refine ⟨VC_drawn htab hΩ hmo (by kernel_rfl) ?_⟩; cbv) | (refine QCall_pure (k := 3) (hc0 _ _) rfl (fits _) rfl ?_; cbv) | (refine call_pure hΩ 3 (hc0 _ _) rfl (fits _) rfl rfl ?_; cbv))
  all_goals (refine .of (congrArg i64 ?_); subst hΩ; subst hr; simp_all)
theorem c_implTop : PCtr PP n_impl_top [] topV.enc := by
  obtain ⟨Ω, hΩ⟩ : ∃ Ω, Ω = std := ⟨_, rfl⟩
  refine PCtr.walk tab hΩ fn_impl_top rfl ?_
  generalize PP = P at *
  cbv
  exact .same
theorem c_specTop : PCtr PP n_spec_l1Top [] topV.enc := by
  obtain ⟨Ω, hΩ⟩ : ∃ Ω, Ω = std := ⟨_, rfl⟩
  refine PCtr.walk tab hΩ fn_spec_l1Top rfl ?_
  generalize PP = P at *
  cbv
  exact .same
end Go.Proofs.YtomfmdfamlmfiaaGreat

/- Walks: names. Plain theorems. -/
set_option linter.unusedVariables false
set_option linter.unusedSimpArgs false
namespace Go.Proofs.YtomfmdfamlmfiaaGreat
open Go Go.Fw
set_option maxRecDepth 100000
theorem ltS {Ω : Opq} (hΩ : Ω = std) {i : Nat} {xs : List UInt8} (h : Ω.cmp .lss (Ω.int i) (Ω.int (Ω.lenS xs)) = true) : i < xs.length := by
  subst hΩ
  have h : (i : Int) < xs.length := lt_t h
  omega
theorem geS {Ω : Opq} (hΩ : Ω = std) {i : Nat} {xs : List UInt8} (h : Ω.cmp .lss (Ω.int i) (Ω.int (Ω.lenS xs)) = false) : xs.length ≤ i := by
  subst hΩ
  have h : (xs.length : Int) ≤ i := lt_f h
  omega
theorem c_implNameFault (s : List UInt8) : PCtr PP n_impl_NameFault [str s] (i64 (nameF s)) := by
  obtain ⟨Ω, hΩ⟩ : ∃ Ω, Ω = std := ⟨_, rfl⟩
  obtain ⟨r, hr⟩ : ∃ r, r = nameF s := ⟨_, rfl⟩
  rw [← hr]
  have hc : ∀ c, PCtr PP n_impl_isNameByte [.sc (.int .u8 (Ω.u8 c))] (boo (nameB c)) := by subst hΩ; exact c_isNameByte
  unfold nameF at hr
  generalize nameB = F at *
  have htab := tab
  have hle : Ω.lenS s = s.length := by subst hΩ; rfl
  refine PCtr.walk tab hΩ fn_impl_NameFault rfl ?_
  generalize PP = P at *
  cbv
  refine br (fun h1 => ?_) (fun h1 => ?_) <;> cbv
  · exact .of (congrArg i64 (by rw [hr, if_pos (by subst hΩ; exact lt_t h1)]))
  rw [if_neg (by subst hΩ; exact Int.not_lt.2 (lt_f h1))] at hr
  refine br (fun h2 => ?_) (fun h2 => ?_) <;> cbv
  · exact .of (congrArg i64 (by rw [hr, if_pos (by subst hΩ; exact gt_t h2)]))
  rw [if_neg (by subst hΩ; exact Int.not_lt.2 (gt_f h2))] at hr
  have hs : s.length ≤ 12 := by subst hΩ; have h2 : (s.length : Int) ≤ 12 := gt_f h2; omega
  obtain ⟨c0, s', hs0⟩ : ∃ c s', s = c :: s' := by
    subst hΩ
    have h1 : (1 : Int) ≤ s.length := lt_f h1
    cases s with
    | nil => simp at h1
    | cons c s' => exact ⟨_, _, rfl⟩
  rw [show s.headD 0 = c0 by rw [hs0]; rfl] at hr
  refine ⟨⟨by decide⟩, c0, by rw [hs0]; rfl, ?_⟩
  cbv
  refine br (fun h3 => ?_) (fun h3 => ?_) <;> cbv
  · exact .of (congrArg i64 (by rw [hr, if_neg (by subst hΩ; have h3 : (c0.toNat : Int) < 97 := lt_t h3; unfold letterB; simp; omega)]))
  refine ⟨⟨by decide⟩, c0, by rw [hs0]; rfl, ?_⟩
  cbv
  refine br (fun h4 => ?_) (fun h4 => ?_) <;> cbv
  · exact .of (congrArg i64 (by rw [hr, if_neg (by subst hΩ; have h4 : 122 < (c0.toNat : Int) := gt_t h4; unfold letterB; simp; omega)]))
  rw [if_pos (by subst hΩ; have h3 : 97 ≤ (c0.toNat : Int) := lt_f h3; have h4 : (c0.toNat : Int) ≤ 122 := gt_f h4; unfold letterB; simp; omega)] at hr
  refine loopX htab hΩ (fun i : Nat => ⟨[(0, .sc (.string (mkS s))), (23, .sc (.int .i64 (Ω.int (Ω.lenS s)))), (24, .sc (.int .i64 (Ω.int i)))], 33, []⟩) (fun i => i ≤ s.length ∧ r = allCode F 5 (s.drop i)) (fun i => s.length - i) 0
    ⟨Nat.zero_le _, hr⟩ (Sbs.mk rfl rfl ⟨rfl, rfl, zeroI hΩ, trivial⟩) ?_
  rintro i ⟨hi, he⟩
  cbv
  refine br (fun h => ?_) (fun h => ?_) <;> cbv
  · replace h := ltS hΩ h
    obtain ⟨c, hcc⟩ := at_of (cs := s) h
    rw [allCode_at _ _ hcc] at he
    refine ⟨⟨nnI hΩ⟩, c, by subst hΩ; exact hcc, ?_⟩
    cbv
    refine call_pure hΩ 3 (hc c) rfl (fits _) rfl rfl ?_
    cbv
    refine br (fun g => ?_) (fun g => ?_) <;> cbv
    · exact .of (congrArg i64 (by rw [he, notT' hΩ g]; rfl))
    · rw [notF' hΩ g] at he
      exact ⟨i + 1, ⟨by omega, he⟩, by omega, Sbs.mk rfl rfl ⟨rfl, rfl, incI hΩ (by omega), trivial⟩⟩
  · replace h := geS hΩ h
    exact .of (congrArg i64 (by rw [he, List.drop_of_length_le h]; rfl))
theorem c_specNameFault (s : List UInt8) : PCtr PP n_spec_NameFault [str s] (i64 (nameF s)) := by
  obtain ⟨Ω, hΩ⟩ : ∃ Ω, Ω = std := ⟨_, rfl⟩
  obtain ⟨r, hr⟩ : ∃ r, r = nameF s := ⟨_, rfl⟩
  rw [← hr]
  have hc : ∀ c, PCtr PP n_spec_l1Name [.sc (.int .u8 (Ω.u8 c))] (boo (nameB c)) := by subst hΩ; exact c_l1Name
  unfold nameF at hr
  generalize nameB = F at *
  have hc2 := c_l1Letter
  have htab := tab
  have hle : Ω.lenS s = s.length := by subst hΩ; rfl
  refine PCtr.walk tab hΩ fn_spec_NameFault rfl ?_
  generalize PP = P at *
  cbv
  refine br (fun h1 => ?_) (fun h1 => ?_) <;> cbv
  · exact .of (congrArg i64 (by rw [hr, if_pos (by subst hΩ; exact lt_t h1)]))
  rw [if_neg (by subst hΩ; exact Int.not_lt.2 (lt_f h1))] at hr
  refine br (fun h2 => ?_) (fun h2 => ?_) <;> cbv
  · exact .of (congrArg i64 (by rw [hr, if_pos (by subst hΩ; exact gt_t h2)]))
  rw [if_neg (by subst hΩ; exact Int.not_lt.2 (gt_f h2))] at hr
  have hs : s.length ≤ 12 := by subst hΩ; have h2 : (s.length : Int) ≤ 12 := gt_f h2; omega
  obtain ⟨c0, s', hs0⟩ : ∃ c s', s = c :: s' := by
    subst hΩ
    have h1 : (1 : Int) ≤ s.length := lt_f h1
    cases s with
    | nil => simp at h1
    | cons c s' => exact ⟨_, _, rfl⟩
  rw [show s.headD 0 = c0 by rw [hs0]; rfl] at hr
  refine ⟨⟨by decide⟩, c0, by rw [hs0]; rfl, ?_⟩
  cbv
  have hl : PCtr P n_spec_l1Letter [.sc (.int .u8 (Ω.u8 c0))] (boo (letterB c0)) := by subst hΩ; exact hc2 c0
  generalize letterB c0 = b at *
  refine call_pure hΩ 3 hl rfl (fits _) rfl rfl ?_
  cbv
  refine br (fun h3 => ?_) (fun h3 => ?_) <;> cbv
  · exact .of (congrArg i64 (by rw [hr, notT' hΩ (b := b) (by subst hΩ; exact h3)]; rfl))
  rw [notF' hΩ (b := b) (by subst hΩ; exact h3), if_pos rfl] at hr
  refine loopX htab hΩ (fun i : Nat => ⟨[(0, .sc (.string (mkS s))), (3, .sc (.int .i64 (Ω.int i)))], 29, []⟩) (fun i => i ≤ s.length ∧ r = allCode F 5 (s.drop i)) (fun i => s.length - i) 0
    ⟨Nat.zero_le _, hr⟩ (Sbs.mk rfl rfl ⟨rfl, zeroI hΩ, trivial⟩) ?_
  rintro i ⟨hi, he⟩
  cbv
  refine br (fun h => ?_) (fun h => ?_) <;> cbv
  · replace h := ltS hΩ h
    obtain ⟨c, hcc⟩ := at_of (cs := s) h
    rw [allCode_at _ _ hcc] at he
    refine ⟨⟨nnI hΩ⟩, c, by subst hΩ; exact hcc, ?_⟩
    cbv
    refine call_pure hΩ 3 (hc c) rfl (fits _) rfl rfl ?_
    cbv
    refine br (fun g => ?_) (fun g => ?_) <;> cbv
    · exact .of (congrArg i64 (by rw [he, notT' hΩ g]; rfl))
    · rw [notF' hΩ g] at he
      exact ⟨i + 1, ⟨by omega, he⟩, by omega, Sbs.mk rfl rfl ⟨rfl, incI hΩ (by omega), trivial⟩⟩
  · replace h := geS hΩ h
    exact .of (congrArg i64 (by rw [he, List.drop_of_length_le h]; rfl))
end Go.Proofs.YtomfmdfamlmfiaaGreat

/- Versions are compared as structs. Plain theorems. -/
set_option linter.unusedVariables false
set_option linter.unusedSimpArgs false
namespace Go.Proofs.YtomfmdfamlmfiaaGreat
open Go Go.Fw
theorem verFields : PP.fieldsOf 58 = #[⟨"A", 2, 0, false, "", "", 0⟩, ⟨"B", 2, 1, false, "", "", 8⟩, ⟨"C", 2, 2, false, "", "", 16⟩] := by kernel_rfl
theorem verUnder : PP.underlying 58 = some (.struct (PP.fieldsOf 58)) := by kernel_rfl
theorem verIn : PP.stoodInHeld 58 = false := by kernel_rfl
theorem verG : PP.eqGuardType PP.depth 58 = false := by kernel_rfl
theorem agg2 : aggT PP 2 = some false := by kernel_rfl
theorem under2 : PP.underlying 2 = some (.int .i64) := by kernel_rfl
def Ver.vals (v : Ver) : List Value := [.int .i64 v.a, .int .i64 v.b, .int .i64 v.c]
theorem part2 {P : Program} (h : aggT P 2 = some false) {cs : Array Value} {i : Nat} {v : Value} (hv : cs[i]? = some v) (w : World) : (part 2 cs i).run P w = .ok v w := by
  simp [part, run_isAgg h, hv]
theorem ver_equal (a b : Ver) (w : World) : (Op.equal 58 (.agg a.vals.toArray) (.agg b.vals.toArray)).run PP w = .ok (decide (a = b)) w := by
  show (Op.equalIn (9999 + 1) 58 _ _).run PP w = _
  rw [run_equalIn_struct w 9999 58 _ _ verUnder verIn, verFields]
  have hu := under2
  have ha := agg2
  generalize PP = P at *
  have e : decide (a = b) = ((a.a == b.a) && ((a.b == b.b) && (a.c == b.c))) := by
    cases a; cases b
    rw [Bool.eq_iff_iff]; simp
  rw [e]
  have p0 : ∀ (v : Ver), (part 2 v.vals.toArray 0).run P w = .ok (.int .i64 v.a) w := fun v => part2 ha rfl w
  have p1 : ∀ (v : Ver), (part 2 v.vals.toArray 1).run P w = .ok (.int .i64 v.b) w := fun v => part2 ha rfl w
  have p2 : ∀ (v : Ver), (part 2 v.vals.toArray 2).run P w = .ok (.int .i64 v.c) w := fun v => part2 ha rfl w
  have q : ∀ x y : Int, (Op.equalIn 9999 2 (.int .i64 x) (.int .i64 y)).run P w = .ok (x == y) w := fun x y => run_equalIn_int w 9998 2 .i64 .i64 x y hu
  generalize hd : 9999 = d at q ⊢
  simp only [Op.eqFields, Sem.run_bind, Sem.run_ite, p0, p1, p2, q, Result.andThen_ok]
  cases h1 : (a.a == b.a) <;> cases h2 : (a.b == b.b) <;> cases h3 : (a.c == b.c) <;> simp
theorem ver_guard (op : BinOp) (x y : Operand) (a b : Ver) (w : World) : (eqGuard op 58 x y (.agg a.vals.toArray) (.agg b.vals.toArray)).run PP w = .ok () w := by
  have hg := verG
  generalize PP = P at *
  have h1 : ∀ b : Bool, P.eqGuardType P.depth 58 = true → b = false → False := fun b h => by rw [hg] at h; cases h
  unfold eqGuard
  split
  · simp
    intro h; rw [hg] at h; cases h
  · simp
    intro h; rw [hg] at h; cases h
  · simp
theorem ver_neq (a b : Ver) (x y : Operand) (w : World) : (do eqGuard .neq 58 x y (.agg a.vals.toArray) (.agg b.vals.toArray); binOp .neq 58 (.agg a.vals.toArray) (.agg b.vals.toArray) : Sem Value).run PP w = .ok (.bool (!decide (a = b))) w := by
  have h := ver_equal a b w
  have g := ver_guard .neq x y a b w
  generalize PP = P at *
  simp only [Sem.run_bind, g, Result.andThen_ok, binOp, h]
  rfl
theorem ver_eql (a b : Ver) (x y : Operand) (w : World) : (do eqGuard .eql 58 x y (.agg a.vals.toArray) (.agg b.vals.toArray); binOp .eql 58 (.agg a.vals.toArray) (.agg b.vals.toArray) : Sem Value).run PP w = .ok (.bool (decide (a = b))) w := by
  have h := ver_equal a b w
  have g := ver_guard .eql x y a b w
  generalize PP = P at *
  simp only [Sem.run_bind, g, Result.andThen_ok, binOp, h]
  rfl
structure VerEq (P : Program) : Prop where
  neq : ∀ (a b : Ver) (x y : Operand) (w : World), (do eqGuard .neq 58 x y (.agg a.vals.toArray) (.agg b.vals.toArray); binOp .neq 58 (.agg a.vals.toArray) (.agg b.vals.toArray) : Sem Value).run P w = .ok (.bool (!decide (a = b))) w
  eql : ∀ (a b : Ver) (x y : Operand) (w : World), (do eqGuard .eql 58 x y (.agg a.vals.toArray) (.agg b.vals.toArray); binOp .eql 58 (.agg a.vals.toArray) (.agg b.vals.toArray) : Sem Value).run P w = .ok (.bool (decide (a = b))) w
theorem verEq : VerEq PP := ⟨ver_neq, ver_eql⟩
theorem eqX_neq {P : Program} (hP : VerEq P) (a b : Ver) {k : A → Prop} (h : k (boo (!decide (a = b)))) : EqX P .neq 58 a.cells b.cells k := ⟨_, _, _, rfl, rfl, hP.neq a b, h⟩
theorem eqX_eql {P : Program} (hP : VerEq P) (a b : Ver) {k : A → Prop} (h : k (boo (decide (a = b)))) : EqX P .eql 58 a.cells b.cells k := ⟨_, _, _, rfl, rfl, hP.eql a b, h⟩
end Go.Proofs.YtomfmdfamlmfiaaGreat

/- Walks: terms. Plain theorems. -/
set_option linter.unusedVariables false
set_option linter.unusedSimpArgs false
namespace Go.Proofs.YtomfmdfamlmfiaaGreat
open Go Go.Fw
set_option maxRecDepth 100000
def idxFrom {α : Type} (p : α → Bool) : Nat → List α → Int
  | _, [] => -1
  | i, x :: xs => if p x then (i : Int) else idxFrom p (i + 1) xs
def orF : List Int → Int
  | [] => 0
  | x :: xs => if x ≠ 0 then x else orF xs
theorem orF_at {cs : List Int} {i : Nat} {c : Int} (h : cs[i]? = some c) : orF (cs.drop i) = if c ≠ 0 then c else orF (cs.drop (i + 1)) := by
  obtain ⟨h1, h2⟩ := List.getElem?_eq_some_iff.1 h
  rw [List.drop_eq_getElem_cons h1, h2, orF]
def idx {α : Type} (p : α → Bool) (l : List α) : Int := idxFrom p 0 l
theorem idxFrom_at {α : Type} (p : α → Bool) {cs : List α} {i : Nat} {c : α} (h : cs[i]? = some c) : idxFrom p i (cs.drop i) = if p c then (i : Int) else idxFrom p (i + 1) (cs.drop (i + 1)) := by
  obtain ⟨h1, h2⟩ := List.getElem?_eq_some_iff.1 h
  rw [List.drop_eq_getElem_cons h1, h2, idxFrom]
theorem idxFrom_nn {α : Type} (p : α → Bool) : ∀ (l : List α) (i : Nat), (0 ≤ idxFrom p i l) = (l.any p = true)
  | [], i => by simp [idxFrom]
  | x :: xs, i => by
    unfold idxFrom
    split
    · rename_i h; simp [h]
    · rename_i h; rw [idxFrom_nn p xs (i + 1)]; simp [h]
theorem idx_any {α : Type} (p : α → Bool) (l : List α) : decide (0 ≤ idx p l) = l.any p := by
  rw [Bool.eq_iff_iff, decide_eq_true_eq]; exact Iff.of_eq (idxFrom_nn p l 0)
theorem c_Or (x y z : Int) : PCtr PP n_cmp_Or_int [.sl false 1 [i64 x, i64 y, i64 z]] (i64 (if x ≠ 0 then x else if y ≠ 0 then y else z)) := by
  obtain ⟨Ω, hΩ⟩ : ∃ Ω, Ω = std := ⟨_, rfl⟩
  obtain ⟨r, hr⟩ : ∃ r, r = if x ≠ 0 then x else if y ≠ 0 then y else z := ⟨_, rfl⟩
  rw [← hr]
  obtain ⟨l, hl⟩ : ∃ l, l = [x, y, z] := ⟨_, rfl⟩
  obtain ⟨xs, hxs⟩ : ∃ xs, xs = l.map i64 := ⟨_, rfl⟩
  rw [show [i64 x, i64 y, i64 z] = xs by rw [hxs, hl]; rfl]
  have hlen : xs.length = l.length := by rw [hxs, List.length_map]
  have hr : r = orF l := by rw [hr, hl]; simp only [orF]; (repeat' split) <;> simp_all
  have hl3 : l.length = 3 := by rw [hl]; rfl
  have htab := tab
  have hmo := hmo
  have hve := verEq
  refine PCtr.walk tab hΩ fn_cmp_Or_int rfl ?_
  generalize PP = P at *
  cbv
  refine loopX htab hΩ (fun i : Nat => ⟨[(3, .sc (.int .i64 0)), (6, .sl false 1 xs), (7, .sc (.int .i64 (Ω.int (Ω.len xs)))), (8, .sc (.int .i64 (Ω.int i)))], 18, []⟩) (fun i => i ≤ l.length ∧ r = orF (l.drop i)) (fun i => l.length - i) 0
    ⟨Nat.zero_le _, hr⟩ (Sbs.mk rfl rfl ⟨rfl, rfl, rfl, zeroI hΩ, trivial⟩) ?_
  rintro i ⟨hi, he⟩
  cbv
  refine br (fun h => ?_) (fun h => ?_) <;> cbv
  · replace h := ltI hΩ h
    obtain ⟨c, hcc⟩ := at_of (cs := l) (by omega : i < l.length)
    rw [orF_at hcc] at he
    refine ⟨⟨nnI hΩ⟩, _, rdI hΩ hxs hcc, ?_⟩
    cbv
    refine br (fun g => ?_) (fun g => ?_) <;> cbv
    · exact .of (congrArg i64 (by rw [he, if_pos (neI_t hΩ g)]))
    · rw [if_neg (by rw [neI_f hΩ g]; simp)] at he
      exact ⟨i + 1, ⟨by omega, he⟩, by omega, Sbs.mk rfl rfl ⟨rfl, rfl, rfl, incI hΩ (by omega), trivial⟩⟩
  · replace h := geI hΩ h
    exact .of (congrArg i64 (by rw [he, List.drop_of_length_le (by omega)]; rfl))
theorem c_compare (a b : Ver) : PCtr PP n_impl_compare [a.enc, b.enc] (i64 (cmpV a b)) := by
  obtain ⟨Ω, hΩ⟩ : ∃ Ω, Ω = std := ⟨_, rfl⟩
  obtain ⟨r, hr⟩ : ∃ r, r = cmpV a b := ⟨_, rfl⟩
  rw [← hr]
  have h1 := c_Compare
  have h2 := c_Or
  unfold cmpV at hr
  generalize sgn = F at *
  have htab := tab
  have hmo := hmo
  have hve := verEq
  refine PCtr.walk tab hΩ fn_impl_compare rfl ?_
  generalize PP = P at *
  cbv
  refine ⟨VC_tail htab hΩ hmo 15 (by kernel_rfl) ?_⟩
  cbv
  refine QCall_pure (k := 3) (h1 a.a b.a) rfl (fits _) rfl ?_
  cbv
  refine QCall_pure (k := 3) (h1 a.b b.b) rfl (fits _) rfl ?_
  cbv
  refine QCall_pure (k := 3) (h1 a.c b.c) rfl (fits _) rfl ?_
  cbv
  have h2 := h2 (F a.a b.a) (F a.b b.b) (F a.c b.c)
  rw [← hr] at h2
  refine call_pure hΩ 3 h2 rfl (fits _) rfl rfl ?_
  cbv
  exact .same
theorem c_implTermFault (t : Trm) : PCtr PP n_impl_TermFault [t.enc] (i64 (trmF t)) := by
  obtain ⟨Ω, hΩ⟩ : ∃ Ω, Ω = std := ⟨_, rfl⟩
  obtain ⟨r, hr⟩ : ∃ r, r = trmF t := ⟨_, rfl⟩
  rw [← hr]
  have h1 := c_implNameFault t.n
  have h2 := c_implVersionFault
  have h3 := c_implTop
  have h4 := c_compare
  unfold trmF at hr
  generalize nameF t.n = c1 at *
  generalize verF = F at *
  generalize cmpV = C at *
  generalize topV = tv at *
  have htab := tab
  have hmo := hmo
  have hve := verEq
  refine PCtr.walk tab hΩ fn_impl_TermFault rfl ?_
  generalize PP = P at *
  cbv
  refine call_pure hΩ 3 h1 rfl (fits _) rfl rfl ?_
  cbv
  refine br (fun g1 => ?_) (fun g1 => ?_) <;> cbv
  · exact .of (congrArg i64 (by rw [hr, if_pos (neI_t hΩ g1)]))
  rw [if_neg (by rw [neI_f hΩ g1]; simp)] at hr
  refine call_pure hΩ 3 (h2 t.l) rfl (fits _) rfl rfl ?_
  cbv
  refine br (fun g2 => ?_) (fun g2 => ?_) <;> cbv
  · exact .of (congrArg i64 (by rw [hr, if_pos (neI_t hΩ g2)]))
  rw [if_neg (by rw [neI_f hΩ g2]; simp)] at hr
  refine ⟨VC_drawn htab hΩ hmo (by kernel_rfl) ?_⟩
  cbv
  refine QCall_pure (k := 3) h3 rfl (fits _) rfl ?_
  cbv
  refine eqX_neq hve t.h tv ?_
  generalize hD : decide (t.h = tv) = D
  have hr : r = if D = false ∧ ¬F t.h = 0 then 3 else if 0 ≤ C t.l t.h then 1 else 0 := by rw [hr, ← hD]; simp
  cbv
  refine br (fun g3 => ?_) (fun g3 => ?_) <;> cbv
  · have g3 : (!D) = true := g3
    refine QCall_pure (k := 3) (h2 t.h) rfl (fits _) rfl ?_
    cbv
    refine br (fun g4 => ?_) (fun g4 => ?_) <;> cbv
    · refine .of (congrArg i64 ?_)
      subst hΩ
      rw [hr, if_pos]
      exact ⟨by simpa using g3, by simpa using g4⟩
    refine call_pure hΩ 3 (h4 t.l t.h) rfl (fits _) rfl rfl ?_
    cbv
    rw [if_neg (by subst hΩ; simp at g4; simp [g4])] at hr
    refine br (fun g5 => ?_) (fun g5 => ?_) <;> cbv
    · exact .of (congrArg i64 (by rw [hr, if_pos (by subst hΩ; exact ge_t g5)]))
    · exact .of (congrArg i64 (by rw [hr, if_neg (by subst hΩ; exact Int.not_le.2 (ge_f g5))]))
  · have g3 : (!D) = false := g3
    rw [if_neg (by simp at g3; simp [g3])] at hr
    refine call_pure hΩ 3 (h4 t.l t.h) rfl (fits _) rfl rfl ?_
    cbv
    refine br (fun g5 => ?_) (fun g5 => ?_) <;> cbv
    · exact .of (congrArg i64 (by rw [hr, if_pos (by subst hΩ; exact ge_t g5)]))
    · exact .of (congrArg i64 (by rw [hr, if_neg (by subst hΩ; exact Int.not_le.2 (ge_f g5))]))
theorem c_specTermFault (t : Trm) : PCtr PP n_spec_TermFault [t.enc] (i64 (trmF t)) := by
  obtain ⟨Ω, hΩ⟩ : ∃ Ω, Ω = std := ⟨_, rfl⟩
  obtain ⟨r, hr⟩ : ∃ r, r = trmF t := ⟨_, rfl⟩
  rw [← hr]
  have h1 := c_specNameFault t.n
  have h2 := c_specVersionFault
  have h3 := c_specTop
  have h4 := c_CompareVersions
  unfold trmF at hr
  generalize nameF t.n = c1 at *
  generalize verF = F at *
  generalize cmpV = C at *
  generalize topV = tv at *
  have htab := tab
  have hmo := hmo
  have hve := verEq
  refine PCtr.walk tab hΩ fn_spec_TermFault rfl ?_
  generalize PP = P at *
  cbv
  refine call_pure hΩ 3 h1 rfl (fits _) rfl rfl ?_
  cbv
  refine br (fun g1 => ?_) (fun g1 => ?_) <;> cbv
  · exact .of (congrArg i64 (by rw [hr, if_pos (neI_t hΩ g1)]))
  rw [if_neg (by rw [neI_f hΩ g1]; simp)] at hr
  refine call_pure hΩ 3 (h2 t.l) rfl (fits _) rfl rfl ?_
  cbv
  refine br (fun g2 => ?_) (fun g2 => ?_) <;> cbv
  · exact .of (congrArg i64 (by rw [hr, if_pos (neI_t hΩ g2)]))
  rw [if_neg (by rw [neI_f hΩ g2]; simp)] at hr
  refine ⟨VC_drawn htab hΩ hmo (by kernel_rfl) ?_⟩
  cbv
  refine QCall_pure (k := 3) h3 rfl (fits _) rfl ?_
  cbv
  refine eqX_neq hve t.h tv ?_
  generalize hD : decide (t.h = tv) = D
  have hr : r = if D = false ∧ ¬F t.h = 0 then 3 else if 0 ≤ C t.l t.h then 1 else 0 := by rw [hr, ← hD]; simp
  cbv
  refine br (fun g3 => ?_) (fun g3 => ?_) <;> cbv
  · have g3 : (!D) = true := g3
    refine QCall_pure (k := 3) (h2 t.h) rfl (fits _) rfl ?_
    cbv
    refine br (fun g4 => ?_) (fun g4 => ?_) <;> cbv
    · refine .of (congrArg i64 ?_)
      subst hΩ
      rw [hr, if_pos]
      exact ⟨by simpa using g3, by simpa using g4⟩
    refine call_pure hΩ 3 (h4 t.l t.h) rfl (fits _) rfl rfl ?_
    cbv
    rw [if_neg (by subst hΩ; simp at g4; simp [g4])] at hr
    refine br (fun g5 => ?_) (fun g5 => ?_) <;> cbv
    · exact .of (congrArg i64 (by rw [hr, if_pos (by subst hΩ; exact ge_t g5)]))
    · exact .of (congrArg i64 (by rw [hr, if_neg (by subst hΩ; exact Int.not_le.2 (ge_f g5))]))
  · have g3 : (!D) = false := g3
    rw [if_neg (by simp at g3; simp [g3])] at hr
    refine call_pure hΩ 3 (h4 t.l t.h) rfl (fits _) rfl rfl ?_
    cbv
    refine br (fun g5 => ?_) (fun g5 => ?_) <;> cbv
    · exact .of (congrArg i64 (by rw [hr, if_pos (by subst hΩ; exact ge_t g5)]))
    · exact .of (congrArg i64 (by rw [hr, if_neg (by subst hΩ; exact Int.not_le.2 (ge_f g5))]))
theorem c_l2Holds (l : List (List UInt8)) (s : List UInt8) (hl : l.length ≤ 4611686018427387904) : PCtr PP n_spec_l2Holds [.sl false 1 (l.map str), str s] (boo (l.any (· == s))) := by
  obtain ⟨Ω, hΩ⟩ : ∃ Ω, Ω = std := ⟨_, rfl⟩
  obtain ⟨r, hr⟩ : ∃ r, r = l.any (· == s) := ⟨_, rfl⟩
  rw [← hr]
  obtain ⟨xs, hxs⟩ : ∃ xs, xs = l.map str := ⟨_, rfl⟩
  have hlen : xs.length = l.length := by rw [hxs, List.length_map]
  rw [← hxs]
  have htab := tab
  have hmo := hmo
  have hve := verEq
  refine PCtr.walk tab hΩ fn_spec_l2Holds rfl ?_
  generalize PP = P at *
  cbv
  refine loopX htab hΩ (fun i : Nat => ⟨[(0, .sl false 1 xs), (1, .sc (.string (mkS s))), (5, .sc (.int .i64 (Ω.int i)))], 18, []⟩) (fun i => i ≤ l.length ∧ r = (l.drop i).any (· == s)) (fun i => l.length - i) 0
    ⟨Nat.zero_le _, hr⟩ (Sbs.mk rfl rfl ⟨rfl, rfl, zeroI hΩ, trivial⟩) ?_
  rintro i ⟨hi, he⟩
  cbv
  refine br (fun h => ?_) (fun h => ?_) <;> cbv
  · replace h := ltI hΩ h
    obtain ⟨c, hcc⟩ := at_of (cs := l) (by omega : i < l.length)
    rw [any_at _ hcc] at he
    refine ⟨⟨nnI hΩ⟩, _, rdI hΩ hxs hcc, ?_⟩
    cbv
    refine br (fun g => ?_) (fun g => ?_) <;> cbv
    · exact .of (congrArg boo (by rw [he]; subst hΩ; rw [show (c == s) = true from g]; rfl))
    · rw [show (c == s) = false by subst hΩ; exact g, Bool.false_or] at he
      exact ⟨i + 1, ⟨by omega, he⟩, by omega, Sbs.mk rfl rfl ⟨rfl, rfl, incI hΩ (by omega), trivial⟩⟩
  · replace h := geI hΩ h
    exact .of (congrArg boo (by rw [he, List.drop_of_length_le (by omega)]; rfl))
theorem c_IndexS (l : List (List UInt8)) (s : List UInt8) (hl : l.length ≤ 4611686018427387904) : PCtr PP n_slices_Index_L_string_string [.sl false 1 (l.map str), str s] (i64 (idx (fun c => s == c) l)) := by
  obtain ⟨Ω, hΩ⟩ : ∃ Ω, Ω = std := ⟨_, rfl⟩
  obtain ⟨r, hr⟩ : ∃ r, r = idx (fun c => s == c) l := ⟨_, rfl⟩
  rw [← hr]
  obtain ⟨xs, hxs⟩ : ∃ xs, xs = l.map str := ⟨_, rfl⟩
  have hlen : xs.length = l.length := by rw [hxs, List.length_map]
  rw [← hxs]
  have htab := tab
  have hmo := hmo
  have hve := verEq
  refine PCtr.walk tab hΩ fn_slices_Index_L_string_string rfl ?_
  generalize PP = P at *
  cbv
  refine loopX htab hΩ (fun i : Nat => ⟨[(0, .sl false 1 xs), (1, .sc (.string (mkS s))), (7, .sc (.int .i64 (Ω.int (Ω.len xs)))), (8, .sc (.int .i64 (Ω.int i)))], 19, []⟩) (fun i => i ≤ l.length ∧ r = idxFrom (fun c => s == c) i (l.drop i)) (fun i => l.length - i) 0
    ⟨Nat.zero_le _, hr⟩ (Sbs.mk rfl rfl ⟨rfl, rfl, rfl, zeroI hΩ, trivial⟩) ?_
  rintro i ⟨hi, he⟩
  cbv
  refine br (fun h => ?_) (fun h => ?_) <;> cbv
  · replace h := ltI hΩ h
    obtain ⟨c, hcc⟩ := at_of (cs := l) (by omega : i < l.length)
    rw [idxFrom_at _ hcc] at he
    refine ⟨⟨nnI hΩ⟩, _, rdI hΩ hxs hcc, ?_⟩
    cbv
    refine br (fun g => ?_) (fun g => ?_) <;> cbv
    · exact .of (congrArg i64 (by rw [he]; subst hΩ; rw [if_pos (show (s == c) = true from g)]; rfl))
    · rw [if_neg (by subst hΩ; rw [show (s == c) = false from g]; simp)] at he
      exact ⟨i + 1, ⟨by omega, he⟩, by omega, Sbs.mk rfl rfl ⟨rfl, rfl, rfl, incI hΩ (by omega), trivial⟩⟩
  · replace h := geI hΩ h
    exact .of (congrArg i64 (by rw [he, List.drop_of_length_le (by omega)]; rfl))
theorem c_ContainsS (l : List (List UInt8)) (s : List UInt8) (hl : l.length ≤ 4611686018427387904) : PCtr PP n_slices_Contains_L_string_string [.sl false 1 (l.map str), str s] (boo (l.any (· == s))) := by
  obtain ⟨Ω, hΩ⟩ : ∃ Ω, Ω = std := ⟨_, rfl⟩
  obtain ⟨r, hr⟩ : ∃ r, r = l.any (· == s) := ⟨_, rfl⟩
  rw [← hr]
  have hc0 := c_IndexS l s hl
  rw [show (l.any (· == s)) = l.any (fun c => s == c) by congr 1; funext c; rw [Bool.eq_iff_iff, beq_iff_eq, beq_iff_eq]; exact eq_comm, ← idx_any] at hr
  generalize idx (fun c => s == c) l = k at *
  generalize l.map str = xs at *
  have htab := tab
  have hmo := hmo
  refine PCtr.walk tab hΩ fn_slices_Contains_L_string_string rfl ?_
  generalize PP = P at *
  cbv
  repeat' (first | (refine br (fun h => ?_) (fun h => ?_) <;> cbv) | (refine ⟨VC_drawn htab hΩ hmo (by kernel_rfl) ?_⟩; cbv) | (refine QCall_pure (k := 3) (hc0) rfl (fits _) rfl ?_; cbv) | (refine call_pure hΩ 3 (hc0) rfl (fits _) rfl rfl ?_; cbv))
  all_goals (refine .of (congrArg boo ?_); subst hΩ; subst hr; rfl)
end Go.Proofs.YtomfmdfamlmfiaaGreat

/- Walks: terms of packages. Plain theorems. -/
set_option linter.unusedVariables false
set_option linter.unusedSimpArgs false
namespace Go.Proofs.YtomfmdfamlmfiaaGreat
open Go Go.Fw
set_option maxRecDepth 100000
def givesB (o : Pck) (t : Trm) : Bool := (t.n == o.n || o.p.any (· == t.n)) && hasB t t.n o.v
def strs (l : List (List UInt8)) : A := .sl true 1 (l.map str)
theorem beqSymm (a b : List UInt8) : (a == b) = (b == a) := by rw [Bool.eq_iff_iff, beq_iff_eq, beq_iff_eq]; exact eq_comm
theorem enc_raw (o : Pck) : ∃ ps ds bs, o.enc false = .agg [str o.n, i64 o.v.a, i64 o.v.b, i64 o.v.c, i64 o.s, .sl false 1 ps, .sl false 1 ds, .sl false 7 bs] ∧ ps = o.p.map str ∧ ds = o.d.map (encTs false) ∧ bs = o.b.map Trm.enc := ⟨_, _, _, rfl, rfl, rfl, rfl⟩
theorem c_has (t : Trm) (n : List UInt8) (v : Ver) : PCtr PP n_impl_Term_has [t.enc, str n, v.enc] (boo (hasB t n v)) := by
  obtain ⟨Ω, hΩ⟩ : ∃ Ω, Ω = std := ⟨_, rfl⟩
  obtain ⟨r, hr⟩ : ∃ r, r = hasB t n v := ⟨_, rfl⟩
  rw [← hr]
  have hc0 := c_compare
  unfold hasB at hr
  generalize cmpV = C at *
  have htab := tab
  have hmo := hmo
  refine PCtr.walk tab hΩ fn_impl_Term_has rfl ?_
  generalize PP = P at *
  cbv
  repeat' (first | (refine br (fun h => ?_) (fun h => ?_) <;> cbv) | (refine ⟨VC_drawn htab hΩ hmo (by kernel_rfl) ?_⟩; cbv) | (refine QCall_pure (k := 3) (hc0 _ _) rfl (fits _) rfl ?_; cbv) | (refine call_pure hΩ 3 (hc0 _ _) rfl (fits _) rfl rfl ?_; cbv))
  all_goals (refine .of (congrArg boo ?_); subst hΩ; subst hr; simp_all <;> (intros; omega))
theorem c_l1InTerm (t : Trm) (n : List UInt8) (v : Ver) : PCtr PP n_spec_l1InTerm [t.enc, str n, v.enc] (boo (hasB t n v)) := by
  obtain ⟨Ω, hΩ⟩ : ∃ Ω, Ω = std := ⟨_, rfl⟩
  obtain ⟨r, hr⟩ : ∃ r, r = hasB t n v := ⟨_, rfl⟩
  rw [← hr]
  have hc0 := c_CompareVersions
  unfold hasB at hr
  rw [show decide (cmpV t.l v ≤ 0) = decide (0 ≤ cmpV v t.l) by rw [cmpV_swap t.l v]; rw [Bool.eq_iff_iff]; simp] at hr
  generalize cmpV = C at *
  have htab := tab
  have hmo := hmo
  refine PCtr.walk tab hΩ fn_spec_l1InTerm rfl ?_
  generalize PP = P at *
  cbv
  repeat' (first | (refine br (fun h => ?_) (fun h => ?_) <;> cbv) | (refine ⟨VC_drawn htab hΩ hmo (by kernel_rfl) ?_⟩; cbv) | (refine QCall_pure (k := 3) (hc0 _ _) rfl (fits _) rfl ?_; cbv) | (refine call_pure hΩ 3 (hc0 _ _) rfl (fits _) rfl rfl ?_; cbv))
  all_goals (refine .of (congrArg boo ?_); subst hΩ; subst hr; simp_all <;> (intros; omega))
theorem c_termsFault (l : List Trm) (hl : l.length ≤ 4611686018427387904) : PCtr PP n_impl_termsFault [.sl false 7 (l.map Trm.enc)] (i64 (firstF trmF l)) := by
  obtain ⟨Ω, hΩ⟩ : ∃ Ω, Ω = std := ⟨_, rfl⟩
  obtain ⟨r, hr⟩ : ∃ r, r = firstF trmF l := ⟨_, rfl⟩
  rw [← hr]
  have hc := c_implTermFault
  obtain ⟨xs, hxs⟩ : ∃ xs, xs = l.map Trm.enc := ⟨_, rfl⟩
  have hlen : xs.length = l.length := by rw [hxs, List.length_map]
  rw [← hxs]
  generalize trmF = F at *
  have htab := tab
  have hmo := hmo
  have hve := verEq
  refine PCtr.walk tab hΩ fn_impl_termsFault rfl ?_
  generalize PP = P at *
  cbv
  refine loopX htab hΩ (fun i : Nat => ⟨[(6, .sl false 7 xs), (7, .sc (.int .i64 (Ω.int (Ω.len xs)))), (8, .sc (.int .i64 (Ω.int i)))], 18, []⟩) (fun i => i ≤ l.length ∧ r = firstF F (l.drop i)) (fun i => l.length - i) 0
    ⟨Nat.zero_le _, hr⟩ (Sbs.mk rfl rfl ⟨rfl, rfl, zeroI hΩ, trivial⟩) ?_
  rintro i ⟨hi, he⟩
  cbv
  refine br (fun h => ?_) (fun h => ?_) <;> cbv
  · replace h := ltI hΩ h
    obtain ⟨c, hcc⟩ := at_of (cs := l) (by omega : i < l.length)
    rw [firstF_at _ hcc] at he
    refine ⟨⟨nnI hΩ⟩, _, rdI hΩ hxs hcc, ?_⟩
    cbv
    refine call_pure hΩ 3 (hc c) rfl (fits _) rfl rfl ?_
    cbv
    refine br (fun g => ?_) (fun g => ?_) <;> cbv
    · exact .of (congrArg i64 (by rw [he, if_pos (neI_t hΩ g)]))
    · rw [if_neg (by rw [neI_f hΩ g]; simp)] at he
      exact ⟨i + 1, ⟨by omega, he⟩, by omega, Sbs.mkL (rows := []) rfl rfl rfl ⟨rfl, rfl, incI hΩ (by omega), trivial⟩⟩
  · replace h := geI hΩ h
    exact .of (congrArg i64 (by rw [he, List.drop_of_length_le (by omega)]; rfl))
theorem c_l2Terms (l : List Trm) (hl : l.length ≤ 4611686018427387904) : PCtr PP n_spec_l2Terms [.sl false 7 (l.map Trm.enc)] (i64 (firstF trmF l)) := by
  obtain ⟨Ω, hΩ⟩ : ∃ Ω, Ω = std := ⟨_, rfl⟩
  obtain ⟨r, hr⟩ : ∃ r, r = firstF trmF l := ⟨_, rfl⟩
  rw [← hr]
  have hc := c_specTermFault
  obtain ⟨xs, hxs⟩ : ∃ xs, xs = l.map Trm.enc := ⟨_, rfl⟩
  have hlen : xs.length = l.length := by rw [hxs, List.length_map]
  rw [← hxs]
  generalize trmF = F at *
  have htab := tab
  have hmo := hmo
  have hve := verEq
  refine PCtr.walk tab hΩ fn_spec_l2Terms rfl ?_
  generalize PP = P at *
  cbv
  refine loopX htab hΩ (fun i : Nat => ⟨[(0, .sl false 7 xs), (3, .sc (.int .i64 (Ω.int i)))], 19, []⟩) (fun i => i ≤ l.length ∧ r = firstF F (l.drop i)) (fun i => l.length - i) 0
    ⟨Nat.zero_le _, hr⟩ (Sbs.mk rfl rfl ⟨rfl, zeroI hΩ, trivial⟩) ?_
  rintro i ⟨hi, he⟩
  cbv
  refine br (fun h => ?_) (fun h => ?_) <;> cbv
  · replace h := ltI hΩ h
    obtain ⟨c, hcc⟩ := at_of (cs := l) (by omega : i < l.length)
    rw [firstF_at _ hcc] at he
    refine ⟨⟨nnI hΩ⟩, _, rdI hΩ hxs hcc, ?_⟩
    cbv
    refine call_pure hΩ 3 (hc c) rfl (fits _) rfl rfl ?_
    cbv
    refine br (fun g => ?_) (fun g => ?_) <;> cbv
    · exact .of (congrArg i64 (by rw [he, if_pos (neI_t hΩ g)]))
    · rw [if_neg (by rw [neI_f hΩ g]; simp)] at he
      exact ⟨i + 1, ⟨by omega, he⟩, by omega, Sbs.mk rfl rfl ⟨rfl, incI hΩ (by omega), trivial⟩⟩
  · replace h := geI hΩ h
    exact .of (congrArg i64 (by rw [he, List.drop_of_length_le (by omega)]; rfl))
theorem c_l2Gives (o : Pck) (t : Trm) (hl : o.p.length ≤ 4611686018427387904) : PCtr PP n_spec_l2Gives [o.enc false, t.enc] (boo (givesB o t)) := by
  obtain ⟨Ω, hΩ⟩ : ∃ Ω, Ω = std := ⟨_, rfl⟩
  obtain ⟨r, hr⟩ : ∃ r, r = givesB o t := ⟨_, rfl⟩
  rw [← hr]
  obtain ⟨ps, ds, bs, hen, hps, hds, hbs⟩ := enc_raw o
  rw [hen]
  have hc := c_l2Holds o.p t.n hl
  have hc2 := c_l1InTerm t t.n o.v
  rw [← hps] at hc
  unfold givesB at hr
  generalize (o.p.any fun x => x == t.n) = b at *
  generalize hasB t t.n o.v = b2 at *
  have htab := tab
  have hmo := hmo
  have hve := verEq
  refine PCtr.walk tab hΩ fn_spec_l2Gives rfl ?_
  generalize PP = P at *
  cbv
  repeat' (first | (refine br (fun h => ?_) (fun h => ?_) <;> cbv) | (refine call_pure hΩ 3 hc rfl (fits _) rfl rfl ?_; cbv) | (refine call_pure hΩ 3 hc2 rfl (fits _) rfl rfl ?_; cbv) | (refine QCall_pure (k := 3) hc rfl (fits _) rfl ?_; cbv) | (refine QCall_pure (k := 3) hc2 rfl (fits _) rfl ?_; cbv) | (refine ⟨VC_drawn htab hΩ hmo (by kernel_rfl) ?_⟩; cbv))
  all_goals (refine .of (congrArg boo ?_); subst hΩ; subst hr; simp_all)
theorem c_names (o : Pck) (hl : o.p.length ≤ 1048576) : PCtr PP n_impl_Pack_names [o.enc false] (strs (o.n :: o.p)) := by
  obtain ⟨Ω, hΩ⟩ : ∃ Ω, Ω = std := ⟨_, rfl⟩
  obtain ⟨r, hr⟩ : ∃ r, r = o.n :: o.p := ⟨_, rfl⟩
  rw [← hr]
  obtain ⟨ps, ds, bs, hen, hps, hds, hbs⟩ := enc_raw o
  rw [hen]
  obtain ⟨zs, hzs⟩ : ∃ zs, zs = r.map str := ⟨_, rfl⟩
  rw [show strs r = .sl true 1 zs by rw [hzs]; rfl]
  have hzs : zs = str o.n :: ps := by rw [hzs, hr, hps]; rfl
  have hpl : ps.length = o.p.length := by rw [hps, List.length_map]
  have hno : (∀ y ∈ ps, noOwn y = true) ∧ (∀ c ∈ flat ps, okCell c = true) := by
    rw [hps]
    refine ⟨fun y hy => ?_, fun y hy => ?_⟩
    · obtain ⟨c, _, rfl⟩ := List.mem_map.1 hy; rfl
    · obtain ⟨x, hx, hy⟩ := List.mem_flatMap.1 hy
      obtain ⟨c, _, rfl⟩ := List.mem_map.1 hx
      have : y = str c := by simpa [str, A.cells] using hy
      rw [this]; rfl
  have htab := tab
  have hmo := hmo
  have hve := verEq
  refine PCtr.walk tab hΩ fn_impl_Pack_names rfl ?_
  generalize PP = P at *
  cbv
  refine ⟨⟨hno.1, hno.2, ?_, ?_⟩, ⟨rfl, ?_⟩, .of ?_⟩
  · show (1 + ps.length) * 16 ≤ 140737488355328
    omega
  · show 1 + ps.length ≤ 9223372036854775807
    omega
  · subst hΩ; show 1 + ps.length ≤ (([str o.n]).take 1 ++ ps).length; simp; omega
  · rw [hzs]; subst hΩ; show A.sl true 1 ((([str o.n]).take 1 ++ ps).take (1 + ps.length)) = _; rw [List.take_of_length_le (by simp; omega)]; rfl
end Go.Proofs.YtomfmdfamlmfiaaGreat

/- Walks: function values over slices. Plain theorems. -/
set_option linter.unusedVariables false
set_option linter.unusedSimpArgs false
namespace Go.Proofs.YtomfmdfamlmfiaaGreat
open Go Go.Fw
set_option maxRecDepth 100000
theorem mapO_append (f : A → Option A) {xs ys xs' ys' : List A} (h1 : mapO f xs = some xs') (h2 : mapO f ys = some ys') : mapO f (xs ++ ys) = some (xs' ++ ys') := by
  induction xs generalizing xs' with
  | nil => simp only [mapO, Option.some.injEq] at h1; subst h1; exact h2
  | cons x xs ih =>
    simp only [mapO, List.cons_append] at h1 ⊢
    cases hx : f x with
    | none => rw [hx] at h1; simp at h1
    | some y =>
      rw [hx] at h1
      cases hxs : mapO f xs with
      | none => rw [hxs] at h1; simp at h1
      | some us =>
        rw [hxs] at h1
        simp only [Option.some.injEq] at h1
        subst h1
        rw [ih hxs]; rfl
theorem ro_cloA {Ω : Opq} (hΩ : Ω = std) {S : State} {k g : Nat} {xs caps xs' caps' : List A} (h1 : mapO (roO S k) xs = some xs') (h2 : mapO (roO S k) caps = some caps') : mapO (roO S k) (Ω.cloA g xs caps) = some (Ω.cloA g xs' caps') := by
  subst hΩ
  show mapO _ (Fw.cloA g xs caps) = some (Fw.cloA g xs' caps')
  unfold Fw.cloA
  split
  · exact mapO_append _ h1 h2
  · exact mapO_append _ h2 h1
theorem roO_clo (S : State) (k g : Nat) (xs : List A) : roO S (k + 1) (.clo g xs) = (mapO (roO S k) xs).map (A.clo g) := rfl
theorem ro_clo2 {S : State} {k g : Nat} {x x' : A} {caps caps' : List A} (h1 : roO S (k + 1) x = some x') (h2 : mapO (roO S k) caps = some caps') : mapO (roO S (k + 1)) [x, .clo g caps] = some [x', .clo g caps'] := by
  simp [mapO, roO_clo, h1, h2]
/-- What a function value with these captured values answers. -/
structure CloB (P : Program) {α : Type} (enc : α → A) (l : List α) (g : Nat) (caps : List A) (p : α → Bool) : Prop where
  ro : ∀ S k, mapO (roO S (k + 4)) caps = some caps
  no : caps.all noOwn = true
  kl : ∀ r, killL r caps = caps
  run : ∀ s ∈ l, PCtr P (Fw.cloN g) (Fw.cloA g [enc s] caps) (boo (p s))
theorem c_IndexFuncS (l : List (List UInt8)) (hl : l.length ≤ 4611686018427387904) (g : Nat) (caps : List A) (p : List UInt8 → Bool) (hf : CloB PP (str) l g caps p) : PCtr PP n_slices_IndexFunc_L_string_string [.sl false 1 (l.map (str)), .clo g caps] (i64 (idx p l)) := by
  obtain ⟨Ω, hΩ⟩ : ∃ Ω, Ω = std := ⟨_, rfl⟩
  obtain ⟨r, hr⟩ : ∃ r, r = idx p l := ⟨_, rfl⟩
  rw [← hr]
  obtain ⟨xs, hxs⟩ : ∃ xs, xs = l.map (str) := ⟨_, rfl⟩
  have hlen : xs.length = l.length := by rw [hxs, List.length_map]
  rw [← hxs]
  have hro := hf.ro
  have hrun : ∀ s ∈ l, PCtr PP (Ω.cloN g) (Ω.cloA g [str s] caps) (boo (p s)) := by subst hΩ; exact hf.run
  have htab := tab
  have hmo := hmo
  have hve := verEq
  refine PCtr.walk tab hΩ fn_slices_IndexFunc_L_string_string rfl ?_
  generalize PP = P at *
  cbv
  refine loopX htab hΩ (fun i : Nat => ⟨[(0, .sl false 1 xs), (1, .clo g caps), (7, .sc (.int .i64 (Ω.int (Ω.len xs)))), (8, .sc (.int .i64 (Ω.int i)))], 19, []⟩) (fun i => i ≤ l.length ∧ r = idxFrom p i (l.drop i)) (fun i => l.length - i) 0
    ⟨Nat.zero_le _, hr⟩ (Sbs.mk rfl rfl ⟨rfl, rfl, rfl, zeroI hΩ, trivial⟩) ?_
  rintro i ⟨hi, he⟩
  cbv
  refine br (fun h => ?_) (fun h => ?_) <;> cbv
  · replace h := ltI hΩ h
    obtain ⟨c, hcc⟩ := at_of (cs := l) (by omega : i < l.length)
    rw [idxFrom_at _ hcc] at he
    refine ⟨⟨nnI hΩ⟩, _, rdI hΩ hxs hcc, ?_⟩
    cbv
    have h1 := hrun c (List.mem_of_getElem? hcc)

    refine call_pure hΩ 4 h1 (ro_cloA hΩ rfl (hro _ 0)) (fits _) rfl rfl ?_
    cbv
    refine br (fun g => ?_) (fun g => ?_) <;> cbv
    · exact .of (congrArg i64 (by rw [he, if_pos g]; subst hΩ; rfl))
    · rw [if_neg (by rw [show p c = false from g]; simp)] at he
      exact ⟨i + 1, ⟨by omega, he⟩, by omega, Sbs.mk rfl rfl ⟨rfl, rfl, rfl, incI hΩ (by omega), trivial⟩⟩
  · replace h := geI hΩ h
    exact .of (congrArg i64 (by rw [he, List.drop_of_length_le (by omega)]; rfl))
theorem c_ContainsFuncS (l : List (List UInt8)) (hl : l.length ≤ 4611686018427387904) (g : Nat) (caps : List A) (p : List UInt8 → Bool) (hf : CloB PP (str) l g caps p) : PCtr PP n_slices_ContainsFunc_L_string_string [.sl false 1 (l.map (str)), .clo g caps] (boo (l.any p)) := by
  obtain ⟨Ω, hΩ⟩ : ∃ Ω, Ω = std := ⟨_, rfl⟩
  obtain ⟨r, hr⟩ : ∃ r, r = l.any p := ⟨_, rfl⟩
  rw [← hr]
  have hc := c_IndexFuncS l hl g caps p hf
  have hro := hf.ro
  rw [← idx_any] at hr
  generalize idx p l = k at *
  generalize l.map (str) = xs at *
  have htab := tab
  have hmo := hmo
  have hve := verEq
  refine PCtr.walk tab hΩ fn_slices_ContainsFunc_L_string_string rfl ?_
  generalize PP = P at *
  cbv
  refine call_pure hΩ 5 hc (ro_clo2 rfl (hro _ 0)) (fits _) rfl rfl ?_
  cbv
  refine .of (congrArg boo ?_)
  subst hΩ; subst hr; rfl
theorem c_IndexFuncT (l : List (Trm)) (hl : l.length ≤ 4611686018427387904) (g : Nat) (caps : List A) (p : Trm → Bool) (hf : CloB PP (Trm.enc) l g caps p) : PCtr PP n_slices_IndexFunc_L_impl_Term_impl_Term [.sl false 7 (l.map (Trm.enc)), .clo g caps] (i64 (idx p l)) := by
  obtain ⟨Ω, hΩ⟩ : ∃ Ω, Ω = std := ⟨_, rfl⟩
  obtain ⟨r, hr⟩ : ∃ r, r = idx p l := ⟨_, rfl⟩
  rw [← hr]
  obtain ⟨xs, hxs⟩ : ∃ xs, xs = l.map (Trm.enc) := ⟨_, rfl⟩
  have hlen : xs.length = l.length := by rw [hxs, List.length_map]
  rw [← hxs]
  have hro := hf.ro
  have hrun : ∀ s ∈ l, PCtr PP (Ω.cloN g) (Ω.cloA g [Trm.enc s] caps) (boo (p s)) := by subst hΩ; exact hf.run
  have htab := tab
  have hmo := hmo
  have hve := verEq
  refine PCtr.walk tab hΩ fn_slices_IndexFunc_L_impl_Term_impl_Term rfl ?_
  generalize PP = P at *
  cbv
  refine loopX htab hΩ (fun i : Nat => ⟨[(0, .sl false 7 xs), (1, .clo g caps), (7, .sc (.int .i64 (Ω.int (Ω.len xs)))), (8, .sc (.int .i64 (Ω.int i)))], 19, []⟩) (fun i => i ≤ l.length ∧ r = idxFrom p i (l.drop i)) (fun i => l.length - i) 0
    ⟨Nat.zero_le _, hr⟩ (Sbs.mk rfl rfl ⟨rfl, rfl, rfl, zeroI hΩ, trivial⟩) ?_
  rintro i ⟨hi, he⟩
  cbv
  refine br (fun h => ?_) (fun h => ?_) <;> cbv
  · replace h := ltI hΩ h
    obtain ⟨c, hcc⟩ := at_of (cs := l) (by omega : i < l.length)
    rw [idxFrom_at _ hcc] at he
    refine ⟨⟨nnI hΩ⟩, _, rdI hΩ hxs hcc, ?_⟩
    cbv
    have h1 := hrun c (List.mem_of_getElem? hcc)

    refine call_pure hΩ 4 h1 (ro_cloA hΩ rfl (hro _ 0)) (fits _) rfl rfl ?_
    cbv
    refine br (fun g => ?_) (fun g => ?_) <;> cbv
    · exact .of (congrArg i64 (by rw [he, if_pos g]; subst hΩ; rfl))
    · rw [if_neg (by rw [show p c = false from g]; simp)] at he
      exact ⟨i + 1, ⟨by omega, he⟩, by omega, Sbs.mk rfl rfl ⟨rfl, rfl, rfl, incI hΩ (by omega), trivial⟩⟩
  · replace h := geI hΩ h
    exact .of (congrArg i64 (by rw [he, List.drop_of_length_le (by omega)]; rfl))
theorem c_ContainsFuncT (l : List (Trm)) (hl : l.length ≤ 4611686018427387904) (g : Nat) (caps : List A) (p : Trm → Bool) (hf : CloB PP (Trm.enc) l g caps p) : PCtr PP n_slices_ContainsFunc_L_impl_Term_impl_Term [.sl false 7 (l.map (Trm.enc)), .clo g caps] (boo (l.any p)) := by
  obtain ⟨Ω, hΩ⟩ : ∃ Ω, Ω = std := ⟨_, rfl⟩
  obtain ⟨r, hr⟩ : ∃ r, r = l.any p := ⟨_, rfl⟩
  rw [← hr]
  have hc := c_IndexFuncT l hl g caps p hf
  have hro := hf.ro
  rw [← idx_any] at hr
  generalize idx p l = k at *
  generalize l.map (Trm.enc) = xs at *
  have htab := tab
  have hmo := hmo
  have hve := verEq
  refine PCtr.walk tab hΩ fn_slices_ContainsFunc_L_impl_Term_impl_Term rfl ?_
  generalize PP = P at *
  cbv
  refine call_pure hΩ 5 hc (ro_clo2 rfl (hro _ 0)) (fits _) rfl rfl ?_
  cbv
  refine .of (congrArg boo ?_)
  subst hΩ; subst hr; rfl
theorem c_IndexFuncI (l : List (Int)) (hl : l.length ≤ 4611686018427387904) (g : Nat) (caps : List A) (p : Int → Bool) (hf : CloB PP (i64) l g caps p) : PCtr PP n_slices_IndexFunc_L_int64_int64 [.sl false 1 (l.map (i64)), .clo g caps] (i64 (idx p l)) := by
  obtain ⟨Ω, hΩ⟩ : ∃ Ω, Ω = std := ⟨_, rfl⟩
  obtain ⟨r, hr⟩ : ∃ r, r = idx p l := ⟨_, rfl⟩
  rw [← hr]
  obtain ⟨xs, hxs⟩ : ∃ xs, xs = l.map (i64) := ⟨_, rfl⟩
  have hlen : xs.length = l.length := by rw [hxs, List.length_map]
  rw [← hxs]
  have hro := hf.ro
  have hrun : ∀ s ∈ l, PCtr PP (Ω.cloN g) (Ω.cloA g [i64 s] caps) (boo (p s)) := by subst hΩ; exact hf.run
  have htab := tab
  have hmo := hmo
  have hve := verEq
  refine PCtr.walk tab hΩ fn_slices_IndexFunc_L_int64_int64 rfl ?_
  generalize PP = P at *
  cbv
  refine loopX htab hΩ (fun i : Nat => ⟨[(0, .sl false 1 xs), (1, .clo g caps), (7, .sc (.int .i64 (Ω.int (Ω.len xs)))), (8, .sc (.int .i64 (Ω.int i)))], 19, []⟩) (fun i => i ≤ l.length ∧ r = idxFrom p i (l.drop i)) (fun i => l.length - i) 0
    ⟨Nat.zero_le _, hr⟩ (Sbs.mk rfl rfl ⟨rfl, rfl, rfl, zeroI hΩ, trivial⟩) ?_
  rintro i ⟨hi, he⟩
  cbv
  refine br (fun h => ?_) (fun h => ?_) <;> cbv
  · replace h := ltI hΩ h
    obtain ⟨c, hcc⟩ := at_of (cs := l) (by omega : i < l.length)
    rw [idxFrom_at _ hcc] at he
    refine ⟨⟨nnI hΩ⟩, _, rdI hΩ hxs hcc, ?_⟩
    cbv
    have h1 := hrun c (List.mem_of_getElem? hcc)

    refine call_pure hΩ 4 h1 (ro_cloA hΩ rfl (hro _ 0)) (fits _) rfl rfl ?_
    cbv
    refine br (fun g => ?_) (fun g => ?_) <;> cbv
    · exact .of (congrArg i64 (by rw [he, if_pos g]; subst hΩ; rfl))
    · rw [if_neg (by rw [show p c = false from g]; simp)] at he
      exact ⟨i + 1, ⟨by omega, he⟩, by omega, Sbs.mk rfl rfl ⟨rfl, rfl, rfl, incI hΩ (by omega), trivial⟩⟩
  · replace h := geI hΩ h
    exact .of (congrArg i64 (by rw [he, List.drop_of_length_le (by omega)]; rfl))
theorem c_ContainsFuncI (l : List (Int)) (hl : l.length ≤ 4611686018427387904) (g : Nat) (caps : List A) (p : Int → Bool) (hf : CloB PP (i64) l g caps p) : PCtr PP n_slices_ContainsFunc_L_int64_int64 [.sl false 1 (l.map (i64)), .clo g caps] (boo (l.any p)) := by
  obtain ⟨Ω, hΩ⟩ : ∃ Ω, Ω = std := ⟨_, rfl⟩
  obtain ⟨r, hr⟩ : ∃ r, r = l.any p := ⟨_, rfl⟩
  rw [← hr]
  have hc := c_IndexFuncI l hl g caps p hf
  have hro := hf.ro
  rw [← idx_any] at hr
  generalize idx p l = k at *
  generalize l.map (i64) = xs at *
  have htab := tab
  have hmo := hmo
  have hve := verEq
  refine PCtr.walk tab hΩ fn_slices_ContainsFunc_L_int64_int64 rfl ?_
  generalize PP = P at *
  cbv
  refine call_pure hΩ 5 hc (ro_clo2 rfl (hro _ 0)) (fits _) rfl rfl ?_
  cbv
  refine .of (congrArg boo ?_)
  subst hΩ; subst hr; rfl
theorem c_IndexFuncL (l : List (List Trm)) (hl : l.length ≤ 4611686018427387904) (g : Nat) (caps : List A) (p : List Trm → Bool) (hf : CloB PP (encTs false) l g caps p) : PCtr PP n_slices_IndexFunc_L_L_impl_Term_L_impl_Term [.sl false 1 (l.map (encTs false)), .clo g caps] (i64 (idx p l)) := by
  obtain ⟨Ω, hΩ⟩ : ∃ Ω, Ω = std := ⟨_, rfl⟩
  obtain ⟨r, hr⟩ : ∃ r, r = idx p l := ⟨_, rfl⟩
  rw [← hr]
  obtain ⟨xs, hxs⟩ : ∃ xs, xs = l.map (encTs false) := ⟨_, rfl⟩
  have hlen : xs.length = l.length := by rw [hxs, List.length_map]
  rw [← hxs]
  have hro := hf.ro
  have hrun : ∀ s ∈ l, PCtr PP (Ω.cloN g) (Ω.cloA g [encTs false s] caps) (boo (p s)) := by subst hΩ; exact hf.run
  have htab := tab
  have hmo := hmo
  have hve := verEq
  refine PCtr.walk tab hΩ fn_slices_IndexFunc_L_L_impl_Term_L_impl_Term rfl ?_
  generalize PP = P at *
  cbv
  refine loopX htab hΩ (fun i : Nat => ⟨[(0, .sl false 1 xs), (1, .clo g caps), (7, .sc (.int .i64 (Ω.int (Ω.len xs)))), (8, .sc (.int .i64 (Ω.int i)))], 19, []⟩) (fun i => i ≤ l.length ∧ r = idxFrom p i (l.drop i)) (fun i => l.length - i) 0
    ⟨Nat.zero_le _, hr⟩ (Sbs.mk rfl rfl ⟨rfl, rfl, rfl, zeroI hΩ, trivial⟩) ?_
  rintro i ⟨hi, he⟩
  cbv
  refine br (fun h => ?_) (fun h => ?_) <;> cbv
  · replace h := ltI hΩ h
    obtain ⟨c, hcc⟩ := at_of (cs := l) (by omega : i < l.length)
    rw [idxFrom_at _ hcc] at he
    obtain ⟨cs, hen, hcs⟩ : ∃ cs, encTs false c = .sl false 7 cs ∧ cs = c.map Trm.enc := ⟨_, rfl, rfl⟩
    refine ⟨⟨nnI hΩ⟩, _, (rdI hΩ hxs hcc).trans (congrArg some hen), ?_⟩
    cbv
    have h1 := hrun c (List.mem_of_getElem? hcc)
    rw [hen] at h1
    refine call_pure hΩ 4 h1 (ro_cloA hΩ rfl (hro _ 0)) (fits _) rfl rfl ?_
    cbv
    refine br (fun g => ?_) (fun g => ?_) <;> cbv
    · exact .of (congrArg i64 (by rw [he, if_pos g]; subst hΩ; rfl))
    · rw [if_neg (by rw [show p c = false from g]; simp)] at he
      exact ⟨i + 1, ⟨by omega, he⟩, by omega, Sbs.mk rfl rfl ⟨rfl, rfl, rfl, incI hΩ (by omega), trivial⟩⟩
  · replace h := geI hΩ h
    exact .of (congrArg i64 (by rw [he, List.drop_of_length_le (by omega)]; rfl))
theorem c_ContainsFuncL (l : List (List Trm)) (hl : l.length ≤ 4611686018427387904) (g : Nat) (caps : List A) (p : List Trm → Bool) (hf : CloB PP (encTs false) l g caps p) : PCtr PP n_slices_ContainsFunc_L_L_impl_Term_L_impl_Term [.sl false 1 (l.map (encTs false)), .clo g caps] (boo (l.any p)) := by
  obtain ⟨Ω, hΩ⟩ : ∃ Ω, Ω = std := ⟨_, rfl⟩
  obtain ⟨r, hr⟩ : ∃ r, r = l.any p := ⟨_, rfl⟩
  rw [← hr]
  have hc := c_IndexFuncL l hl g caps p hf
  have hro := hf.ro
  rw [← idx_any] at hr
  generalize idx p l = k at *
  generalize l.map (encTs false) = xs at *
  have htab := tab
  have hmo := hmo
  have hve := verEq
  refine PCtr.walk tab hΩ fn_slices_ContainsFunc_L_L_impl_Term_L_impl_Term rfl ?_
  generalize PP = P at *
  cbv
  refine call_pure hΩ 5 hc (ro_clo2 rfl (hro _ 0)) (fits _) rfl rfl ?_
  cbv
  refine .of (congrArg boo ?_)
  subst hΩ; subst hr; rfl
theorem c_IndexFuncP (l : List (Pck)) (hl : l.length ≤ 4611686018427387904) (g : Nat) (caps : List A) (p : Pck → Bool) (hf : CloB PP (Pck.enc false) l g caps p) : PCtr PP n_slices_IndexFunc_L_impl_Pack_impl_Pack [.sl false 8 (l.map (Pck.enc false)), .clo g caps] (i64 (idx p l)) := by
  obtain ⟨Ω, hΩ⟩ : ∃ Ω, Ω = std := ⟨_, rfl⟩
  obtain ⟨r, hr⟩ : ∃ r, r = idx p l := ⟨_, rfl⟩
  rw [← hr]
  obtain ⟨xs, hxs⟩ : ∃ xs, xs = l.map (Pck.enc false) := ⟨_, rfl⟩
  have hlen : xs.length = l.length := by rw [hxs, List.length_map]
  rw [← hxs]
  have hro := hf.ro
  have hrun : ∀ s ∈ l, PCtr PP (Ω.cloN g) (Ω.cloA g [Pck.enc false s] caps) (boo (p s)) := by subst hΩ; exact hf.run
  have htab := tab
  have hmo := hmo
  have hve := verEq
  refine PCtr.walk tab hΩ fn_slices_IndexFunc_L_impl_Pack_impl_Pack rfl ?_
  generalize PP = P at *
  cbv
  refine loopX htab hΩ (fun i : Nat => ⟨[(0, .sl false 8 xs), (1, .clo g caps), (7, .sc (.int .i64 (Ω.int (Ω.len xs)))), (8, .sc (.int .i64 (Ω.int i)))], 19, []⟩) (fun i => i ≤ l.length ∧ r = idxFrom p i (l.drop i)) (fun i => l.length - i) 0
    ⟨Nat.zero_le _, hr⟩ (Sbs.mk rfl rfl ⟨rfl, rfl, rfl, zeroI hΩ, trivial⟩) ?_
  rintro i ⟨hi, he⟩
  cbv
  refine br (fun h => ?_) (fun h => ?_) <;> cbv
  · replace h := ltI hΩ h
    obtain ⟨c, hcc⟩ := at_of (cs := l) (by omega : i < l.length)
    rw [idxFrom_at _ hcc] at he
    obtain ⟨ps, ds, bs, hen, hps, hds, hbs⟩ := enc_raw c
    refine ⟨⟨nnI hΩ⟩, _, (rdI hΩ hxs hcc).trans (congrArg some hen), ?_⟩
    cbv
    have h1 := hrun c (List.mem_of_getElem? hcc)
    rw [hen] at h1
    refine call_pure hΩ 4 h1 (ro_cloA hΩ rfl (hro _ 0)) (fits _) rfl rfl ?_
    cbv
    refine br (fun g => ?_) (fun g => ?_) <;> cbv
    · exact .of (congrArg i64 (by rw [he, if_pos g]; subst hΩ; rfl))
    · rw [if_neg (by rw [show p c = false from g]; simp)] at he
      exact ⟨i + 1, ⟨by omega, he⟩, by omega, Sbs.mk rfl rfl ⟨rfl, rfl, rfl, incI hΩ (by omega), trivial⟩⟩
  · replace h := geI hΩ h
    exact .of (congrArg i64 (by rw [he, List.drop_of_length_le (by omega)]; rfl))
end Go.Proofs.YtomfmdfamlmfiaaGreat

/- Walks: what a package gives. Plain theorems. -/
set_option linter.unusedVariables false
set_option linter.unusedSimpArgs false
namespace Go.Proofs.YtomfmdfamlmfiaaGreat
open Go Go.Fw
set_option maxRecDepth 100000
theorem roV {S : State} {k r len n : Nat} {ys : List A} (hr : Fw.rowAt S.rows r = some ⟨n, ys, false⟩) (hl : len = ys.length) (hf : ys.map frz = ys) : roO S (k + 1) (.vw r 0 len) = some (.sl false n ys) := by
  simp only [roO, hr]
  rw [hl, List.drop_zero, List.take_length, hf]
  rfl
theorem frzStr (l : List (List UInt8)) : (l.map str).map frz = l.map str := by
  rw [List.map_map]; exact List.map_congr_left fun c _ => rfl
theorem roFStr (l : List (List UInt8)) : roFree (strs l) = true := by
  unfold strs
  rw [roFree_sl, Bool.true_and, List.all_eq_true]
  intro x hx
  obtain ⟨c, _, rfl⟩ := List.mem_map.1 hx
  rfl
theorem names_any (o : Pck) (t : Trm) : (o.n :: o.p).any (fun s => hasB t s o.v) = givesB o t := by
  unfold givesB hasB
  rw [List.any_cons, show (t.n == t.n) = true by simp, Bool.true_and]
  generalize (decide (cmpV t.l o.v ≤ 0) && decide (cmpV o.v t.h < 0)) = X
  cases X
  · simp
  · simp only [Bool.and_true]
    congr 2
    funext s
    exact beqSymm _ _
theorem c_gives1 (o : Pck) (t : Trm) (s : List UInt8) {ps ds bs : List A} : PCtr PP n_impl_Pack_gives_1 [str s, .rp t.cells, .rp [str o.n, i64 o.v.a, i64 o.v.b, i64 o.v.c, i64 o.s, .sl false 1 ps, .sl false 1 ds, .sl false 7 bs]] (boo (hasB t s o.v)) := by
  obtain ⟨Ω, hΩ⟩ : ∃ Ω, Ω = std := ⟨_, rfl⟩
  have hc := c_has t s o.v
  generalize hasB t s o.v = r at *
  have htab := tab
  refine PCtr.walk tab hΩ fn_impl_Pack_gives_1 rfl ?_
  generalize PP = P at *
  cbv
  refine call_pure hΩ 3 hc rfl (fits _) rfl rfl ?_
  cbv
  exact .same
theorem c_gives (o : Pck) (t : Trm) (hl : o.p.length ≤ 1048576) : PCtr PP n_impl_Pack_gives [o.enc false, t.enc] (boo (givesB o t)) := by
  obtain ⟨Ω, hΩ⟩ : ∃ Ω, Ω = std := ⟨_, rfl⟩
  obtain ⟨r, hr⟩ : ∃ r, r = givesB o t := ⟨_, rfl⟩
  rw [← hr]
  obtain ⟨ps, ds, bs, hen, hps, hds, hbs⟩ := enc_raw o
  rw [hen]
  have hn := c_names o hl
  have hcf : PCtr PP n_slices_ContainsFunc_L_string_string [.sl false 1 ((o.n :: o.p).map str), .clo n_impl_Pack_gives_1 [.rp t.cells, .rp [str o.n, i64 o.v.a, i64 o.v.b, i64 o.v.c, i64 o.s, .sl false 1 ps, .sl false 1 ds, .sl false 7 bs]]] (boo r) := by
    rw [hr, ← names_any]
    exact c_ContainsFuncS _ (by simp; omega) _ _ _ ⟨fun S k => rfl, rfl, fun _ => rfl, fun s _ => c_gives1 o t s⟩
  have hrf := roFStr (o.n :: o.p)
  have hzf := frzStr (o.n :: o.p)
  rw [hen] at hn
  unfold strs at hn hrf
  generalize (o.n :: o.p).map str = zs at *
  have htab := tab
  have hmo := hmo
  have hve := verEq
  refine PCtr.walk tab hΩ fn_impl_Pack_gives rfl ?_
  generalize PP = P at *
  cbv
  refine call_pure hΩ 3 hn rfl (fits _) hrf rfl ?_
  cbv
  refine call_pure hΩ 5 hcf (ro_clo2 (roV rfl (by subst hΩ; rfl) hzf) rfl) (fits _) rfl rfl ?_
  cbv
  exact .same
theorem c_givesOne (o : Pck) (l : List Trm) (ho : o.p.length ≤ 1048576) (hl : l.length ≤ 1048576) : PCtr PP n_impl_Pack_givesOne [o.enc false, .sl false 7 (l.map Trm.enc)] (boo (l.any (givesB o))) := by
  obtain ⟨Ω, hΩ⟩ : ∃ Ω, Ω = std := ⟨_, rfl⟩
  obtain ⟨r, hr⟩ : ∃ r, r = l.any (givesB o) := ⟨_, rfl⟩
  rw [← hr]
  obtain ⟨ps, ds, bs, hen, hps, hds, hbs⟩ := enc_raw o
  rw [hen]
  have hcf : PCtr PP n_slices_ContainsFunc_L_impl_Term_impl_Term [.sl false 7 (l.map Trm.enc), .clo (1000000 + n_impl_Pack_gives) [.agg [str o.n, i64 o.v.a, i64 o.v.b, i64 o.v.c, i64 o.s, .sl false 1 ps, .sl false 1 ds, .sl false 7 bs]]] (boo r) := by
    rw [hr, ← hen]
    exact c_ContainsFuncT _ (by omega) _ _ _ ⟨fun S k => by rw [hen]; rfl, by rw [hen]; rfl, fun _ => by rw [hen]; rfl, fun t _ => c_gives o t ho⟩
  generalize l.map Trm.enc = xs at *
  have htab := tab
  have hmo := hmo
  have hve := verEq
  refine PCtr.walk tab hΩ fn_impl_Pack_givesOne rfl ?_
  generalize PP = P at *
  cbv
  refine call_pure hΩ 5 hcf (ro_clo2 rfl rfl) (fits _) rfl rfl ?_
  cbv
  exact .same
end Go.Proofs.YtomfmdfamlmfiaaGreat

/- Walks: faults of packages. Plain theorems. -/
set_option linter.unusedVariables false
set_option linter.unusedSimpArgs false
namespace Go.Proofs.YtomfmdfamlmfiaaGreat
open Go Go.Fw
set_option maxRecDepth 100000
def provFrom (n : List UInt8) (all : List (List UInt8)) : Nat → List (List UInt8) → Int
  | _, [] => 0
  | i, x :: xs => if nameF x ≠ 0 then nameF x else if (x == n || (all.take i).any (· == x)) = true then 6 else provFrom n all (i + 1) xs
theorem provFrom_at (n : List UInt8) {cs : List (List UInt8)} {i : Nat} {c : List UInt8} (h : cs[i]? = some c) : provFrom n cs i (cs.drop i) = if nameF c ≠ 0 then nameF c else if (c == n || (cs.take i).any (· == c)) = true then 6 else provFrom n cs (i + 1) (cs.drop (i + 1)) := by
  obtain ⟨h1, h2⟩ := List.getElem?_eq_some_iff.1 h
  conv => lhs; rw [List.drop_eq_getElem_cons h1, h2, provFrom]
def needF (l : List Trm) : Int := if l.length = 0 then 1 else firstF trmF l
def packF (o : Pck) : Int :=
  if nameF o.n ≠ 0 then nameF o.n else if verF o.v ≠ 0 then verF o.v else if inB o.s 1 200 = false then 3 else
  if 4 < o.p.length ∨ 4 < o.d.length ∨ 4 < o.b.length ∨ o.d.any (fun l => decide (4 < l.length)) = true then 2 else
  if provFrom o.n o.p 0 o.p ≠ 0 then provFrom o.n o.p 0 o.p else if firstF needF o.d ≠ 0 then firstF needF o.d else firstF trmF o.b
structure Pck.Small (o : Pck) : Prop where
  p : o.p.length ≤ 1048576
  d : o.d.length ≤ 1048576
  b : o.b.length ≤ 1048576
  e : ∀ l ∈ o.d, l.length ≤ 1048576
theorem c_firstCode (l : List Int) (hl : l.length ≤ 1048576) : PCtr PP n_impl_firstCode [.sl false 1 (l.map i64)] (i64 (orF l)) := by
  obtain ⟨Ω, hΩ⟩ : ∃ Ω, Ω = std := ⟨_, rfl⟩
  obtain ⟨r, hr⟩ : ∃ r, r = orF l := ⟨_, rfl⟩
  rw [← hr]
  obtain ⟨xs, hxs⟩ : ∃ xs, xs = l.map i64 := ⟨_, rfl⟩
  have hlen : xs.length = l.length := by rw [hxs, List.length_map]
  rw [← hxs]
  have htab := tab
  have hmo := hmo
  have hve := verEq
  refine PCtr.walk tab hΩ fn_impl_firstCode rfl ?_
  generalize PP = P at *
  cbv
  refine loopX htab hΩ (fun i : Nat => ⟨[(5, .sl false 1 xs), (6, .sc (.int .i64 (Ω.int (Ω.len xs)))), (7, .sc (.int .i64 (Ω.int i)))], 15, []⟩) (fun i => i ≤ l.length ∧ r = orF (l.drop i)) (fun i => l.length - i) 0
    ⟨Nat.zero_le _, hr⟩ (Sbs.mk rfl rfl ⟨rfl, rfl, zeroI hΩ, trivial⟩) ?_
  rintro i ⟨hi, he⟩
  cbv
  refine br (fun h => ?_) (fun h => ?_) <;> cbv
  · replace h := ltI hΩ h
    obtain ⟨c, hcc⟩ := at_of (cs := l) (by omega : i < l.length)
    rw [orF_at hcc] at he
    refine ⟨⟨nnI hΩ⟩, _, rdI hΩ hxs hcc, ?_⟩
    cbv
    refine br (fun g => ?_) (fun g => ?_) <;> cbv
    · exact .of (congrArg i64 (by rw [he, if_pos (neI_t hΩ g)]))
    · rw [if_neg (by rw [neI_f hΩ g]; simp)] at he
      exact ⟨i + 1, ⟨by omega, he⟩, by omega, Sbs.mk rfl rfl ⟨rfl, rfl, incI hΩ (by omega), trivial⟩⟩
  · replace h := geI hΩ h
    exact .of (congrArg i64 (by rw [he, List.drop_of_length_le (by omega)]; rfl))
theorem c_PackFault1 (l : List Trm) : PCtr PP n_impl_PackFault_1 [encTs false l] (boo (decide (4 < l.length))) := by
  obtain ⟨Ω, hΩ⟩ : ∃ Ω, Ω = std := ⟨_, rfl⟩
  obtain ⟨r, hr⟩ : ∃ r, r = decide (4 < l.length) := ⟨_, rfl⟩
  rw [← hr]
  obtain ⟨cs, hen, hcs⟩ : ∃ cs, encTs false l = .sl false 7 cs ∧ cs = l.map Trm.enc := ⟨_, rfl, rfl⟩
  rw [hen]
  rw [show l.length = cs.length by rw [hcs, List.length_map]] at hr
  have htab := tab
  have hmo := hmo
  have hve := verEq
  refine PCtr.walk tab hΩ fn_impl_PackFault_1 rfl ?_
  generalize PP = P at *
  cbv
  exact .of (congrArg boo (by rw [hr]; subst hΩ; rw [Bool.eq_iff_iff]; simp; omega))
theorem c_implPackFault (o : Pck) (ho : o.Small) : PCtr PP n_impl_PackFault [o.enc false] (i64 (packF o)) := by
  obtain ⟨Ω, hΩ⟩ : ∃ Ω, Ω = std := ⟨_, rfl⟩
  obtain ⟨r, hr⟩ : ∃ r, r = packF o := ⟨_, rfl⟩
  rw [← hr]
  obtain ⟨ps, ds, bs, hen, hps, hds, hbs⟩ := enc_raw o
  rw [hen]
  have hpl : ps.length = o.p.length := by rw [hps, List.length_map]
  have hdl : ds.length = o.d.length := by rw [hds, List.length_map]
  have hbl : bs.length = o.b.length := by rw [hbs, List.length_map]
  have hn0 := c_implNameFault o.n
  have hn : ∀ s, ∃ k, nameF s = k ∧ PCtr PP n_impl_NameFault [str s] (i64 k) := fun s => ⟨_, rfl, c_implNameFault s⟩
  have hv := c_implVersionFault o.v
  have hw := c_within o.s 1 200
  have ht := c_termsFault o.b (by have := ho.b; omega)
  have htl : ∀ l ∈ o.d, PCtr PP n_impl_termsFault [.sl false 7 (l.map Trm.enc)] (i64 (firstF trmF l)) := fun l hl => c_termsFault l (by have := ho.e l hl; omega)
  have h1 := ho.p
  have h2 := ho.d
  have h3 := ho.b
  unfold packF at hr
  rw [← hbs] at ht
  obtain ⟨cN, hcN⟩ : ∃ x, nameF o.n = x := ⟨_, rfl⟩
  obtain ⟨cV, hcV⟩ : ∃ x, verF o.v = x := ⟨_, rfl⟩
  obtain ⟨bW, hbW⟩ : ∃ x, inB o.s 1 200 = x := ⟨_, rfl⟩
  obtain ⟨cP, hcP⟩ : ∃ x, provFrom o.n o.p 0 o.p = x := ⟨_, rfl⟩
  obtain ⟨cD, hcD⟩ : ∃ x, firstF needF o.d = x := ⟨_, rfl⟩
  obtain ⟨cB, hcB⟩ : ∃ x, firstF trmF o.b = x := ⟨_, rfl⟩
  have hn1 := hn0
  clear hn0
  rw [hcN] at hr hn1
  rw [hcV] at hr hv
  rw [hbW] at hr hw
  rw [hcB] at hr ht
  rw [hcP, hcD] at hr
  have hcf := c_firstCode [cN, cV] (by simp)
  obtain ⟨fc, hfc⟩ : ∃ x, orF [cN, cV] = x := ⟨_, rfl⟩
  rw [hfc] at hcf
  have hany := c_ContainsFuncL o.d (by omega) n_impl_PackFault_1 [] (fun l => decide (4 < l.length)) ⟨fun _ _ => rfl, rfl, fun _ => rfl, fun l _ => c_PackFault1 l⟩
  rw [← hds] at hany
  generalize (o.d.any fun l => decide (4 < l.length)) = bA at *
  have hhas := fun (l : List (List UInt8)) s (hl : l.length ≤ 1048576) => c_ContainsS l s (by omega)
  have hr : r = if fc ≠ 0 then fc else if bW = false then 3 else if 4 < o.p.length ∨ 4 < o.d.length ∨ 4 < o.b.length ∨ bA = true then 2 else if cP ≠ 0 then cP else if cD ≠ 0 then cD else cB := by
    rw [hr, ← hfc]
    simp only [orF]
    by_cases e1 : cN = 0
    · by_cases e2 : cV = 0
      · simp [e1, e2]
      · simp [e1, e2]
    · simp [e1]
  have htab := tab
  have hmo := hmo
  have hve := verEq
  refine PCtr.walk tab hΩ fn_impl_PackFault rfl ?_
  generalize PP = P at *
  cbv
  refine ⟨VC_tail htab hΩ hmo 6 (by kernel_rfl) ?_⟩
  cbv
  refine QCall_pure (k := 3) hn1 rfl (fits _) rfl ?_
  cbv
  refine QCall_pure (k := 3) hv rfl (fits _) rfl ?_
  cbv
  refine call_pure hΩ 3 hcf rfl (fits _) rfl rfl ?_
  cbv
  refine br (fun g => ?_) (fun g => ?_) <;> cbv
  · exact .of (congrArg i64 (by rw [hr, if_pos (neI_t hΩ g)]))
  rw [if_neg (by rw [neI_f hΩ g]; simp)] at hr
  refine call_pure hΩ 3 hw rfl (fits _) rfl rfl ?_
  cbv
  refine br (fun g => ?_) (fun g => ?_) <;> cbv
  · exact .of (congrArg i64 (by rw [hr, if_pos (notT' hΩ g)]))
  rw [if_neg (by rw [notF' hΩ g]; simp)] at hr
  refine br (fun q1 => ?_) (fun q1 => ?_) <;> cbv
  · exact .of (congrArg i64 (by rw [hr, if_pos (.inl (by subst hΩ; have q1 : (4 : Int) < ps.length := gt_t q1; omega))]))
  refine br (fun q2 => ?_) (fun q2 => ?_) <;> cbv
  · exact .of (congrArg i64 (by rw [hr, if_pos (.inr (.inl (by subst hΩ; have q2 : (4 : Int) < ds.length := gt_t q2; omega)))]))
  refine br (fun q3 => ?_) (fun q3 => ?_) <;> cbv
  · exact .of (congrArg i64 (by rw [hr, if_pos (.inr (.inr (.inl (by subst hΩ; have q3 : (4 : Int) < bs.length := gt_t q3; omega))))]))
  have q1 : o.p.length ≤ 4 := by subst hΩ; have q1 : (ps.length : Int) ≤ 4 := gt_f q1; omega
  have q2 : o.d.length ≤ 4 := by subst hΩ; have q2 : (ds.length : Int) ≤ 4 := gt_f q2; omega
  have q3 : o.b.length ≤ 4 := by subst hΩ; have q3 : (bs.length : Int) ≤ 4 := gt_f q3; omega
  refine call_pure hΩ 3 hany rfl (fits _) rfl rfl ?_
  cbv
  refine br (fun q4 => ?_) (fun q4 => ?_) <;> cbv
  · exact .of (congrArg i64 (by rw [hr, if_pos (.inr (.inr (.inr (by subst hΩ; exact q4))))]))
  have q4 : bA = false := by subst hΩ; exact q4
  rw [if_neg (by rw [q4]; simp; omega)] at hr
  refine loopX htab hΩ (fun i : Nat => ⟨[(1, .pt 0 0 0), (49, .sl false 1 ps), (50, .sc (.int .i64 (Ω.int (Ω.len ps)))), (51, .sc (.int .i64 (Ω.int i)))], 93, [some ⟨8, [.agg [str o.n, i64 o.v.a, i64 o.v.b, i64 o.v.c, i64 o.s, .sl false 1 ps, .sl false 1 ds, .sl false 7 bs]], true⟩]⟩) (fun i => i ≤ o.p.length ∧ cP = provFrom o.n o.p i (o.p.drop i)) (fun i => o.p.length - i) 0
    ⟨Nat.zero_le _, hcP.symm⟩ (Sbs.mkL (rows := [_]) rfl rfl rfl ⟨rfl, rfl, rfl, zeroI hΩ, trivial⟩) ?_
  rintro i ⟨hi, he⟩
  cbv
  refine br (fun h => ?_) (fun h => ?_) <;> cbv
  · replace h := ltI hΩ h
    obtain ⟨c, hcc⟩ := at_of (cs := o.p) (by omega : i < o.p.length)
    rw [provFrom_at _ hcc] at he
    refine ⟨⟨nnI hΩ⟩, _, rdI hΩ hps hcc, ?_⟩
    cbv
    obtain ⟨kc, hkc, hnc⟩ := hn c
    rw [hkc] at he
    refine call_pure hΩ 3 hnc rfl (fits _) rfl rfl ?_
    cbv
    refine br (fun g => ?_) (fun g => ?_) <;> cbv
    · refine .of (congrArg i64 ?_)
      have g := neI_t hΩ g
      rw [if_pos g] at he
      rw [hr, if_pos (by rw [he]; exact g), he]
    rw [if_neg (by rw [neI_f hΩ g]; simp)] at he
    have hh : PCtr P n_slices_Contains_L_string_string [.sl false 1 (Ω.seg 0 (Ω.nat (Ω.int i)) ps), str c] (boo ((o.p.take i).any (· == c))) := by
      subst hΩ
      have := hhas (o.p.take i) c (by simp; omega)
      rw [List.map_take, ← hps] at this
      exact this
    generalize (o.p.take i).any (· == c) = bh at *
    refine br (fun g1 => ?_) (fun g1 => ?_) <;> cbv
    · refine .of (congrArg i64 ?_)
      rw [if_pos (by rw [show (c == o.n) = true by subst hΩ; exact g1]; rfl)] at he
      rw [hr, if_pos (by rw [he]; decide), he]
    have g1 : (c == o.n) = false := by subst hΩ; exact g1
    rw [g1, Bool.false_or] at he
    refine ⟨⟨trivial, nnI hΩ, Nat.zero_le _, by subst hΩ; show i ≤ ps.length; omega⟩, ?_⟩
    refine call_pure hΩ 3 hh rfl (fits _) rfl rfl ?_
    cbv
    refine br (fun g2 => ?_) (fun g2 => ?_) <;> cbv
    · refine .of (congrArg i64 ?_)
      rw [if_pos (by subst hΩ; exact g2)] at he
      rw [hr, if_pos (by rw [he]; decide), he]
    rw [if_neg (by rw [show bh = false by subst hΩ; exact g2]; simp)] at he
    exact ⟨i + 1, ⟨by omega, he⟩, by omega, Sbs.mk rfl rfl ⟨rfl, rfl, rfl, incI hΩ (by omega), trivial⟩⟩
  · replace h := geI hΩ h
    rw [List.drop_of_length_le (by omega), provFrom] at he
    rw [if_neg (by rw [he]; simp)] at hr
    clear he h hi
    refine loopX htab hΩ (fun i : Nat => ⟨[(1, .pt 0 0 0), (75, .sl false 1 ds), (76, .sc (.int .i64 (Ω.int (Ω.len ds)))), (77, .sc (.int .i64 (Ω.int i)))], 93, [some ⟨8, [.agg [str o.n, i64 o.v.a, i64 o.v.b, i64 o.v.c, i64 o.s, .sl false 1 ps, .sl false 1 ds, .sl false 7 bs]], true⟩]⟩) (fun i => i ≤ o.d.length ∧ cD = firstF needF (o.d.drop i)) (fun i => o.d.length - i) 0
      ⟨Nat.zero_le _, hcD.symm⟩ (Sbs.mk rfl rfl ⟨rfl, rfl, rfl, zeroI hΩ, trivial⟩) ?_
    rintro i ⟨hi, he⟩
    cbv
    refine br (fun h => ?_) (fun h => ?_) <;> cbv
    · replace h := ltI hΩ h
      obtain ⟨c, hcc⟩ := at_of (cs := o.d) (by omega : i < o.d.length)
      rw [firstF_at _ hcc] at he
      obtain ⟨cs, hen2, hcs⟩ : ∃ cs, encTs false c = .sl false 7 cs ∧ cs = c.map Trm.enc := ⟨_, rfl, rfl⟩
      have hcl : cs.length = c.length := by rw [hcs, List.length_map]
      refine ⟨⟨nnI hΩ⟩, _, (rdI hΩ hds hcc).trans (congrArg some hen2), ?_⟩
      cbv
      refine br (fun g => ?_) (fun g => ?_) <;> cbv
      · refine .of (congrArg i64 ?_)
        have g : c.length = 0 := by subst hΩ; have g : (cs.length : Int) = 0 := eq_t g; omega
        rw [hr, if_pos] <;> rw [he, show needF c = 1 by rw [needF, if_pos g]] <;> simp
      have g : c.length ≠ 0 := by subst hΩ; have g : (cs.length : Int) ≠ 0 := eq_f g; omega
      have hnf : needF c = firstF trmF c := by rw [needF, if_neg g]
      have htc := htl c (List.mem_of_getElem? hcc)
      rw [← hcs, ← hnf] at htc
      generalize needF c = kc at *
      refine call_pure hΩ 3 htc rfl (fits _) rfl rfl ?_
      cbv
      refine br (fun g => ?_) (fun g => ?_) <;> cbv
      · refine .of (congrArg i64 ?_)
        have g := neI_t hΩ g
        rw [if_pos g] at he
        rw [hr, if_pos (by rw [he]; exact g), he]
      · rw [if_neg (by rw [neI_f hΩ g]; simp)] at he
        exact ⟨i + 1, ⟨by omega, he⟩, by omega, Sbs.mk rfl rfl ⟨rfl, rfl, rfl, incI hΩ (by omega), trivial⟩⟩
    · replace h := geI hΩ h
      rw [List.drop_of_length_le (by omega), firstF] at he
      rw [if_neg (by rw [he]; simp)] at hr
      refine call_pure hΩ 3 ht rfl (fits _) rfl rfl ?_
      cbv
      exact .of (congrArg i64 hr.symm)
theorem c_specPackFault (o : Pck) (ho : o.Small) : PCtr PP n_spec_PackFault [o.enc false] (i64 (packF o)) := by
  obtain ⟨Ω, hΩ⟩ : ∃ Ω, Ω = std := ⟨_, rfl⟩
  obtain ⟨r, hr⟩ : ∃ r, r = packF o := ⟨_, rfl⟩
  rw [← hr]
  obtain ⟨ps, ds, bs, hen, hps, hds, hbs⟩ := enc_raw o
  rw [hen]
  have hpl : ps.length = o.p.length := by rw [hps, List.length_map]
  have hdl : ds.length = o.d.length := by rw [hds, List.length_map]
  have hbl : bs.length = o.b.length := by rw [hbs, List.length_map]
  have hn0 := c_specNameFault o.n
  have hn : ∀ s, ∃ k, nameF s = k ∧ PCtr PP n_spec_NameFault [str s] (i64 k) := fun s => ⟨_, rfl, c_specNameFault s⟩
  have hv := c_specVersionFault o.v
  have hw := c_l1In o.s 1 200
  have ht := c_l2Terms o.b (by have := ho.b; omega)
  have htl : ∀ l ∈ o.d, PCtr PP n_spec_l2Terms [.sl false 7 (l.map Trm.enc)] (i64 (firstF trmF l)) := fun l hl => c_l2Terms l (by have := ho.e l hl; omega)
  have h1 := ho.p
  have h2 := ho.d
  have h3 := ho.b
  unfold packF at hr
  rw [← hbs] at ht
  obtain ⟨cN, hcN⟩ : ∃ x, nameF o.n = x := ⟨_, rfl⟩
  obtain ⟨cV, hcV⟩ : ∃ x, verF o.v = x := ⟨_, rfl⟩
  obtain ⟨bW, hbW⟩ : ∃ x, inB o.s 1 200 = x := ⟨_, rfl⟩
  obtain ⟨cP, hcP⟩ : ∃ x, provFrom o.n o.p 0 o.p = x := ⟨_, rfl⟩
  obtain ⟨cD, hcD⟩ : ∃ x, firstF needF o.d = x := ⟨_, rfl⟩
  obtain ⟨cB, hcB⟩ : ∃ x, firstF trmF o.b = x := ⟨_, rfl⟩
  have hn1 := hn0
  clear hn0
  rw [hcN] at hr hn1
  rw [hcV] at hr hv
  rw [hbW] at hr hw
  rw [hcB] at hr ht
  rw [hcP, hcD] at hr
  obtain ⟨bA, hbA⟩ : ∃ x, (o.d.any fun l => decide (4 < l.length)) = x := ⟨_, rfl⟩
  rw [hbA] at hr
  have hhas := fun (l : List (List UInt8)) s (hl : l.length ≤ 1048576) => c_l2Holds l s (by omega)
  have htab := tab
  have hmo := hmo
  have hve := verEq
  refine PCtr.walk tab hΩ fn_spec_PackFault rfl ?_
  generalize PP = P at *
  cbv
  refine call_pure hΩ 3 hn1 rfl (fits _) rfl rfl ?_
  cbv
  refine br (fun g => ?_) (fun g => ?_) <;> cbv
  · exact .of (congrArg i64 (by rw [hr, if_pos (neI_t hΩ g)]))
  rw [if_neg (by rw [neI_f hΩ g]; simp)] at hr
  refine call_pure hΩ 3 hv rfl (fits _) rfl rfl ?_
  cbv
  refine br (fun g => ?_) (fun g => ?_) <;> cbv
  · exact .of (congrArg i64 (by rw [hr, if_pos (neI_t hΩ g)]))
  rw [if_neg (by rw [neI_f hΩ g]; simp)] at hr
  refine call_pure hΩ 3 hw rfl (fits _) rfl rfl ?_
  cbv
  refine br (fun g => ?_) (fun g => ?_) <;> cbv
  · exact .of (congrArg i64 (by rw [hr, if_pos (notT' hΩ g)]))
  rw [if_neg (by rw [notF' hΩ g]; simp)] at hr
  refine br (fun q1 => ?_) (fun q1 => ?_) <;> cbv
  · exact .of (congrArg i64 (by rw [hr, if_pos (.inl (by subst hΩ; have q1 : (4 : Int) < ps.length := gt_t q1; omega))]))
  refine br (fun q2 => ?_) (fun q2 => ?_) <;> cbv
  · exact .of (congrArg i64 (by rw [hr, if_pos (.inr (.inl (by subst hΩ; have q2 : (4 : Int) < ds.length := gt_t q2; omega)))]))
  refine br (fun q3 => ?_) (fun q3 => ?_) <;> cbv
  · exact .of (congrArg i64 (by rw [hr, if_pos (.inr (.inr (.inl (by subst hΩ; have q3 : (4 : Int) < bs.length := gt_t q3; omega))))]))
  have q1 : o.p.length ≤ 4 := by subst hΩ; have q1 : (ps.length : Int) ≤ 4 := gt_f q1; omega
  have q2 : o.d.length ≤ 4 := by subst hΩ; have q2 : (ds.length : Int) ≤ 4 := gt_f q2; omega
  have q3 : o.b.length ≤ 4 := by subst hΩ; have q3 : (bs.length : Int) ≤ 4 := gt_f q3; omega
  refine loopX htab hΩ (fun i : Nat => ⟨[(1, .pt 0 0 0), (5, .sc (.int .i64 (Ω.int i)))], 118, [some ⟨8, [.agg [str o.n, i64 o.v.a, i64 o.v.b, i64 o.v.c, i64 o.s, .sl false 1 ps, .sl false 1 ds, .sl false 7 bs]], true⟩]⟩) (fun i => i ≤ o.d.length ∧ bA = (o.d.drop i).any (fun l => decide (4 < l.length))) (fun i => o.d.length - i) 0
    ⟨Nat.zero_le _, hbA.symm⟩ (Sbs.mk rfl rfl ⟨rfl, zeroI hΩ, trivial⟩) ?_
  rintro i ⟨hi, he⟩
  cbv
  refine br (fun h => ?_) (fun h => ?_) <;> cbv
  · replace h := ltI hΩ h
    obtain ⟨c, hcc⟩ := at_of (cs := o.d) (by omega : i < o.d.length)
    rw [any_at _ hcc] at he
    obtain ⟨cs, hen2, hcs⟩ : ∃ cs, encTs false c = .sl false 7 cs ∧ cs = c.map Trm.enc := ⟨_, rfl, rfl⟩
    have hcl : cs.length = c.length := by rw [hcs, List.length_map]
    refine ⟨⟨nnI hΩ⟩, _, (rdI hΩ hds hcc).trans (congrArg some hen2), ?_⟩
    cbv
    refine br (fun g => ?_) (fun g => ?_) <;> cbv
    · refine .of (congrArg i64 ?_)
      have g : 4 < c.length := by subst hΩ; have g : (4 : Int) < cs.length := gt_t g; omega
      rw [decide_eq_true g, Bool.true_or] at he
      rw [hr, if_pos (.inr (.inr (.inr he)))]
    have g : ¬ 4 < c.length := by subst hΩ; have g : (cs.length : Int) ≤ 4 := gt_f g; omega
    rw [decide_eq_false g, Bool.false_or] at he
    exact ⟨i + 1, ⟨by omega, he⟩, by omega, Sbs.mk rfl rfl ⟨rfl, incI hΩ (by omega), trivial⟩⟩
  · replace h := geI hΩ h
    rw [List.drop_of_length_le (by omega), List.any_nil] at he
    rw [if_neg (by rw [he]; simp; omega)] at hr
    clear he h hi
    refine loopX htab hΩ (fun i : Nat => ⟨[(1, .pt 0 0 0), (6, .sc (.int .i64 (Ω.int i)))], 118, [some ⟨8, [.agg [str o.n, i64 o.v.a, i64 o.v.b, i64 o.v.c, i64 o.s, .sl false 1 ps, .sl false 1 ds, .sl false 7 bs]], true⟩]⟩) (fun i => i ≤ o.p.length ∧ cP = provFrom o.n o.p i (o.p.drop i)) (fun i => o.p.length - i) 0
      ⟨Nat.zero_le _, hcP.symm⟩ (Sbs.mk rfl rfl ⟨rfl, zeroI hΩ, trivial⟩) ?_
    rintro i ⟨hi, he⟩
    cbv
    refine br (fun h => ?_) (fun h => ?_) <;> cbv
    · replace h := ltI hΩ h
      obtain ⟨c, hcc⟩ := at_of (cs := o.p) (by omega : i < o.p.length)
      rw [provFrom_at _ hcc] at he
      refine ⟨⟨nnI hΩ⟩, _, rdI hΩ hps hcc, ?_⟩
      cbv
      obtain ⟨kc, hkc, hnc⟩ := hn c
      rw [hkc] at he
      refine call_pure hΩ 3 hnc rfl (fits _) rfl rfl ?_
      cbv
      refine br (fun g => ?_) (fun g => ?_) <;> cbv
      · refine .of (congrArg i64 ?_)
        have g := neI_t hΩ g
        rw [if_pos g] at he
        rw [hr, if_pos (by rw [he]; exact g), he]
      rw [if_neg (by rw [neI_f hΩ g]; simp)] at he
      have hh : PCtr P n_spec_l2Holds [.sl false 1 (Ω.seg 0 (Ω.nat (Ω.int i)) ps), str c] (boo ((o.p.take i).any (· == c))) := by
        subst hΩ
        have := hhas (o.p.take i) c (by simp; omega)
        rw [List.map_take, ← hps] at this
        exact this
      generalize (o.p.take i).any (· == c) = bh at *
      refine ⟨VC_drawn htab hΩ hmo (by kernel_rfl) ?_⟩
      cbv
      refine ⟨⟨nnI hΩ⟩, _, rdI hΩ hps hcc, ?_⟩
      cbv
      refine br (fun g1 => ?_) (fun g1 => ?_) <;> cbv
      · refine .of (congrArg i64 ?_)
        rw [if_pos (by rw [show (c == o.n) = true by subst hΩ; exact g1]; rfl)] at he
        rw [hr, if_pos (by rw [he]; decide), he]
      have g1 : (c == o.n) = false := by subst hΩ; exact g1
      rw [g1, Bool.false_or] at he
      refine ⟨⟨trivial, nnI hΩ, Nat.zero_le _, by subst hΩ; show i ≤ ps.length; omega⟩, ?_⟩
      refine ⟨⟨nnI hΩ⟩, _, rdI hΩ hps hcc, ?_⟩
      cbv
      refine QCall_pure (k := 3) hh rfl (fits _) rfl ?_
      cbv
      refine br (fun g2 => ?_) (fun g2 => ?_) <;> cbv
      · refine .of (congrArg i64 ?_)
        rw [if_pos (by subst hΩ; exact g2)] at he
        rw [hr, if_pos (by rw [he]; decide), he]
      rw [if_neg (by rw [show bh = false by subst hΩ; exact g2]; simp)] at he
      exact ⟨i + 1, ⟨by omega, he⟩, by omega, Sbs.mk rfl rfl ⟨rfl, incI hΩ (by omega), trivial⟩⟩
    · replace h := geI hΩ h
      rw [List.drop_of_length_le (by omega), provFrom] at he
      rw [if_neg (by rw [he]; simp)] at hr
      clear he h hi
      refine loopX htab hΩ (fun i : Nat => ⟨[(1, .pt 0 0 0), (8, .sc (.int .i64 (Ω.int i)))], 118, [some ⟨8, [.agg [str o.n, i64 o.v.a, i64 o.v.b, i64 o.v.c, i64 o.s, .sl false 1 ps, .sl false 1 ds, .sl false 7 bs]], true⟩]⟩) (fun i => i ≤ o.d.length ∧ cD = firstF needF (o.d.drop i)) (fun i => o.d.length - i) 0
        ⟨Nat.zero_le _, hcD.symm⟩ (Sbs.mk rfl rfl ⟨rfl, zeroI hΩ, trivial⟩) ?_
      rintro i ⟨hi, he⟩
      cbv
      refine br (fun h => ?_) (fun h => ?_) <;> cbv
      · replace h := ltI hΩ h
        obtain ⟨c, hcc⟩ := at_of (cs := o.d) (by omega : i < o.d.length)
        rw [firstF_at _ hcc] at he
        obtain ⟨cs, hen2, hcs⟩ : ∃ cs, encTs false c = .sl false 7 cs ∧ cs = c.map Trm.enc := ⟨_, rfl, rfl⟩
        have hcl : cs.length = c.length := by rw [hcs, List.length_map]
        refine ⟨⟨nnI hΩ⟩, _, (rdI hΩ hds hcc).trans (congrArg some hen2), ?_⟩
        cbv
        refine br (fun g => ?_) (fun g => ?_) <;> cbv
        · refine .of (congrArg i64 ?_)
          have g : c.length = 0 := by subst hΩ; have g : (cs.length : Int) = 0 := eq_t g; omega
          rw [hr, if_pos] <;> rw [he, show needF c = 1 by rw [needF, if_pos g]] <;> simp
        have g : c.length ≠ 0 := by subst hΩ; have g : (cs.length : Int) ≠ 0 := eq_f g; omega
        have hnf : needF c = firstF trmF c := by rw [needF, if_neg g]
        have htc := htl c (List.mem_of_getElem? hcc)
        rw [← hcs, ← hnf] at htc
        generalize needF c = kc at *
        refine ⟨⟨nnI hΩ⟩, _, (rdI hΩ hds hcc).trans (congrArg some hen2), ?_⟩
        cbv
        refine call_pure hΩ 3 htc rfl (fits _) rfl rfl ?_
        cbv
        refine br (fun g => ?_) (fun g => ?_) <;> cbv
        · refine .of (congrArg i64 ?_)
          have g := neI_t hΩ g
          rw [if_pos g] at he
          rw [hr, if_pos (by rw [he]; exact g), he]
        · rw [if_neg (by rw [neI_f hΩ g]; simp)] at he
          exact ⟨i + 1, ⟨by omega, he⟩, by omega, Sbs.mk rfl rfl ⟨rfl, incI hΩ (by omega), trivial⟩⟩
      · replace h := geI hΩ h
        rw [List.drop_of_length_le (by omega), firstF] at he
        rw [if_neg (by rw [he]; simp)] at hr
        refine call_pure hΩ 3 ht rfl (fits _) rfl rfl ?_
        cbv
        exact .of (congrArg i64 hr.symm)
end Go.Proofs.YtomfmdfamlmfiaaGreat

/- Walks: faults of catalogs and sets. Plain theorems. -/
set_option linter.unusedVariables false
set_option linter.unusedSimpArgs false
namespace Go.Proofs.YtomfmdfamlmfiaaGreat
open Go Go.Fw
set_option maxRecDepth 100000
def isP (n : List UInt8) (v : Ver) (p : Pck) : Bool := p.n == n && decide (p.v = v)
def findF (c : List Pck) (n : List UInt8) (v : Ver) : Int := idx (isP n v) c
def catFrom (all : List Pck) : Nat → List Pck → Int
  | _, [] => 0
  | i, x :: xs => if packF x ≠ 0 then packF x else if 0 ≤ findF (all.take i) x.n x.v then 6 else catFrom all (i + 1) xs
theorem catFrom_at {cs : List Pck} {i : Nat} {c : Pck} (h : cs[i]? = some c) : catFrom cs i (cs.drop i) = if packF c ≠ 0 then packF c else if 0 ≤ findF (cs.take i) c.n c.v then 6 else catFrom cs (i + 1) (cs.drop (i + 1)) := by
  obtain ⟨h1, h2⟩ := List.getElem?_eq_some_iff.1 h
  conv => lhs; rw [List.drop_eq_getElem_cons h1, h2, catFrom]
def catF (c : List Pck) : Int := if 24 < c.length then 2 else catFrom c 0 c
def riseAll (s : List Int) : Nat → List Int → Bool
  | _, [] => true
  | i, x :: xs => (i == 0 || decide (s.getD (i - 1) 0 < x)) && riseAll s (i + 1) xs
def setOk (m : Int) (s : List Int) : Nat → List Int → Bool
  | _, [] => true
  | i, x :: xs => (inB x 0 m && (i == 0 || decide (s.getD (i - 1) 0 < x))) && setOk m s (i + 1) xs
theorem setOk_eq (m : Int) (s : List Int) : ∀ (l : List Int) (i : Nat), setOk m s i l = (riseAll s i l && l.all fun x => inB x 0 m)
  | [], i => rfl
  | x :: xs, i => by
    rw [setOk, riseAll, List.all_cons, setOk_eq m s xs (i + 1)]
    generalize inB x 0 m = a
    generalize (i == 0 || decide (s.getD (i - 1) 0 < x)) = b
    generalize riseAll s (i + 1) xs = c
    generalize (xs.all fun x => inB x 0 m) = d
    revert a b c d
    decide
theorem setOk_at (m : Int) {s : List Int} {i : Nat} {c : Int} (h : s[i]? = some c) : setOk m s i (s.drop i) = ((inB c 0 m && (i == 0 || decide (s.getD (i - 1) 0 < c))) && setOk m s (i + 1) (s.drop (i + 1))) := by
  obtain ⟨h1, h2⟩ := List.getElem?_eq_some_iff.1 h
  conv => lhs; rw [List.drop_eq_getElem_cons h1, h2, setOk]
theorem riseAll_at {s : List Int} {i : Nat} {c : Int} (h : s[i]? = some c) : riseAll s i (s.drop i) = ((i == 0 || decide (s.getD (i - 1) 0 < c)) && riseAll s (i + 1) (s.drop (i + 1))) := by
  obtain ⟨h1, h2⟩ := List.getElem?_eq_some_iff.1 h
  conv => lhs; rw [List.drop_eq_getElem_cons h1, h2, riseAll]
theorem rise0 (s : List Int) : riseAll s 0 s = riseAll s 1 (s.drop 1) := by
  cases s with
  | nil => rfl
  | cons x xs => simp [riseAll]
theorem subI {Ω : Opq} (hΩ : Ω = std) {i : Nat} (h0 : 0 < i) (h : i ≤ 4611686018427387904) : 0 ≤ Ω.ar .sub .i64 (Ω.int i) 1 ∧ (Ω.ar .sub .i64 (Ω.int i) 1).toNat = i - 1 := by
  subst hΩ
  show 0 ≤ IntKind.i64.wrap ((i : Int) - 1) ∧ (IntKind.i64.wrap ((i : Int) - 1)).toNat = i - 1
  rw [wrap64 (by omega) (by omega)]
  omega
def setF (c : List Pck) (s : List Int) : Int := if catF c ≠ 0 then catF c else if setOk ((c.length : Int) - 1) s 0 s then 0 else 1
def encP (c : List Pck) : A := .sl false 8 (c.map (Pck.enc false))
theorem c_find1 (o : Pck) (n : List UInt8) (v : Ver) : PCtr PP n_impl_find_1 [o.enc false, .rp [str n], .rp v.cells] (boo (isP n v o)) := by
  obtain ⟨Ω, hΩ⟩ : ∃ Ω, Ω = std := ⟨_, rfl⟩
  obtain ⟨r, hr⟩ : ∃ r, r = isP n v o := ⟨_, rfl⟩
  rw [← hr]
  obtain ⟨ps, ds, bs, hen, hps, hds, hbs⟩ := enc_raw o
  rw [hen]
  unfold isP at hr
  obtain ⟨D, hD⟩ : ∃ x, decide (o.v = v) = x := ⟨_, rfl⟩
  rw [hD] at hr
  have htab := tab
  have hmo := hmo
  have hve := verEq
  refine PCtr.walk tab hΩ fn_impl_find_1 rfl ?_
  generalize PP = P at *
  cbv
  refine br (fun g => ?_) (fun g => ?_) <;> cbv
  · refine eqX_eql hve o.v v ?_
    rw [hD]
    cbv
    exact .of (congrArg boo (by rw [hr, show (o.n == n) = true by subst hΩ; exact g, Bool.true_and]; subst hΩ; rfl))
  · exact .of (congrArg boo (by rw [hr, show (o.n == n) = false by subst hΩ; exact g, Bool.false_and]))
theorem c_find (l : List Pck) (n : List UInt8) (v : Ver) (hl : l.length ≤ 1048576) : PCtr PP n_impl_find [encP l, str n, v.enc] (i64 (findF l n v)) := by
  obtain ⟨Ω, hΩ⟩ : ∃ Ω, Ω = std := ⟨_, rfl⟩
  obtain ⟨r, hr⟩ : ∃ r, r = findF l n v := ⟨_, rfl⟩
  rw [← hr]
  have hc := c_IndexFuncP l (by omega) n_impl_find_1 [.rp [str n], .rp v.cells] (isP n v) ⟨fun _ _ => rfl, rfl, fun _ => rfl, fun o _ => c_find1 o n v⟩
  unfold encP
  rw [show idx (isP n v) l = r from hr.symm] at hc
  generalize l.map (Pck.enc false) = xs at *
  have htab := tab
  have hmo := hmo
  have hve := verEq
  refine PCtr.walk tab hΩ fn_impl_find rfl ?_
  generalize PP = P at *
  cbv
  refine call_pure hΩ 5 hc (ro_clo2 rfl rfl) (fits _) rfl rfl ?_
  cbv
  exact .same
theorem c_l2Find (l : List Pck) (n : List UInt8) (v : Ver) (hl : l.length ≤ 1048576) : PCtr PP n_spec_l2Find [encP l, str n, v.enc] (i64 (findF l n v)) := by
  obtain ⟨Ω, hΩ⟩ : ∃ Ω, Ω = std := ⟨_, rfl⟩
  obtain ⟨r, hr⟩ : ∃ r, r = findF l n v := ⟨_, rfl⟩
  rw [← hr]
  obtain ⟨xs, hxs⟩ : ∃ xs, xs = l.map (Pck.enc false) := ⟨_, rfl⟩
  have hlen : xs.length = l.length := by rw [hxs, List.length_map]
  unfold encP
  rw [← hxs]
  have hcv := c_CompareVersions
  have htab := tab
  have hmo := hmo
  have hve := verEq
  refine PCtr.walk tab hΩ fn_spec_l2Find rfl ?_
  generalize PP = P at *
  cbv
  refine loopX htab hΩ (fun i : Nat => ⟨[(0, .sl false 8 xs), (1, .sc (.string (mkS n))), (5, .pt 0 0 0), (7, .sc (.int .i64 (Ω.int i)))], 32, [some ⟨3, [v.enc], true⟩]⟩) (fun i => i ≤ l.length ∧ r = idxFrom (isP n v) i (l.drop i)) (fun i => l.length - i) 0
    ⟨Nat.zero_le _, hr⟩ (Sbs.mk rfl rfl ⟨rfl, rfl, rfl, zeroI hΩ, trivial⟩) ?_
  rintro i ⟨hi, he⟩
  cbv
  refine br (fun h => ?_) (fun h => ?_) <;> cbv
  · replace h := ltI hΩ h
    obtain ⟨c, hcc⟩ := at_of (cs := l) (by omega : i < l.length)
    rw [idxFrom_at _ hcc] at he
    refine ⟨VC_drawn htab hΩ hmo (by kernel_rfl) ?_⟩
    cbv
    obtain ⟨ps, ds, bs, hen, hps, hds, hbs⟩ := enc_raw c
    refine ⟨⟨nnI hΩ⟩, _, (rdI hΩ hxs hcc).trans (congrArg some hen), ?_⟩
    cbv
    refine br (fun g => ?_) (fun g => ?_) <;> cbv
    · have g : (c.n == n) = true := by subst hΩ; exact g
      refine ⟨⟨nnI hΩ⟩, _, (rdI hΩ hxs hcc).trans (congrArg some hen), ?_⟩
      cbv
      have hcv := hcv c.v v
      have hp : isP n v c = decide (cmpV c.v v = 0) := by rw [isP, g, Bool.true_and]; congr 1; rw [cmpV_zero]
      generalize cmpV c.v v = k at *
      rw [hp] at he
      refine QCall_pure (k := 3) hcv rfl (fits _) rfl ?_
      cbv
      refine br (fun g2 => ?_) (fun g2 => ?_) <;> cbv
      · exact .of (congrArg i64 (by rw [he, if_pos (by subst hΩ; have := eq_t g2; simp [this])]; subst hΩ; rfl))
      · rw [if_neg (by subst hΩ; have := eq_f g2; simp [this])] at he
        exact ⟨i + 1, ⟨by omega, he⟩, by omega, Sbs.mk rfl rfl ⟨rfl, rfl, rfl, incI hΩ (by omega), trivial⟩⟩
    · have g : (c.n == n) = false := by subst hΩ; exact g
      rw [if_neg (by rw [isP, g]; simp)] at he
      exact ⟨i + 1, ⟨by omega, he⟩, by omega, Sbs.mk rfl rfl ⟨rfl, rfl, rfl, incI hΩ (by omega), trivial⟩⟩
  · replace h := geI hΩ h
    exact .of (congrArg i64 (by rw [he, List.drop_of_length_le (by omega)]; rfl))
theorem c_implCatalogFault (l : List Pck) (hl : l.length ≤ 1048576) (hs : ∀ o ∈ l, o.Small) : PCtr PP n_impl_CatalogFault [encP l] (i64 (catF l)) := by
  obtain ⟨Ω, hΩ⟩ : ∃ Ω, Ω = std := ⟨_, rfl⟩
  obtain ⟨r, hr⟩ : ∃ r, r = catF l := ⟨_, rfl⟩
  rw [← hr]
  have hpk : ∀ o ∈ l, PCtr PP n_impl_PackFault [o.enc false] (i64 (packF o)) := fun o ho => c_implPackFault o (hs o ho)
  have hfi := fun (i : Nat) n v => c_find (l.take i) n v (by simp; omega)
  unfold encP at hfi
  obtain ⟨xs, hxs⟩ : ∃ xs, xs = l.map (Pck.enc false) := ⟨_, rfl⟩
  have hlen : xs.length = l.length := by rw [hxs, List.length_map]
  unfold encP
  rw [← hxs]
  rw [show (∀ (i : Nat) n v, PCtr PP n_impl_find [.sl false 8 ((l.take i).map (Pck.enc false)), str n, Ver.enc v] (i64 (findF (l.take i) n v))) = (∀ (i : Nat) n v, PCtr PP n_impl_find [.sl false 8 (xs.take i), str n, Ver.enc v] (i64 (findF (l.take i) n v))) by simp only [List.map_take, ← hxs]] at hfi
  unfold catF at hr
  have htab := tab
  have hmo := hmo
  have hve := verEq
  refine PCtr.walk tab hΩ fn_impl_CatalogFault rfl ?_
  generalize PP = P at *
  cbv
  refine br (fun g => ?_) (fun g => ?_) <;> cbv
  · exact .of (congrArg i64 (by rw [hr, if_pos (by subst hΩ; have g : (24 : Int) < xs.length := gt_t g; omega)]))
  rw [if_neg (by subst hΩ; have g : (xs.length : Int) ≤ 24 := gt_f g; omega)] at hr
  refine loopX htab hΩ (fun i : Nat => ⟨[(0, .sl false 8 xs), (9, .sl false 8 xs), (10, .sc (.int .i64 (Ω.int (Ω.len xs)))), (11, .sc (.int .i64 (Ω.int i)))], 31, []⟩) (fun i => i ≤ l.length ∧ r = catFrom l i (l.drop i)) (fun i => l.length - i) 0
    ⟨Nat.zero_le _, hr⟩ (Sbs.mk rfl rfl ⟨rfl, rfl, rfl, zeroI hΩ, trivial⟩) ?_
  rintro i ⟨hi, he⟩
  cbv
  refine br (fun h => ?_) (fun h => ?_) <;> cbv
  · replace h := ltI hΩ h
    obtain ⟨c, hcc⟩ := at_of (cs := l) (by omega : i < l.length)
    rw [catFrom_at hcc] at he
    obtain ⟨ps, ds, bs, hen, hps, hds, hbs⟩ := enc_raw c
    refine ⟨⟨nnI hΩ⟩, _, (rdI hΩ hxs hcc).trans (congrArg some hen), ?_⟩
    cbv
    have hp := hpk c (List.mem_of_getElem? hcc)
    rw [hen] at hp
    generalize packF c = kc at *
    refine call_pure hΩ 3 hp rfl (fits _) rfl rfl ?_
    cbv
    refine br (fun g => ?_) (fun g => ?_) <;> cbv
    · exact .of (congrArg i64 (by rw [he, if_pos (neI_t hΩ g)]))
    rw [if_neg (by rw [neI_f hΩ g]; simp)] at he
    refine ⟨VC_drawn htab hΩ hmo (by kernel_rfl) ?_⟩
    cbv
    refine ⟨⟨trivial, nnI hΩ, Nat.zero_le _, by subst hΩ; show i ≤ xs.length; omega⟩, ?_⟩
    have hf : PCtr P n_impl_find [.sl false 8 (Ω.seg 0 (Ω.nat (Ω.int i)) xs), str c.n, c.v.enc] (i64 (findF (l.take i) c.n c.v)) := by subst hΩ; exact hfi i c.n c.v
    generalize findF (l.take i) c.n c.v = kf at *
    refine QCall_pure (k := 3) hf rfl (fits _) rfl ?_
    cbv
    refine br (fun g2 => ?_) (fun g2 => ?_) <;> cbv
    · exact .of (congrArg i64 (by rw [he, if_pos (geI_t hΩ g2)]))
    · rw [if_neg (Int.not_le.2 (geI_f hΩ g2))] at he
      exact ⟨i + 1, ⟨by omega, he⟩, by omega, Sbs.mkL (rows := []) rfl rfl rfl ⟨rfl, rfl, rfl, incI hΩ (by omega), trivial⟩⟩
  · replace h := geI hΩ h
    exact .of (congrArg i64 (by rw [he, List.drop_of_length_le (by omega)]; rfl))
theorem c_specCatalogFault (l : List Pck) (hl : l.length ≤ 1048576) (hs : ∀ o ∈ l, o.Small) : PCtr PP n_spec_CatalogFault [encP l] (i64 (catF l)) := by
  obtain ⟨Ω, hΩ⟩ : ∃ Ω, Ω = std := ⟨_, rfl⟩
  obtain ⟨r, hr⟩ : ∃ r, r = catF l := ⟨_, rfl⟩
  rw [← hr]
  have hpk : ∀ o ∈ l, PCtr PP n_spec_PackFault [o.enc false] (i64 (packF o)) := fun o ho => c_specPackFault o (hs o ho)
  have hfi := fun (i : Nat) n v => c_l2Find (l.take i) n v (by simp; omega)
  unfold encP at hfi
  obtain ⟨xs, hxs⟩ : ∃ xs, xs = l.map (Pck.enc false) := ⟨_, rfl⟩
  have hlen : xs.length = l.length := by rw [hxs, List.length_map]
  unfold encP
  rw [← hxs]
  rw [show (∀ (i : Nat) n v, PCtr PP n_spec_l2Find [.sl false 8 ((l.take i).map (Pck.enc false)), str n, Ver.enc v] (i64 (findF (l.take i) n v))) = (∀ (i : Nat) n v, PCtr PP n_spec_l2Find [.sl false 8 (xs.take i), str n, Ver.enc v] (i64 (findF (l.take i) n v))) by simp only [List.map_take, ← hxs]] at hfi
  unfold catF at hr
  have htab := tab
  have hmo := hmo
  have hve := verEq
  refine PCtr.walk tab hΩ fn_spec_CatalogFault rfl ?_
  generalize PP = P at *
  cbv
  refine br (fun g => ?_) (fun g => ?_) <;> cbv
  · exact .of (congrArg i64 (by rw [hr, if_pos (by subst hΩ; have g : (24 : Int) < xs.length := gt_t g; omega)]))
  rw [if_neg (by subst hΩ; have g : (xs.length : Int) ≤ 24 := gt_f g; omega)] at hr
  refine loopX htab hΩ (fun i : Nat => ⟨[(0, .sl false 8 xs), (3, .sc (.int .i64 (Ω.int i)))], 37, []⟩) (fun i => i ≤ l.length ∧ r = catFrom l i (l.drop i)) (fun i => l.length - i) 0
    ⟨Nat.zero_le _, hr⟩ (Sbs.mk rfl rfl ⟨rfl, zeroI hΩ, trivial⟩) ?_
  rintro i ⟨hi, he⟩
  cbv
  refine br (fun h => ?_) (fun h => ?_) <;> cbv
  · replace h := ltI hΩ h
    obtain ⟨c, hcc⟩ := at_of (cs := l) (by omega : i < l.length)
    rw [catFrom_at hcc] at he
    obtain ⟨ps, ds, bs, hen, hps, hds, hbs⟩ := enc_raw c
    refine ⟨⟨nnI hΩ⟩, _, (rdI hΩ hxs hcc).trans (congrArg some hen), ?_⟩
    cbv
    have hp := hpk c (List.mem_of_getElem? hcc)
    rw [hen] at hp
    generalize packF c = kc at *
    refine call_pure hΩ 3 hp rfl (fits _) rfl rfl ?_
    cbv
    refine br (fun g => ?_) (fun g => ?_) <;> cbv
    · exact .of (congrArg i64 (by rw [he, if_pos (neI_t hΩ g)]))
    rw [if_neg (by rw [neI_f hΩ g]; simp)] at he
    refine ⟨VC_drawn htab hΩ hmo (by kernel_rfl) ?_⟩
    cbv
    refine ⟨⟨trivial, nnI hΩ, Nat.zero_le _, by subst hΩ; show i ≤ xs.length; omega⟩, ?_⟩
    have hf : PCtr P n_spec_l2Find [.sl false 8 (Ω.seg 0 (Ω.nat (Ω.int i)) xs), str c.n, c.v.enc] (i64 (findF (l.take i) c.n c.v)) := by subst hΩ; exact hfi i c.n c.v
    generalize findF (l.take i) c.n c.v = kf at *
    refine ⟨⟨nnI hΩ⟩, _, (rdI hΩ hxs hcc).trans (congrArg some hen), ?_⟩
    cbv
    refine ⟨⟨nnI hΩ⟩, _, (rdI hΩ hxs hcc).trans (congrArg some hen), ?_⟩
    cbv
    refine QCall_pure (k := 3) hf rfl (fits _) rfl ?_
    cbv
    refine br (fun g2 => ?_) (fun g2 => ?_) <;> cbv
    · exact .of (congrArg i64 (by rw [he, if_pos (geI_t hΩ g2)]))
    · rw [if_neg (Int.not_le.2 (geI_f hΩ g2))] at he
      exact ⟨i + 1, ⟨by omega, he⟩, by omega, Sbs.mk rfl rfl ⟨rfl, incI hΩ (by omega), trivial⟩⟩
  · replace h := geI hΩ h
    exact .of (congrArg i64 (by rw [he, List.drop_of_length_le (by omega)]; rfl))
theorem c_arePlaces1 (k : Int) (l : List Pck) (hl : l.length ≤ 1048576) : PCtr PP n_impl_arePlaces_1 [i64 k, .rp [encP l]] (boo (!inB k 0 ((l.length : Int) - 1))) := by
  obtain ⟨Ω, hΩ⟩ : ∃ Ω, Ω = std := ⟨_, rfl⟩
  obtain ⟨r, hr⟩ : ∃ r, r = !inB k 0 ((l.length : Int) - 1) := ⟨_, rfl⟩
  rw [← hr]
  obtain ⟨xs, hxs⟩ : ∃ xs, xs = l.map (Pck.enc false) := ⟨_, rfl⟩
  have hlen : xs.length = l.length := by rw [hxs, List.length_map]
  unfold encP
  rw [← hxs]
  have hw : PCtr PP n_impl_within [i64 k, i64 0, i64 (Ω.ar .sub .i64 (Ω.int (Ω.len xs)) 1)] (boo (inB k 0 ((l.length : Int) - 1))) := by
    have := c_within k 0 ((l.length : Int) - 1)
    rw [show ((l.length : Int) - 1) = IntKind.i64.wrap ((xs.length : Int) - 1) by rw [wrap64 (by omega) (by omega), hlen]] at this ⊢
    subst hΩ
    exact this
  generalize inB k 0 ((l.length : Int) - 1) = b at *
  have htab := tab
  have hmo := hmo
  have hve := verEq
  refine PCtr.walk tab hΩ fn_impl_arePlaces_1 rfl ?_
  generalize PP = P at *
  cbv
  refine call_pure hΩ 3 hw rfl (fits _) rfl rfl ?_
  cbv
  exact .of (congrArg boo (by rw [hr]; subst hΩ; rfl))
theorem c_arePlaces (l : List Pck) (s : List Int) (hl : l.length ≤ 1048576) (hs : s.length ≤ 1048576) : PCtr PP n_impl_arePlaces [encP l, .sl false 1 (s.map i64)] (boo (s.all fun x => inB x 0 ((l.length : Int) - 1))) := by
  obtain ⟨Ω, hΩ⟩ : ∃ Ω, Ω = std := ⟨_, rfl⟩
  obtain ⟨r, hr⟩ : ∃ r, r = s.all fun x => inB x 0 ((l.length : Int) - 1) := ⟨_, rfl⟩
  rw [← hr]
  have hc := c_ContainsFuncI s (by omega) n_impl_arePlaces_1 [.rp [encP l]] (fun x => !inB x 0 ((l.length : Int) - 1)) ⟨fun _ _ => rfl, rfl, fun _ => rfl, fun k _ => c_arePlaces1 k l hl⟩
  rw [show (s.all fun x => inB x 0 ((l.length : Int) - 1)) = !(s.any fun x => !inB x 0 ((l.length : Int) - 1)) by rw [List.any_eq_not_all_not]; simp] at hr
  generalize (s.any fun x => !inB x 0 ((l.length : Int) - 1)) = b at *
  unfold encP at *
  generalize l.map (Pck.enc false) = xs at *
  generalize s.map i64 = ys at *
  have htab := tab
  have hmo := hmo
  have hve := verEq
  refine PCtr.walk tab hΩ fn_impl_arePlaces rfl ?_
  generalize PP = P at *
  cbv
  refine call_pure hΩ 5 hc (ro_clo2 rfl rfl) (fits _) rfl rfl ?_
  cbv
  exact .of (congrArg boo (by rw [hr]; subst hΩ; rfl))
theorem c_l3Set (l : List Pck) (s : List Int) (hl : l.length ≤ 1048576) (hs : s.length ≤ 1048576) : PCtr PP n_spec_l3Set [encP l, .sl false 1 (s.map i64)] (boo (setOk ((l.length : Int) - 1) s 0 s)) := by
  obtain ⟨Ω, hΩ⟩ : ∃ Ω, Ω = std := ⟨_, rfl⟩
  obtain ⟨r, hr⟩ : ∃ r, r = setOk ((l.length : Int) - 1) s 0 s := ⟨_, rfl⟩
  rw [← hr]
  obtain ⟨xs, hxs⟩ : ∃ xs, xs = s.map i64 := ⟨_, rfl⟩
  have hlen : xs.length = s.length := by rw [hxs, List.length_map]
  obtain ⟨cs, hcs⟩ : ∃ cs, cs = l.map (Pck.enc false) := ⟨_, rfl⟩
  have hcl : cs.length = l.length := by rw [hcs, List.length_map]
  unfold encP
  rw [← hcs]
  rw [← hxs]
  have hLm : Ω.ar .sub .i64 (Ω.int (Ω.len cs)) 1 = (l.length : Int) - 1 := by subst hΩ; show IntKind.i64.wrap ((cs.length : Int) - 1) = _; rw [hcl]; exact wrap64 (by omega) (by omega)
  have hw : ∀ k, PCtr PP n_spec_l1In [i64 k, i64 0, i64 (Ω.ar .sub .i64 (Ω.int (Ω.len cs)) 1)] (boo (inB k 0 ((l.length : Int) - 1))) := fun k => by rw [hLm]; exact c_l1In k 0 _
  generalize ((l.length : Int) - 1) = m at *
  have htab := tab
  have hmo := hmo
  have hve := verEq
  refine PCtr.walk tab hΩ fn_spec_l3Set rfl ?_
  generalize PP = P at *
  cbv
  refine loopX htab hΩ (fun i : Nat => ⟨[(0, .sl false 8 cs), (1, .sl false 1 xs), (5, .sc (.int .i64 (Ω.int i)))], 37, []⟩) (fun i => i ≤ s.length ∧ r = setOk m s i (s.drop i)) (fun i => s.length - i) 0
    ⟨Nat.zero_le _, hr⟩ (Sbs.mk rfl rfl ⟨rfl, rfl, zeroI hΩ, trivial⟩) ?_
  rintro i ⟨hi, he⟩
  cbv
  refine br (fun h => ?_) (fun h => ?_) <;> cbv
  · replace h := ltI hΩ h
    obtain ⟨c, hcc⟩ := at_of (cs := s) (by omega : i < s.length)
    rw [setOk_at _ hcc] at he
    refine ⟨VC_drawn htab hΩ hmo (by kernel_rfl) ?_⟩
    cbv
    refine ⟨⟨nnI hΩ⟩, _, rdI hΩ hxs hcc, ?_⟩
    cbv
    have hw1 := hw c
    generalize inB c 0 m = B at *
    refine QCall_pure (k := 3) hw1 rfl (fits _) rfl ?_
    cbv
    refine br (fun g => ?_) (fun g => ?_) <;> cbv
    · exact .of (congrArg boo (by rw [he, notT' hΩ g]; rfl))
    rw [notF' hΩ g, Bool.true_and] at he
    refine br (fun g2 => ?_) (fun g2 => ?_) <;> cbv
    · have hi0 : 0 < i := by subst hΩ; have g2 : (0 : Int) < i := gt_t g2; omega
      have hs1 := subI hΩ hi0 (by omega)
      obtain ⟨d, hd⟩ := at_of (cs := s) (by omega : i - 1 < s.length)
      rw [show (i == 0) = false by simp; omega, Bool.false_or, List.getD_eq_getElem?_getD, hd] at he
      refine ⟨⟨nnI hΩ⟩, _, rdI hΩ hxs hcc, ?_⟩
      cbv
      refine ⟨⟨hs1.1⟩, i64 d, by rw [hs1.2, hxs, List.getElem?_map, hd]; rfl, ?_⟩
      cbv
      refine br (fun g3 => ?_) (fun g3 => ?_) <;> cbv
      · exact .of (congrArg boo (by rw [he]; subst hΩ; have g3 : c ≤ d := le_t g3; rw [show decide ((some d).getD 0 < c) = false by simp; omega]; rfl))
      · rw [show decide ((some d).getD 0 < c) = true by subst hΩ; have g3 : d < c := le_f g3; simpa using g3, Bool.true_and] at he
        exact ⟨i + 1, ⟨by omega, he⟩, by omega, Sbs.mk rfl rfl ⟨rfl, rfl, incI hΩ (by omega), trivial⟩⟩
    · have hi0 : i = 0 := by subst hΩ; have g2 : (i : Int) ≤ 0 := gt_f g2; omega
      rw [show (i == 0) = true by simpa using hi0, Bool.true_or, Bool.true_and] at he
      refine br (fun g4 => ?_) (fun g4 => ?_)
      · subst hΩ; cases (show false = true from g4)
      cbv
      exact ⟨i + 1, ⟨by omega, he⟩, by omega, Sbs.mk rfl rfl ⟨rfl, rfl, incI hΩ (by omega), trivial⟩⟩
  · replace h := geI hΩ h
    exact .of (congrArg boo (by rw [he, List.drop_of_length_le (by omega)]; rfl))
theorem c_implSetFault (l : List Pck) (s : List Int) (hl : l.length ≤ 1048576) (ho : ∀ o ∈ l, o.Small) (hs : s.length ≤ 1048576) : PCtr PP n_impl_SetFault [encP l, .sl false 1 (s.map i64)] (i64 (setF l s)) := by
  obtain ⟨Ω, hΩ⟩ : ∃ Ω, Ω = std := ⟨_, rfl⟩
  obtain ⟨r, hr⟩ : ∃ r, r = setF l s := ⟨_, rfl⟩
  rw [← hr]
  have hc := c_implCatalogFault l hl ho
  have hp := c_arePlaces l s hl hs
  unfold setF at hr
  generalize catF l = k at *
  obtain ⟨xs, hxs⟩ : ∃ xs, xs = s.map i64 := ⟨_, rfl⟩
  have hlen : xs.length = s.length := by rw [hxs, List.length_map]
  obtain ⟨cs, hcs⟩ : ∃ cs, cs = l.map (Pck.enc false) := ⟨_, rfl⟩
  have hcl : cs.length = l.length := by rw [hcs, List.length_map]
  unfold encP at hc hp ⊢
  rw [← hcs] at hc hp ⊢
  rw [← hxs] at hp ⊢
  have htab := tab
  have hmo := hmo
  have hve := verEq
  refine PCtr.walk tab hΩ fn_impl_SetFault rfl ?_
  generalize PP = P at *
  cbv
  refine call_pure hΩ 3 hc rfl (fits _) rfl rfl ?_
  cbv
  refine br (fun g => ?_) (fun g => ?_) <;> cbv
  · exact .of (congrArg i64 (by rw [hr, if_pos (neI_t hΩ g)]))
  rw [if_neg (by rw [neI_f hΩ g]; simp)] at hr
  rw [setOk_eq, rise0] at hr
  generalize (s.all fun x => inB x 0 _) = B at *
  have fin : ∀ i, r = (if (riseAll s i (s.drop i) && B) = true then 0 else 1) → s.length ≤ i → r = if B = true then 0 else 1 := fun i he h => by
    rw [he, List.drop_of_length_le h, riseAll, Bool.true_and]
  refine loopX htab hΩ (fun i : Nat => ⟨[(0, .sl false 8 cs), (1, .sl false 1 xs), (6, .sc (.int .i64 (Ω.int i)))], 32, []⟩) (fun i => 1 ≤ i ∧ i ≤ s.length + 1 ∧ r = if (riseAll s i (s.drop i) && B) = true then 0 else 1) (fun i => s.length + 1 - i) 1
    ⟨Nat.le_refl _, by omega, hr⟩ (Sbs.mk rfl rfl ⟨rfl, rfl, by subst hΩ; rfl, trivial⟩) ?_
  rintro i ⟨hi0, hi, he⟩
  cbv
  refine br (fun h => ?_) (fun h => ?_) <;> cbv
  · replace h := ltI hΩ h
    obtain ⟨c, hcc⟩ := at_of (cs := s) (by omega : i < s.length)
    obtain ⟨d, hd⟩ := at_of (cs := s) (by omega : i - 1 < s.length)
    have hs1 := subI hΩ hi0 (by omega)
    rw [riseAll_at hcc, show (i == 0) = false by simp; omega, Bool.false_or, List.getD_eq_getElem?_getD, hd] at he
    refine ⟨VC_drawn htab hΩ hmo (by kernel_rfl) ?_⟩
    cbv
    refine ⟨⟨nnI hΩ⟩, _, rdI hΩ hxs hcc, ?_⟩
    cbv
    refine ⟨⟨hs1.1⟩, i64 d, by rw [hs1.2, hxs, List.getElem?_map, hd]; rfl, ?_⟩
    cbv
    refine br (fun g3 => ?_) (fun g3 => ?_) <;> cbv
    · exact .of (congrArg i64 (by rw [he]; subst hΩ; have g3 : c ≤ d := le_t g3; rw [show decide ((some d).getD 0 < c) = false by simp; omega]; rfl))
    · rw [show decide ((some d).getD 0 < c) = true by subst hΩ; have g3 : d < c := le_f g3; simpa using g3, Bool.true_and] at he
      exact ⟨i + 1, ⟨by omega, by omega, he⟩, by omega, Sbs.mk rfl rfl ⟨rfl, rfl, incI hΩ (by omega), trivial⟩⟩
  · replace h := geI hΩ h
    have hr := fin i he (by omega)
    refine call_pure hΩ 3 hp rfl (fits _) rfl rfl ?_
    cbv
    refine br (fun g => ?_) (fun g => ?_) <;> cbv
    · exact .of (congrArg i64 (by rw [hr, notT' hΩ g]; rfl))
    · exact .of (congrArg i64 (by rw [hr, notF' hΩ g]; rfl))
theorem c_specSetFault (l : List Pck) (s : List Int) (hl : l.length ≤ 1048576) (ho : ∀ o ∈ l, o.Small) (hs : s.length ≤ 1048576) : PCtr PP n_spec_SetFault [encP l, .sl false 1 (s.map i64)] (i64 (setF l s)) := by
  obtain ⟨Ω, hΩ⟩ : ∃ Ω, Ω = std := ⟨_, rfl⟩
  obtain ⟨r, hr⟩ : ∃ r, r = setF l s := ⟨_, rfl⟩
  rw [← hr]
  have hc := c_specCatalogFault l hl ho
  have hp := c_l3Set l s hl hs
  unfold setF at hr
  generalize catF l = k at *
  obtain ⟨xs, hxs⟩ : ∃ xs, xs = s.map i64 := ⟨_, rfl⟩
  have hlen : xs.length = s.length := by rw [hxs, List.length_map]
  obtain ⟨cs, hcs⟩ : ∃ cs, cs = l.map (Pck.enc false) := ⟨_, rfl⟩
  have hcl : cs.length = l.length := by rw [hcs, List.length_map]
  unfold encP at hc hp ⊢
  rw [← hcs] at hc hp ⊢
  rw [← hxs] at hp ⊢
  generalize setOk ((l.length : Int) - 1) s 0 s = b at *
  have htab := tab
  have hmo := hmo
  have hve := verEq
  refine PCtr.walk tab hΩ fn_spec_SetFault rfl ?_
  generalize PP = P at *
  cbv
  refine call_pure hΩ 3 hc rfl (fits _) rfl rfl ?_
  cbv
  refine br (fun g => ?_) (fun g => ?_) <;> cbv
  · exact .of (congrArg i64 (by rw [hr, if_pos (neI_t hΩ g)]))
  rw [if_neg (by rw [neI_f hΩ g]; simp)] at hr
  refine call_pure hΩ 3 hp rfl (fits _) rfl rfl ?_
  cbv
  refine br (fun g => ?_) (fun g => ?_) <;> cbv
  · exact .of (congrArg i64 (by rw [hr, notT' hΩ g]; rfl))
  · exact .of (congrArg i64 (by rw [hr, notF' hΩ g]; rfl))
end Go.Proofs.YtomfmdfamlmfiaaGreat

/- Walks: sets by a function value; who is barred. Plain theorems. -/
set_option linter.unusedVariables false
set_option linter.unusedSimpArgs false
namespace Go.Proofs.YtomfmdfamlmfiaaGreat
open Go Go.Fw
set_option maxRecDepth 100000
def ints (l : List Int) : A := .sl true 1 (l.map i64)
theorem frzInt (l : List Int) : (l.map i64).map frz = l.map i64 := by
  rw [List.map_map]; exact List.map_congr_left fun c _ => rfl
theorem noInt (l : List Int) : (∀ y ∈ l.map i64, noOwn y = true) ∧ (∀ c ∈ flat (l.map i64), okCell c = true) ∧ (∀ y ∈ l.map i64, isAggB y = false) ∧ (∀ y ∈ l.map i64, vStore.isAggA y = false) := by
  refine ⟨fun y hy => ?_, fun y hy => ?_, fun y hy => ?_, fun y hy => ?_⟩
  · obtain ⟨c, _, rfl⟩ := List.mem_map.1 hy; rfl
  · obtain ⟨x, hx, hy⟩ := List.mem_flatMap.1 hy
    obtain ⟨c, _, rfl⟩ := List.mem_map.1 hx
    have : y = i64 c := by simpa [i64, A.cells] using hy
    rw [this]; rfl
  · obtain ⟨c, _, rfl⟩ := List.mem_map.1 hy; rfl
  · obtain ⟨c, _, rfl⟩ := List.mem_map.1 hy; rfl
theorem roFInt (l : List Int) : roFree (.sl true 1 (l.map i64)) = true := by
  rw [roFree_sl, Bool.true_and, List.all_eq_true]
  intro x hx
  obtain ⟨c, _, rfl⟩ := List.mem_map.1 hx
  rfl
theorem c_Clone (s : List Int) (hs : s.length ≤ 1048576) : PCtr PP n_slices_Clone_L_int64_int64 [.sl false 1 (s.map i64)] (ints s) := by
  obtain ⟨Ω, hΩ⟩ : ∃ Ω, Ω = std := ⟨_, rfl⟩
  unfold ints
  obtain ⟨xs, hxs⟩ : ∃ xs, xs = s.map i64 := ⟨_, rfl⟩
  have hlen : xs.length = s.length := by rw [hxs, List.length_map]
  have hno := noInt s
  have hfz := frzInt s
  rw [← hxs] at hno hfz ⊢
  have htab := tab
  refine PCtr.walk tab hΩ fn_slices_Clone_L_int64_int64 rfl ?_
  generalize PP = P at *
  cbv
  intro b hb
  refine br (fun g => ?_) (fun g => ?_) <;> cbv
  · exact ⟨1, hb g⟩
  refine ⟨⟨hno.1, hno.2.1, ?_, ?_⟩, ⟨rfl, ?_⟩, .of ?_⟩
  · show (0 + xs.length) * 8 ≤ 140737488355328
    omega
  · show 0 + xs.length ≤ 9223372036854775807
    omega
  · subst hΩ; show 0 + xs.length ≤ (List.take 0 [] ++ xs).length; simp
  · subst hΩ; show A.sl true 1 ((List.take 0 [] ++ xs).take (0 + xs.length)) = _; rw [List.take_of_length_le (by simp)]; rfl
end Go.Proofs.YtomfmdfamlmfiaaGreat

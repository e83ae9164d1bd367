/- Calls that write into what they are handed. Plain theorems, no condition. -/
import Derived.Test.YtdngjnjapihbkaaFwQ
set_option linter.unusedVariables false
set_option linter.unusedSimpArgs false
namespace Go.Fw

/-- A contract of a function that may write into what it is handed as held alone: told 'outs' afterwards. -/
structure MCtr (P : Program) (g : Nat) (args : List A) (x : A) (outs : List A) : Prop where
  enter : Enter P g
  run : ∀ (w : World) (G : Nat → Prop) (vs : List Value) (F : List Nat), (∀ b, G b → b < w.heap.size) → F.Nodup → (∀ b ∈ F, ¬ G b) → RelL w G args vs F → Calls P g vs.toArray w (fun e w' => ∃ v Fx Fo, e = .returned v ∧
    (w'.os = w.os ∧ w'.tape = w.tape ∧ w'.output = w.output ∧ w.heap.size ≤ w'.heap.size ∧ ∀ b, b < w.heap.size → b ∉ F → w'.heap[b]? = w.heap[b]?) ∧
    (Fx ++ Fo).Nodup ∧ (∀ b ∈ Fx ++ Fo, b ∈ F ∨ w.heap.size ≤ b) ∧ Rel w' (fun b => (G b ∨ (w.heap.size ≤ b ∧ b < w'.heap.size)) ∧ b ∉ Fx ++ Fo) x v Fx ∧
    RelL w' (fun b => (G b ∨ (w.heap.size ≤ b ∧ b < w'.heap.size)) ∧ b ∉ Fx ++ Fo) outs vs Fo)

mutual
inductive Mut (S : State) : A → A → A → List (Nat × List A) → Prop
  | row {r len : Nat} {row : Row} {xs' : List A} (hr : rowAt S.rows r = some row) (hlk : row.lk = false) (hl : len = row.xs.length) (hl' : xs'.length = row.xs.length) : Mut S (.vw r 0 len) (.sl true row.n row.xs) (.sl true row.n xs') [(r, xs')]
  | data {x : A} (hd : isData x = true) (hn : noOwn x = true) : Mut S x x x []
  | agg {xs ys zs : List A} {l : List (Nat × List A)} (h : MutL S xs ys zs l) : Mut S (.agg xs) (.agg ys) (.agg zs) l
inductive MutL (S : State) : List A → List A → List A → List (Nat × List A) → Prop
  | nil : MutL S [] [] [] []
  | cons {x y z : A} {xs ys zs : List A} {l ls : List (Nat × List A)} (h : Mut S x y z l) (hl : MutL S xs ys zs ls) : MutL S (x :: xs) (y :: ys) (z :: zs) (l ++ ls)
end
def blocksOf (gs : Gh) (l : List (Nat × List A)) : List Nat := l.flatMap fun p => gs.all p.1
theorem blocksOf_append (gs : Gh) (l ls : List (Nat × List A)) : blocksOf gs (l ++ ls) = blocksOf gs l ++ blocksOf gs ls := by simp [blocksOf]
theorem blocksOf_congr {gs gs' : Gh} : ∀ {l : List (Nat × List A)}, (∀ p ∈ l, gs p.1 = gs' p.1) → blocksOf gs l = blocksOf gs' l
  | [], _ => rfl
  | p :: l, h => by
    have ih := blocksOf_congr (l := l) fun q hq => h q (by simp [hq])
    simp only [blocksOf, List.flatMap_cons] at ih ⊢
    rw [ih]
    simp only [Gh.all]; rw [h p (by simp)]
def mutRows : List (Nat × List A) → List (Option Row) → List (Option Row)
  | [], rows => rows
  | (r, xs) :: l, rows => mutRows l (rows.set r ((rowAt rows r).map fun row => { row with xs := xs }))
def State.mut (S : State) (l : List (Nat × List A)) : State := { S with rows := mutRows l S.rows }

theorem rowAt_set' (rows : List (Option Row)) (q : Nat) (f : Row → Row) (r : Nat) : rowAt (rows.set q ((rowAt rows q).map f)) r = if r = q then (rowAt rows q).map f else rowAt rows r := by
  by_cases hq : q < rows.length
  · rw [rowAt_set _ _ _ _ hq]
  · rw [rowAt_none (by omega : rows.length ≤ q)]
    rw [List.set_eq_of_length_le (by omega)]
    split
    · rename_i h; subst h; rw [rowAt_none (by omega)]; rfl
    · rfl
theorem rowAt_mut_not : ∀ (l : List (Nat × List A)) (rows : List (Option Row)) (r : Nat), r ∉ l.map (·.1) → rowAt (mutRows l rows) r = rowAt rows r
  | [], rows, r, _ => rfl
  | (q, xs) :: l, rows, r, h => by
    simp only [List.map_cons, List.mem_cons, not_or] at h
    rw [mutRows, rowAt_mut_not l _ r h.2, rowAt_set', if_neg h.1]
theorem rowAt_mut : ∀ (l : List (Nat × List A)) (rows : List (Option Row)) (r : Nat) (xs : List A), (l.map (·.1)).Nodup → (r, xs) ∈ l → rowAt (mutRows l rows) r = (rowAt rows r).map fun row => { row with xs := xs }
  | [], rows, r, xs, _, h => by simp at h
  | (q, ys) :: l, rows, r, xs, hn, h => by
    simp only [List.map_cons, List.nodup_cons] at hn
    rw [mutRows]
    rcases List.mem_cons.1 h with h2 | h2
    · simp only [Prod.mk.injEq] at h2
      obtain ⟨rfl, rfl⟩ := h2
      rw [rowAt_mut_not l _ r hn.1, rowAt_set', if_pos rfl]
    · have hne : r ≠ q := fun e => hn.1 (by rw [← e]; exact List.mem_map.2 ⟨(r, xs), h2, rfl⟩)
      rw [rowAt_mut l _ r xs hn.2 h2, rowAt_set', if_neg hne]
theorem mutRows_length : ∀ (l : List (Nat × List A)) (rows : List (Option Row)), (mutRows l rows).length = rows.length
  | [], rows => rfl
  | (q, xs) :: l, rows => by rw [mutRows, mutRows_length l]; simp

section
variable {P : Program} {E : Env} {G : Nat → Prop} {gs : Gh} {S : State} {w : World} {tmps : Array Value}

/-- What is handed over. -/
theorem mut_give (hi : Inv E G gs S tmps w) {x y z : A} {l : List (Nat × List A)} (h : Mut S x y z l) : ∀ {v : Value}, TRel w G S.rows gs x v [] → Rel w G y v (blocksOf gs l) := by
  refine Mut.rec (motive_1 := fun x y z l _ => ∀ {v : Value}, TRel w G S.rows gs x v [] → Rel w G y v (blocksOf gs l))
    (motive_2 := fun xs ys zs l _ => ∀ {vs : List Value}, TRelL w G S.rows gs xs vs [] → RelL w G ys vs (blocksOf gs l)) ?_ ?_ ?_ ?_ ?_ h
  · intro r len row xs' hr hlk hl hl' v hx
    have hb : blocksOf gs [(r, xs')] = gs.all r := by simp [blocksOf]
    rw [hb]
    rcases vw_inv hx with ⟨row', k, cap, cur, e, b, hr', hob, g1, g2, g3, g4, g5, g6, hv⟩ | ⟨row', hr', hob, hx0, _, hlen, hv⟩
    · rw [hr] at hr'
      obtain rfl := Option.some.inj hr'
      have hrr := hi.row r row hr
      rw [hob] at hrr
      obtain ⟨cur', e', cap', h1, h2, h3, h4, h5, h6, h7⟩ := hrr.ex
      rw [g2] at h1
      simp only [Option.some.injEq, Obj.cells.injEq] at h1
      obtain ⟨rfl, rfl, _⟩ := h1
      unfold CellsRel at h7
      rw [if_neg (by simp [hlk])] at h7
      have hk : k = 0 := by rcases g6 with g | g <;> omega
      subst hk
      rw [hv, show gs.all r = b :: (gs r).2 by simp [Gh.all, hob], hl]
      exact .ow g2 h5 rfl rfl h7 (by omega) (by omega) g3 h6
    · rw [hr] at hr'
      obtain rfl := Option.some.inj hr'
      have hrr := hi.row r row hr
      rw [hob] at hrr
      rw [hv, show gs.all r = [] by simp [Gh.all, hob, hrr.2], hx0]
      exact .nils
  · intro x hd hn v hx
    exact hx.data hd
  · intro xs ys zs l h ih v hx
    obtain ⟨cs, rfl, hl⟩ := agg_inv hx
    have := Rel.agg (ih hl)
    simpa using this
  · intro vs hx
    generalize hF : ([] : List Nat) = F at hx
    cases hx
    exact .nil
  · intro x y z xs ys zs l ls h hl ih ih' vs hx
    generalize hF : ([] : List Nat) = F at hx
    cases hx with
    | cons h1 h2 =>
      rename_i v F1 vs Fs
      have hF' : F1 = [] ∧ Fs = [] := by simpa using hF.symm
      obtain ⟨rfl, rfl⟩ := hF'
      rw [blocksOf_append]
      exact .cons (ih h1) (ih' h2)
theorem mut_giveL (hi : Inv E G gs S tmps w) {xs ys zs : List A} {l : List (Nat × List A)} (h : MutL S xs ys zs l) {vs : List Value} (hx : TRelL w G S.rows gs xs vs []) : RelL w G ys vs (blocksOf gs l) := by
  have := mut_give hi (.agg h) (.agg hx)
  cases this with | agg h => simpa using h

/-- What comes back of it. -/
structure Back (S : State) (w w' : World) (G' : Nat → Prop) (gs gs' : Gh) (l : List (Nat × List A)) : Prop where
  row : ∀ r xs, (r, xs) ∈ l → ∃ row, rowAt S.rows r = some row ∧ row.lk = false ∧ xs.length = row.xs.length ∧ (gs' r).1 = (gs r).1 ∧ (∀ rows'' gs'', RowRel w' G' rows'' gs'' { row with xs := xs } (gs' r).1 (gs' r).2) ∧
    ∀ b cur e, (gs r).1 = some b → w.heap[b]? = some (.cells cur e (0, 0)) → ∃ cur' e', w'.heap[b]? = some (.cells cur' e' (0, 0)) ∧ cur'.size = cur.size
  frame : ∀ r, r ∉ l.map (·.1) → gs' r = gs r
theorem mut_back {w' : World} {G' : Nat → Prop} {x y z : A} {l : List (Nat × List A)} (h : Mut S x y z l) : ∀ {v : Value} {F : List Nat}, (l.map (·.1)).Nodup → TRel w G S.rows gs x v [] → Rel w' G' z v F → ∃ gs', Back S w w' G' gs gs' l ∧ F = blocksOf gs' l := by
  refine Mut.rec (motive_1 := fun x y z l _ => ∀ {v : Value} {F : List Nat}, (l.map (·.1)).Nodup → TRel w G S.rows gs x v [] → Rel w' G' z v F → ∃ gs', Back S w w' G' gs gs' l ∧ F = blocksOf gs' l)
    (motive_2 := fun xs ys zs l _ => ∀ {vs : List Value} {F : List Nat}, (l.map (·.1)).Nodup → TRelL w G S.rows gs xs vs [] → RelL w' G' zs vs F → ∃ gs', Back S w w' G' gs gs' l ∧ F = blocksOf gs' l) ?_ ?_ ?_ ?_ ?_ h
  · intro r len row xs' hr hlk hl hl' v F hnd hx hz
    rcases vw_inv hx with ⟨row', k, cap, cur, e, b, hr', hob, g1, g2, g3, g4, g5, g6, hv⟩ | ⟨row', hr', hob, hx0, _, hlen, hv⟩
    · rw [hr] at hr'
      obtain rfl := Option.some.inj hr'
      have hk : k = 0 := by rcases g6 with g | g <;> omega
      subst hk
      subst hv
      cases hz with
      | ow hh hw hlen hc hl2 hcap hm hs hv0 =>
        rename_i cur' e' cs F'
        refine ⟨gs.add r (some b) F', ⟨fun r2 xs2 h2 => ?_, fun r2 h2 => ?_⟩, by simp [blocksOf, Gh.all, Gh.add]⟩
        · simp only [List.mem_singleton, Prod.mk.injEq] at h2
          obtain ⟨rfl, rfl⟩ := h2
          have hself : (gs.add r2 (some b) F') r2 = (some b, F') := by simp [Gh.add]
          refine ⟨row, hr, hlk, hl', by rw [hself]; exact hob.symm, fun rows'' gs'' => ?_, fun b2 cur2 e2 hb2 hh2 => ?_⟩
          · rw [hself]
            refine ⟨cur', e', cap, hh, by simpa using hs, by show xs2.length ≤ cap; omega, by omega, hw, ?_, ?_⟩
            · show ∀ v ∈ cur'.toList.take (xs2.length * row.n), _
              rw [← hlen, ← hc]; exact hv0
            · show CellsRel row.lk w' G' rows'' gs'' (flat xs2) (cur'.toList.take (xs2.length * row.n)) F'
              unfold CellsRel
              rw [if_neg (by simp [hlk]), ← hlen, ← hc]; exact hl2
          · rw [hob] at hb2
            obtain rfl := Option.some.inj hb2
            rw [g2] at hh2
            simp only [Option.some.injEq, Obj.cells.injEq] at hh2
            obtain ⟨rfl, rfl, _⟩ := hh2
            exact ⟨cur', e', hh, by rw [hs, g3]; simp⟩
        · have : r2 ≠ r := by simpa using h2
          simp [Gh.add, this]
    · rw [hr] at hr'
      obtain rfl := Option.some.inj hr'
      subst hv
      have h0 : xs' = [] := List.eq_nil_of_length_eq_zero (by rw [hl', hx0]; rfl)
      subst h0
      cases hz
      refine ⟨gs.add r none [], ⟨fun r2 xs2 h2 => ?_, fun r2 h2 => ?_⟩, by simp [blocksOf, Gh.all, Gh.add]⟩
      · simp only [List.mem_singleton, Prod.mk.injEq] at h2
        obtain ⟨rfl, rfl⟩ := h2
        have hself : (gs.add r2 none []) r2 = (none, []) := by simp [Gh.add]
        exact ⟨row, hr, hlk, hl', by rw [hself]; exact hob.symm, fun rows'' gs'' => by rw [hself]; exact ⟨rfl, rfl⟩, fun b2 cur2 e2 hb2 => by rw [hob] at hb2; simp at hb2⟩
      · have : r2 ≠ r := by simpa using h2
        simp [Gh.add, this]
  · intro x hd hn v F hnd hx hz
    have := hz.noOwn hn
    subst this
    exact ⟨gs, ⟨fun r xs h => by simp at h, fun r h => rfl⟩, rfl⟩
  · intro xs ys zs l h ih v F hnd hx hz
    obtain ⟨cs, rfl, hl⟩ := agg_inv hx
    cases hz with
    | agg hz => exact ih hnd (by simpa using hl) hz
  · intro vs F hnd hx hz
    cases hz
    exact ⟨gs, ⟨fun r xs h => by simp at h, fun r h => rfl⟩, rfl⟩
  · intro x y z xs ys zs l ls h hl ih ih' vs F hnd hx hz
    generalize hF : ([] : List Nat) = F0 at hx
    cases hx with
    | cons h1 h2 =>
      rename_i v F1 vs Fs
      have hF' : F1 = [] ∧ Fs = [] := by simpa using hF.symm
      obtain ⟨rfl, rfl⟩ := hF'
      cases hz with
      | cons z1 z2 =>
        rename_i Fa Fb
        rw [List.map_append, List.nodup_append] at hnd
        obtain ⟨n1, n2, n3⟩ := hnd
        obtain ⟨gs1, b1, rfl⟩ := ih n1 h1 z1
        obtain ⟨gs2, b2, rfl⟩ := ih' n2 h2 z2
        let gs' : Gh := fun r => if r ∈ l.map (·.1) then gs1 r else gs2 r
        have e1 : ∀ r, r ∈ l.map (·.1) → gs' r = gs1 r := fun r h => if_pos h
        have e2 : ∀ r, r ∈ ls.map (·.1) → gs' r = gs2 r := fun r h => if_neg fun h' => n3 r h' r h rfl
        refine ⟨gs', ⟨fun r xs hm => ?_, fun r hm => ?_⟩, ?_⟩
        · rcases List.mem_append.1 hm with hm | hm
          · rw [e1 r (List.mem_map.2 ⟨_, hm, rfl⟩)]; exact b1.row r xs hm
          · rw [e2 r (List.mem_map.2 ⟨_, hm, rfl⟩)]; exact b2.row r xs hm
        · rw [List.map_append, List.mem_append, not_or] at hm
          show (if r ∈ l.map (·.1) then gs1 r else gs2 r) = gs r
          rw [if_neg hm.1]; exact b2.frame r hm.2
        · rw [blocksOf_append]
          have f1 : blocksOf gs' l = blocksOf gs1 l := blocksOf_congr fun p hp => e1 p.1 (List.mem_map.2 ⟨p, hp, rfl⟩)
          have f2 : blocksOf gs' ls = blocksOf gs2 ls := blocksOf_congr fun p hp => e2 p.1 (List.mem_map.2 ⟨p, hp, rfl⟩)
          rw [f1, f2]
theorem mut_backL {w' : World} {G' : Nat → Prop} {xs ys zs : List A} {l : List (Nat × List A)} (h : MutL S xs ys zs l) {vs : List Value} {F : List Nat} (hnd : (l.map (·.1)).Nodup) (hx : TRelL w G S.rows gs xs vs []) (hz : RelL w' G' zs vs F) :
    ∃ gs', Back S w w' G' gs gs' l ∧ F = blocksOf gs' l := mut_back (.agg h) hnd (.agg hx) (.agg hz)
theorem mem_blocksOf {gs : Gh} {l : List (Nat × List A)} {b : Nat} : b ∈ blocksOf gs l ↔ ∃ p ∈ l, b ∈ gs.all p.1 := by simp [blocksOf]
theorem mut_rows {x y z : A} {l : List (Nat × List A)} (h : Mut S x y z l) : ∀ p ∈ l, ∃ row, rowAt S.rows p.1 = some row := by
  refine Mut.rec (motive_1 := fun x y z l _ => ∀ p ∈ l, ∃ row, rowAt S.rows p.1 = some row) (motive_2 := fun xs ys zs l _ => ∀ p ∈ l, ∃ row, rowAt S.rows p.1 = some row) ?_ ?_ ?_ ?_ ?_ h
  · intro r len row xs' hr hlk hl hl' p hp
    simp only [List.mem_singleton] at hp
    subst hp
    exact ⟨row, hr⟩
  · intros; simp_all
  · intro xs ys zs l h ih; exact ih
  · intros; simp_all
  · intro x y z xs ys zs l ls h hl ih ih' p hp
    rcases List.mem_append.1 hp with hp | hp
    · exact ih p hp
    · exact ih' p hp
theorem blocks_sub {gs : Gh} : ∀ {l : List (Nat × List A)} {p : Nat × List A}, p ∈ l → (gs.all p.1).Sublist (blocksOf gs l)
  | q :: l, p, h => by
    show (gs.all p.1).Sublist (gs.all q.1 ++ blocksOf gs l)
    rcases List.mem_cons.1 h with rfl | h
    · exact List.sublist_append_left _ _
    · exact (blocks_sub h).trans (List.sublist_append_right _ _)
/-- Two rows of the list have no block in common. -/
theorem blocks_apart {gs : Gh} : ∀ {l : List (Nat × List A)} {p q : Nat × List A}, (blocksOf gs l).Nodup → p ∈ l → q ∈ l → p.1 ≠ q.1 → ∀ b ∈ gs.all p.1, b ∉ gs.all q.1
  | x :: l, p, q, hn, hp, hq, hne, b, hb, hb2 => by
    have hn' : (gs.all x.1 ++ blocksOf gs l).Nodup := hn
    rw [List.nodup_append] at hn'
    obtain ⟨h1, h2, h3⟩ := hn'
    rcases List.mem_cons.1 hp with hp1 | hp1
    · rcases List.mem_cons.1 hq with hq1 | hq1
      · subst hp1; subst hq1; exact hne rfl
      · subst hp1; exact h3 b hb b (mem_blocksOf.2 ⟨_, hq1, hb2⟩) rfl
    · rcases List.mem_cons.1 hq with hq1 | hq1
      · subst hq1; exact h3 b hb2 b (mem_blocksOf.2 ⟨_, hp1, hb⟩) rfl
      · exact blocks_apart h2 hp1 hq1 hne b hb hb2
theorem blocks_nodup (hi : Inv E G gs S tmps w) : ∀ {l : List (Nat × List A)}, (l.map (·.1)).Nodup → (∀ p ∈ l, ∃ row, rowAt S.rows p.1 = some row) → (blocksOf gs l).Nodup
  | [], _, _ => by simp [blocksOf]
  | p :: l, hn, hr => by
    simp only [List.map_cons, List.nodup_cons] at hn
    obtain ⟨row, hrow⟩ := hr p (by simp)
    have ih := blocks_nodup hi hn.2 fun q hq => hr q (by simp [hq])
    show (gs.all p.1 ++ blocksOf gs l).Nodup
    rw [List.nodup_append]
    refine ⟨hi.nod p.1 row hrow, ih, fun a ha b hb hab => ?_⟩
    subst hab
    obtain ⟨q, hq, hb⟩ := mem_blocksOf.1 hb
    obtain ⟨row', hrow'⟩ := hr q (by simp [hq])
    exact hi.dis p.1 q.1 row row' hrow hrow' (fun e => hn.1 (by rw [e]; exact List.mem_map.2 ⟨q, hq, rfl⟩)) a ha hb
theorem CallOK_mut {g k : Nat} {args ys outs : List A} {x : A} {l : List (Nat × List A)} {K : A → State → Prop} (hc : MCtr P g ys x outs) (hm : MutL S args ys outs l) (hnd : (l.map (·.1)).Nodup)
    (hno : noOwn (rootA k (S.mut l) x).1 = true) (hK : K (rootA k (S.mut l) x).1 (rootA k (S.mut l) x).2) : CallOK P g args S K := by
  refine ⟨hc.enter, fun E G gs tmps w vs hi hl => ?_⟩
  have hrows := mut_rows (.agg hm)
  have hFnd := blocks_nodup hi hnd hrows
  have hFown : ∀ b ∈ blocksOf gs l, ¬ G b ∧ (E.Fin b ∨ E.w0.heap.size ≤ b) ∧ b < w.heap.size := fun b hb => by
    obtain ⟨p, hp, hb⟩ := mem_blocksOf.1 hb
    obtain ⟨row, hr⟩ := hrows p hp
    obtain ⟨h1, h2⟩ := hi.own p.1 row hr b hb
    exact ⟨h1, h2, hi.block_lt hr b hb⟩
  have hFdis : ∀ r row, rowAt S.rows r = some row → r ∉ l.map (·.1) → ∀ b ∈ gs.all r, b ∉ blocksOf gs l := fun r row hr hn b hb hb2 => by
    obtain ⟨p, hp, hb2⟩ := mem_blocksOf.1 hb2
    obtain ⟨row', hr'⟩ := hrows p hp
    exact hi.dis r p.1 row row' hr hr' (fun e => hn (by rw [e]; exact List.mem_map.2 ⟨p, hp, rfl⟩)) b hb hb2
  refine Calls.mono (hc.run w G vs (blocksOf gs l) hi.glt hFnd (fun b hb => (hFown b hb).1) (mut_giveL hi hm hl)) ?_
  rintro e w' ⟨v, Fx, Fo, rfl, ⟨hos, htape, hout, hsize, hold⟩, hnd2, hmem, hx, ho⟩
  obtain ⟨gs', hb, rfl⟩ := mut_backL hm hnd hl ho
  have hGF : ∀ b, G b → b ∉ Fx ++ blocksOf gs' l := fun b h hF => by
    have := hi.glt b h
    rcases hmem b hF with h2 | h2
    · exact (hFown b h2).1 h
    · omega
  have hG : ∀ b, G b → ((G b ∨ (w.heap.size ≤ b ∧ b < w'.heap.size)) ∧ b ∉ Fx ++ blocksOf gs' l) ∧ w'.heap[b]? = w.heap[b]? := fun b h => ⟨⟨.inl h, hGF b h⟩, hold b (hi.glt b h) fun hF => (hFown b hF).1 h⟩
  have hrow1 : ∀ r xs, (r, xs) ∈ l → rowAt (S.mut l).rows r = (rowAt S.rows r).map fun row => { row with xs := xs } := fun r xs h => rowAt_mut l S.rows r xs hnd h
  have hrow2 : ∀ r, r ∉ l.map (·.1) → rowAt (S.mut l).rows r = rowAt S.rows r := fun r h => rowAt_mut_not l S.rows r h
  have hle : ∀ r, RowLe w w' S.rows (S.mut l).rows gs gs' r := fun r => by
    by_cases hr : r ∈ l.map (·.1)
    · obtain ⟨⟨r', xs⟩, hp, rfl⟩ := List.mem_map.1 hr
      obtain ⟨row, h1, h2, h3, h4, h5, h6⟩ := hb.row _ _ hp
      refine ⟨fun row' h => ?_⟩
      dsimp only at h
      rw [h1] at h
      obtain rfl := Option.some.inj h
      exact ⟨{ row with xs := xs }, by rw [hrow1 _ _ hp, h1]; rfl, h4, rfl, h3, fun b cur e hb' hh => h6 b cur e hb' hh⟩
    · exact RowLe.refl_of fun row h => ⟨by rw [hrow2 r hr]; exact h, by rw [hb.frame r hr], fun b hob => hold b (hi.block_lt h b (by simp [Gh.all, hob])) (hFdis r row h hr b (by simp [Gh.all, hob]))⟩
  have hcase : ∀ r row', rowAt (S.mut l).rows r = some row' → (∃ xs row, (r, xs) ∈ l ∧ rowAt S.rows r = some row ∧ row' = { row with xs := xs }) ∨ (r ∉ l.map (·.1) ∧ rowAt S.rows r = some row') := fun r row' h => by
    by_cases hr : r ∈ l.map (·.1)
    · obtain ⟨⟨r', xs⟩, hp, rfl⟩ := List.mem_map.1 hr
      rw [hrow1 _ _ hp] at h
      obtain ⟨row, h1, _⟩ := hb.row _ _ hp
      rw [h1] at h
      exact .inl ⟨xs, row, hp, h1, (Option.some.inj h).symm⟩
    · rw [hrow2 r hr] at h; exact .inr ⟨hr, h⟩
  have hin : ∀ r xs, (r, xs) ∈ l → ∀ b ∈ gs'.all r, b ∈ blocksOf gs' l := fun r xs h b hb' => mem_blocksOf.2 ⟨_, h, hb'⟩
  rw [List.nodup_append] at hnd2
  obtain ⟨n1, n2, n3⟩ := hnd2
  have hltR : ∀ r row, rowAt S.rows r = some row → r ∉ l.map (·.1) → ∀ b ∈ gs.all r, b ∉ Fx ++ blocksOf gs' l := fun r row h hn b hb hF => by
    have := hi.block_lt h b hb
    rcases hmem b hF with h2 | h2
    · exact hFdis r row h hn b hb h2
    · omega
  have hi' : Inv E (fun b => (G b ∨ (w.heap.size ≤ b ∧ b < w'.heap.size)) ∧ b ∉ Fx ++ blocksOf gs' l) gs' (S.mut l) tmps w' := by
    refine ⟨fun b h hf => ?_, hos.trans hi.os, htape.trans hi.tape, hout.trans hi.output, Nat.le_trans hi.size hsize, hi.sz, fun b h => ⟨.inl (hi.gsub b h), hGF b (hi.gsub b h)⟩, fun b h => ?_, fun b h => ?_, fun r row' hr => ?_,
      fun r row' hr => ?_, fun r row' hr b hb' => ?_, fun r r' row row' hr hr' hne b hb1 hb2 => ?_, fun i => (hi.tmp i).step hG hle (by simp)⟩
    · rw [hold b (Nat.lt_of_lt_of_le h hi.size) fun hF => ?_]
      · exact hi.keep b h hf
      · rcases (hFown b hF).2.1 with h2 | h2
        · exact hf h2
        · omega
    · rcases h.1 with h | h
      · exact hi.gnew b h
      · exact .inr (Nat.le_trans hi.size h.1)
    · rcases h.1 with h | h
      · exact Nat.lt_of_lt_of_le (hi.glt b h) hsize
      · exact h.2
    · rcases hcase r row' hr with ⟨xs, row, hp, h1, rfl⟩ | ⟨hn, h1⟩
      · obtain ⟨row2, h2, _, _, _, h6, _⟩ := hb.row _ _ hp
        rw [h1] at h2
        obtain rfl := Option.some.inj h2
        exact h6 _ _
      · rw [hb.frame r hn]
        exact (hi.row r row' h1).step hG hle fun c hc => hold c (hi.block_lt h1 c hc) (hFdis r row' h1 hn c hc)
    · rcases hcase r row' hr with ⟨xs, row, hp, h1, rfl⟩ | ⟨hn, h1⟩
      · exact n2.sublist (blocks_sub hp)
      · have := hi.nod r row' h1
        simpa [Gh.all, hb.frame r hn] using this
    · rcases hcase r row' hr with ⟨xs, row, hp, h1, rfl⟩ | ⟨hn, h1⟩
      · have hbl := hin r xs hp b hb'
        refine ⟨fun h => h.2 (by rw [List.mem_append]; exact .inr hbl), ?_⟩
        rcases hmem b (by rw [List.mem_append]; exact .inr hbl) with h2 | h2
        · exact (hFown b h2).2.1
        · exact .inr (Nat.le_trans hi.size h2)
      · have hb2 : b ∈ gs.all r := by simpa [Gh.all, hb.frame r hn] using hb'
        obtain ⟨g1, g2⟩ := hi.own r row' h1 b hb2
        refine ⟨fun h => ?_, g2⟩
        have := hi.block_lt h1 b hb2
        rcases h.1 with h | h
        · exact g1 h
        · omega
    · rcases hcase r row hr with ⟨xs, row1, hp, h1, rfl⟩ | ⟨hn, h1⟩
      · rcases hcase r' row' hr' with ⟨xs', row2, hp', h1', rfl⟩ | ⟨hn', h1'⟩
        · exact blocks_apart n2 hp hp' hne b hb1 hb2
        · exact hltR r' row' h1' hn' b (by simpa [Gh.all, hb.frame r' hn'] using hb2) (by rw [List.mem_append]; exact .inr (hin r xs hp b hb1))
      · rcases hcase r' row' hr' with ⟨xs', row2, hp', h1', rfl⟩ | ⟨hn', h1'⟩
        · exact hltR r row h1 hn b (by simpa [Gh.all, hb.frame r hn] using hb1) (by rw [List.mem_append]; exact .inr (hin r' xs' hp' b hb2))
        · exact hi.dis r r' row row' h1 h1' hne b (by simpa [Gh.all, hb.frame r hn] using hb1) (by simpa [Gh.all, hb.frame r' hn'] using hb2)
  have hR : Res E (fun b => (G b ∨ (w.heap.size ≤ b ∧ b < w'.heap.size)) ∧ b ∉ Fx ++ blocksOf gs' l) gs' (S.mut l).rows (Fx ++ []) := by
    rw [List.append_nil]
    refine ⟨n1, fun b hb' => ⟨fun h => h.2 (by rw [List.mem_append]; exact .inl hb'), ?_⟩, fun r row' hr b hb1 hb2 => ?_⟩
    · rcases hmem b (by rw [List.mem_append]; exact .inl hb') with h2 | h2
      · exact (hFown b h2).2.1
      · exact .inr (Nat.le_trans hi.size h2)
    · rcases hcase r row' hr with ⟨xs, row, hp, h1, rfl⟩ | ⟨hn, h1⟩
      · exact n3 b hb2 b (hin r xs hp b hb1) rfl
      · exact hltR r row' h1 hn b (by simpa [Gh.all, hb.frame r hn] using hb1) (by rw [List.mem_append]; exact .inl hb2)
  obtain ⟨gs2, h1, h2⟩ := rootA_ok k (S.mut l) gs' x v Fx [] hi' hR (fun b hb' => hx.lt b (by simpa using hb')) hx hno
  exact ⟨v, _, _, _, gs2, rfl, hK, h1.inv, h2⟩
end
end Go.Fw

/- Contracts from the reckoning; states told otherwise. Plain theorems, no condition. -/
import Derived.Test.YtdngjnjapihbkaaFw19
set_option linter.unusedVariables false
set_option linter.unusedSimpArgs false
namespace Go.Fw
section
variable {P : Program} {T : Nat → Option TI} {S : State} {o : Oper} {K : State → Prop}

theorem load_pt {E : Env} {G : Nat → Prop} {gs : Gh} {tmps : Array Value} {w : World} (hi : Inv E G gs S tmps w) {r j q : Nat} {row : Row} {y z : A} {t : TypeId} {u : Value} (h1 : TRel w G S.rows gs (.pt r j q) u [])
    (hr : rowAt S.rows r = some row) (hy : row.xs[j]? = some y) (ha : aggT P t = some false) (hz : y.cells[q]? = some z) (hno : noOwn z = true) :
    ∃ ad v, u = .pointer (some ad) ∧ (loadVar t ad).run P w = .ok v w ∧ TRel w G S.rows gs z v [] := by
  obtain ⟨row', b, hr', hb, hv⟩ := pt_inv h1
  rw [hr] at hr'
  obtain rfl := Option.some.inj hr'
  have hq : q < y.cells.length := by
    rcases Nat.lt_or_ge q y.cells.length with h | h
    · exact h
    · rw [List.getElem?_eq_none h] at hz; simp at hz
  have hw : y.width = row.n := by
    obtain ⟨b', _, hrc⟩ := row_real hi hr (by
      intro h0
      rw [List.eq_nil_of_length_eq_zero h0] at hy
      simp at hy)
    obtain ⟨_, _, _, _, _, _, _, h5, _⟩ := hrc.ex
    exact h5 y (List.mem_of_getElem? hy)
  unfold A.width at hw
  have hseg : (y.cells.drop q).take 1 = [z] := by
    rw [List.drop_eq_getElem_cons hq]
    rw [List.getElem?_eq_getElem hq] at hz
    simp only [Option.some.injEq] at hz
    simp [hz]
  obtain ⟨b1, cur, e, cs, g0, g1, g2, g3, g4⟩ := row_seg (a := ⟨tmps, []⟩) hi hr hy (o := q) (s := 1) (by omega) (by rw [hseg]; simpa using hno)
  rw [hb] at g0
  obtain rfl := Option.some.inj g0
  rw [hseg] at g3
  obtain ⟨v, hv1, hv2⟩ := g3.get 0 z rfl
  have hcur : cur[j * row.n + q]? = some v := by
    rw [← g2] at hv1
    rw [List.getElem?_take_of_lt (by omega), List.getElem?_drop] at hv1
    simpa using hv1
  exact ⟨_, v, hv, run_loadVar_cell ha g1 hcur, hv2⟩
theorem load_ptAgg {E : Env} {G : Nat → Prop} {gs : Gh} {tmps : Array Value} {w : World} (hi : Inv E G gs S tmps w) {r j q s : Nat} {row : Row} {y : A} {t : TypeId} {u : Value} (h1 : TRel w G S.rows gs (.pt r j q) u [])
    (hr : rowAt S.rows r = some row) (hy : row.xs[j]? = some y) (ha : aggT P t = some true) (hs : szT P t = some s) (hq : q + s ≤ row.n) (hno : ((y.cells.drop q).take s).all noOwn = true) :
    ∃ ad v, u = .pointer (some ad) ∧ (loadVar t ad).run P w = .ok v w ∧ TRel w G S.rows gs (.agg ((y.cells.drop q).take s)) v [] := by
  obtain ⟨row', b, hr', hb, hv⟩ := pt_inv h1
  rw [hr] at hr'
  obtain rfl := Option.some.inj hr'
  obtain ⟨b1, cur, e, cs, g0, g1, g2, g3, g4⟩ := row_seg (a := ⟨tmps, []⟩) hi hr hy hq hno
  rw [hb] at g0
  obtain rfl := Option.some.inj g0
  exact ⟨_, .agg cs.toArray, hv, run_loadVar_agg ha hs g1 g2 g4, .agg g3⟩

structure FitX (z x : A) : Prop where
  h : ∃ k, fitA k z x
theorem fitA_refl0 (x : A) : fitA 0 x x := by simp [fitA]
theorem FitX.same {x : A} : FitX x x := ⟨0, fitA_refl0 x⟩
theorem FitX.of {x y : A} (h : x = y) : FitX x y := h ▸ FitX.same
theorem fitL_refl {k : Nat} (ih : ∀ x, fitA k x x) : ∀ xs, fitA.fitL k xs xs
  | [] => by rw [fitA.fitL]; trivial
  | x :: xs => by rw [fitA.fitL]; exact ⟨ih x, fitL_refl ih xs⟩
theorem fitA_refl : ∀ (k : Nat) (x : A), fitA k x x
  | 0, x => fitA_refl0 x
  | k + 1, x => by
    have ih := fitL_refl (fitA_refl k)
    unfold fitA
    cases x <;> first | rfl | exact ih _
theorem fits {k : Nat} (xs : List A) : fitA.fitL k xs xs := fitL_refl (fitA_refl k) xs
/-- What the results' variables hold. -/
def vRes (T : Nat → Option TI) (S : State) : List ResultVar → (List A → Prop) → Prop
  | [], k => k []
  | .tmp t :: rs, k => vRes T S rs fun zs => k (ev S (.tmp t) :: zs)
  | .cell a t :: rs, k =>
    match T t, ev S (.tmp a) with
    | some i, .pt r j q => (match rowAt S.rows r with
      | some row => (match row.xs[j]? with
        | some y => vCell i row.n y q fun z => vRes T S rs fun zs => k (z :: zs)
        | none => False)
      | none => False)
    | _, _ => False
def vOut (Ω : Opq) (T : Nat → Option TI) (S : State) (rs : List ResultVar) (x : A) : Prop :=
  vRes T S rs fun zs => if (flat zs).all okCell then vStash Ω (flat zs).length S (flat zs) fun ys _ _ => FitX (oneA (regroup zs ys)) x else False
def outV (Ω : Opq) (T : Nat → Option TI) (rs : List ResultVar) (x : A) : Exit → State → Prop
  | .normal, S | .ret, S => vOut Ω T S rs x
  | _, _ => False
theorem vRes_ok (hT : TabOK P T) {E : Env} {G : Nat → Prop} {gs : Gh} {tmps : Array Value} {w : World} (hi : Inv E G gs S tmps w) : ∀ {rs : List ResultVar} {k : List A → Prop}, vRes T S rs k →
    ∃ zs vs, k zs ∧ resOK P tmps w rs vs ∧ TRelL w G S.rows gs zs vs []
  | [], k, h => ⟨[], [], h, trivial, .nil⟩
  | .tmp t :: rs, k, h => by
    obtain ⟨zs, vs, h1, h2, h3⟩ := vRes_ok hT hi (rs := rs) h
    exact ⟨_, tmps.getD t undef :: vs, h1, ⟨rfl, h2⟩, .cons (F := []) (Fs := []) (ev_rel (a := ⟨tmps, []⟩) hi (.tmp t) rfl) h3⟩
  | .cell a t :: rs, k, h => by
    unfold vRes at h
    split at h <;> try exact h.elim
    rename_i i r j q hti ha
    have hti := tiOf_ok (hT _ _ hti)
    split at h <;> try exact h.elim
    rename_i row hr
    split at h <;> try exact h.elim
    rename_i y hy
    have h1 := ev_rel (a := ⟨tmps, []⟩) hi (.tmp a) rfl
    rw [ha] at h1
    unfold vCell at h
    split at h
    · rename_i hag
      split at h <;> try exact h.elim
      rename_i hq
      split at h <;> try exact h.elim
      rename_i hno
      obtain ⟨ad, v, g1, g2, g3⟩ := load_ptAgg hi h1 hr hy (by rw [hti.ag, hag]) hti.sz hq hno
      obtain ⟨zs, vs, h1, h2, h3⟩ := vRes_ok hT hi (rs := rs) h
      exact ⟨_, v :: vs, h1, ⟨⟨ad, g1, g2⟩, h2⟩, .cons (F := []) (Fs := []) g3 h3⟩
    · rename_i hag
      split at h <;> try exact h.elim
      rename_i z hz
      split at h <;> try exact h.elim
      rename_i hno
      obtain ⟨ad, v, g1, g2, g3⟩ := load_pt hi h1 hr hy (by rw [hti.ag]; simpa using hag) hz hno
      obtain ⟨zs, vs, h1, h2, h3⟩ := vRes_ok hT hi (rs := rs) h
      exact ⟨_, v :: vs, h1, ⟨⟨ad, g1, g2⟩, h2⟩, .cons (F := []) (Fs := []) g3 h3⟩
theorem flat_rel {G : Nat → Prop} {gs : Gh} {w : World} {rows : List (Option Row)} : ∀ {xs : List A} {vs : List Value}, TRelL w G rows gs xs vs [] → (flat xs).all okCell = true → TRelL w G rows gs (flat xs) (vs.flatMap fun v => v.cells.toList) []
  | xs, vs, h, hok => by
    generalize hF : ([] : List Nat) = F at h
    cases h with
    | nil => rw [← hF]; exact .nil
    | cons h hl =>
      rename_i x v F xs vs Fs
      have hF' : F = [] ∧ Fs = [] := by simpa using hF.symm
      obtain ⟨rfl, rfl⟩ := hF'
      rw [flat_cons, List.all_append, Bool.and_eq_true] at hok
      rw [flat_cons, List.flatMap_cons]
      exact (cells_rel h hok.1).append0 (flat_rel hl hok.2)
theorem RelL.split_at {G : Nat → Prop} {w : World} {xs : List A} {vs us : List Value} {F : List Nat} (h : RelL w G xs (vs ++ us) F) : ∃ F1 F2, F = F1 ++ F2 ∧ RelL w G (xs.take vs.length) vs F1 ∧ RelL w G (xs.drop vs.length) us F2 := by
  obtain ⟨F1, F2, e, h1, h2⟩ := h.take_ vs.length
  rw [List.take_left] at h1
  rw [List.drop_left] at h2
  exact ⟨F1, F2, e, h1, h2⟩
theorem regroup_rel {G G' : Nat → Prop} {gs : Gh} {w : World} {rows : List (Option Row)} : ∀ {xs : List A} {vs : List Value} {ys : List A} {F : List Nat}, TRelL w G rows gs xs vs [] → (flat xs).all okCell = true →
    RelL w G' ys (vs.flatMap fun v => v.cells.toList) F → RelL w G' (regroup xs ys) vs F
  | xs, vs, ys, F, h, hok, hy => by
    generalize hF : ([] : List Nat) = F0 at h
    cases h with
    | nil =>
      simp only [List.flatMap_nil] at hy
      have := hy.length
      cases hy
      exact .nil
    | cons h hl =>
      rename_i x v F1 xs vs Fs
      have hF' : F1 = [] ∧ Fs = [] := by simpa using hF.symm
      obtain ⟨rfl, rfl⟩ := hF'
      rw [flat_cons, List.all_append, Bool.and_eq_true] at hok
      rw [List.flatMap_cons] at hy
      obtain ⟨Fa, Fb, rfl, g1, g2⟩ := hy.split_at
      have hcl := (cells_rel h hok.1).length
      rw [hcl] at g1 g2
      have hrec := regroup_rel hl hok.2 g2
      have one : x.cells = [x] → RelL w G' (ys.headD .un :: regroup xs (ys.drop 1)) (v :: vs) (Fa ++ Fb) := fun hc => by
        rw [hc] at g1 hcl hrec
        have hok1 : okCell x = true := by
          have := hok.1
          rw [hc] at this
          simpa using this
        simp only [List.length_singleton] at g1 hcl hrec
        have hv : v.cells.toList = [v] := by
          have := okCell_v h hok1
          revert this
          generalize v = u
          intro this
          cases u <;> first | rfl | (simp [cellV, Value.oneCell'] at this)
        rw [hv] at g1
        cases ys with
        | nil => have := g1.length; simp at this
        | cons y ys =>
          simp only [List.take_succ_cons, List.take_zero] at g1
          have g1' : Rel w G' y v Fa := by
            generalize hu : [v] = us at g1
            cases g1 with
            | cons a b =>
              cases b
              cases hu
              simpa using a
          exact .cons g1' hrec
      cases x with
      | agg cs =>
        obtain ⟨us, rfl, _⟩ := agg_inv h
        simp only [regroup]
        refine .cons ?_ hrec
        exact Rel.agg (cs := us.toList) g1
      | _ => exact one rfl
theorem outV_ok (hT : TabOK P T) {rs : List ResultVar} {x : A} {e : Exit} (h : outV std T rs x e S) : outK P rs x e S := by
  have key : vOut std T S rs x → Outs P rs x S := fun h E G gs tmps w hi => by
    obtain ⟨zs, vs, h1, h2, h3⟩ := vRes_ok hT hi h
    split at h1 <;> try exact h1.elim
    rename_i hok
    obtain ⟨hc, ho⟩ := vStash_ok _ _ _ _ h1
    obtain ⟨k, hfit⟩ := ho.h
    obtain ⟨F, hst, hrel⟩ := stashL_ok _ _ S _ [] rfl hi Res.nil (flat_rel h3 hok) hc
    rw [List.append_nil] at hst
    exact ⟨vs, _, F, k, h2, regroup_rel h3 hok hrel, hst.res.nod, hst.res.own, hfit⟩
  cases e with
  | normal => exact key h
  | ret => exact key h
  | _ => exact h.elim
/-- A contract by the reckoning. -/
theorem PCtr.walk (hT : TabOK P T) {Ω : Opq} (hΩ : Ω = std) {g : Nat} {c : Code} {N : Nat} {rs : List ResultVar} {xs : List A} {x : A} (hf : FnAt P g c N rs) (hN : Nat.ble xs.length N = true) (h : vC Ω P T c (entryS N xs) (outV Ω T rs x)) : PCtr P g xs x :=
  PCtr.of hf (Nat.le_of_ble_eq_true hN) (VC.mono (vstart hT hΩ h) fun e S' h => outV_ok hT (hΩ ▸ h))

def subL (t : List (Nat × A)) : List (Nat × A) → Prop
  | [] => True
  | (k, x) :: l => lk t k = x ∧ subL t l
theorem subL_ok {t : List (Nat × A)} : ∀ {t' l : List (Nat × A)}, subL t t' → (∀ p ∈ l, lk t p.1 = lk (l ++ t') p.1) → True := fun _ _ => trivial
theorem subL_T {t : List (Nat × A)} : ∀ {t' : List (Nat × A)}, subL t t' → ∀ p ∈ t', lk t' p.1 = lk t p.1
  | (k, x) :: l, h, p, hp => by
    obtain ⟨h1, h2⟩ := h
    simp only [lk]
    split
    · rename_i e; rw [← e, h1]
    · rename_i hne
      rcases List.mem_cons.1 hp with rfl | hp
      · exact (hne rfl).elim
      · exact subL_T h2 p hp
theorem Sbs.mk {S S' : State} (hN : S.N = S'.N) (hr : S.rows = S'.rows) (ht : subL S.t S'.t) : Sbs S S' := by
  cases S with | mk t N rows => cases S' with | mk t' N' rows' =>
    dsimp only at hN hr ht
    subst hN; subst hr
    exact Sbs.of (subL_T ht)
theorem Sbs.trans {S S' S'' : State} (h : Sbs S S') (h' : Sbs S' S'') : Sbs S S'' := fun E a w hs => h' E a w (h E a w hs)
/-- A row that is not asked for any more. -/
theorem Sbs.drop {r : Nat} {row : Row} (hr : rowAt S.rows r = some row) : Sbs S (S.turn r none) := by
  intro E a w ⟨hd, G, gs, hi⟩
  refine ⟨hd, G, _, hi.turn (x := none) (ob := none) (F := []) hr rfl rfl rfl (Nat.le_refl _) (fun _ _ _ => rfl) (by simp) (by simp) (by simp) (by simp)⟩
theorem Sbs.trim {t : List (Nat × A)} {N : Nat} {rows : List (Option Row)} : Sbs ⟨t, N, rows ++ [none]⟩ ⟨t, N, rows⟩ := by
  intro E a w ⟨hd, G, gs, hi⟩
  have hrow : ∀ r, rowAt (rows ++ [none]) r = rowAt rows r := fun r => by
    rw [rowAt_push]; split
    · rename_i h; rw [rowAt_none (by omega)]
    · rfl
  have hle : ∀ r, RowLe w w (rows ++ [none]) rows gs gs r := fun r => RowLe.refl_of fun row h => ⟨by rw [← hrow]; exact h, rfl, fun _ _ => rfl⟩
  refine ⟨hd, G, gs, ⟨hi.keep, hi.os, hi.tape, hi.output, hi.size, hi.sz, hi.gsub, hi.gnew, hi.glt, fun r row hr => (hi.row r row (by rw [← hrow] at hr; exact hr)).step (fun b hb => ⟨hb, rfl⟩) hle (fun _ _ => rfl),
    fun r row hr => hi.nod r row (by rw [← hrow] at hr; exact hr), fun r row hr => hi.own r row (by rw [← hrow] at hr; exact hr),
    fun r r' row row' hr hr' => hi.dis r r' row row' (by rw [← hrow] at hr; exact hr) (by rw [← hrow] at hr'; exact hr'), fun i => (hi.tmp i).step (fun b hb => ⟨hb, rfl⟩) hle (by simp)⟩⟩
/-- A nil slice told as an own row without a block. -/
theorem Sbs.nilRow {i n : Nat} (h : lk S.t i = .nil) (hN : i < S.N) : Sbs S ((S.addRow ⟨n, [], false⟩).put (some i) (.vw S.rows.length 0 0)) := by
  intro E a w ⟨hd, G, gs, hi⟩
  have := adopt_res (R1 := []) (R2 := []) (ob := none) (F := []) hi Res.nil (by simp) rfl (row := ⟨n, [], false⟩) (fun _ _ => ⟨rfl, rfl⟩)
  have ht := hi.tmp i
  rw [h] at ht
  have hv : vat E a.tmps i = .slice none 0 0 := by
    generalize vat E a.tmps i = v at ht
    cases ht with | of h => cases h; rfl
  have hself : (gs.add S.rows.length none []) S.rows.length = (none, []) := by simp [Gh.add]
  refine ⟨hd, G, _, this.inv.retell ?_ hN⟩
  rw [hv]
  refine .vwn (row := ⟨n, [], false⟩) ?_ (by rw [hself]) rfl
  show rowAt (S.rows ++ [some ⟨n, [], false⟩]) S.rows.length = _
  rw [rowAt_push, if_pos rfl]
end
end Go.Fw

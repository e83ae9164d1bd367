/- More operations: structs as values, strings, slices. Plain theorems, no condition. -/
import Derived.Test.YtdngjnjapihbkaaFw6
set_option linter.unusedVariables false
set_option linter.unusedSimpArgs false
namespace Go.Fw

section
variable {P : Program} {E : Env} {G : Nat → Prop} {gs : Gh} {S : State} {a : Act} {w : World} {tmps : Array Value}

theorem fieldT_inv {t : TypeId} {i off s : Nat} {g : Bool} (h : fieldT P t i = some (off, s, g)) :
    ∃ fs f, P.underlying t = some (.struct fs) ∧ fs[i]? = some f ∧ f.offset = off ∧ szT P f.type = some s ∧ aggT P f.type = some g := by
  unfold fieldT at h
  split at h <;> try simp at h
  rename_i fs hu
  split at h <;> try simp at h
  rename_i f hfi
  split at h <;> try simp at h
  rename_i s' g' hsz hag
  obtain ⟨h1, h2, h3⟩ := h
  exact ⟨fs, f, hu, hfi, h1, by rw [hsz, h2], by rw [hag, h3]⟩

theorem VOK_field {o : Oper} {t : TypeId} {x : Operand} {i off s : Nat} {g : Bool} {xs : List A} (ho : o.op = .field t x i) (hx : okO x = true) (he : ev S x = .agg xs)
    (hf : fieldT P t i = some (off, s, g)) (hl : off + s ≤ xs.length) (hs : g = false → s = 1)
    : VOK P o S (if g then .agg ((xs.drop off).take s) else xs.getD off .un) := by
  refine fun E G gs a w hi => ?_
  have h1 := ev_rel hi x hx
  rw [he] at h1
  obtain ⟨cs, hv, hr⟩ := agg_inv h1
  obtain ⟨fs, f, hu, hfi, hoff, hsz, hag⟩ := fieldT_inv hf
  have hlen := hr.length
  cases g with
  | true =>
    refine ⟨.agg ((cs.toList.drop off).take s).toArray, ?_, .agg ((hr.drop0 off).take0 s)⟩
    intro w' hw'
    simp [execOp, ho, hv, Instr.field, run_underlying hu, hfi, asAgg, part, run_isAgg hag, run_sizeOf hsz, hoff]
    apply Array.ext'
    simp [List.extract_eq_take_drop]
  | false =>
    have h1 := hs rfl
    have hlt : off < xs.length := by omega
    obtain ⟨v, hv1, hv2⟩ := hr.get off (xs.getD off .un) (by simp [List.getD_eq_getElem?_getD, List.getElem?_eq_getElem hlt])
    have hv1' : cs[off]? = some v := by simpa using hv1
    refine ⟨v, ?_, by simpa using hv2⟩
    intro w' hw'
    simp [execOp, ho, hv, Instr.field, run_underlying hu, hfi, asAgg, part, run_isAgg hag, hoff, hv1']

theorem VOK_extract {o : Oper} {x : Operand} {i : Nat} {xs : List A} {z : A} (ho : o.op = .extract x i) (hx : okO x = true) (he : ev S x = .tup xs) (hz : xs[i]? = some z)
    : VOK P o S z := by
  refine fun E G gs a w hi => ?_
  have h1 := ev_rel hi x hx
  rw [he] at h1
  obtain ⟨cs, hv, hr⟩ := tup_inv h1
  obtain ⟨v, hv1, hv2⟩ := hr.get i z hz
  have hv1' : cs[i]? = some v := by simpa using hv1
  exact ⟨v, fun w' hw' => by simp [execOp, ho, hv, Instr.extract, hv1'], hv2⟩

theorem VOK_nilCheck_pt {o : Oper} {x : Operand} {r j q : Nat} (ho : o.op = .nilCheck x) (hx : okO x = true) (he : ev S x = .pt r j q)
    : VOK P o S (.pt r j q) := by
  refine fun E G gs a w hi => ?_
  have h1 := ev_rel hi x hx
  rw [he] at h1
  obtain ⟨row, b, hr, hb, hv⟩ := pt_inv h1
  exact ⟨_, fun w' hw' => by simp [execOp, ho, hv], hv ▸ h1⟩
theorem VOK_nilCheck_rp {o : Oper} {x : Operand} {xs : List A} (ho : o.op = .nilCheck x) (hx : okO x = true) (he : ev S x = .rp xs)
    : VOK P o S (.rp xs) := by
  refine fun E G gs a w hi => ?_
  have h1 := ev_rel hi x hx
  rw [he] at h1
  obtain ⟨b, k, cur, e, fr, hv, hh, hg, hl⟩ := rp_inv h1
  exact ⟨_, fun w' hw' => by simp [execOp, ho, hv], hv ▸ h1⟩

/-- A struct put together: cells of the zero value, parts laid over them. -/
def fillA (P : Program) (t : TypeId) : List A → List (Nat × A) → Option (List A)
  | cells, [] => some cells
  | cells, (i, x) :: rest =>
    match fieldT P t i with
    | none => none
    | some (off, s, _) =>
      if x.cells.length ≠ s ∨ off + s > cells.length then none
      else fillA P t (cells.take off ++ x.cells ++ cells.drop (off + s)) rest
theorem fold_set : ∀ (vs : List Value) (k j : Nat) (cs : Array Value), k + j + vs.length ≤ cs.size →
    ((vs.zipIdx j).foldl (fun cs (c, j) => cs.setIfInBounds (k + j) c) cs).toList = cs.toList.take (k + j) ++ vs ++ cs.toList.drop (k + j + vs.length)
  | [], k, j, cs, h => by simp
  | v :: vs, k, j, cs, h => by
    simp only [List.zipIdx_cons, List.foldl_cons]
    rw [fold_set vs k (j + 1) _ (by simp at h ⊢; omega)]
    have e := list_seg_step cs.toList (k + j) v vs (by simp at h ⊢; omega)
    rw [Array.toList_setIfInBounds]
    simpa [Nat.add_assoc] using e
theorem fill_rel {rows : List (Option Row)} {t : TypeId} {fs : Array Field} {places : Array (Nat × Nat)} (hu : P.underlying t = some (.struct fs))
    (hp : ∀ i off s g, fieldT P t i = some (off, s, g) → places[i]? = some (off, s)) : ∀ (parts : List (Nat × A)) (vals : List (Nat × Value)) (cells res : List A) (zs : Array Value),
    vals.map (·.1) = parts.map (·.1) → TRelL w G rows gs (parts.map (·.2)) (vals.map (·.2)) [] → (∀ p ∈ parts, p.2.cells.all okCell = true) → TRelL w G rows gs cells zs.toList [] → fillA P t cells parts = some res →
    ∃ cs, Instr.fill (places[·]?) zs vals = some cs ∧ TRelL w G rows gs res cs.toList []
  | [], [], cells, res, zs, _, _, _, hz, hf => by
    simp only [fillA, Option.some.injEq] at hf
    subst hf
    exact ⟨zs, rfl, hz⟩
  | [], _ :: _, _, _, _, he, _, _, _, _ => by simp at he
  | _ :: _, [], _, _, _, he, _, _, _, _ => by simp at he
  | (i, x) :: parts, (i', v) :: vals, cells, res, zs, he, hrel, hok, hz, hf => by
    simp only [List.map_cons, List.cons.injEq] at he hrel
    obtain ⟨rfl, he⟩ := he
    simp only [fillA] at hf
    split at hf
    · simp at hf
    · rename_i off s g hft
      split at hf
      · simp at hf
      · rename_i hc
        have hc1 : x.cells.length = s := by
          rcases Nat.lt_trichotomy x.cells.length s with h | h | h <;> first | exact h | exact absurd (Or.inl (by omega)) hc
        have hc2 : off + s ≤ cells.length := by
          rcases Nat.lt_or_ge cells.length (off + s) with h | h
          · exact absurd (Or.inr h) hc
          · exact h
        generalize hF : ([] : List Nat) = F at hrel
        cases hrel with
        | cons hx hrest =>
          rename_i F1 F2
          have hF' : F1 = [] ∧ F2 = [] := by simpa using hF.symm
          obtain ⟨rfl, rfl⟩ := hF'
          have hxc := cells_rel hx (hok (i', x) (by simp))
          have hlx : v.cells.size = s := by have := hxc.length; simp at this; omega
          have hlz : zs.size = cells.length := by have := hz.length; simpa using this
          have hpl := hp _ _ _ _ hft
          have hcells : TRelL w G rows gs (cells.take off ++ x.cells ++ cells.drop (off + s)) ((v.cells.zipIdx.foldl (fun cs (c, j) => cs.setIfInBounds (off + j) c) zs).toList) [] := by
            have e := fold_set v.cells.toList off 0 zs (by simp; omega)
            have e2 : (v.cells.zipIdx.foldl (fun cs (c, j) => cs.setIfInBounds (off + j) c) zs) = ((v.cells.toList.zipIdx 0).foldl (fun cs (c, j) => cs.setIfInBounds (off + j) c) zs) := by
              rw [← Array.foldl_toList]; simp
            rw [e2, e]
            refine TRelL.append0 (TRelL.append0 (hz.take0 off) hxc) ?_
            have := hz.drop0 (off + s)
            simpa [hlx] using this
          obtain ⟨cs, h1, h2⟩ := fill_rel hu hp parts vals _ res _ he hrest (fun p hp => hok p (by simp [hp])) hcells hf
          refine ⟨cs, ?_, h2⟩
          simp only [Instr.fill, hpl]
          rw [if_neg (by simp; omega)]
          exact h1

theorem parts_rel (hi : Inv E G gs S a.tmps w) : ∀ (parts : List (Nat × Operand)), (∀ p ∈ parts, okO p.2 = true) →
    TRelL w G S.rows gs ((parts.map fun p => (p.1, ev S p.2)).map (·.2)) ((parts.map fun p => (p.1, a.eval p.2)).map (·.2)) []
  | [], _ => .nil
  | p :: parts, h => .cons (F := []) (Fs := []) (ev_rel hi p.2 (h p (by simp))) (parts_rel hi parts fun q hq => h q (by simp [hq]))
theorem places_of {t : TypeId} {fs : Array Field} {places : List (Nat × Nat)} (hu : P.underlying t = some (.struct fs)) (hm : fs.toList.mapM (fun f => (P.info? f.type).map fun i => (f.offset, i.size)) = some places) :
    ∀ i off s g, fieldT P t i = some (off, s, g) → places.toArray[i]? = some (off, s) := by
  intro i off s g hf
  obtain ⟨fs', f, hu', hfi, hoff, hsz, hag⟩ := fieldT_inv hf
  rw [hu] at hu'
  simp only [Option.some.injEq, TypeDesc.struct.injEq] at hu'
  subst hu'
  have key : ∀ (l : List Field) (places : List (Nat × Nat)), l.mapM (fun f => (P.info? f.type).map fun i => (f.offset, i.size)) = some places → ∀ i : Nat, l[i]? = some f → places[i]? = some (off, s) := by
    intro l
    induction l with
    | nil => intro places h i hi; simp at hi
    | cons f0 l ih =>
      intro places h i hi
      simp only [List.mapM_cons, Option.bind_eq_bind, Option.pure_def] at h
      cases h0 : P.info? f0.type with
      | none => simp [h0] at h
      | some i0 =>
        cases hr : l.mapM (fun f => (P.info? f.type).map fun i => (f.offset, i.size)) with
        | none => simp [h0, hr] at h
        | some rest =>
          simp [h0, hr] at h
          subst h
          cases i with
          | zero =>
            simp at hi
            subst hi
            simp only [szT, h0, Option.map_some, Option.some.injEq] at hsz
            simp [hoff, hsz]
          | succ i => simpa using ih rest hr i (by simpa using hi)
  simpa using key fs.toList places hm i (by simpa using hfi)
/-- All fields' sizes are known. -/
def placesT (P : Program) (t : TypeId) : Bool :=
  match P.underlying t with
  | some (.struct fs) => (fs.toList.mapM (fun f => (P.info? f.type).map fun i => (f.offset, i.size))).isSome
  | _ => false
theorem VOK_build {o : Oper} {t : TypeId} {parts : Array (Nat × Operand)} {z : Array Value} {res : List A} (ho : o.op = .build t parts) (hx : ∀ p ∈ parts.toList, okO p.2 = true)
    (hz : zeroT P t = some (.agg z)) (hzv : okV (.agg z) = true) (hpl : placesT P t = true) (hok : ∀ p ∈ parts.toList, (ev S p.2).cells.all okCell = true)
    (hf : fillA P t (z.toList.map cellA) (parts.toList.map fun p => (p.1, ev S p.2)) = some res) : VOK P o S (.agg res) := by
  refine fun E G gs a w hi => ?_
  unfold placesT at hpl
  split at hpl <;> try simp at hpl
  rename_i fs hu
  obtain ⟨places, hm⟩ := Option.isSome_iff_exists.1 hpl
  have h0 : TRelL w G S.rows gs (z.toList.map cellA) z.toList [] := .of (relL_cells _ hzv)
  obtain ⟨cs, h1, h2⟩ := fill_rel hu (places_of hu hm) _ (parts.toList.map fun p => (p.1, a.eval p.2)) _ res z (by simp [Function.comp_def]) (parts_rel hi parts.toList hx)
    (fun p hp => by obtain ⟨q, hq, rfl⟩ := List.mem_map.1 hp; exact hok q hq) h0 hf
  have hb : P.built t (parts.map fun (i, x) => (i, a.eval x)).toList = some cs := by
    unfold zeroT at hz
    cases hit : P.info? t with
    | none => simp [hit] at hz
    | some it =>
      simp only [hit, Option.bind_some] at hz
      have e : (parts.map fun (i, x) => (i, a.eval x)).toList = parts.toList.map fun p => (p.1, a.eval p.2) := by simp
      rw [e]
      simp only [Program.built, hit, hu, hz, hm]
      exact h1
  refine ⟨.agg cs, ?_, by simpa using TRel.agg h2⟩
  have hr := fun w => run_build (P := P) w t (parts.map fun (i, x) => (i, a.eval x)) cs hb
  intro w' hw'
  simp [execOp, ho, hr]

/-- A byte of a string. -/
theorem VOK_index {o : Oper} {t : TypeId} {x y : Operand} {s : ByteArray} {k : IntKind} {i : Int} {c : UInt8} (ho : o.op = .index t x y) (hx : okO x = true) (hy : okO y = true)
    (h1 : ev S x = .sc (.string s)) (h2 : ev S y = .sc (.int k i)) (ht : isStrT P t = true) (h0 : 0 ≤ i) (hc : (bs s)[i.toNat]? = some c) : VOK P o S (.sc (.int .u8 (c.toNat : Int))) := by
  refine fun E G gs a w hi => ⟨_, ?_, .of (.sc rfl)⟩
  have e1 := ev_rel hi x hx
  have e2 := ev_rel hi y hy
  rw [h1] at e1
  rw [h2] at e2
  have v1 := (sc_inv e1).1
  have v2 := (sc_inv e2).1
  have hu : P.underlying t = some .string := by
    unfold isStrT at ht
    split at ht
    · assumption
    · simp at ht
  have hget : s[i.toNat]? = some c := by
    have hlt : i.toNat < s.size := by
      rcases Nat.lt_or_ge i.toNat (bs s).length with h | h
      · rwa [bs_length] at h
      · rw [List.getElem?_eq_none h] at hc; simp at hc
    rw [getElem?_pos s i.toNat hlt]
    rw [List.getElem?_eq_getElem (by rw [bs_length]; exact hlt)] at hc
    simp only [bs, Array.getElem_toList] at hc
    exact hc
  intro w' hw'
  simp [execOp, ho, v1, v2, Instr.index, run_underlying hu, asIntOf, h0, hget]

def bnd : Option A → Nat → Option Int
  | none, d => some (d : Int)
  | some (.sc (.int _ n)), _ => some n
  | _, _ => none
theorem slice_bounds {rows : List (Option Row)} (lo hi : Option Value) (alo ahi : Option A) {isS : Bool} {len cap : Nat} {l h : Nat}
    (hlo : bnd alo 0 = some (l : Int)) (hhi : bnd ahi len = some (h : Int)) (rlo : ∀ x, alo = some x → ∃ v, lo = some v ∧ TRel w G rows gs x v []) (rlo' : alo = none → lo = none)
    (rhi : ∀ x, ahi = some x → ∃ v, hi = some v ∧ TRel w G rows gs x v []) (rhi' : ahi = none → hi = none) (hlh : l ≤ h) (hhl : h ≤ len) (hcap : len ≤ cap) :
    ∀ w' : World, (Instr.sliceBounds isS len cap lo hi none).run P w' = .ok (l, h, cap) w' := by
  intro w'
  have sb : ∀ (k : IntKind) (n : Nat) (y : Nat) (code : BoundsCode), n ≤ y → (Instr.sliceBound (.int k (n : Int)) y code).run P w' = .ok n w' := by
    intro k n y code hy
    have : ((n : Int) ≤ (y : Int)) := by omega
    simp [Instr.sliceBound, asIntOf, this]
  have hH : (match hi with
      | some v => Instr.sliceBound v cap (if isS then .sliceAcap else .sliceAlen)
      | none => (pure len : Sem Nat)).run P w' = .ok h w' := by
    cases ahi with
    | none =>
      rw [rhi' rfl]
      simp only [bnd, Option.some.injEq] at hhi
      have : len = h := by omega
      simp [this]
    | some x =>
      obtain ⟨v, rfl, hx⟩ := rhi x rfl
      cases x <;> simp [bnd] at hhi
      rename_i u
      cases u <;> simp [bnd] at hhi
      subst hhi
      obtain ⟨rfl, _⟩ := sc_inv hx
      exact sb _ _ _ _ (by omega)
  have hL : (match lo with
      | some v => Instr.sliceBound v h (if (none : Option Value).isSome then .slice3C else .sliceB)
      | none => (pure 0 : Sem Nat)).run P w' = .ok l w' := by
    cases alo with
    | none =>
      rw [rlo' rfl]
      simp only [bnd, Option.some.injEq] at hlo
      have : l = 0 := by omega
      simp [this]
    | some x =>
      obtain ⟨v, rfl, hx⟩ := rlo x rfl
      cases x <;> simp [bnd] at hlo
      rename_i u
      cases u <;> simp [bnd] at hlo
      subst hlo
      obtain ⟨rfl, _⟩ := sc_inv hx
      exact sb _ _ _ _ (by omega)
  unfold Instr.sliceBounds
  cases hi <;> cases lo <;> simp_all
end
end Go.Fw

/- The reckoning is sound. Plain theorems, no condition. -/
import Derived.Test.YtdngjnjapihbkaaFw17
set_option linter.unusedVariables false
set_option linter.unusedSimpArgs false
namespace Go.Fw

structure TIok (P : Program) (t : TypeId) (i : TI) : Prop where
  sz : szT P t = some i.sz
  bytes : bytesT P t = i.bytes
  el : elemT P t = i.el
  ag : aggT P t = some i.ag
  str : isStrT P t = i.str
  bool : isBoolT P t = i.bool
  fs : ∀ k f, i.fs[k]? = some f → fieldT P t k = some f
  z : ∀ v, i.z = some v → zeroT P t = some v ∧ okV v = true
  pl : i.fs.isEmpty = false → placesT P t = true
  kind : kindT P t = i.kind
theorem fsT_at {P : Program} {t : TypeId} (h : (List.range (fsT P t).length).all (fun i => (fieldT P t i).isSome) = true) {k : Nat} {f : Nat × Nat × Bool} (hf : (fsT P t)[k]? = some f) : fieldT P t k = some f := by
  have hk : k < (fsT P t).length := (List.getElem?_eq_some_iff.1 hf).1
  have h1 := List.all_eq_true.1 h k (List.mem_range.2 hk)
  unfold fsT at hf
  split at hf
  · rename_i fs hu
    rw [List.getElem?_map, Option.map_eq_some_iff] at hf
    obtain ⟨j, hj, hf⟩ := hf
    obtain ⟨hj1, hj2⟩ := List.getElem?_eq_some_iff.1 hj
    rw [List.getElem_range] at hj2
    subst hj2
    rw [Option.isSome_iff_exists] at h1
    obtain ⟨g, hg⟩ := h1
    rw [hg] at hf ⊢
    simpa using hf
  · simp at hf
theorem tiOf_ok {P : Program} {t : TypeId} {i : TI} (h : tiOf P t = some i) : TIok P t i := by
  unfold tiOf at h
  split at h
  · rename_i s g hs hg
    split at h
    · rename_i hc
      simp only [Bool.and_eq_true, Bool.or_eq_true] at hc
      cases h
      refine ⟨hs, rfl, rfl, hg, rfl, rfl, fun k f hf => fsT_at hc.1 hf, fun v hv => ?_, fun he => ?_, rfl⟩
      · dsimp only at hv
        split at hv
        · rename_i v' hz
          split at hv
          · rename_i ho
            cases hv; exact ⟨hz, ho⟩
          · simp at hv
        · simp at hv
      · rcases hc.2 with h | h
        · dsimp only at he; rw [h] at he; simp at he
        · exact h
    · simp at h
  · simp at h
def TabOK (P : Program) (T : Nat → Option TI) : Prop := ∀ t i, T t = some i → tiOf P t = some i

section
variable {P : Program} {T : Nat → Option TI} {S : State} {o : Oper} {K : State → Prop}
theorem szEl_ok (hT : TabOK P T) {t e : Nat} {ti : TI} (h : szEl T t = some (e, ti)) : elemT P t = some e ∧ TIok P e ti := by
  unfold szEl at h
  split at h <;> try simp at h
  rename_i i hi
  split at h <;> try simp at h
  rename_i e' he
  split at h <;> try simp at h
  rename_i j hj
  obtain ⟨rfl, rfl⟩ := h
  exact ⟨(tiOf_ok (hT _ _ hi)).el.trans he, tiOf_ok (hT _ _ hj)⟩
theorem vPick_ok {k : A → Prop} {c x y : Operand} (ho : o.op = .pick c x y) (h : vPick std (ev S c) (ev S x) (ev S y) k) : ∃ z, VOK P o S z ∧ k z := by
  unfold vPick at h
  split at h <;> try exact h.elim
  rename_i b hb
  refine ⟨_, VOK_pick (b := b) ho rfl rfl hb rfl, ?_⟩
  split at h
  · rename_i p q hp hq
    rw [hp, hq]; exact h
  · rename_i hn
    have : pickA b (ev S x) (ev S y) = if b then ev S x else ev S y := by
      unfold pickA
      split
      · rename_i p q hp hq
        exact (hn p q hp hq).elim
      · rfl
    rw [this]
    cases b with
    | true => exact h
    | false => exact h
theorem vUn_ok {k : A → Prop} {op : UnOp} {t : TypeId} {x : Operand} (ho : o.op = .unOp op t x) (h : vUn std op (ev S x) k) : ∃ z, VOK P o S z ∧ k z := by
  unfold vUn at h
  split at h <;> try exact h.elim
  · rename_i b hb
    exact ⟨_, VOK_unOp ho rfl hb rfl, h⟩
  · rename_i k n hn
    exact ⟨_, VOK_unOp ho rfl hn rfl, h⟩
theorem vBin_ok {k : A → Prop} (hT : TabOK P T) {op : BinOp} {t t' : TypeId} {x y : Operand} (ho : o.op = .binOp op t x y t') (h : vBin std T op t (ev S x) (ev S y) k) : ∃ z, VOK P o S z ∧ k z := by
  unfold vBin at h
  split at h <;> try exact h.elim
  · rename_i ka a kb b h1 h2
    have go : (binS P op t (.int ka a) (.int kb b)).1 → k (.sc (binS P op t (.int ka a) (.int kb b)).2) → ∃ z, VOK P o S z ∧ k z := fun hc hk => ⟨_, VOK_binOp ho rfl rfl h1 h2 hc, hk⟩
    unfold vBinI at h
    split at h
    · exact go h.1.h h.2
    · exact go h.1.h h.2
    · split at h <;> try exact h.elim
      rename_i hk
      subst hk
      split at h
      · exact go rfl h
      · exact go rfl h
      · exact go rfl h
      · exact go rfl h
      · exact go rfl h
      · exact go rfl h
      · exact go rfl h
      · exact go ⟨rfl, h.1.h⟩ h.2
      · exact go ⟨rfl, h.1.h⟩ h.2
      · cases op <;> first | exact go rfl h | simp_all
  · rename_i a b h1 h2
    have go : (binS P op t (.string a) (.string b)).1 → k (.sc (binS P op t (.string a) (.string b)).2) → ∃ z, VOK P o S z ∧ k z := fun hc hk => ⟨_, VOK_binOp ho rfl rfl h1 h2 hc, hk⟩
    unfold vBinS at h
    split at h <;> try exact h.elim
    · exact go h.1.h h.2
    all_goals exact go trivial h
  · rename_i a b h1 h2
    split at h <;> try exact h.elim
    · rename_i i hi
      split at h <;> try exact h.elim
      rename_i hb
      exact ⟨_, VOK_binOp ho rfl rfl h1 h2 (by rw [← (tiOf_ok (hT _ _ hi)).bool] at hb; exact hb), h⟩
    · rename_i i hi
      split at h <;> try exact h.elim
      rename_i hb
      exact ⟨_, VOK_binOp ho rfl rfl h1 h2 (by rw [← (tiOf_ok (hT _ _ hi)).bool] at hb; exact hb), h⟩
theorem sc_vals {G : Nat → Prop} {gs : Gh} {w : World} {rows : List (Option Row)} : ∀ {us : List Value} {vs : List Value}, TRelL w G rows gs (us.map A.sc) vs [] → vs = us
  | [], vs, h => by
    generalize hF : ([] : List Nat) = F at h
    cases h
    rfl
  | u :: us, vs, h => by
    generalize hF : ([] : List Nat) = F at h
    cases h with
    | cons h hl =>
      rename_i v F1 vs Fs
      have hF' : F1 = [] ∧ Fs = [] := by simpa using hF.symm
      obtain ⟨rfl, rfl⟩ := hF'
      rw [(sc_inv h).1, sc_vals hl]
theorem vBinA_ok {k : A → Prop} (hT : TabOK P T) {op : BinOp} {t t' : TypeId} {x y : Operand} (ho : o.op = .binOp op t x y t') (h : vBinA std P T op t (ev S x) (ev S y) k) : ∃ z, VOK P o S z ∧ k z := by
  unfold vBinA at h
  split at h
  · rename_i xs ys h1 h2
    obtain ⟨us, vs, b, rfl, rfl, hr, hk⟩ := h.h
    refine ⟨_, fun E G gs a w hi => ⟨.bool b, fun w' hw' => ?_, .of (.sc rfl)⟩, hk⟩
    have e1 := ev_rel hi x rfl
    have e2 := ev_rel hi y rfl
    rw [h1] at e1
    rw [h2] at e2
    obtain ⟨cs, v1, l1⟩ := agg_inv e1
    obtain ⟨ds, v2, l2⟩ := agg_inv e2
    have d1 := sc_vals l1
    have d2 := sc_vals l2
    have hr := hr x y w'
    rw [← d1, ← d2, Array.toArray_toList, Array.toArray_toList] at hr
    simp only [execOp, ho, v1, v2, Sem.run_bind] at hr ⊢
    rw [hr]
    rfl
  · exact vBin_ok hT ho h
theorem vBinN_ok (hT : TabOK P T) {op : BinOp} {t t' : TypeId} {x y : Operand} (ho : o.op = .binOp op t x y t') (h : vBinN std P T op t (ev S x) (ev S y) fun z => K (S.put o.dst z)) : opOK P o S K := by
  unfold vBinN at h
  split at h
  · rename_i n xs h1 h2
    intro E a w next Q hs hn
    obtain ⟨hd, G, gs, hi⟩ := hs
    have e1 := ev_rel hi x rfl
    have e2 := ev_rel hi y rfl
    rw [h1] at e1
    rw [h2] at e2
    have v2 : a.eval y = .slice none 0 0 := by
      generalize a.eval y = u at e2
      cases e2 with | of h => cases h; rfl
    obtain ⟨oa, len, cap, v1, hnil⟩ : ∃ oa len cap, a.eval x = .slice oa len cap ∧ (oa = none → xs = []) := by
      rcases slf_inv e1 with ⟨⟨oa, hv⟩, rfl⟩ | ⟨b, k, cap, cur, et, fr, hv, _⟩
      · exact ⟨_, _, _, hv, fun _ => rfl⟩
      · exact ⟨_, _, _, hv, fun h => by simp at h⟩
    split at h <;> try exact h.elim
    · rename_i i hi'
      split at h <;> try exact h.elim
      rename_i hel
      have hti := tiOf_ok (hT _ _ hi')
      obtain ⟨e, he⟩ := Option.isSome_iff_exists.1 hel
      have hu := elemT_inv (hti.el.trans he)
      have hrun : (execOp a.eval o).run P w = .ok (.value (.bool oa.isNone)) w := by
        have key : ∀ d, (Op.equalIn (d + 1) t (.slice oa len cap) (.slice none 0 0)).run P w = .ok oa.isNone w := fun d => by
          simp only [Op.equalIn, Sem.run_bind, run_underlying hu, Result.andThen_ok]
          cases oa <;> simp
        have key := key 9999
        have key : (Op.equal t (.slice oa len cap) (.slice none 0 0)).run P w = .ok oa.isNone w := key
        simp [execOp, ho, v1, v2, eqGuard, binOp, key]
      unfold Oper.wp
      rw [hrun]
      exact hn _ _ _ (h oa.isNone (fun hb => hnil (by simpa using hb))) ⟨by rw [put_defers]; exact hd, G, gs, hi.put (.of (.sc rfl)) o.dst⟩
    · rename_i i hi'
      split at h <;> try exact h.elim
      rename_i hel
      have hti := tiOf_ok (hT _ _ hi')
      obtain ⟨e, he⟩ := Option.isSome_iff_exists.1 hel
      have hu := elemT_inv (hti.el.trans he)
      have hrun : (execOp a.eval o).run P w = .ok (.value (.bool (!oa.isNone))) w := by
        have key : ∀ d, (Op.equalIn (d + 1) t (.slice oa len cap) (.slice none 0 0)).run P w = .ok oa.isNone w := fun d => by
          simp only [Op.equalIn, Sem.run_bind, run_underlying hu, Result.andThen_ok]
          cases oa <;> simp
        have key := key 9999
        have key : (Op.equal t (.slice oa len cap) (.slice none 0 0)).run P w = .ok oa.isNone w := key
        simp [execOp, ho, v1, v2, eqGuard, binOp, key]
      unfold Oper.wp
      rw [hrun]
      exact hn _ _ _ (h (!oa.isNone) (fun hb => hnil (by simpa using hb))) ⟨by rw [put_defers]; exact hd, G, gs, hi.put (.of (.sc rfl)) o.dst⟩
  · obtain ⟨z, h1, h2⟩ := vBinA_ok hT ho h
    exact opOK_of h1 h2
theorem vLen_ok {k : A → Prop} (hT : TabOK P T) {t : TypeId} {x : Operand} {ci : Call} (ho : o.op = .call ci) (h1 : ci.callee = .builtin .len) (h2 : ci.args.toList = [x]) (h3 : ci.argTypes.toList = [t]) (h : vLen std T t (ev S x) k) : ∃ z, VOK P o S z ∧ k z := by
  have ho' : o.op = .call { callee := .builtin .len, args := #[x], argTypes := #[t] } := by
    rw [ho]; congr; cases ci with | mk a b c => simp only at h1 h2 h3; congr <;> (apply Array.toList_inj.1; simpa using by assumption)
  unfold vLen at h
  split at h <;> try exact h.elim
  rename_i i hi
  have hti := tiOf_ok (hT _ _ hi)
  have ns : ∀ {z : A}, ev S x = z → (∀ s, z ≠ .sc (.string s)) → i.str = false → (isStrT P t = true ↔ ∃ s, ev S x = .sc (.string s)) := fun h1 h2 h3 => by
    rw [hti.str, h3, h1]; simp [h2]
  split at h <;> try exact h.elim
  · rename_i hx
    split at h <;> try exact h.elim
    rename_i hc
    simp only [Bool.and_eq_true, Bool.not_eq_true'] at hc
    exact ⟨_, VOK_len (n := 0) ho' rfl (.inl (by rw [hti.el]; exact hc.1)) (by rw [hx]; rfl) (ns hx (by simp) hc.2), h⟩
  · rename_i n xs hx
    split at h <;> try exact h.elim
    rename_i hc
    simp only [Bool.and_eq_true, Bool.not_eq_true'] at hc
    exact ⟨_, VOK_len (n := xs.length) ho' rfl (.inl (by rw [hti.el]; exact hc.1)) (by rw [hx]; rfl) (ns hx (by simp) hc.2), h⟩
  · rename_i r off len hx
    split at h <;> try exact h.elim
    rename_i hc
    simp only [Bool.and_eq_true, Bool.not_eq_true'] at hc
    exact ⟨_, VOK_len (n := len) ho' rfl (.inl (by rw [hti.el]; exact hc.1)) (by rw [hx]; rfl) (ns hx (by simp) hc.2), h⟩
  · rename_i s hx
    split at h <;> try exact h.elim
    rename_i hc
    exact ⟨_, VOK_len (n := (bs s).length) ho' rfl (.inr (by rw [hti.str]; exact hc)) (by rw [hx]; rfl) (by rw [hti.str]; simp [hc, hx]), h⟩
theorem vLoad_ok {k : A → Prop} (hT : TabOK P T) {t : TypeId} {x : Operand} (ho : o.op = .load t x) (h : vLoad T t S (ev S x) k) : ∃ z, VOK P o S z ∧ k z := by
  unfold vLoad at h
  split at h <;> try exact h.elim
  rename_i i hi
  have hti := tiOf_ok (hT _ _ hi)
  split at h <;> try exact h.elim
  · rename_i xs hx
    split at h
    · rename_i hag
      split at h <;> try exact h.elim
      rename_i hle
      exact ⟨_, VOK_load_rpAgg ho rfl hx (by rw [hti.ag, hag]) hti.sz hle, h⟩
    · rename_i hag
      split at h <;> try exact h.elim
      rename_i z hz
      exact ⟨_, VOK_load_rp ho rfl hx (by rw [hti.ag]; simpa using hag) hz, h⟩
  · rename_i r j q hx
    split at h <;> try exact h.elim
    rename_i row hr
    have cell : ∀ y, row.xs[j]? = some y → vCell i row.n y q k → ∃ z, VOK P o S z ∧ k z := fun y hy h => by
      unfold vCell at h
      split at h
      · rename_i hag
        split at h <;> try exact h.elim
        rename_i hq
        split at h <;> try exact h.elim
        rename_i hno
        exact ⟨_, VOK_load_ptAgg ho rfl hx hr hy (by rw [hti.ag, hag]) hti.sz hq hno, h⟩
      · rename_i hag
        split at h <;> try exact h.elim
        rename_i z hz
        split at h <;> try exact h.elim
        rename_i hno
        exact ⟨_, VOK_load_pt ho rfl hx hr hy (by rw [hti.ag]; simpa using hag) hz hno, h⟩
    split at h
    · split at h <;> try exact h.elim
      rename_i y hy
      exact cell y hy h
    · obtain ⟨y, hy, h⟩ := h
      exact cell y hy h
theorem vFieldAddr_ok {k : A → Prop} (hT : TabOK P T) {t : TypeId} {x : Operand} {i : Nat} (ho : o.op = .fieldAddr t x i) (h : vFieldAddr T t i (ev S x) k) : ∃ z, VOK P o S z ∧ k z := by
  unfold vFieldAddr at h
  split at h <;> try exact h.elim
  rename_i ti hi
  have hti := tiOf_ok (hT _ _ hi)
  split at h <;> try exact h.elim
  rename_i off s g hf
  split at h <;> try exact h.elim
  rename_i hs
  split at h <;> try exact h.elim
  · rename_i r j q hx
    exact ⟨_, VOK_fieldAddr_pt ho rfl hx (hti.fs _ _ hf) hs, h⟩
  · rename_i xs hx
    exact ⟨_, VOK_fieldAddr_rp ho rfl hx (hti.fs _ _ hf) hs, h⟩
theorem vField_ok {k : A → Prop} (hT : TabOK P T) {t : TypeId} {x : Operand} {i : Nat} (ho : o.op = .field t x i) (h : vField T t i (ev S x) k) : ∃ z, VOK P o S z ∧ k z := by
  unfold vField at h
  split at h <;> try exact h.elim
  rename_i ti xs hi hx
  have hti := tiOf_ok (hT _ _ hi)
  split at h <;> try exact h.elim
  rename_i off s g hf
  split at h <;> try exact h.elim
  rename_i hl
  split at h
  · rename_i hg
    exact ⟨_, VOK_field ho rfl hx (hti.fs _ _ hf) hl (by simp [hg]), by rw [if_pos hg]; exact h⟩
  · rename_i hg
    split at h <;> try exact h.elim
    rename_i hs
    exact ⟨_, VOK_field ho rfl hx (hti.fs _ _ hf) hl (fun _ => hs), by rw [if_neg hg]; exact h⟩
theorem vIndexAddr_ok {k : A → Prop} (hT : TabOK P T) {t : TypeId} {x y : Operand} (ho : o.op = .indexAddr t x y) (h : vIndexAddr std T t S (ev S x) (ev S y) k) : ∃ z, VOK P o S z ∧ k z := by
  unfold vIndexAddr at h
  split at h <;> try exact h.elim
  rename_i e ti k i hs hy
  obtain ⟨he, hti⟩ := szEl_ok hT hs
  split at h <;> try exact h.elim
  · rename_i r off len hx
    split at h <;> try exact h.elim
    rename_i row hr
    split at h <;> try exact h.elim
    rename_i hn
    exact ⟨_, VOK_indexAddr_vw ho rfl rfl hx hy hr he (by rw [hti.sz, hn]) h.1.h.1 h.1.h.2, h.2⟩
  · rename_i n xs hx
    split at h <;> try exact h.elim
    rename_i hn
    obtain ⟨h1, z, hz, h⟩ := h
    exact ⟨_, VOK_indexAddr_sl ho rfl rfl hx hy he (by rw [hti.sz, hn]) h1.h hz, h⟩
theorem vIndex_ok {k : A → Prop} (hT : TabOK P T) {t : TypeId} {x y : Operand} (ho : o.op = .index t x y) (h : vIndex std T t (ev S x) (ev S y) k) : ∃ z, VOK P o S z ∧ k z := by
  unfold vIndex at h
  split at h <;> try exact h.elim
  rename_i ti s k i hi hx hy
  split at h <;> try exact h.elim
  rename_i hs
  obtain ⟨h1, c, hc, h⟩ := h
  exact ⟨_, VOK_index ho rfl rfl hx hy (by rw [(tiOf_ok (hT _ _ hi)).str]; exact hs) h1.h hc, h⟩
theorem vExtract_ok {k : A → Prop} {x : Operand} {i : Nat} (ho : o.op = .extract x i) (h : vExtract (ev S x) i k) : ∃ z, VOK P o S z ∧ k z := by
  unfold vExtract at h
  split at h <;> try exact h.elim
  rename_i xs hx
  split at h <;> try exact h.elim
  rename_i z hz
  exact ⟨_, VOK_extract ho rfl hx hz, h⟩
theorem vNilCheck_ok {k : A → Prop} {x : Operand} (ho : o.op = .nilCheck x) (h : vNilCheck (ev S x) k) : ∃ z, VOK P o S z ∧ k z := by
  unfold vNilCheck at h
  split at h <;> try exact h.elim
  · rename_i hx; exact ⟨_, VOK_nilCheck_pt ho rfl hx, h⟩
  · rename_i hx; exact ⟨_, VOK_nilCheck_rp ho rfl hx, h⟩
theorem vBox_ok {t : TypeId} {x : Operand} (ho : o.op = .box t x) (h : vBox S (ev S x) fun z S' => K (S'.put o.dst z)) : opOK P o S K := by
  unfold vBox at h
  split at h <;> try exact h.elim
  rename_i hc
  exact opOK_box ho rfl hc h
theorem vAlloc_ok (hT : TabOK P T) {t : TypeId} (ho : o.op = .alloc t) (h : vAlloc T t S fun z S' => K (S'.put o.dst z)) : opOK P o S K := by
  unfold vAlloc at h
  split at h <;> try exact h.elim
  rename_i i hi
  split at h <;> try exact h.elim
  rename_i z hz
  obtain ⟨h1, h2⟩ := (tiOf_ok (hT _ _ hi)).z _ hz
  exact opOK_alloc ho h1 h2 h
theorem fillF_ok {t : TypeId} {ti : TI} (hti : TIok P t ti) : ∀ (parts : List (Nat × A)) (cells res : List A), fillF ti.fs cells parts = some res → fillA P t cells parts = some res
  | [], cells, res, h => h
  | (i, x) :: rest, cells, res, h => by
    unfold fillF at h
    split at h <;> try simp at h
    rename_i off s g hf
    obtain ⟨h1, h2, h⟩ := h
    unfold fillA
    rw [hti.fs _ _ hf]
    dsimp only
    rw [if_neg (by omega)]
    exact fillF_ok hti rest _ _ (by rw [List.append_assoc]; exact h)
theorem vBuild_ok {k : A → Prop} (hT : TabOK P T) {t : TypeId} {parts : Array (Nat × Operand)} (ho : o.op = .build t parts) (h : vBuild T t (parts.toList.map fun p => (p.1, ev S p.2)) k) : ∃ z, VOK P o S z ∧ k z := by
  unfold vBuild at h
  split at h <;> try exact h.elim
  rename_i i hi
  have hti := tiOf_ok (hT _ _ hi)
  split at h <;> try exact h.elim
  rename_i z hz
  split at h <;> try exact h.elim
  rename_i hne
  split at h <;> try exact h.elim
  rename_i hok
  split at h <;> try exact h.elim
  rename_i res hres
  refine ⟨_, VOK_build ho (fun _ _ => rfl) (hti.z _ hz).1 (hti.z _ hz).2 (hti.pl (by simpa using hne)) (fun p hp => ?_) (fillF_ok hti _ _ _ hres), h⟩
  have := List.all_eq_true.1 hok (p.1, ev S p.2) (List.mem_map.2 ⟨p, hp, rfl⟩)
  exact this
theorem vConv_ok {k : A → Prop} (hT : TabOK P T) {src dst : TypeId} {x : Operand} (ho : o.op = .convert src dst x) (h : vConv std T src dst S (ev S x) k) : ∃ z, VOK P o S z ∧ k z := by
  unfold vConv at h
  split at h <;> try exact h.elim
  rename_i i j hi hj
  have hti := tiOf_ok (hT _ _ hi)
  have htj := tiOf_ok (hT _ _ hj)
  split at h <;> try exact h.elim
  · rename_i kk n hx
    split at h <;> try exact h.elim
    rename_i k2 hk
    exact ⟨_, VOK_convI ho hti.ag (htj.kind.trans hk) hx, h⟩
  · rename_i s hx
    split at h <;> try exact h.elim
    rename_i hc
    simp only [Bool.and_eq_true] at hc
    exact ⟨_, VOK_convS ho (hti.str.trans hc.1) (htj.str.trans hc.2) hx, h⟩
  · rename_i r off len hx
    split at h <;> try exact h.elim
    rename_i row e0 e hr hs
    obtain ⟨he, hte⟩ := szEl_ok hT hs
    split at h <;> try exact h.elim
    rename_i hk
    split at h <;> try exact h.elim
    rename_i hc
    obtain ⟨ns, ⟨h1, h2⟩, h⟩ := h
    exact ⟨_, VOK_bytesStr_vw ho he (hte.kind.trans hk) (htj.str.trans hc.2) hx hr hc.1 h1 h2, h⟩
  · rename_i n xs hx
    split at h <;> try exact h.elim
    rename_i e0 e hs
    obtain ⟨he, hte⟩ := szEl_ok hT hs
    split at h <;> try exact h.elim
    rename_i hk
    split at h <;> try exact h.elim
    rename_i hc
    obtain ⟨ns, h2, h⟩ := h
    exact ⟨_, VOK_bytesStr_sl ho he (hte.kind.trans hk) (htj.str.trans hc.2) hx hc.1 h2, h⟩
end
end Go.Fw

/- The reckoning is sound: memory, calls, codes. Plain theorems, no condition. -/
import Derived.Test.YtdngjnjapihbkaaFw18
set_option linter.unusedVariables false
set_option linter.unusedSimpArgs false
namespace Go.Fw
section
variable {P : Program} {T : Nat → Option TI} {S : State} {o : Oper} {K : State → Prop}
theorem stashL_nil (S : State) : stashL S [] = (True, [], S, []) := by rw [stashL]
theorem stashL_cons (S : State) (x : A) (xs : List A) : stashL S (x :: xs) = ((stash1 S x).1 ∧ (stashL (stash1 S x).2.2.1 (xs.map (kills (stash1 S x).2.2.2))).1, (stash1 S x).2.1 :: (stashL (stash1 S x).2.2.1 (xs.map (kills (stash1 S x).2.2.2))).2.1,
    (stashL (stash1 S x).2.2.1 (xs.map (kills (stash1 S x).2.2.2))).2.2.1, (stash1 S x).2.2.2 ++ (stashL (stash1 S x).2.2.1 (xs.map (kills (stash1 S x).2.2.2))).2.2.2) := by rw [stashL]
theorem vStash_ok : ∀ (n : Nat) (xs : List A) (S : State) (k : List A → State → List Nat → Prop), vStash std n S xs k → (stashL S xs).1 ∧ k (stashL S xs).2.1 (stashL S xs).2.2.1 (stashL S xs).2.2.2
  | _, [], S, k, h => by rw [stashL_nil]; exact ⟨trivial, by simpa [vStash] using h⟩
  | 0, _ :: _, S, k, h => by simp [vStash] at h
  | n + 1, x :: xs, S, k, h => by
    rw [stashL_cons]
    unfold vStash at h
    split at h
    · rename_i r off len
      split at h <;> try exact h.elim
      rename_i row hr
      split at h <;> try exact h.elim
      rename_i hlk
      obtain ⟨h1, h2⟩ := h
      have e : stash1 S (.vw r off len) = (off = 0 ∧ len ≤ row.xs.length ∧ row.lk = false, .sl true row.n (row.xs.take len), S.turn r none, [r]) := by simp [stash1, hr]
      rw [e]
      have := vStash_ok n _ _ _ h2
      exact ⟨⟨⟨h1.h.1, h1.h.2, by simpa using hlk⟩, this.1⟩, this.2⟩
    · rename_i hnv
      split at h <;> try exact h.elim
      rename_i hd
      have e : stash1 S x = (isData x = true, x, S, []) := by
        cases x <;> first | rfl | (rename_i r off len; exact (hnv r off len rfl).elim)
      rw [e]
      have hk : kills [] = id := by funext y; rfl
      simp only [hk, List.map_id]
      have := vStash_ok n _ _ _ h
      exact ⟨⟨hd, this.1⟩, this.2⟩
theorem vStore_ok (hT : TabOK P T) {t : TypeId} {x y : Operand} (ho : o.op = .store t x y) (h : vStore std T t S (ev S x) (ev S y) fun S' => K (S'.put o.dst .un)) : opOK P o S K := by
  unfold vStore at h
  split at h <;> try exact h.elim
  rename_i i r j q hi hx
  have hti := tiOf_ok (hT _ _ hi)
  split at h <;> try exact h.elim
  rename_i row hr
  split at h <;> try exact h.elim
  rename_i hlen
  split at h <;> try exact h.elim
  rename_i hpos
  split at h <;> try exact h.elim
  rename_i hq
  split at h <;> try exact h.elim
  rename_i hok
  split at h
  · rename_i hlk
    split at h <;> try exact h.elim
    rename_i z hz
    exact opOK_store ho rfl rfl hx hr hlk hz hti.sz hlen hpos hq hok h
  · rename_i hlk
    obtain ⟨hc, h⟩ := vStash_ok _ _ _ _ h
    have hys : ∀ z, row.xs[j]? = some z → r ∉ (stashL S (ev S y).cells).2.2.2 → K (((stashL S (ev S y).cells).2.2.1.setRow r { row with xs := row.xs.set j (newElem z q (stashL S (ev S y).cells).2.1) }).put o.dst .un) → opOK P o S K := fun z hz hne h =>
      opOK_storeD ho rfl rfl hx hr hlk hz hti.sz hlen hpos hq hok hc hne h
    split at h <;> try exact h.elim
    rename_i hne
    have hne' : r ∉ (stashL S (ev S y).cells).2.2.2 := fun hm => hne (List.contains_iff_mem.2 hm)
    have hall : ∀ c ∈ (ev S y).cells, okCell c = true := List.all_eq_true.1 hok
    have hcl := stashL_cells _ (ev S y).cells S rfl hc (fun c hc => okCell_not (hall c hc))
    split at h
    · rename_i hfull
      obtain ⟨h1, h2⟩ := h
      obtain ⟨hj, hag⟩ := h1.h
      have hz : row.xs[j]? = some (row.xs[j]) := List.getElem?_eq_getElem hj
      refine hys _ hz hne' ?_
      have ha := hag _ (List.getElem_mem hj)
      have : newElem row.xs[j] q (stashL S (ev S y).cells).2.1 = .agg (stashL S (ev S y).cells).2.1 := by
        generalize row.xs[j] = z at ha
        cases z <;> try (simp [isAggN] at ha; done)
        rename_i xs
        simp only [isAggN, beq_iff_eq] at ha
        have hl : (stashL S (ev S y).cells).2.1.length = xs.length := by rw [hcl.1, hlen, hfull.2.1, ha]
        simp [newElem, hfull.1, hl]
      rw [this]; exact h2
    · split at h
      · rename_i hn1
        obtain ⟨h1, h2⟩ := h
        obtain ⟨hj, hag⟩ := h1.h
        have hz : row.xs[j]? = some (row.xs[j]) := List.getElem?_eq_getElem hj
        refine hys _ hz hne' ?_
        have ha := hag _ (List.getElem_mem hj)
        have : newElem row.xs[j] q (stashL S (ev S y).cells).2.1 = (stashL S (ev S y).cells).2.1.headD .un := by
          generalize row.xs[j] = z at ha
          cases z <;> first | rfl | (simp [vStore.isAggA] at ha)
        rw [this]; exact h2
      · obtain ⟨z, hz, h⟩ := h
        exact hys z hz hne' h
theorem vBuildSlice_ok (hT : TabOK P T) {t : TypeId} {len : Nat} {parts : Array (Nat × Operand)} (ho : o.op = .buildSlice t len parts)
    (h : vBuildSlice std T t len (parts.toList.map fun p => (p.1, ev S p.2)) S fun z S' => K (S'.put o.dst z)) : opOK P o S K := by
  unfold vBuildSlice at h
  split at h <;> try exact h.elim
  rename_i e ti hs
  obtain ⟨he, hti⟩ := szEl_ok hT hs
  split at h <;> try exact h.elim
  rename_i hc
  obtain ⟨h1, h2, h3, h4, h5, h6, h7⟩ := hc
  obtain ⟨z, hz⟩ := Option.isSome_iff_exists.1 h1
  have e1 : (parts.toList.map fun p => (p.1, ev S p.2)).map (·.2) = parts.toList.map fun p => ev S p.2 := by simp
  have e2 : (parts.toList.map fun p => (p.1, ev S p.2)).map (·.1) = parts.toList.map (·.1) := by simp
  rw [e1] at h h7
  rw [e2] at h5
  rw [List.length_map] at h4
  obtain ⟨hst, h⟩ := vStash_ok _ _ _ _ h
  refine opOK_buildSlice ho (fun _ _ => rfl) (by rw [h5, h4]) h4 he hti.sz (hti.z _ hz).1 h2 h3 (fun p hp => ?_) h7 hst h
  have := List.all_eq_true.1 h6 (p.1, ev S p.2) (List.mem_map.2 ⟨p, hp, rfl⟩)
  simpa using this
theorem vMake_ok (hT : TabOK P T) {t : TypeId} {x y : Operand} (ho : o.op = .makeSlice t x y) (h : vMake std T t (ev S x) (ev S y) S fun z S' => K (S'.put o.dst z)) : opOK P o S K := by
  unfold vMake at h
  split at h <;> try exact h.elim
  rename_i e ti k a k' b hs hx hy
  obtain ⟨he, hti⟩ := szEl_ok hT hs
  split at h <;> try exact h.elim
  rename_i z hz
  split at h <;> try exact h.elim
  rename_i hw
  obtain ⟨h0, h⟩ := h
  obtain ⟨rfl, h1, h2, h3⟩ := h0.h
  have ea : (a.toNat : Int) = a := Int.toNat_of_nonneg h1
  exact opOK_makeSlice (n := a.toNat) ho rfl rfl (by rw [hx, ea]) (by rw [hy, ea]) he hti.sz (hti.z _ hz).1 (hti.z _ hz).2 hw.1 hw.2 (by rw [hti.bytes]; exact h2) h3 h
theorem vLo_ok {x : Option A} {d : Nat} {k : (Unit → Prop) → Nat → Prop} (h : vLo std x d k) : ∃ c l, k c l ∧ (c () → bnd x d = some (l : Int)) := by
  unfold vLo at h
  split at h
  · exact ⟨_, _, h, fun _ => rfl⟩
  · rename_i kk n
    exact ⟨_, _, h, fun h0 => by show some n = _; rw [show (std.nat n : Int) = n from Int.toNat_of_nonneg h0]⟩
  · exact h.elim
theorem vSlice_ok {k : A → Prop} (hT : TabOK P T) {t : TypeId} {x : Operand} {lo hi : Option Operand} (ho : o.op = .slice t x lo hi none) (h : vSlice std T t S (ev S x) (lo.map (ev S)) (hi.map (ev S)) k) : ∃ z, VOK P o S z ∧ k z := by
  have ok : ∀ x : Option Operand, okOpt x = true := fun x => by cases x <;> rfl
  unfold vSlice at h
  split at h <;> try exact h.elim
  rename_i ti hi'
  have hti := tiOf_ok (hT _ _ hi')
  split at h <;> try exact h.elim
  · rename_i s hx
    split at h <;> try exact h.elim
    rename_i hs
    obtain ⟨c1, l, h, g1⟩ := vLo_ok h
    obtain ⟨c2, u, h, g2⟩ := vLo_ok h
    obtain ⟨h0, h⟩ := h
    obtain ⟨h1, h2, h3, h4⟩ := h0.h
    exact ⟨_, VOK_slice_str ho rfl (ok _) (ok _) (by rw [hti.str]; exact hs) hx (g1 h1) (g2 h2) h3 h4, h⟩
  · rename_i r off len hx
    split at h <;> try exact h.elim
    rename_i row e ei hr hs
    obtain ⟨he, hei⟩ := szEl_ok hT hs
    split at h <;> try exact h.elim
    rename_i hn
    obtain ⟨c1, l, h, g1⟩ := vLo_ok h
    obtain ⟨c2, u, h, g2⟩ := vLo_ok h
    obtain ⟨h0, h⟩ := h
    obtain ⟨h1, h2, h3, h4⟩ := h0.h
    exact ⟨_, VOK_slice_vw ho rfl (ok _) (ok _) hx hr he (by rw [hei.sz, hn]) (g1 h1) (g2 h2) h3 h4, h⟩
  · rename_i n xs hx
    split at h <;> try exact h.elim
    rename_i e ei hs
    obtain ⟨he, hei⟩ := szEl_ok hT hs
    split at h <;> try exact h.elim
    rename_i hn
    obtain ⟨c1, l, h, g1⟩ := vLo_ok h
    obtain ⟨c2, u, h, g2⟩ := vLo_ok h
    obtain ⟨h0, h⟩ := h
    obtain ⟨h1, h2, h3, h4⟩ := h0.h
    exact ⟨_, VOK_slice_sl ho rfl (ok _) (ok _) hx he (by rw [hei.sz, hn]) (g1 h1) (g2 h2) h3 h4, h⟩
theorem VOK_makeFunc {fn : FuncId} {first caps : Array Operand} (ho : o.op = .makeFunc (.func fn) first caps) (hf : first.toList = []) (hg : fn < 1000000) : VOK P o S (.clo fn (caps.toList.map (ev S))) := by
  refine fun E G gs a w hi => ⟨mkFn fn (caps.toList.map a.eval), fun w' hw' => ?_, .clo (evs_rel hi caps.toList)⟩
  have : first = #[] := by apply Array.toList_inj.1; simpa using hf
  subst this
  have e : (caps.toList.map a.eval).toArray = caps.map a.eval := by apply Array.toList_inj.1; simp
  unfold mkFn
  rw [if_pos hg, e]
  simp [execOp, ho, Instr.makeFunc]
theorem VOK_makeBound {fn : FuncId} {first caps : Array Operand} (ho : o.op = .makeFunc (.func fn) first caps) (hf : caps.toList = []) (hg : fn < 1000000) : VOK P o S (.clo (1000000 + fn) (first.toList.map (ev S))) := by
  refine fun E G gs a w hi => ⟨mkFn (1000000 + fn) (first.toList.map a.eval), fun w' hw' => ?_, .clo (evs_rel hi first.toList)⟩
  have : caps = #[] := by apply Array.toList_inj.1; simpa using hf
  subst this
  have e : (first.toList.map a.eval).toArray = first.map a.eval := by apply Array.toList_inj.1; simp
  unfold mkFn
  rw [if_neg (by omega), e, Nat.add_mod_left, Nat.mod_eq_of_lt hg]
  simp [execOp, ho, Instr.makeFunc]
theorem vMakeFn_ok {k : A → Prop} {f : Fn} {first caps : Array Operand} (ho : o.op = .makeFunc f first caps) (h : vMakeFn f (first.toList.map (ev S)) (caps.toList.map (ev S)) k) : ∃ z, VOK P o S z ∧ k z := by
  unfold vMakeFn at h
  split at h <;> try exact h.elim
  · rename_i g hf
    split at h <;> try exact h.elim
    rename_i hg
    exact ⟨_, VOK_makeFunc ho (by simpa using hf) hg, h⟩
  · split at h <;> try exact h.elim
    rename_i hc
    split at h <;> try exact h.elim
    rename_i hg
    exact ⟨_, VOK_makeBound ho (by simpa using hc) hg, h⟩
theorem vLoadS_ok (hT : TabOK P T) {t : TypeId} {x : Operand} (ho : o.op = .load t x) (h : vLoadS std T t S (ev S x) fun z S' => K (S'.put o.dst z)) : opOK P o S K := by
  unfold vLoadS at h
  split at h <;> try exact h.elim
  rename_i i hi
  have hti := tiOf_ok (hT _ _ hi)
  split at h <;> try exact h.elim
  · rename_i xs hx
    split at h
    · rename_i hag
      split at h <;> try exact h.elim
      rename_i hle
      exact opOK_of (VOK_load_rpAgg ho rfl hx (by rw [hti.ag, hag]) hti.sz hle) h
    · rename_i hag
      split at h <;> try exact h.elim
      rename_i z hz
      exact opOK_of (VOK_load_rp ho rfl hx (by rw [hti.ag]; simpa using hag) hz) h
  · rename_i r j q hx
    split at h <;> try exact h.elim
    rename_i row hr
    split at h
    · split at h <;> try exact h.elim
      rename_i y hy
      unfold vCell at h
      split at h
      · rename_i hag
        split at h <;> try exact h.elim
        rename_i hq
        split at h <;> try exact h.elim
        rename_i hno
        exact opOK_of (VOK_load_ptAgg ho rfl hx hr hy (by rw [hti.ag, hag]) hti.sz hq hno) h
      · rename_i hag
        split at h <;> try exact h.elim
        rename_i z hz
        split at h <;> try exact h.elim
        rename_i hno
        exact opOK_of (VOK_load_pt ho rfl hx hr hy (by rw [hti.ag]; simpa using hag) hz hno) h
    · rename_i hlk
      obtain ⟨y, hy, h⟩ := h
      unfold vCellS at h
      split at h
      · rename_i hag
        split at h <;> try exact h.elim
        rename_i hq
        split at h <;> try exact h.elim
        rename_i hno
        exact opOK_of (VOK_load_ptAgg ho rfl hx hr hy (by rw [hti.ag, hag]) hti.sz hq hno) h
      · rename_i hag
        split at h <;> try exact h.elim
        · rename_i n ys hz
          exact opOK_take ho hx hr hlk hy (by rw [hti.ag]; simpa using hag) hz h
        · rename_i z hnz hz
          split at h <;> try exact h.elim
          rename_i hno
          exact opOK_of (VOK_load_pt ho rfl hx hr hy (by rw [hti.ag]; simpa using hag) hz hno) h
theorem of_V (h : ∃ z, VOK P o S z ∧ K (S.put o.dst z)) : opOK P o S K := let ⟨_, h1, h2⟩ := h; opOK_of h1 h2
theorem constA_width (z : Value) : (constA z).width = z.cells.size := by
  unfold constA
  split
  · simp [A.width, A.cells, Value.cells]
  · rename_i hn
    have : z.cells.size = 1 := by cases z <;> first | rfl | (rename_i cs; exact (hn cs rfl).elim)
    rw [this]
    unfold cellA
    split <;> rfl
theorem zOK_ok {t : TypeId} {ti : TI} (hti : TIok P t ti) (h : zOK ti = true) : ∃ z, zeroT P t = some z ∧ z.cells.size = ti.sz ∧ 0 < ti.sz := by
  unfold zOK at h
  split at h <;> try simp at h
  rename_i z hz
  exact ⟨z, (hti.z _ hz).1, by rw [← constA_width]; exact h.1, h.2⟩
theorem vAppend_ok (hT : TabOK P T) {t : TypeId} {x y : Operand} {mv : Bool} (ho : o.op = .call { callee := .builtin .append, args := #[x, y], argTypes := #[t, t] })
    (h : vAppend std T t mv S (ev S x) (ev S y) fun z S' => K (S'.put o.dst z)) : opOK P o S K := by
  unfold vAppend at h
  split at h <;> try exact h.elim
  rename_i e ti hs
  obtain ⟨he, hti⟩ := szEl_ok hT hs
  split at h <;> try exact h.elim
  rename_i hzok
  obtain ⟨z, hz, hzs, hsp⟩ := zOK_ok hti hzok
  have hseg : ∀ {off len : Nat} {xs : List A}, std.seg off (std.plus off len) xs = (xs.drop off).take len := by
    intro off len xs
    show (xs.take (off + len)).drop off = _
    rw [List.drop_take, Nat.add_sub_cancel_left]
  have hlen : ∀ {off len : Nat} {xs : List A}, off + len ≤ xs.length → ((xs.drop off).take len).length = len := by
    intro off len xs h; simp; omega
  split at h <;> try exact h.elim
  · rename_i r off len hx
    split at h <;> try exact h.elim
    rename_i row hr
    split at h <;> try exact h.elim
    rename_i hc
    obtain ⟨rfl, hn, hlk⟩ := hc
    rw [hn] at hzs hsp
    have hsz : szT P e = some row.n := by rw [hti.sz, hn]
    split at h <;> try exact h.elim
    · rename_i r2 off2 len2 hy
      split at h <;> try exact h.elim
      rename_i row2 hr2
      split at h <;> try exact h.elim
      rename_i hc2
      obtain ⟨rfl, hlk2, hne, hn2⟩ := hc2
      obtain ⟨h0, h⟩ := h
      obtain ⟨h1, h2, h3, h4⟩ := h0.h
      exact opOK_append_move ho rfl rfl hx hr hlk hy hr2 h1 hlk2 hne hn2 h2 he hsz hz hzs hsp (by rw [hti.bytes]; exact h3) h4 h
    · rename_i hy
      obtain ⟨h0, h⟩ := h
      refine opOK_append (xs2 := []) ho rfl rfl hx hr hlk (by rw [hy]; rfl) (.inl hy) (by simp) (by rw [hy]; simp) (by simp [flat]) he hsz hz hzs hsp (by rw [hti.bytes]; exact h0.h.1) h0.h.2 ?_
      simp only [List.append_nil, List.length_nil, Nat.add_zero]
      exact h
    · rename_i n xs2 hy
      split at h <;> try exact h.elim
      rename_i hn2
      obtain ⟨h0, h⟩ := h
      obtain ⟨h1, h2, h3, h4⟩ := h0.h
      exact opOK_append ho rfl rfl hx hr hlk (by rw [hy]; rfl) (.inr (by rw [hy, ← hn2]; rfl)) h1 (by rw [hy]; simp) h2 he hsz hz hzs hsp (by rw [hti.bytes]; exact h3) h4 h
    · rename_i r2 off2 len2 hmv hy
      split at h <;> try exact h.elim
      rename_i row2 hr2
      split at h <;> try exact h.elim
      rename_i hc2
      obtain ⟨hlk2, hn2⟩ := hc2
      obtain ⟨h0, h⟩ := h
      obtain ⟨h1, h2, h3, h4, h5⟩ := h0.h
      refine opOK_append (xs2 := (row2.xs.drop off2).take len2) ho rfl rfl hx hr hlk (by rw [hy]; simp [elemsA, hr2]) (.inr (by rw [hy]; simp [nA, hr2, hn2])) h2
        (fun r3 o3 l3 row3 h3 h4 => by rw [hy] at h3; cases h3; rw [hr2] at h4; cases h4; exact hlk2) h3 he hsz hz hzs hsp (by rw [hti.bytes, hlen h1]; exact h4) (by rw [hlen h1]; exact h5) ?_
      rw [hseg] at h
      rw [hlen h1]; exact h
  · rename_i hx
    split at h <;> try exact h.elim
    · rename_i hy
      refine opOK_value (P := P) .nil h fun E G gs a w hi => ?_
      have e1 := ev_rel hi x rfl
      rw [hx] at e1
      have v1 : a.eval x = .slice none 0 0 := by
        generalize a.eval x = v at e1
        cases e1 with | of h => cases h; rfl
      have e2 := ev_rel hi y rfl
      rw [hy] at e2
      obtain ⟨news, hsrc, _⟩ := source_ok hi (s := ti.sz) e2 rfl (.inl rfl) (by simp) (by simp) (by simp [flat])
      refine ⟨_, exec_append ho ?_, .of .nil⟩
      rw [v1]
      exact run_append_nil0 he hti.sz hsrc
    · rename_i n xs2 hy
      split at h <;> try exact h.elim
      rename_i hn2
      obtain ⟨h0, h⟩ := h
      obtain ⟨h1, h2, h3, h4⟩ := h0.h
      exact opOK_append_nil ho rfl rfl hx (by rw [hy]; rfl) (.inr (by rw [hy, ← hn2]; rfl)) h1 (by rw [hy]; simp) h2 he hti.sz hz hzs hsp (by rw [hti.bytes]; exact h3) h4 h
    · rename_i r2 off2 len2 hy
      split at h <;> try exact h.elim
      rename_i row2 hr2
      split at h <;> try exact h.elim
      rename_i hc2
      obtain ⟨hlk2, hn2⟩ := hc2
      obtain ⟨h0, h⟩ := h
      obtain ⟨h1, h2, h3, h4, h5⟩ := h0.h
      refine opOK_append_nil (xs2 := (row2.xs.drop off2).take len2) ho rfl rfl hx (by rw [hy]; simp [elemsA, hr2]) (.inr (by rw [hy]; simp [nA, hr2, hn2])) h2
        (fun r3 o3 l3 row3 h3 h4 => by rw [hy] at h3; cases h3; rw [hr2] at h4; cases h4; exact hlk2) h3 he hti.sz hz hzs hsp (by rw [hti.bytes, hlen h1]; exact h4) (by rw [hlen h1]; exact h5) ?_
      rw [hseg] at h
      rw [hlen h1]; exact h
theorem call_eq {ci : Call} {c : Callee} {as : List Operand} {ts : List TypeId} (h1 : ci.callee = c) (h2 : ci.args.toList = as) (h3 : ci.argTypes.toList = ts) : ci = ⟨c, as.toArray, ts.toArray⟩ := by
  cases ci with | mk a b d => subst h1; subst h2; subst h3; rfl
theorem vCall_ok (hT : TabOK P T) {mv : Option Nat} {ci : Call} (ho : o.op = .call ci) (h : vCall std P T mv S ci.callee ci.args.toList ci.argTypes.toList fun z S' => K (S'.put o.dst z)) : opOK P o S K := by
  unfold vCall at h
  split at h <;> try exact h.elim
  · rename_i g hf
    split at h <;> try exact h.elim
    rename_i hg
    have he : ev S (.func g) = .clo g [] := if_pos hg
    refine opOK_call ho hf he ?_
    unfold cloN cloA
    rw [if_pos hg, if_pos hg, List.append_nil]
    exact h.h
  · rename_i f hnf hf
    split at h <;> try exact h.elim
    rename_i g caps he
    exact opOK_call ho hf he h.h
  · rename_i hf
    split at h <;> try exact h.elim
    rename_i x t h1 h2
    unfold vClear at h
    split at h <;> try exact h.elim
    rename_i e ti r off len hs hx
    obtain ⟨he, hti⟩ := szEl_ok hT hs
    split at h <;> try exact h.elim
    rename_i row z hr hz
    split at h <;> try exact h.elim
    rename_i hc
    obtain ⟨hlk, hn, hsz, hza⟩ := hc
    obtain ⟨h0, h⟩ := h
    obtain ⟨hl, hna⟩ := h0.h
    rw [call_eq hf h1 h2] at ho
    obtain ⟨hz1, hz2⟩ := hti.z _ hz
    exact opOK_clear ho hx hr hlk hn hl hna he hz1 hz2 hza h
  · rename_i hf
    split at h <;> try exact h.elim
    rename_i x t h1 h2
    exact of_V (vLen_ok hT ho hf h1 h2 h)
  · rename_i hf
    split at h <;> try exact h.elim
    rename_i x y t t' h1 h2
    split at h <;> try exact h.elim
    rename_i ht
    subst ht
    rw [call_eq hf h1 h2] at ho
    exact vAppend_ok hT ho h
theorem vOp_ok (hT : TabOK P T) {mv : Option Nat} (h : vOp std P T mv o S K) : opOK P o S K := by
  unfold vOp at h
  split at h
  · rename_i x ho; exact opOK_of (VOK_move (.inl ho) rfl) h
  · rename_i x ho; exact opOK_of (VOK_move (.inr ho) rfl) h
  · rename_i ho; exact of_V (vPick_ok ho h)
  · rename_i ho; exact of_V (vUn_ok ho h)
  · rename_i ho; exact vBinN_ok hT ho h
  · rename_i ho; exact vLoadS_ok hT ho h
  · rename_i ho; exact of_V (vFieldAddr_ok hT ho h)
  · rename_i ho; exact of_V (vField_ok hT ho h)
  · rename_i ho; exact of_V (vIndexAddr_ok hT ho h)
  · rename_i ho; exact of_V (vIndex_ok hT ho h)
  · rename_i ho; exact of_V (vExtract_ok ho h)
  · rename_i ho; exact of_V (vNilCheck_ok ho h)
  · rename_i ho; exact vBox_ok ho h
  · rename_i ho; exact vAlloc_ok hT ho h
  · rename_i ho; exact of_V (vBuild_ok hT ho h)
  · rename_i ho; exact vStore_ok hT ho h
  · rename_i ho; exact vBuildSlice_ok hT ho h
  · rename_i ho; exact vMake_ok hT ho h
  · rename_i ho; exact of_V (vSlice_ok hT ho h)
  · rename_i ho; exact of_V (vConv_ok hT ho h)
  · rename_i ho; exact of_V (vMakeFn_ok ho h)
  · rename_i ho; exact vCall_ok hT ho h
  · exact h.h
theorem brB_ok {p : Bool} {X Y : Unit → Prop} (h : brB p X Y) : (p = true → X ()) ∧ (p = false → Y ()) := by
  cases p with
  | true => exact ⟨fun _ => h, (fun h => by cases h)⟩
  | false => exact ⟨(fun h => by cases h), fun _ => h⟩
/-- At a fork: told which way. -/
theorem br {p : Bool} {X Y : Prop} (hx : p = true → X) (hy : p = false → Y) : match (generalizing := false) p with | true => X | false => Y := by
  cases p with
  | true => exact hx rfl
  | false => exact hy rfl
/-- A temporary is told anew. -/
theorem Inv.retell {E : Env} {G : Nat → Prop} {gs : Gh} {tmps : Array Value} {w : World} (hi : Inv E G gs S tmps w) {i : Nat} {x : A} (hx : TRel w G S.rows gs x (vat E tmps i) []) (hN : i < S.N) :
    Inv E G gs (S.put (some i) x) tmps w := by
  unfold State.put
  dsimp only
  rw [if_pos hN]
  refine ⟨hi.keep, hi.os, hi.tape, hi.output, hi.size, hi.sz, hi.gsub, hi.gnew, hi.glt, hi.row, hi.nod, hi.own, hi.dis, fun j => ?_⟩
  show TRel w G S.rows gs (lk ((i, x) :: S.t) j) _ []
  simp only [lk]
  split
  · rename_i h; subst h; exact hx
  · exact hi.tmp j
theorem tup_undef (w : World) (G : Nat → Prop) (rows : List (Option Row)) {gs : Gh} : TRel w G rows gs (.tup []) undef [] := TRel.tup (cs := []) .nil
theorem vOps_ok (hT : TabOK P T) (ops : List Oper) : ∀ (os : List Oper) (mv : Option Nat) (S : State) (K : Exit → State → Prop), vOps std P T ops mv os S (K .normal) →
    ∀ E a w, SInv E S a w → wpList P ops.toArray (fun e a' w' => ∃ S', SInv E S' a' w' ∧ K e S') os a w
  | [], mv, S, K, h, E, a, w, hs => ⟨S, hs, h⟩
  | o :: os, mv, S, K, h, E, a, w, hs => by
    have wanted : ∀ S', SInv E S' a w → ∀ mv, vOp std P T mv o S' (fun S'' => vOps std P T ops (madeBy o) os S'' (K .normal)) → Region.wanted o (yielded ops.toArray a.tmps) = true →
        wpList P ops.toArray (fun e a' w' => ∃ S', SInv E S' a' w' ∧ K e S') (o :: os) a w := fun S' hs mv h hw => by
      refine wpList_step fun K' hK' => ?_
      rw [if_pos hw]
      exact vOp_ok hT h E a w K' _ hs fun S' a' w' h1 h2 => hK' _ _ (vOps_ok hT ops os _ S' K h1 E a' w' h2)
    have skipped : ∀ S' mv, SInv E S' a w → vOps std P T ops mv os (S'.put o.dst (.tup [])) (K .normal) → Region.wanted o (yielded ops.toArray a.tmps) = false →
        wpList P ops.toArray (fun e a' w' => ∃ S', SInv E S' a' w' ∧ K e S') (o :: os) a w := fun S' mv hs h hw => by
      refine wpList_step fun K' hK' => ?_
      rw [hw]
      obtain ⟨hd, G, gs, hi⟩ := hs
      exact hK' _ _ (vOps_ok hT ops os mv _ K h E _ w ⟨by rw [put_defers]; exact hd, G, gs, hi.put (tup_undef _ _ _) o.dst⟩)
    unfold vOps at h
    split at h
    · rename_i hg
      exact wanted S hs _ h (by simp [Region.wanted, hg])
    · rename_i j b hg
      split at h <;> try exact h.elim
      rename_i i hat
      split at h <;> try exact h.elim
      rename_i hN
      split at h <;> try exact h.elim
      case h_2 hp =>
        obtain ⟨hd, G, gs, hi⟩ := hs
        have ht := hi.tmp i
        rw [hp, hi.vat_tmp hN] at ht
        obtain ⟨cs, hv, hcs⟩ := tup_inv ht
        have hcs0 : cs = #[] := by
          have := hcs.length
          exact Array.eq_empty_of_size_eq_zero (by simpa using this)
        subst hcs0
        have hsz : i < a.tmps.size := by rw [hi.sz]; exact hN
        have h1 : ((ops.toArray[j]?).bind (·.dst)) = some i := by simpa [guardAt] using hat
        have hy : yielded ops.toArray a.tmps j = none := by
          unfold yielded
          rw [h1]
          rw [Array.getD_eq_getD_getElem?, Array.getElem?_eq_getElem hsz] at hv
          simp only [Option.getD_some] at hv
          simp [Array.getElem?_eq_getElem hsz, hv]
        exact skipped _ _ ⟨hd, G, gs, hi⟩ h (by simp [Region.wanted, hg, hy])
      rename_i p hp
      have hy : ∀ q, p = q → yielded ops.toArray a.tmps j = some q ∧ SInv E (S.put (some i) (.sc (.bool q))) a w := fun q hq => by
        subst hq
        obtain ⟨hd, G, gs, hi⟩ := hs
        have ht := hi.tmp i
        have ht' := ht
        rw [hp, hi.vat_tmp hN] at ht
        have hv := (sc_inv ht).1
        refine ⟨?_, hd, G, gs, hi.retell (by rw [hp] at ht'; exact ht') hN⟩
        have hsz : i < a.tmps.size := by rw [hi.sz]; exact hN
        have h1 : ((ops.toArray[j]?).bind (·.dst)) = some i := by simpa [guardAt] using hat
        unfold yielded
        rw [h1]
        rw [Array.getD_eq_getD_getElem?, Array.getElem?_eq_getElem hsz] at hv
        simp only [Option.getD_some] at hv
        simp [Array.getElem?_eq_getElem hsz, hv]
      obtain ⟨ht, hf⟩ := brB_ok h
      cases p with
      | true =>
        obtain ⟨hy1, hy2⟩ := hy true rfl
        have := ht rfl
        cases b with
        | true => exact wanted _ hy2 _ this (by simp [Region.wanted, hg, hy1])
        | false => exact skipped _ _ hy2 this (by simp [Region.wanted, hg, hy1])
      | false =>
        obtain ⟨hy1, hy2⟩ := hy false rfl
        have := hf rfl
        cases b with
        | true => exact skipped _ _ hy2 this (by simp [Region.wanted, hg, hy1])
        | false => exact wanted _ hy2 _ this (by simp [Region.wanted, hg, hy1])
theorem VC_region (hT : TabOK P T) {id : Nat} {ops : Array Oper} {K : Exit → State → Prop} (h : vOps std P T ops.toList none ops.toList S (K .normal)) : VC P (.region id ops false) S K := by
  intro E a w hs
  have := vOps_ok hT ops.toList ops.toList none S K h E a w hs
  exact wp_region_list (by simpa using this)
theorem VC_condO {x : Operand} {c d : Code} {K : Exit → State → Prop} {b : Bool} (hc : ev S x = .sc (.bool b)) (ht : b = true → VC P c S K) (hf : b = false → VC P d S K) : VC P (.cond x c d) S K := by
  intro E a w hs
  obtain ⟨hd, G, gs, hi⟩ := hs
  have h := ev_rel hi x rfl
  rw [hc] at h
  have hv := (sc_inv h).1
  cases b with
  | true => exact wp_cond_true hv (ht rfl E a w ⟨hd, G, gs, hi⟩)
  | false => exact wp_cond_false hv (hf rfl E a w ⟨hd, G, gs, hi⟩)
theorem vC_ok (hT : TabOK P T) : ∀ (c : Code) (S : State) (K : Exit → State → Prop), vC std P T c S K → VC P c S K
  | .skip, S, K, h => VC_skip h
  | .exit id, S, K, h => VC_exit h
  | .ret, S, K, h => VC_ret h
  | .seq x y, S, K, h => by
    refine VC_seq (VC.mono (vC_ok hT x S _ h) fun e S' h => ?_)
    cases e <;> first | exact vC_ok hT y _ _ h | exact h
  | .block id c, S, K, h => VC_block (vC_ok hT c S _ h)
  | .cond x c d, S, K, h => by
    unfold vC at h
    split at h <;> try exact h.elim
    rename_i p hp
    obtain ⟨h1, h2⟩ := brB_ok h
    exact VC_condO hp (fun hb => vC_ok hT c S K (h1 hb)) (fun hb => vC_ok hT d S K (h2 hb))
  | .region _ ops false, S, K, h => VC_region hT h
  | .region _ ops true, S, K, h => (show VCX P _ S K from h).h
  | .loop c, S, K, h => (show VCX P _ S K from h).h
  | .rangeFunc _ _ _ _, S, K, h => (show VCX P _ S K from h).h
  | .scope _, S, K, h => (show VCX P _ S K from h).h
  | .label _, S, K, h => (show VCX P _ S K from h).h
  | .goto _, S, K, h => (show VCX P _ S K from h).h
  | .refuse _, S, K, h => (show VCX P _ S K from h).h
/-- Where a walk begins. -/
theorem vstart (hT : TabOK P T) {Ω : Opq} (hΩ : Ω = std) {c : Code} {K : Exit → State → Prop} (h : vC Ω P T c S K) : VC P c S K := by
  subst hΩ; exact vC_ok hT c S K h
end
end Go.Fw

/- Literals of slices, stores, append. Plain theorems, no condition. -/
import Derived.Test.YtdngjnjapihbkaaFw9
set_option linter.unusedVariables false
set_option linter.unusedSimpArgs false
namespace Go.Fw

/-- Elements, their cells told anew. -/
def regroup : List A → List A → List A
  | [], _ => []
  | .agg xs :: es, ys => .agg (ys.take xs.length) :: regroup es (ys.drop xs.length)
  | _ :: es, ys => ys.headD .un :: regroup es (ys.drop 1)
theorem regroup_flat : ∀ (es ys : List A), ys.length = (flat es).length → (∀ y ∈ ys, y.cells = [y]) → flat (regroup es ys) = ys
  | [], ys, h, _ => by
    have : ys = [] := List.eq_nil_of_length_eq_zero (by simpa [flat] using h)
    subst this; rfl
  | e :: es, ys, h, hc => by
    rw [flat_cons, List.length_append] at h
    cases e with
    | agg xs =>
      simp only [A.cells] at h
      rw [regroup, flat_cons, regroup_flat es _ (by simp; omega) fun y hy => hc y (List.mem_of_mem_drop hy)]
      simp [A.cells]
    | _ =>
      simp only [A.cells, List.length_singleton] at h
      cases ys with
      | nil => simp at h; omega
      | cons y ys =>
        rw [regroup]
        · rw [flat_cons, regroup_flat es _ (by simp at h ⊢; omega) fun z hz => hc z (by simp at hz; simp [hz])]
          simp [hc y (by simp)]
        all_goals simp
theorem regroup_width {n : Nat} : ∀ (es ys : List A), ys.length = (flat es).length → (∀ y ∈ ys, y.cells = [y]) → (∀ e ∈ es, e.width = n) → ∀ x ∈ regroup es ys, x.width = n
  | [], _, _, _, _, x, hx => by simp [regroup] at hx
  | e :: es, ys, h, hc, hw, x, hx => by
    rw [flat_cons, List.length_append] at h
    have he := hw e (by simp)
    cases e with
    | agg xs =>
      simp only [A.cells] at h
      simp only [A.width, A.cells] at he
      rw [regroup] at hx
      rcases List.mem_cons.1 hx with rfl | hx
      · simp [A.width, A.cells]; omega
      · exact regroup_width es _ (by simp; omega) (fun y hy => hc y (List.mem_of_mem_drop hy)) (fun e he => hw e (by simp [he])) x hx
    | _ =>
      simp only [A.cells, List.length_singleton] at h
      simp only [A.width, A.cells, List.length_singleton] at he
      cases ys with
      | nil => simp at h; omega
      | cons y ys =>
        rw [regroup] at hx
        · rcases List.mem_cons.1 hx with h1 | hx
          · rw [h1]; simp [A.width, hc y (by simp), he]
          · exact regroup_width es _ (by simp at h ⊢; omega) (fun z hz => hc z (by simp at hz; simp [hz])) (fun e he => hw e (by simp [he])) x hx
        all_goals simp
theorem regroup_length : ∀ (es ys : List A), (regroup es ys).length = es.length
  | [], _ => rfl
  | e :: es, ys => by
    cases e <;> simp [regroup, regroup_length es]
theorem okCell_cells {x : A} (h : okCell x = true) : x.cells = [x] := by cases x <;> simp [okCell] at h <;> rfl

section
variable {P : Program} {E : Env} {G : Nat → Prop} {gs : Gh} {S : State} {a : Act} {w : World} {tmps : Array Value}

theorem stash1_ok_cell {x : A} (h : okCell x = true) (hc : (stash1 S x).1) : okCell (stash1 S x).2.1 = true := by
  cases x <;> simp [okCell] at h <;> try rfl
  rename_i r off len
  simp only [stash1] at hc ⊢
  split
  · rfl
  · rename_i hn; simp [hn] at hc
theorem kills_ok {x : A} {ks : List Nat} : okCell (kills ks x) = true → okCell x = true := by
  induction ks generalizing x with
  | nil => exact id
  | cons k ks ih =>
    intro h
    have := ih (x := kill k x) h
    cases x <;> simp [kill_sl, kill_agg, kill_tup, kill_rp, kill_bx, kill_clo, kill_sc, kill_nil, kill_un, kill_vw, kill_pt, okCell] at this ⊢
theorem stash1_okin {x : A} (hc : (stash1 S x).1) (ha : ∀ xs, x ≠ .agg xs) (ht : ∀ xs, x ≠ .tup xs) : okCell x = true := by
  cases x <;> simp [stash1, isData_un] at hc <;> first | rfl | exact absurd rfl (ha _) | exact absurd rfl (ht _)
theorem stashL_cells : ∀ (n : Nat) (xs : List A) (S : State), xs.length = n → (stashL S xs).1 → (∀ x ∈ xs, (∀ ys, x ≠ .agg ys) ∧ ∀ ys, x ≠ .tup ys) → (stashL S xs).2.1.length = xs.length ∧ ∀ y ∈ (stashL S xs).2.1, okCell y = true := by
  intro n
  induction n with
  | zero =>
    intro xs S hn hc hx
    obtain rfl := List.eq_nil_of_length_eq_zero hn
    simp [stashL]
  | succ n ih =>
    intro xs S hn hc hx
    cases xs with
    | nil => simp at hn
    | cons x xs =>
      rw [stashL] at hc ⊢
      generalize hs1 : stash1 S x = p at hc ⊢
      obtain ⟨c, y, S1, ks⟩ := p
      simp only at hc ⊢
      generalize hs2 : stashL S1 (xs.map (kills ks)) = p2 at hc ⊢
      obtain ⟨c', ys, S2, ks'⟩ := p2
      simp only at hc ⊢
      have h1 : okCell y = true := by
        have := stash1_ok_cell (S := S) (stash1_okin (S := S) (x := x) (by rw [hs1]; exact hc.1) (hx x (by simp)).1 (hx x (by simp)).2) (by rw [hs1]; exact hc.1)
        rwa [hs1] at this
      have hk : ∀ x ∈ xs.map (kills ks), (∀ ys, x ≠ .agg ys) ∧ ∀ ys, x ≠ .tup ys := by
        intro z hz
        obtain ⟨u, hu, rfl⟩ := List.mem_map.1 hz
        have hu' := hx u (by simp [hu])
        clear hs2 hs1 hc ih hn hx h1 hz hu
        induction ks generalizing u with
        | nil => exact hu'
        | cons k ks ih =>
          refine ih (u := kill k u) ?_
          cases u <;> simp [kill_sl, kill_agg, kill_tup, kill_rp, kill_bx, kill_clo, kill_sc, kill_nil, kill_un, kill_vw, kill_pt] at hu' ⊢
          all_goals (split <;> simp)
      have h2 := ih (xs.map (kills ks)) S1 (by simpa using hn) (by rw [hs2]; exact hc.2) hk
      rw [hs2] at h2
      exact ⟨by simpa using h2.1, fun z hz => by rcases List.mem_cons.1 hz with rfl | hz; exact h1; exact h2.2 z hz⟩
theorem okCell_not {x : A} (h : okCell x = true) : (∀ ys, x ≠ .agg ys) ∧ ∀ ys, x ≠ .tup ys := by
  cases x <;> simp [okCell] at h <;> simp

theorem fill_slice (size : Nat) : ∀ (vals : List Value) (k : Nat) (cs : Array Value), (∀ v ∈ vals, v.cells.size = size) → (k + vals.length) * size ≤ cs.size →
    ∃ res, Instr.fill (fun i => some (i * size, size)) cs ((List.range' k vals.length).zip vals) = some res ∧ res.toList = cs.toList.take (k * size) ++ vals.flatMap (fun v => v.cells.toList) ++ cs.toList.drop ((k + vals.length) * size)
  | [], k, cs, _, _ => ⟨cs, rfl, by simp⟩
  | v :: vals, k, cs, hv, hs => by
    have hvs := hv v (by simp)
    simp only [List.length_cons, List.range'_succ, List.zip_cons_cons, Instr.fill]
    have hle : k * size + size ≤ cs.size := by
      have : (k + 1) * size ≤ (k + (v :: vals).length) * size := Nat.mul_le_mul_right _ (by simp)
      rw [Nat.add_mul] at this
      omega
    rw [if_neg (by simp [hvs]; omega)]
    have e2 : (v.cells.zipIdx.foldl (fun cs (c, j) => cs.setIfInBounds (k * size + j) c) cs) = ((v.cells.toList.zipIdx 0).foldl (fun cs (c, j) => cs.setIfInBounds (k * size + j) c) cs) := by
      rw [← Array.foldl_toList]; simp
    have e := fold_set v.cells.toList (k * size) 0 cs (by simp; omega)
    rw [← e2] at e
    generalize (v.cells.zipIdx.foldl (fun cs (c, j) => cs.setIfInBounds (k * size + j) c) cs) = cs2 at e ⊢
    have hsz : cs2.size = cs.size := by
      have := congrArg List.length e
      simp at this
      omega
    obtain ⟨res, h1, h2⟩ := fill_slice size vals (k + 1) cs2 (fun u hu => hv u (by simp [hu])) (by rw [hsz]; simpa [Nat.add_assoc, Nat.add_comm 1] using hs)
    refine ⟨res, h1, ?_⟩
    rw [h2, e]
    have hk1 : (k + 1) * size = k * size + v.cells.toList.length := by rw [Nat.add_mul]; simp [hvs]
    have hk2 : (k + 1 + vals.length) * size = k * size + v.cells.toList.length + vals.length * size := by rw [Nat.add_mul, hk1]
    have hk3 : (k + (vals.length + 1)) * size = k * size + v.cells.toList.length + vals.length * size := by rw [← hk2]; simp [Nat.add_assoc, Nat.add_comm 1]
    have hl : (cs.toList.take (k * size) ++ v.cells.toList).length = k * size + v.cells.toList.length := by simp; omega
    simp only [Nat.add_zero]
    rw [hk2, hk3, hk1]
    rw [List.take_append_of_le_length (by omega), List.take_of_length_le (by omega)]
    rw [List.drop_append, List.drop_eq_nil_of_le (by omega), hl, List.nil_append, List.drop_drop]
    simp only [List.flatMap_cons, List.append_assoc]
    congr 5
    omega

theorem opOK_buildSlice {o : Oper} {K : State → Prop} {t e : TypeId} {len : Nat} {parts : Array (Nat × Operand)} {s : Nat} {z : Value} (ho : o.op = .buildSlice t len parts) (hx : ∀ p ∈ parts.toList, okO p.2 = true)
    (hidx : parts.toList.map (·.1) = List.range' 0 parts.toList.length) (hlen : len = parts.toList.length) (ht : elemT P t = some e) (hs : szT P e = some s) (hz : zeroT P e = some z) (hsp : 0 < s) (hb : len * s ≤ 16777216)
    (hw : ∀ p ∈ parts.toList, (ev S p.2).width = s) (hok : (flat (parts.toList.map fun p => ev S p.2)).all okCell = true)
    (hc : (stashL S (flat (parts.toList.map fun p => ev S p.2))).1)
    (hK : K (((stashL S (flat (parts.toList.map fun p => ev S p.2))).2.2.1.addRow ⟨s, regroup (parts.toList.map fun p => ev S p.2) (stashL S (flat (parts.toList.map fun p => ev S p.2))).2.1, false⟩).put o.dst
      (.vw S.rows.length 0 len))) : opOK P o S K := by
  intro E a w next Q hss hn
  obtain ⟨hd, G, gs, hi⟩ := hss
  have hu := elemT_inv ht
  have hlm : len ≤ maxLen := by
    have : len * 1 ≤ len * s := Nat.mul_le_mul_left _ hsp
    simp only [maxLen]; omega
  -- the cells of all parts
  have hrel : ∀ ps : List (Nat × Operand), (∀ p ∈ ps, p ∈ parts.toList) → TRelL w G S.rows gs (flat (ps.map fun p => ev S p.2)) (ps.flatMap fun p => (a.eval p.2).cells.toList) [] := by
    intro ps
    induction ps with
    | nil => intro _; exact .nil
    | cons p ps ih =>
      intro hp
      simp only [List.map_cons, flat_cons, List.flatMap_cons]
      refine TRelL.append0 (cells_rel (ev_rel hi p.2 (hx p (hp p (by simp)))) ?_) (ih fun q hq => hp q (by simp [hq]))
      refine List.all_eq_true.2 fun c hc => List.all_eq_true.1 hok c ?_
      exact List.mem_flatMap.2 ⟨ev S p.2, List.mem_map.2 ⟨p, hp p (by simp), rfl⟩, hc⟩
  have hr0 := hrel parts.toList fun p hp => hp
  generalize hes : (parts.toList.map fun p => ev S p.2) = es at *
  have hnot : ∀ x ∈ flat es, (∀ ys, x ≠ .agg ys) ∧ ∀ ys, x ≠ .tup ys := fun x hx => okCell_not (List.all_eq_true.1 hok x hx)
  obtain ⟨hlenys, hokys⟩ := stashL_cells _ (flat es) S rfl hc hnot
  obtain ⟨F, hst, hrel2⟩ := stashL_ok _ (flat es) S _ [] rfl hi Res.nil hr0 hc
  generalize hsl : stashL S (flat es) = p at *
  obtain ⟨c, ys, S1, ks⟩ := p
  simp only at *
  have hcell : ∀ y ∈ ys, y.cells = [y] := fun y hy => okCell_cells (hokys y hy)
  have hfl := regroup_flat es ys hlenys hcell
  have hesw : ∀ x ∈ es, x.width = s := by
    intro x hx
    rw [← hes] at hx
    obtain ⟨p, hp, rfl⟩ := List.mem_map.1 hx
    exact hw p hp
  have hwd := regroup_width (n := s) es ys hlenys hcell hesw
  have hel : es.length = len := by rw [← hes, hlen]; simp
  -- what the machine lays
  have hvs : ∀ v ∈ parts.toList.map (fun p => a.eval p.2), v.cells.size = s := by
    intro v hv
    obtain ⟨p, hp, rfl⟩ := List.mem_map.1 hv
    have h1 := cells_rel (ev_rel hi p.2 (hx p hp)) (List.all_eq_true.2 fun c hc => List.all_eq_true.1 hok c (by
      rw [← hes]; exact List.mem_flatMap.2 ⟨ev S p.2, List.mem_map.2 ⟨p, hp, rfl⟩, hc⟩))
    have := h1.length
    have h2 := hw p hp
    unfold A.width at h2
    simp at this
    omega
  obtain ⟨zz, hzz⟩ : ∃ zz : Array Value, (len * s = 0 → zz = #[]) ∧ (len * s ≠ 0 → zz = z.cells) := by
    by_cases h0 : len * s = 0
    · exact ⟨#[], fun _ => rfl, fun h => absurd h0 h⟩
    · exact ⟨z.cells, fun h => absurd h h0, fun _ => rfl⟩
  generalize hcs : (Array.range (len * s)).map (zz[· % zz.size]!) = cs0
  have hcs0 : cs0.size = len * s := by rw [← hcs]; simp
  obtain ⟨res, hf1, hf2⟩ := fill_slice s (parts.toList.map fun p => a.eval p.2) 0 cs0 hvs (by simp; rw [hcs0, hlen]; simp)
  have hzip : (List.range' 0 (parts.toList.map fun p => a.eval p.2).length).zip (parts.toList.map fun p => a.eval p.2) = parts.toList.map fun p => (p.1, a.eval p.2) := by
    rw [List.length_map, ← hidx]
    exact List.zip_map' ..
  rw [hzip] at hf1
  have hres : res.toList = parts.toList.flatMap fun p => (a.eval p.2).cells.toList := by
    rw [hf2]
    simp only [Nat.zero_mul, List.take_zero, List.nil_append, Nat.zero_add, List.length_map]
    rw [List.drop_eq_nil_of_le (by simp [hcs0, hlen]), List.append_nil, List.flatMap_map]
  have hressz : res.size = len * s := by
    have h1 := hrel2.length
    rw [← hres, hlenys] at h1
    rw [flat_length hesw, hel] at h1
    simpa using h1
  have hrun : (execOp a.eval o).run P w = .ok (.value (.slice (some ⟨w.heap.size, 0, none⟩) len len)) (w.alloc (.cells res e)) := by
    have e1 : (parts.map fun (i, x) => (i, a.eval x)).toList = parts.toList.map fun p => (p.1, a.eval p.2) := by simp
    have hbb : ¬ (16777216 < len * s) := by omega
    rw [← e1] at hf1
    by_cases h0 : len * s = 0
    · have hz0 := hzz.1 h0
      subst hz0
      simp only [execOp, ho, Instr.buildSlice, Sem.run_bind, run_underlying hu, Result.andThen_ok, run_sizeOf hs, if_neg hbb, if_pos h0, Sem.run_pure, hcs, hf1]
      simp [newRow]
    · have hz0 := hzz.2 h0
      subst hz0
      simp only [execOp, ho, Instr.buildSlice, Sem.run_bind, run_underlying hu, Result.andThen_ok, run_sizeOf hs, if_neg hbb, if_neg h0, run_zero hz, Sem.run_pure, hcs, hf1]
      simp [newRow]
  unfold Oper.wp
  rw [hrun]
  have hF : ∀ b ∈ F ++ [], b < w.heap.size := hst.lt (by simp)
  rw [List.append_nil] at hF
  have hR : Res E G gs S1.rows F := by simpa using hst.res
  have hrow : ∀ (x : List A), x = regroup es ys → x.length = len := fun x hx => by rw [hx, regroup_length, hel]
  have htk : res.toList.take ((regroup es ys).length * s) = res.toList := by
    rw [regroup_length, hel, List.take_of_length_le (by simp [hressz])]
  have hi' := hst.inv.addRow (row := ⟨s, regroup es ys, false⟩) (e := e) (cap := len) hR hressz (by rw [hrow _ rfl]; exact Nat.le_refl _) hlm hwd
    (by
      show ∀ v ∈ res.toList.take ((regroup es ys).length * s), cellV v = true
      rw [htk]
      have := okCells_v (TRelL.of (rows := []) (gs := gs) hrel2) (List.all_eq_true.2 hokys)
      rw [← hres] at this
      exact this)
    (by
      show CellsRel false w G S1.rows gs (flat (regroup es ys)) (res.toList.take ((regroup es ys).length * s)) F
      rw [htk, hfl, hres]
      exact hrel2) hF
  have hvw := addRow_vw (w := w) (G := G) (S := S1) (gs := gs) (R := F) (row := ⟨s, regroup es ys, false⟩) (e := e) (cap := len) hressz (by rw [hrow _ rfl]; exact Nat.le_refl _) hlm len (by rw [hrow _ rfl]; exact Nat.le_refl _)
  rw [← hst.len] at hK
  exact hn _ _ _ hK ⟨by rw [put_defers]; exact hd, G, _, Inv.put (S := S1.addRow _) hi' hvw o.dst⟩
end
end Go.Fw

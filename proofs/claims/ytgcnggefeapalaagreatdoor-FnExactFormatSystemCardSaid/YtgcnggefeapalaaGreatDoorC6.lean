/- Walks: the program's change of a set. Plain theorems. -/
import Derived.Test.YtgcnggefeapalaaGreatDoorC5
import Derived.Shelf.SlicesG.CompactS
import Derived.Ground.SlgnProg
import Derived.Sort.OwnSorted
set_option linter.unusedVariables false
set_option linter.unusedSimpArgs false
namespace Go.Proofs.YtgcnggefeapalaaGreatDoor
open Go Go.Fw
set_option maxRecDepth 100000
theorem perm_sorted : ∀ {a b : List Int}, a.Perm b → a.Pairwise (· ≤ ·) → b.Pairwise (· ≤ ·) → a = b
  | [], b, h, _, _ => h.nil_eq
  | x :: a, [], h, _, _ => by have := h.length_eq; simp at this
  | x :: a, y :: b, h, ha, hb => by
    rw [List.pairwise_cons] at ha hb
    have hx : x ∈ y :: b := h.subset (by simp)
    have hy : y ∈ x :: a := h.symm.subset (by simp)
    have e : x = y := by
      rcases List.mem_cons.1 hx with rfl | hx
      · rfl
      · rcases List.mem_cons.1 hy with rfl | hy
        · rfl
        · have := ha.1 y hy; have := hb.1 x hx; omega
    subst e
    rw [perm_sorted h.cons_inv ha.2 hb.2]
theorem put3_perm (v : Int) : ∀ l : List Int, (put3 v l).Perm (v :: l)
  | [] => .refl _
  | x :: l => by
    rw [put3]
    split
    · exact .refl _
    · exact ((put3_perm v l).cons x).trans (.swap _ _ _)
theorem put3_sorted {v : Int} : ∀ {l : List Int}, l.Pairwise (· ≤ ·) → (put3 v l).Pairwise (· ≤ ·)
  | [], _ => by simp [put3]
  | x :: l, h => by
    rw [List.pairwise_cons] at h
    rw [put3]
    split
    · rename_i hv
      rw [List.pairwise_cons, List.pairwise_cons]
      refine ⟨fun y hy => ?_, h⟩
      rcases List.mem_cons.1 hy with rfl | hy
      · omega
      · have := h.1 y hy; omega
    · rename_i hv
      rw [List.pairwise_cons]
      refine ⟨fun y hy => ?_, put3_sorted h.2⟩
      rcases put3_mem hy with rfl | hy
      · omega
      · exact h.1 y hy
theorem sortZ_sorted (l : List Int) : (sortZ l).Pairwise (· ≤ ·) := by
  have := List.pairwise_mergeSort (le := fun x y : Int => decide (x ≤ y)) (by intro a b c; simp; omega) (by intro a b; simp; omega) l
  exact this.imp fun h => by simpa using h
theorem sortZ_put {l : List Int} (h : l.Pairwise (· ≤ ·)) (v : Int) : sortZ (l ++ [v]) = put3 v l :=
  perm_sorted ((List.mergeSort_perm _ _).trans (List.perm_append_singleton v l |>.trans (put3_perm v l).symm)) (sortZ_sorted _) (put3_sorted h)
end Go.Proofs.YtgcnggefeapalaaGreatDoor

/- Walks: sets are read from their text, in the spec. Plain theorems. -/
set_option linter.unusedVariables false
set_option linter.unusedSimpArgs false
namespace Go.Proofs.YtgcnggefeapalaaGreatDoor
open Go Go.Fw Go.Sort
set_option maxRecDepth 100000
theorem sortZ_perm (l : List Int) : (sortZ l).Perm l := List.mergeSort_perm _ _
theorem sortZ_snoc (o : List Int) (k : Int) : sortZ (o ++ [k]) = put3 k (sortZ o) := by
  rw [← sortZ_put (sortZ_sorted o)]
  exact perm_sorted ((sortZ_perm _).trans (((sortZ_perm o).symm.append_right [k]).trans (sortZ_perm _).symm)) (sortZ_sorted _) (sortZ_sorted _)
theorem sortZ_any (o : List Int) (k : Int) : (sortZ o).any (· == k) = o.any (· == k) := by
  rw [Bool.eq_iff_iff, List.any_eq_true, List.any_eq_true]
  exact ⟨fun ⟨x, h, e⟩ => ⟨x, (sortZ_perm o).mem_iff.1 h, e⟩, fun ⟨x, h, e⟩ => ⟨x, (sortZ_perm o).mem_iff.2 h, e⟩⟩
theorem sortZ_len (o : List Int) : (sortZ o).length = o.length := List.length_mergeSort _
theorem c_l3Parse (l : List Pck) (s : List UInt8) (hl : l.length ≤ 1048576) (hs : s.length ≤ 1048576) : PCtr PP n_spec_l3Parse [encP l, str s] (setR (prsS l s).1 (prsS l s).2.1 (prsS l s).2.2) := by
  obtain ⟨Ω, hΩ⟩ : ∃ Ω, Ω = std := ⟨_, rfl⟩
  obtain ⟨F, hF⟩ := grw hΩ i64
  obtain ⟨R, hR⟩ : ∃ R, R = setR (prsS l s).1 (prsS l s).2.1 (prsS l s).2.2 := ⟨_, rfl⟩
  rw [← hR]
  unfold prsS at hR
  have many : 4000 < s.length → R = .agg [i64 2, i64 0, .sl true 1 []] := fun h => by rw [hR, if_pos h]; rfl
  have go : ¬ 4000 < s.length → R = setR (prsL l (linesP s) 0 []).1 (prsL l (linesP s) 0 []).2.1 (sortZ (prsL l (linesP s) 0 []).2.2) := fun h => by rw [hR, if_neg h]
  clear hR
  have hln := linesP_len (s := s)
  have hmem := fun l => linesP_mem (s := s) (l := l)
  have hlc : s.length ≤ 4000 → PCtr PP n_spec_l2Lines [str s] (.sl false 1 ((linesP s).map str)) := fun h => c_l2Lines s (by omega)
  generalize linesP s = ls at *
  obtain ⟨n, hn⟩ : ∃ n, n = ls.length := ⟨_, rfl⟩
  obtain ⟨ys, hys⟩ : ∃ ys, ys = ls.map str := ⟨_, rfl⟩
  have hyl : ys.length = ls.length := by rw [hys, List.length_map]
  rw [← hys] at hlc
  have hw := c_l2Words
  have hv := fun s h => c_specParseVersion s h
  have hf := fun n v => c_l2Find l n v hl
  have hrd : ∀ (ws : List (List UInt8)), (ws.length ≠ 2 → rdP l ws = -1) ∧ (ws.length = 2 → ∃ a b, ws = [a, b] ∧ rdP l ws = if (verP b).1 = 0 then findF l a (verP b).2 else -1) := fun ws => ⟨rdP_no, fun h => by
    obtain ⟨a, b, rfl⟩ := two_of h
    exact ⟨a, b, rfl, rfl⟩⟩
  have hch := fun (o : List Int) k (h : o.length ≤ 4001) => c_l1Has (sortZ o) k (by rw [sortZ_len]; omega)
  have hput := fun (o : List Int) k (h : o.length ≤ 4001) => c_l3Put (sortZ o) k (by rw [sortZ_len]; omega)
  have hFz : ∀ o : List Int, (F o).map frz = F o := fun o => by rw [← hF.eq, frz_I]
  have hFr : ∀ o : List Int, roFree (.sl true 1 (F o)) = true := fun o => by rw [← hF.eq]; exact roF_I o
  simp only [hF.eq, sortZ_any, ← sortZ_snoc] at hch hput
  unfold encP at *
  generalize l.map (Pck.enc false) = xs at *
  unfold verA at hv
  have hpn : ∀ i o, prsL l [] i o = (0, 0, o) := fun _ _ => rfl
  have hpa := fun (i : Nat) w (o : List Int) (h : ls[i]? = some w) => prsL_at (c := l) (o := o) h
  generalize prsL l = pr at *
  generalize rdP l = rd at *
  have htab := tab
  have hmo := hmo
  refine PCtr.walk tab hΩ fn_spec_l3Parse rfl ?_
  generalize PP = P at *
  cbv
  refine br (fun h => ?_) (fun h => ?_) <;> cbv
  · have h : 4000 < s.length := by have h := gtZt hΩ h; subst hΩ; have h : (4000 : Int) < (s.length : Int) := h; omega
    rw [many h]
    exact fit_nilN 1 2 0
  have h4 : s.length ≤ 4000 := by have h := gtZf hΩ h; subst hΩ; have h : (s.length : Int) ≤ 4000 := h; omega
  have hRg := go (by omega)
  replace hlc := hlc h4
  clear go many
  refine call_share hΩ 3 hlc rfl (fits _) rfl ?_
  cbv
  refine loopX htab hΩ (fun i : Nat × List Int => ⟨[(0, .sl false 8 xs), (4, .pt 0 0 0), (6, .vw 1 0 (Ω.len (F (sortZ i.2)))), (5, .sl false 1 ys), (7, i64 (Ω.int i.1))], 60,
    [some ⟨3, [.agg [i64 0, i64 0, .nil]], true⟩, some ⟨1, F (sortZ i.2), false⟩]⟩) (fun i => i.1 ≤ n ∧ i.2.length ≤ i.1 ∧ R = setR (pr (ls.drop i.1) i.1 i.2).1 (pr (ls.drop i.1) i.1 i.2).2.1 (sortZ (pr (ls.drop i.1) i.1 i.2).2.2)) (fun i => n - i.1) (0, []) ⟨Nat.zero_le _, Nat.le_refl _, hRg⟩
    (Sbs.mk rfl (by dsimp only; rw [sortZ_nil, hF.nil]; rfl) ⟨rfl, rfl, by dsimp only; rw [sortZ_nil, hF.z]; rfl, rfl, zeroI hΩ, trivial⟩) ?_
  rintro ⟨i, o⟩ ⟨hi, hol, hRi⟩
  dsimp only at hi hol hRi ⊢
  have hlo := hF.lo (sortZ o)
  have hle := hF.le (sortZ o)
  have htk := hF.tk (sortZ o)
  have hfz := hFz (sortZ o)
  have hze := hF.eq (sortZ o)
  cbv
  refine br (fun h => ?_) (fun h => ?_) <;> cbv
  · replace h := ltI hΩ h
    obtain ⟨w, hw0⟩ := at_of (cs := ls) (by omega : i < _)
    rw [hpa i w o hw0] at hRi
    have hll := hmem w (List.mem_of_getElem? hw0)
    have hw1 := hw w (by omega)
    have hwl := words_len (s := w)
    have hwm : ∀ v ∈ wordsP w, v.length ≤ 1048575 := fun v hv => by have := words_mem hv; omega
    obtain ⟨hr1, hr2⟩ := hrd (wordsP w)
    have rw1 : roFree (.sl true 1 ((wordsP w).map str)) = true := roF_S _
    have fw1 : frz (.sl true 1 ((wordsP w).map str)) = .sl false 1 ((wordsP w).map str) := by rw [frz_sl, frz_S]
    generalize wordsP w = wl at *
    have hch := hch o (rd wl) (by omega)
    have hput := hput o (rd wl) (by omega)
    have hFr := hFr (sortZ (o ++ [rd wl]))
    generalize rd wl = k at *
    obtain ⟨B, hB⟩ : ∃ B, B = o.any (· == k) := ⟨_, rfl⟩
    have bad : k < 0 ∨ B = true → FitX (.agg [i64 5, i64 (Ω.int i), .nil]) R := fun e => by
      rw [hRi, if_pos (by rw [← hB]; exact e)]
      show FitX _ (.agg [i64 5, i64 (i : Int), .sl true 1 ((sortZ []).map i64)])
      rw [sortZ_nil]
      subst hΩ
      exact fit_nilN 1 5 i
    have good : ¬ k < 0 → B = false → R = setR (pr (ls.drop (i + 1)) (i + 1) (o ++ [k])).1 (pr (ls.drop (i + 1)) (i + 1) (o ++ [k])).2.1 (sortZ (pr (ls.drop (i + 1)) (i + 1) (o ++ [k])).2.2) := fun e1 e2 => by
      rw [if_neg (by rw [← hB, e2]; simp; omega)] at hRi
      exact hRi
    rw [← hB] at hch
    clear hRi hB
    obtain ⟨ws, hws⟩ : ∃ ws, ws = wl.map str := ⟨_, rfl⟩
    have hwsl : Ω.int (Ω.len ws) = (wl.length : Int) := by subst hΩ; show ((ws.length : Nat) : Int) = _; rw [hws, List.length_map]
    have hr1 : Ω.int (Ω.len ws) ≠ 2 → k = -1 := fun h => hr1 (fun h' => h (by rw [hwsl, h']; rfl))
    have hr2 : Ω.int (Ω.len ws) = 2 → ∃ a b, ws[0]? = some (str a) ∧ ws[1]? = some (str b) ∧ b.length ≤ 1048575 ∧ k = if (verP b).1 = 0 then findF l a (verP b).2 else -1 := fun h => by
      obtain ⟨a, b, rfl, e⟩ := hr2 (by rw [hwsl] at h; omega)
      exact ⟨a, b, by rw [hws]; rfl, by rw [hws]; rfl, hwm b (by simp), e⟩
    rw [← hws] at hw1 rw1 fw1
    clear hws hwsl hwm
    refine ⟨⟨nnI hΩ⟩, _, rdI hΩ hys hw0, ?_⟩
    cbv
    refine call_pf hΩ 3 hw1 rfl (fits _) rw1 fw1 rfl ?_
    cbv
    refine br (fun g => ?_) (fun g => ?_) <;> cbv
    · obtain ⟨a, b, h0, h1, hbl, hk⟩ := hr2 (eqZt hΩ g)
      have hv := hv b hbl
      generalize verP b = vp at *
      obtain ⟨kc, va, vb, vc⟩ := vp
      dsimp only at hv hk
      have hf := hf a ⟨va, vb, vc⟩
      generalize findF l a ⟨va, vb, vc⟩ = f at *
      refine ⟨⟨by decide⟩, _, h1, ?_⟩
      cbv
      refine call_pure hΩ 4 hv rfl (fits _) rfl rfl ?_
      cbv
      refine br (fun g => ?_) (fun g => ?_) <;> cbv
      · have g := eqZt hΩ g
        rw [if_pos g] at hk
        subst hk
        refine ⟨VC_drawn htab hΩ hmo (by kernel_rfl) ?_⟩
        cbv
        refine ⟨⟨by decide⟩, _, h0, ?_⟩
        cbv
        refine QCall_pure (k := 4) hf rfl (fits _) rfl ?_
        cbv
        refine br (fun g => ?_) (fun g => ?_) <;> cbv
        · exact bad (.inl (ltZt hΩ g))
        have g := ltZf hΩ g
        refine call_pure hΩ 3 hch (mapO2 (ro_vw rfl hlo hfz) rfl) (fits _) rfl rfl ?_
        cbv
        refine br (fun g' => ?_) (fun g' => ?_) <;> cbv
        · exact bad (.inr (iteB hΩ g'))
        have g' := iteB hΩ g'
        have good := good (by omega) g'
        refine call_pure hΩ 3 hput (mapO2 (ro_vw rfl hlo hfz) rfl) (fits _) hFr rfl ?_
        cbv
        exact ⟨(i + 1, o ++ [k]), ⟨by show i + 1 ≤ n; omega, by simp; omega, good⟩, by show n - (i + 1) < n - i; omega,
          (Sbs.drop (r := 1) rfl).trans ((Sbs.mv (a := 3) (b := 1) rfl rfl (Nat.le_of_ble_eq_true rfl)).trans ((Sbs.cut 2 rfl).trans (Sbs.mk rfl rfl ⟨rfl, rfl, rfl, rfl, incI hΩ (by omega), trivial⟩)))⟩
      · have g := eqZf hΩ g
        rw [if_neg g] at hk
        refine br (fun g => ?_) (fun g => ?_) <;> cbv
        · exact bad (.inl (by omega))
        · have := ltZf hΩ g; omega
    · have hk := hr1 (eqZf hΩ g)
      refine br (fun g => ?_) (fun g => ?_) <;> cbv
      · exact bad (.inl (by omega))
      · have := ltZf hΩ g; omega
  · replace h := geI hΩ h
    have : i = n := by omega
    subst this
    rw [List.drop_of_length_le (by omega), hpn] at hRi
    have hRi : R = setR 0 0 (sortZ o) := hRi
    exact ⟨⟨rfl, hle⟩, .of (by rw [hRi]; show A.agg [i64 0, i64 0, .sl true 1 (Ω.take (Ω.len (F (sortZ o))) (F (sortZ o)))] = A.agg [i64 0, i64 0, .sl true 1 ((sortZ o).map i64)]; rw [htk, hze])⟩
end Go.Proofs.YtgcnggefeapalaaGreatDoor

/- Walks: the set of a number. Plain theorems. -/
set_option linter.unusedVariables false
set_option linter.unusedSimpArgs false
namespace Go.Proofs.YtgcnggefeapalaaGreatDoor
open Go Go.Fw Go.Sort
set_option maxRecDepth 100000
theorem prsL_ok {c : List Pck} : ∀ {ls : List (List UInt8)} {i : Nat} {o : List Int}, ((prsL c ls i o).1 = 0 → (prsL c ls i o).2.1 = 0) ∧ ((prsL c ls i o).1 ≠ 0 → (prsL c ls i o).2.2 = [])
  | [], i, o => ⟨fun _ => rfl, fun h => absurd rfl h⟩
  | l :: ls, i, o => by
    rw [prsL]
    split
    · exact ⟨fun h => (by cases h), fun _ => rfl⟩
    · exact prsL_ok
theorem prsS_ok {c : List Pck} {s : List UInt8} : ((prsS c s).1 = 0 → (prsS c s).2.1 = 0) ∧ ((prsS c s).1 ≠ 0 → (prsS c s).2.2 = []) := by
  unfold prsS
  split
  · exact ⟨fun h => (by cases h), fun _ => rfl⟩
  · refine ⟨fun h => prsL_ok.1 h, fun h => ?_⟩
    show sortZ _ = []
    rw [prsL_ok.2 h, sortZ_nil]
/-- The set of a number: code, places. -/
def setW (c : List Pck) (l : List Fil) (n : Int) : Int × List Int := if (gensF l).any (· == n) then ((prsS c (datF l (genB n))).1, (prsS c (datF l (genB n))).2.2) else (4, [])
theorem roFI3 (k a : Int) (s : List Int) : roFree (setR k a s) = true := by
  have := roF_I s
  unfold setR
  rw [roFree_agg]
  simp only [List.all_cons, List.all_nil, this]; rfl
theorem c_setOf (c : List Pck) (x : Dsk) (n : Int) (hl : c.length ≤ 1048576) (ho : ∀ o ∈ c, o.Small) (hc : catF c = 0) (hx : x.Ok) : PCtr PP n_impl_setOf [encP c, x.enc false false, i64 n] (.tup [.sl true 1 ((setW c x.f n).2.map i64), i64 (setW c x.f n).1]) := by
  obtain ⟨Ω, hΩ⟩ : ∃ Ω, Ω = std := ⟨_, rfl⟩
  have hcg := c_gens x hx.n hx.p
  have hgl := gensF_len x.f
  have hxn := hx.n
  have hch := c_ContainsI (gensF x.f) n (by omega)
  have hgp : (gensF x.f).any (· == n) = true → PCtr PP n_impl_genPath [i64 n] (str (genB n)) := fun h => by
    obtain ⟨m, hm, he⟩ := List.any_eq_true.1 h
    have := gensF_ge hm
    rw [beq_iff_eq.1 he] at this
    exact c_genPath n this.1 this.2
  have hcd := c_data x (genB n) hx.n hx.o
  have hdl := datF_len hx.d (genB n)
  have hps := c_ParseSet c (datF x.f (genB n)) hl ho hc hdl
  have hr : roFree (setR (prsS c (datF x.f (genB n))).1 (prsS c (datF x.f (genB n))).2.1 (prsS c (datF x.f (genB n))).2.2) = true := roFI3 _ _ _
  unfold setW
  generalize (gensF x.f).any (· == n) = b at *
  generalize prsS c (datF x.f (genB n)) = r at *
  generalize datF x.f (genB n) = d at *
  generalize hasF x.f (genB n) = h at *
  generalize genB n = p at *
  generalize gensF x.f = g at *
  obtain ⟨q, hq⟩ : ∃ q, q = g.map i64 := ⟨_, rfl⟩
  have hqf : roFree (.sl true 1 q) = true := by rw [hq]; exact roF_I g
  have hqz : frz (.sl true 1 q) = .sl false 1 q := by rw [frz_sl, hq, frz_I]
  obtain ⟨ds, hds⟩ : ∃ ds, ds = d.map byteA := ⟨_, rfl⟩
  rw [← hq] at hcg hch
  rw [← hds] at hcd
  obtain ⟨r1, r2, r3⟩ := r
  unfold setR at hps hr
  dsimp only at *
  obtain ⟨ss, hss⟩ : ∃ ss, ss = r3.map i64 := ⟨_, rfl⟩
  rw [← hss] at hps hr
  have hgo : b = true → (if b = true then (r1, r3) else (4, [])) = (r1, r3) := fun h => by rw [h]; rfl
  have hno : b = false → (if b = true then (r1, r3) else ((4 : Int), ([] : List Int))) = (4, []) := fun h => by rw [h]; rfl
  have hle : Ω.len ss ≤ ss.length := by subst hΩ; exact Nat.le_refl _
  have htk : Ω.take (Ω.len ss) ss = ss := takeAll hΩ _
  obtain ⟨W, hW⟩ : ∃ W : Int × List Int, W = if b = true then (r1, r3) else (4, []) := ⟨_, rfl⟩
  have hgo : b = true → A.tup [.sl true 1 (W.2.map i64), i64 W.1] = .tup [.sl true 1 ss, i64 r1] := fun h => by rw [hW, hgo h, hss]
  have hno : b = false → FitX (.tup [.nil, i64 4]) (A.tup [.sl true 1 (W.2.map i64), i64 W.1]) := fun h => by rw [hW, hno h]; exact ⟨2, by simp [fitA, fitA.fitL, i64]⟩
  rw [← hW]
  obtain ⟨R, hR⟩ : ∃ R, R = A.tup [.sl true 1 (W.2.map i64), i64 W.1] := ⟨_, rfl⟩
  rw [← hR] at hgo hno ⊢
  clear hq hW hss hR hgl
  unfold encP Dsk.enc at *
  generalize x.f.map (Fil.enc false) = xs at *
  generalize c.map (Pck.enc false) = cs at *
  generalize x.bg = v1 at *
  generalize x.wr = v2 at *
  generalize x.st = v3 at *
  generalize x.dn = v4 at *
  have htab := tab
  have hmo := hmo
  refine PCtr.walk tab hΩ fn_impl_setOf rfl ?_
  generalize PP = P at *
  cbv
  refine call_pf hΩ 4 hcg rfl (fits _) hqf hqz rfl ?_
  cbv
  refine call_pure hΩ 4 hch rfl (fits _) rfl rfl ?_
  cbv
  refine br (fun k => ?_) (fun k => ?_) <;> cbv
  · exact hno (notA hΩ k)
  have k := notB hΩ k
  rw [hgo k]
  have hgp := hgp k
  refine ⟨VC.sub (VC_plan htab hΩ hmo (.qs [0, 1] (.s 2 (.s 3 (.s 4 (.qs [5, 6] (.s 7 (.s 8 .fin))))))) (by kernel_rfl) ?_) ((Sbs.unlk (r := 0) rfl rfl).trans (Sbs.thaw0 (r := 0) rfl rfl rfl))⟩
  cbv
  refine call_pure hΩ 4 hgp rfl (fits _) rfl rfl ?_
  cbv
  refine call_share hΩ 4 hcd rfl (fits _) rfl ?_
  cbv
  refine ⟨d, hds, ?_⟩
  cbv
  refine call_pure hΩ 4 hps rfl (fits _) hr rfl ?_
  cbv
  refine ⟨VC_drawn htab hΩ hmo (by kernel_rfl) ?_⟩
  cbv
  exact ⟨⟨rfl, hle⟩, .of (by show A.tup [.sl true 1 (Ω.take (Ω.len ss) ss), i64 r1] = _; rw [htk]; rfl)⟩
theorem hasF_mem : ∀ {l : List Fil} {f : Fil}, ordF l → f ∈ l → hasF l f.p = true ∧ plcF l f.p < l.length ∧ l[plcF l f.p]? = some f
  | g :: l, f, ho, hf => by
    obtain ⟨h1, h2⟩ := List.pairwise_cons.1 ho
    rw [hasF_cons, plcF_cons]
    rcases List.mem_cons.1 hf with rfl | hf
    · have hn : ¬ f.p < f.p := List.lt_irrefl _
      rw [if_neg hn, if_neg hn]
      exact ⟨by simp, by simp, rfl⟩
    · have hg := h1 f hf
      obtain ⟨i1, i2, i3⟩ := hasF_mem h2 hf
      rw [if_pos hg, if_pos hg]
      exact ⟨i1, by simpa using i2, i3⟩
theorem gensF_mem {l : List Fil} {n : Int} (h : n ∈ gensF l) : ∃ f ∈ l, f.p = genB n := by
  unfold gensF at h
  obtain ⟨s, hs, rfl⟩ := List.mem_map.1 h
  obtain ⟨hs, hg⟩ := List.mem_filter.1 hs
  obtain ⟨hb, f, hf, rfl⟩ := pathsF_mem hs
  refine ⟨f, hf, ?_⟩
  have h1 := isG_eq hb
  rw [hg] at h1
  have h1 := h1.symm
  simp only [Bool.and_eq_true, decide_eq_true_eq] at h1
  rw [if_neg (by omega)] at h1
  have h2 := h1.2
  unfold genS at h2
  split at h2
  · exact h2.symm
  · have := beg_split hb
    rw [← h2] at this
    simp [genH] at this
/-- What the spec says of a number: code, place 0, places. -/
theorem c_l8Set (c : List Pck) (x : Dsk) (n : Int) (hl : c.length ≤ 1048576) (hx : x.Ok) : PCtr PP n_spec_l8Set [encP c, x.see, i64 n] (setR (setW c x.f n).1 0 (setW c x.f n).2) := by
  obtain ⟨Ω, hΩ⟩ : ∃ Ω, Ω = std := ⟨_, rfl⟩
  have hcg := c_l8Gens x hx.n hx.p
  have hgl := gensF_len x.f
  have hxn := hx.n
  have hch := c_l1Has (gensF x.f) n (by omega)
  have hgp : (gensF x.f).any (· == n) = true → PCtr PP n_spec_GenPath [i64 n] (str (genB n)) := fun h => by
    obtain ⟨m, hm, he⟩ := List.any_eq_true.1 h
    have := gensF_ge hm
    rw [beq_iff_eq.1 he] at this
    exact c_GenPath n this.1 this.2
  have hfd := fnd_of hx.o (genB n)
  have hcd := c_l7Find x (genB n) hx.n
  have hdl := datF_len hx.d (genB n)
  have hps := c_l3Parse c (datF x.f (genB n)) hl hdl
  have hr : roFree (setR (prsS c (datF x.f (genB n))).1 (prsS c (datF x.f (genB n))).2.1 (prsS c (datF x.f (genB n))).2.2) = true := roFI3 _ _ _
  have hpo := prsS_ok (c := c) (s := datF x.f (genB n))
  unfold setW
  have hin : (gensF x.f).any (· == n) = true → hasF x.f (genB n) = true := fun h => by
    obtain ⟨m, hm, he⟩ := List.any_eq_true.1 h
    rw [beq_iff_eq.1 he] at hm
    obtain ⟨f, hf, hp⟩ := gensF_mem hm
    rw [← hp]
    exact (hasF_mem hx.o hf).1
  generalize (gensF x.f).any (· == n) = b at *
  generalize prsS c (datF x.f (genB n)) = r at *
  generalize datF x.f (genB n) = d at *
  generalize hasF x.f (genB n) = h at *
  generalize fndF x.f (genB n) = z at *
  generalize genB n = p at *
  generalize gensF x.f = g at *
  obtain ⟨q, hq⟩ : ∃ q, q = g.map i64 := ⟨_, rfl⟩
  have hqf : roFree (.sl true 1 q) = true := by rw [hq]; exact roF_I g
  have hqz : frz (.sl true 1 q) = .sl false 1 q := by rw [frz_sl, hq, frz_I]
  obtain ⟨ds, hds⟩ : ∃ ds, ds = d.map byteA := ⟨_, rfl⟩
  rw [← hq] at hcg hch
  obtain ⟨f1, f2⟩ := hfd
  rw [← hds] at f2
  have hf := fun hb => f2 (hin hb)
  obtain ⟨r1, r2, r3⟩ := r
  unfold setR at hps hr ⊢
  dsimp only at *
  obtain ⟨ss, hss⟩ : ∃ ss, ss = r3.map i64 := ⟨_, rfl⟩
  rw [← hss] at hps hr
  have hle : Ω.len ss ≤ ss.length := by subst hΩ; exact Nat.le_refl _
  have htk : Ω.take (Ω.len ss) ss = ss := takeAll hΩ _
  obtain ⟨R, hR⟩ : ∃ R, R = A.agg [i64 (if b = true then (r1, r3) else (4, [])).1, i64 0, .sl true 1 ((if b = true then (r1, r3) else (4, [])).2.map i64)] := ⟨_, rfl⟩
  have hok : b = true → r1 = 0 → R = .agg [i64 r1, i64 r2, .sl true 1 ss] := fun h1 h2 => by rw [hR, if_pos h1, hss, hpo.1 h2]
  have hbad : b = true → r1 ≠ 0 → FitX (.agg [i64 r1, i64 0, .nil]) R := fun h1 h2 => by rw [hR, if_pos h1, hpo.2 h2]; exact fit_nilN 1 _ _
  have hno : b = false → FitX (.agg [i64 4, i64 0, .nil]) R := fun h1 => by rw [hR, if_neg (by simp [h1])]; exact fit_nilN 1 _ _
  rw [← hR]
  clear hq hss hR hgl hpo f1 f2 hin
  unfold encP Dsk.see at *
  generalize x.f.map (Fil.enc false) = xs at *
  generalize c.map (Pck.enc false) = cs at *
  generalize x.bg = v1 at *
  generalize x.wr = v2 at *
  generalize x.st = v3 at *
  generalize x.dn = v4 at *
  have htab := tab
  have hmo := hmo
  refine PCtr.walk tab hΩ fn_spec_l8Set rfl ?_
  generalize PP = P at *
  cbv
  refine call_pf hΩ 4 hcg rfl (fits _) hqf hqz rfl ?_
  cbv
  refine call_pure hΩ 4 hch rfl (fits _) rfl rfl ?_
  cbv
  refine br (fun k => ?_) (fun k => ?_) <;> cbv
  · exact hno (notA hΩ k)
  have k := notB hΩ k
  replace hgp := hgp k
  obtain ⟨hz, p', hp⟩ := hf k
  replace hok := hok k
  replace hbad := hbad k
  refine ⟨VC_lord htab hΩ hmo [0, 1, 2, 3, 4, 5, 6] (.two 7 (.two 8 (.two 9 (.two 10 (.two 11 (.two 12 (.two 13 (.step 14 (.step 15 .fin)) 14 (.step 13 (.step 15 .fin))) 14 (.step 12 (.step 13 (.step 15 .fin)))) 14 (.step 11 (.step 12 (.step 13 (.step 15 .fin))))) 14 (.step 10 (.step 11 (.step 12 (.step 13 (.step 15 .fin)))))) 14 (.step 9 (.step 10 (.step 11 (.step 12 (.step 13 (.step 15 .fin))))))) 14 (.step 8 (.step 9 (.step 10 (.step 11 (.step 12 (.step 13 (.step 15 .fin)))))))) 14 (.step 7 (.step 8 (.step 9 (.step 10 (.step 11 (.step 12 (.step 13 (.step 15 .fin))))))))) [] [] (by kernel_rfl) ?_⟩
  cbv
  intro vs
  cbv
  repeat' (first
    | (refine call_pure hΩ 4 hgp rfl (fits _) rfl rfl ?_; cbv)
    | (refine call_pure hΩ 4 hcd rfl (fits _) rfl rfl ?_; cbv)
    | (refine ⟨⟨hz⟩, _, hp, ?_⟩; cbv)
    | (refine ⟨d, hds, ?_⟩; cbv)
    | (refine call_pure hΩ 4 hps rfl (fits _) hr rfl ?_; cbv)
    | (refine br (fun hh => ?_) (fun hh => ?_) <;> cbv)
    | (refine And.intro ?_ ?_ <;> cbv))
  all_goals (first
    | exact hbad (neZt hΩ hh)
    | exact ⟨rfl, hle⟩
    | (rw [hok (neZf hΩ hh)]; exact .of (by show A.agg [i64 r1, i64 r2, .sl true 1 (Ω.take (Ω.len ss) ss)] = _; rw [htk])))
end Go.Proofs.YtgcnggefeapalaaGreatDoor

/- Walks: who holds what is asked. Plain theorems. -/
set_option linter.unusedVariables false
set_option linter.unusedSimpArgs false
namespace Go.Proofs.YtgcnggefeapalaaGreatDoor
open Go Go.Fw
set_option maxRecDepth 100000
def consB (c : List Pck) (s : List Int) : Bool := decide ((fltS c s).length = 0)
theorem roFlt (o : List Flt) : roFree (.sl true 3 (o.map Flt.enc)) = true := roFAll fun x hx => by obtain ⟨c, _, rfl⟩ := List.mem_map.1 hx; rfl
theorem c_consistent (l : List Pck) (s : List Int) (hl : l.length ≤ 1048576) (hs : s.length ≤ 1048576) (ho : ∀ o ∈ l, o.Small) (hk : ∀ k ∈ s, inB k 0 ((l.length : Int) - 1) = true) : PCtr PP n_impl_consistent [encP l, .sl false 1 (s.map i64)] (boo (consB l s)) := by
  obtain ⟨Ω, hΩ⟩ : ∃ Ω, Ω = std := ⟨_, rfl⟩
  have hc := c_faults l s hl hs ho hk
  have hrf := roFlt (fltS l s)
  obtain ⟨r, hr⟩ : ∃ r, r = consB l s := ⟨_, rfl⟩
  rw [← hr]
  unfold consB at hr
  obtain ⟨es, hes⟩ : ∃ es, es = (fltS l s).map Flt.enc := ⟨_, rfl⟩
  have hel : es.length = (fltS l s).length := by rw [hes, List.length_map]
  rw [← hel] at hr
  rw [← hes] at hc hrf
  clear hel hes
  unfold encP at *
  generalize l.map (Pck.enc false) = xs at *
  generalize s.map i64 = ys at *
  have htab := tab
  have hmo := hmo
  refine PCtr.walk tab hΩ fn_impl_consistent rfl ?_
  generalize PP = P at *
  cbv
  refine call_pure hΩ 3 hc rfl (fits _) hrf rfl ?_
  cbv
  refine .of (congrArg boo ?_)
  subst hΩ
  show decide ((es.length : Int) = 0) = r
  rw [hr]
  rw [Bool.eq_iff_iff, decide_eq_true_eq, decide_eq_true_eq]
  omega
theorem c_l3Good (l : List Pck) (s : List Int) (hl : l.length ≤ 1048576) (hs : s.length ≤ 1048576) (ho : ∀ o ∈ l, o.Small) (hk : ∀ k ∈ s, inB k 0 ((l.length : Int) - 1) = true) : PCtr PP n_spec_l3Good [encP l, .sl false 1 (s.map i64)] (boo (consB l s)) := by
  obtain ⟨Ω, hΩ⟩ : ∃ Ω, Ω = std := ⟨_, rfl⟩
  have hc := c_l3Faults l s hl hs ho hk
  have hrf := roFlt (fltS l s)
  obtain ⟨r, hr⟩ : ∃ r, r = consB l s := ⟨_, rfl⟩
  rw [← hr]
  unfold consB at hr
  obtain ⟨es, hes⟩ : ∃ es, es = (fltS l s).map Flt.enc := ⟨_, rfl⟩
  have hel : es.length = (fltS l s).length := by rw [hes, List.length_map]
  rw [← hel] at hr
  rw [← hes] at hc hrf
  clear hel hes
  unfold encP at *
  generalize l.map (Pck.enc false) = xs at *
  generalize s.map i64 = ys at *
  have htab := tab
  have hmo := hmo
  refine PCtr.walk tab hΩ fn_spec_l3Good rfl ?_
  generalize PP = P at *
  cbv
  refine call_pure hΩ 3 hc rfl (fits _) hrf rfl ?_
  cbv
  refine .of (congrArg boo ?_)
  subst hΩ
  show decide ((es.length : Int) = 0) = r
  rw [hr]
  rw [Bool.eq_iff_iff, decide_eq_true_eq, decide_eq_true_eq]
  omega
end Go.Proofs.YtgcnggefeapalaaGreatDoor

/- What a change of a set keeps. Plain theorems, no program. -/
set_option linter.unusedVariables false
set_option linter.unusedSimpArgs false
namespace Go.Proofs.YtgcnggefeapalaaGreatDoor
open Go Go.Fw
theorem idxFrom_spec {α : Type} {p : α → Bool} : ∀ {l : List α} {i : Nat}, 0 ≤ idxFrom p i l → ∃ j o, l[j]? = some o ∧ p o = true ∧ idxFrom p i l = ((i + j : Nat) : Int)
  | [], i, h => by rw [idxFrom] at h; omega
  | x :: l, i, h => by
    rw [idxFrom] at h ⊢
    split
    · rename_i hp; exact ⟨0, x, rfl, hp, by simp⟩
    · rename_i hp
      rw [if_neg hp] at h
      obtain ⟨j, o, h1, h2, h3⟩ := idxFrom_spec h
      exact ⟨j + 1, o, by simpa using h1, h2, by rw [h3]; congr 1; omega⟩
theorem findF_spec {c : List Pck} {n : List UInt8} {v : Ver} (h : 0 ≤ findF c n v) : inB (findF c n v) 0 ((c.length : Int) - 1) = true ∧ (pk c (findF c n v)).n = n ∧ (pk c (findF c n v)).v = v := by
  obtain ⟨j, o, h1, h2, h3⟩ := idxFrom_spec h
  have hj := (List.getElem?_eq_some_iff.1 h1).1
  have e : findF c n v = (j : Int) := by unfold findF idx; rw [h3]; simp
  rw [e]
  have e2 : pk c (j : Int) = o := by
    unfold pk
    rw [List.getD_eq_getElem?_getD, Int.toNat_natCast, h1]; rfl
  rw [e2]
  unfold isP at h2
  simp only [Bool.and_eq_true, beq_iff_eq, decide_eq_true_eq] at h2
  refine ⟨?_, h2.1, h2.2⟩
  simp only [inB, Bool.and_eq_true, decide_eq_true_eq]; omega
theorem len_bound {L : Int} : ∀ {s : List Int} {lo : Int}, s.Pairwise (· < ·) → (∀ k ∈ s, lo ≤ k ∧ k < L) → (s.length : Int) ≤ max 0 (L - lo)
  | [], lo, _, _ => by simp; omega
  | x :: s, lo, h, hk => by
    rw [List.pairwise_cons] at h
    have h1 := len_bound (lo := x + 1) h.2 fun k hk' => ⟨by have := h.1 k hk'; omega, (hk k (by simp [hk'])).2⟩
    have h2 := hk x (by simp)
    rw [List.length_cons]; omega
end Go.Proofs.YtgcnggefeapalaaGreatDoor

/- Changes make one set of another: plain law, no program. -/
set_option linter.unusedVariables false
set_option linter.unusedSimpArgs false
namespace Go.Proofs.YtgcnggefeapalaaGreatDoor
open Go Go.Fw
theorem catFrom_all {c : List Pck} : ∀ (n i : Nat), c.length - i = n → catFrom c i (c.drop i) = 0 → ∀ j x, i ≤ j → c[j]? = some x → packF x = 0 ∧ findF (c.take j) x.n x.v < 0
  | 0, i, hn, _, j, x, hij, hx => by have := (List.getElem?_eq_some_iff.1 hx).1; omega
  | n + 1, i, hn, h, j, x, hij, hx => by
    have hi : i < c.length := by omega
    rw [catFrom_at (List.getElem?_eq_getElem hi)] at h
    split at h
    · omega
    · rename_i h1
      split at h
      · cases h
      · rename_i h2
        by_cases e : j = i
        · subst e
          rw [List.getElem?_eq_getElem hi] at hx
          obtain rfl := Option.some.inj hx
          exact ⟨by omega, by omega⟩
        · exact catFrom_all n (i + 1) (by omega) h j x (by omega) hx
end Go.Proofs.YtgcnggefeapalaaGreatDoor

/- Sets that are read: what they are. Plain law, no program. -/
set_option linter.unusedVariables false
set_option linter.unusedSimpArgs false
namespace Go.Proofs.YtgcnggefeapalaaGreatDoor
open Go Go.Fw Go.Sort
/-- A sound catalog. -/
theorem cat_ok {c : List Pck} (h : catF c = 0) : c.length ≤ 24 ∧ ∀ o ∈ c, packF o = 0 := by
  unfold catF at h
  split at h
  · cases h
  · refine ⟨by omega, fun o ho => ?_⟩
    obtain ⟨j, hj⟩ := List.mem_iff_getElem?.1 ho
    exact (catFrom_all _ 0 rfl (by rw [List.drop_zero]; exact h) j o (Nat.zero_le _) hj).1
theorem packF_ok {o : Pck} (h : packF o = 0) : nameF o.n = 0 ∧ verF o.v = 0 ∧ inB o.s 1 200 = true := by
  unfold packF at h
  split at h
  · rename_i h1; exact absurd h h1
  · rename_i h1
    split at h
    · rename_i h2; exact absurd h h2
    · rename_i h2
      split at h
      · cases h
      · rename_i h3
        exact ⟨by simpa using h1, by simpa using h2, by simpa using h3⟩
/-- A set that is told: rising, of places. -/
structure Told (c : List Pck) (s : List Int) : Prop where
  lt : s.Pairwise (· < ·)
  at_ : ∀ k ∈ s, inB k 0 ((c.length : Int) - 1) = true
theorem Told.nil {c : List Pck} : Told c [] := ⟨List.Pairwise.nil, by simp⟩
theorem Told.len {c : List Pck} {s : List Int} (h : Told c s) : s.length ≤ c.length := by
  have := len_bound (L := (c.length : Int)) (lo := 0) h.lt fun k hk => by
    have := h.at_ k hk
    simp only [inB, Bool.and_eq_true, decide_eq_true_eq] at this; omega
  omega
theorem rdP_in {c : List Pck} {ws : List (List UInt8)} (h : ¬ rdP c ws < 0) : inB (rdP c ws) 0 ((c.length : Int) - 1) = true := by
  by_cases h2 : ws.length = 2
  · obtain ⟨a, b, rfl⟩ := two_of h2
    rw [rdP] at h ⊢
    split at h
    · rename_i h3; rw [if_pos h3]; exact (findF_spec (by omega)).1
    · omega
  · rw [rdP_no h2] at h; omega
theorem prsL_told {c : List Pck} : ∀ {ls : List (List UInt8)} {i : Nat} {o : List Int}, o.Nodup → (∀ k ∈ o, inB k 0 ((c.length : Int) - 1) = true) → (prsL c ls i o).2.2.Nodup ∧ ∀ k ∈ (prsL c ls i o).2.2, inB k 0 ((c.length : Int) - 1) = true
  | [], i, o, h1, h2 => ⟨h1, h2⟩
  | l :: ls, i, o, h1, h2 => by
    rw [prsL]
    split
    · exact ⟨List.nodup_nil, by simp⟩
    · rename_i h
      have hk := rdP_in (c := c) (ws := wordsP l) fun h' => h (.inl h')
      refine prsL_told ?_ ?_
      · rw [List.nodup_append]
        refine ⟨h1, by simp, fun a ha b hb => ?_⟩
        simp only [List.mem_singleton] at hb
        subst hb
        intro e
        subst e
        exact h (.inr (List.any_eq_true.2 ⟨_, ha, by simp⟩))
      · intro k hk'
        rcases List.mem_append.1 hk' with hk' | hk'
        · exact h2 k hk'
        · simp only [List.mem_singleton] at hk'; subst hk'; exact hk
theorem sortZ_told {c : List Pck} {o : List Int} (h1 : o.Nodup) (h2 : ∀ k ∈ o, inB k 0 ((c.length : Int) - 1) = true) : Told c (sortZ o) :=
  ⟨((sortZ_sorted o).and ((sortZ_perm o).nodup_iff.2 h1)).imp fun h => by have := h.1; have := h.2; omega, fun k hk => h2 k ((sortZ_perm o).mem_iff.1 hk)⟩
theorem prsS_told (c : List Pck) (s : List UInt8) : Told c (prsS c s).2.2 := by
  unfold prsS
  split
  · exact .nil
  · obtain ⟨h1, h2⟩ := prsL_told (c := c) (ls := linesP s) (i := 0) (o := []) List.nodup_nil (by simp)
    exact sortZ_told h1 h2
theorem setW_told (c : List Pck) (l : List Fil) (n : Int) : Told c (setW c l n).2 := by
  unfold setW
  split
  · exact prsS_told c _
  · exact .nil
end Go.Proofs.YtgcnggefeapalaaGreatDoor

/- Walks: sizes of disks. Plain theorems. -/
set_option linter.unusedVariables false
set_option linter.unusedSimpArgs false
namespace Go.Proofs.YtgcnggefeapalaaGreatDoor
open Go Go.Fw
set_option maxRecDepth 100000
def szF (f : Fil) (l : Int) : Int := if szN f.p.length l < 0 then -1 else if szN f.d.length (szN f.p.length l) < 0 then -1 else szN f.d.length (szN f.p.length l)
def cF (f : Fil) : Nat := f.p.length + f.d.length
theorem szF_cost : Costs szF cF := fun o l => by
  unfold szF cF szN
  generalize o.p.length = a
  generalize o.d.length = b
  repeat' split
  all_goals omega
/-- What can stand in memory. -/
structure Fil.Fit (f : Fil) : Prop where
  p : f.p.length ≤ maxLen
  d : f.d.length ≤ maxLen
theorem c_szByteS (d : List UInt8) (l : Int) (h0 : 0 ≤ l) (h1 : l ≤ 1048576) (hm : d.length ≤ maxLen) : PCtr PP n_laws_szByteS [.sl false 1 (d.map byteA), i64 l] (i64 (szN d.length l)) := by
  obtain ⟨Ω, hΩ⟩ : ∃ Ω, Ω = std := ⟨_, rfl⟩
  obtain ⟨r, hr⟩ : ∃ r, r = szN d.length l := ⟨_, rfl⟩
  rw [← hr]
  unfold szN at hr
  have hw := szN_w h0 h1 hm
  obtain ⟨xs, hxs⟩ : ∃ xs, xs = d.map byteA := ⟨_, rfl⟩
  have hlen : xs.length = d.length := by rw [hxs, List.length_map]
  rw [← hxs]
  have hs : Ω.ar .sub .i64 l (Ω.int (Ω.len xs)) = l - d.length := by subst hΩ; rw [← hw]; show IntKind.i64.wrap (l - (xs.length : Int)) = _; rw [hlen]
  generalize (l - d.length : Int) = m at *
  have htab := tab
  refine PCtr.walk tab hΩ fn_laws_szByteS rfl ?_
  generalize PP = P at *
  cbv
  refine br (fun h => ?_) (fun h => ?_) <;> cbv
  · have h := ltI_t hΩ h
    have h : m < 0 := by rw [← hs]; exact h
    exact .of (congrArg i64 (by rw [hr, if_pos h]))
  · have h := ltI_f hΩ h
    have h : 0 ≤ m := by rw [← hs]; exact h
    exact .of (congrArg i64 (by rw [hr, if_neg (by omega)]; exact hs))
theorem c_szFile (o : Fil) (l : Int) (h0 : 0 ≤ l) (h1 : l ≤ 1048576) (hm : o.Fit) : PCtr PP n_laws_szFile [o.enc false, i64 l] (i64 (szF o l)) := by
  obtain ⟨Ω, hΩ⟩ : ∃ Ω, Ω = std := ⟨_, rfl⟩
  obtain ⟨r, hr⟩ : ∃ r, r = szF o l := ⟨_, rfl⟩
  rw [← hr]
  have hw := szN_w h0 h1 hm.p
  have k1 : ∀ l, 0 ≤ l → l ≤ 1048576 → PCtr PP n_laws_szByteS [.sl false 1 (o.d.map byteA), i64 l] (i64 (szN o.d.length l)) := fun l a b => c_szByteS o.d l a b hm.d
  unfold szF at hr
  unfold Fil.enc
  generalize o.d.map byteA = ds at *
  obtain ⟨nc, hnc⟩ : ∃ nc : Int, (o.p.length : Int) = nc := ⟨_, rfl⟩
  have hn0 : 0 ≤ nc := by omega
  rw [show szN o.p.length l = if l - o.p.length < 0 then -1 else l - o.p.length from rfl, hnc] at hr
  have hst : Ω.ar .sub .i64 l (Ω.int (Ω.lenS o.p)) = IntKind.i64.wrap (l - nc) := by subst hΩ; rw [← hnc]; rfl
  rw [hnc] at hw
  rw [hw] at hst
  generalize szN o.d.length = f1 at *
  have htab := tab
  refine PCtr.walk tab hΩ fn_laws_szFile rfl ?_
  generalize PP = P at *
  cbv
  refine br (fun h => ?_) (fun h => ?_) <;> cbv
  · refine .of (congrArg i64 ?_)
    have h : l - nc < 0 := by rw [← hst]; exact ltI_t hΩ h
    rw [hr, if_pos h]; rfl
  obtain ⟨l1, hl1, q0, q1, hr⟩ : ∃ l1, Ω.ar .sub .i64 l (Ω.int (Ω.lenS o.p)) = l1 ∧ 0 ≤ l1 ∧ l1 ≤ 1048576 ∧ r = if f1 l1 < 0 then -1 else f1 l1 := by
    have h : 0 ≤ l - nc := by rw [← hst]; exact ltI_f hΩ h
    have e : (if l - nc < 0 then -1 else l - nc) = l - nc := if_neg (by omega)
    refine ⟨l - nc, hst, h, by omega, ?_⟩
    rw [hr]
    simp only [e]
    rw [if_neg (by omega)]
  have k1' : PCtr P n_laws_szByteS [.sl false 1 ds, i64 (Ω.ar .sub .i64 l (Ω.int (Ω.lenS o.p)))] (i64 (f1 l1)) := by rw [hl1]; exact k1 l1 q0 q1
  generalize f1 l1 = a1 at *
  refine call_pure hΩ 3 k1' rfl (fits _) rfl rfl ?_
  cbv
  refine br (fun h => ?_) (fun h => ?_) <;> cbv
  · exact .of (congrArg i64 (by rw [hr, if_pos (ltI_t hΩ h)]))
  have h := ltI_f hΩ h
  rw [if_neg (by omega)] at hr
  exact .of (congrArg i64 hr.symm)
theorem c_szFileS (cs : List (Fil)) (l : Int) (h0 : 0 ≤ l) (h1 : l ≤ 1048576) (hm : cs.length ≤ maxLen) (hc : ∀ c ∈ cs, c.Fit) : PCtr PP n_laws_szFileS [.sl false 2 (cs.map (Fil.enc false)), i64 l] (i64 (szS szF cs l)) := by
  obtain ⟨Ω, hΩ⟩ : ∃ Ω, Ω = std := ⟨_, rfl⟩
  obtain ⟨r, hr⟩ : ∃ r, r = szS szF cs l := ⟨_, rfl⟩
  obtain ⟨xs, hxs⟩ : ∃ xs, xs = cs.map (Fil.enc false) := ⟨_, rfl⟩
  have hlen : xs.length = cs.length := by rw [hxs, List.length_map]
  rw [← hxs, ← hr]
  have hel : ∀ c ∈ cs, ∀ y, 0 ≤ y → y ≤ 1048576 → PCtr PP n_laws_szFile [Fil.enc false c, i64 y] (i64 (szF c y)) := fun c h y a b => c_szFile c y a b (hc c h)
  have hle : ∀ c y, 0 ≤ szF c y → szF c y ≤ y := fun c y h => by
    have h2 := szF_cost c y
    rw [h2] at h ⊢
    split at h
    · omega
    · rename_i h3; rw [if_neg h3]; omega
  have htab := tab
  refine PCtr.walk tab hΩ fn_laws_szFileS rfl ?_
  generalize PP = P at *
  cbv
  refine br (fun h => ?_) (fun h => ?_)
  · replace h : r = -1 := by
      subst hΩ
      have h : IntKind.i64.wrap (l - xs.length) < 0 := lt_t h
      rw [hlen, szw h0 h1 hm] at h
      rw [hr, szS, if_pos h]
    cbv
    exact .of (congrArg i64 h.symm)
  obtain ⟨l', hl', h, hr⟩ : ∃ l', IntKind.i64.wrap (l - xs.length) = l' ∧ (0 ≤ l' ∧ l' ≤ 1048576) ∧ r = szLoop szF cs l' := by
    subst hΩ
    have h : 0 ≤ IntKind.i64.wrap (l - xs.length) := lt_f h
    rw [hlen, szw h0 h1 hm] at h ⊢
    exact ⟨_, rfl, ⟨h, by omega⟩, by rw [hr, szS, if_neg (by omega)]⟩
  cbv
  refine loopX htab hΩ (fun i : Nat × Int => ⟨[(0, .sl false 2 xs), (1, .sc (.int .i64 i.2)), (5, .sc (.int .i64 (Ω.int i.1)))], 27, []⟩) (fun i => i.1 ≤ cs.length ∧ (0 ≤ i.2 ∧ i.2 ≤ 1048576) ∧ r = szLoop szF (cs.drop i.1) i.2)
    (fun i => cs.length - i.1) (0, l') ⟨Nat.zero_le _, h, hr⟩ (Sbs.mk rfl rfl ⟨rfl, by subst hΩ; exact congrArg i64 hl', zeroI hΩ, trivial⟩) ?_
  rintro ⟨i, y⟩ ⟨hi, hy, he⟩
  dsimp only at hi hy he
  cbv
  refine br (fun h => ?_) (fun h => ?_)
  · replace h := ltI hΩ h
    obtain ⟨c, hcc⟩ := at_of (cs := cs) (by omega : i < cs.length)
    have hcm := List.mem_of_getElem? hcc
    rw [szLoop_at _ hcc] at he
    cbv
    have hcc' := hel c hcm y hy.1 hy.2
    obtain ⟨ds, hen⟩ : ∃ ds, Fil.enc false c = .agg [str c.p, .sl false 1 ds] := ⟨_, rfl⟩
    rw [hen] at hcc'
    refine ⟨⟨nnI hΩ⟩, _, (rdI hΩ hxs hcc).trans (congrArg some hen), ?_⟩
    cbv
    have hley := hle c y
    generalize szF c y = y' at he hcc' hley
    refine call_pure hΩ 3 hcc' rfl (fits _) rfl rfl ?_
    cbv
    refine br (fun h => ?_) (fun h => ?_) <;> cbv
    · exact .of (congrArg i64 (by rw [he, if_pos (ltI_t hΩ h)]))
    · have h := ltI_f hΩ h
      exact ⟨(i + 1, y'), ⟨by dsimp only; omega, ⟨h, by have := hley h; dsimp only; omega⟩, by rw [he, if_neg (by omega)]⟩, by dsimp only; omega, Sbs.mk rfl rfl ⟨rfl, rfl, incI hΩ (by simp only [maxLen] at hm; omega), trivial⟩⟩
  · replace h := geI hΩ h
    cbv
    exact .of (congrArg i64 (by rw [he, List.drop_of_length_le (by omega)]; rfl))
def szD (x : Dsk) (l : Int) : Int := szS szF x.f l
theorem c_szDisk (x : Dsk) (l : Int) (h0 : 0 ≤ l) (h1 : l ≤ 1048576) (hm : x.f.length ≤ maxLen) (hc : ∀ f ∈ x.f, f.Fit) : PCtr PP n_laws_szDisk [x.enc false false, i64 l] (i64 (szD x l)) := by
  obtain ⟨Ω, hΩ⟩ : ∃ Ω, Ω = std := ⟨_, rfl⟩
  have hs := c_szFileS x.f l h0 h1 hm hc
  unfold szD
  have hneg : szS szF x.f l < 0 → szS szF x.f l = -1 := fun h => by
    rw [szS_cost szF_cost] at h ⊢
    split at h
    · rename_i h2; rw [if_pos h2]
    · omega
  unfold Dsk.enc
  generalize szS szF x.f l = r at *
  generalize x.f.map (Fil.enc false) = xs at *
  have htab := tab
  refine PCtr.walk tab hΩ fn_laws_szDisk rfl ?_
  generalize PP = P at *
  cbv
  refine call_pure hΩ 3 hs rfl (fits _) rfl rfl ?_
  cbv
  refine br (fun h => ?_) (fun h => ?_) <;> cbv
  · exact .of (congrArg i64 (hneg (ltI_t hΩ h)).symm)
  · exact .same
def cD (x : Dsk) : Nat := costS cF x.f
theorem szD_cost : Costs szD cD := fun x l => szS_cost szF_cost x.f l
theorem Dsk.fit_of {x : Dsk} (h : cD x ≤ 1048576) : x.Fit := by
  have h1 := len_cost cF x.f
  have h2 := mem_cost cF x.f
  unfold cD at h
  refine ⟨by omega, fun f hf => ?_, fun f hf => ?_, ?_⟩
  · have := h2 f hf; have e : cF f = f.p.length + f.d.length := rfl; omega
  · have := h2 f hf; have e : cF f = f.p.length + f.d.length := rfl; omega
  · have : totL x.f ≤ costS cF x.f := by
      unfold costS totL
      have : ∀ l : List Fil, (l.map fun f => f.d.length).sum ≤ (l.map cF).sum := fun l => by
        induction l with
        | nil => simp
        | cons f l ih => simp only [List.map_cons, List.sum_cons, cF] at *; omega
      have := this x.f
      omega
    omega
end Go.Proofs.YtgcnggefeapalaaGreatDoor

/- Walks: copies of disks. Plain theorems. -/
set_option linter.unusedVariables false
set_option linter.unusedSimpArgs false
namespace Go.Proofs.YtgcnggefeapalaaGreatDoor
open Go Go.Fw
set_option maxRecDepth 100000
theorem c_toByteS (cs : List (UInt8)) (hb : cs.length ≤ 1048576) : PCtr PP n_laws_toByteS [.sl false 1 (cs.map (byteA))] (.sl true 1 (cs.map (byteA))) := by
  obtain ⟨Ω, hΩ⟩ : ∃ Ω, Ω = std := ⟨_, rfl⟩
  obtain ⟨xs, hxs⟩ : ∃ xs, xs = cs.map (byteA) := ⟨_, rfl⟩
  obtain ⟨zs, hzs⟩ : ∃ zs, zs = cs.map (byteA) := ⟨_, rfl⟩
  obtain ⟨n, hn⟩ : ∃ n, n = cs.length := ⟨_, rfl⟩
  have hlen : xs.length = n := by rw [hxs, hn, List.length_map]
  obtain ⟨ys, hys⟩ : ∃ ys : Nat → List A, ys = fill (byteA) (.sc (.int .u8 0)) cs := ⟨_, rfl⟩
  have hyl : ∀ i, i ≤ n → (ys i).length = n := fun i hi => by rw [hys, hn]; exact fill_length (by omega)
  have hya : ∀ i, ∀ z ∈ ys i, vStore.isAggA z = false := fun i => by rw [hys]; exact fill_all (fun _ => rfl) rfl
  have hy0 : List.replicate n (.sc (.int .u8 0)) = ys 0 := by rw [hys, fill_zero, hn]
  have hyn : ys n = zs := by rw [hys, hn, fill_full, hzs]
  have hyset : ∀ i c, cs[i]? = some c → (ys i).set i ((byteA) c) = ys (i + 1) := fun i c h => by rw [hys]; exact fill_set h
  clear hys
  rw [← hxs]
  rw [show A.sl true 1 xs = .sl true 1 zs by rw [hzs, hxs]]
  refine PCtr.walk tab hΩ fn_laws_toByteS rfl ?_
  have htab := tab
  have hmo := hmo
  generalize PP = P at *
  cbv
  refine ⟨⟨by subst hΩ; show _ ∧ (0 : Int) ≤ xs.length ∧ 1 * ((xs.length : Int).toNat) ≤ _ ∧ (xs.length : Int).toNat ≤ 9223372036854775807; rw [hlen]; refine ⟨rfl, ?_, ?_, ?_⟩ <;> omega⟩,
    loopX htab hΩ (fun i : Nat => ⟨[(0, .sl false 1 xs), (3, .vw 0 0 n), (4, .sc (.int .i64 (Ω.int i)))], 22, [some ⟨1, ys i, false⟩]⟩) (fun i => i ≤ n) (fun i => n - i) 0 (Nat.zero_le _) (Sbs.mk rfl ?_ ?_) (fun i hi => ?_)⟩
  · rw [← hy0]; subst hΩ; subst hlen; rfl
  · subst hΩ; subst hlen; exact ⟨rfl, rfl, rfl, trivial⟩
  have hyli := hyl i hi
  have hyai := hya i
  cbv
  refine br (fun h => ?_) (fun h => ?_)
  · replace h : i < n := by have := ltI hΩ h; omega
    obtain ⟨c, hcc⟩ := at_of (cs := cs) (by omega : i < cs.length)
    have hset := hyset i c hcc
    cbv
    refine ⟨⟨nnI hΩ⟩, _, rdI hΩ hxs hcc, ?_⟩
    cbv
    refine ⟨⟨ixI hΩ h⟩, ⟨by subst hΩ; show 0 + i < _; rw [hyli]; omega, hyai⟩, i + 1, by omega, by omega, Sbs.mk rfl (by rw [← hset]; subst hΩ; show [some (Row.mk 1 ((ys i).set (0 + i) _) false)] = _; rw [Nat.zero_add]; rfl) ⟨rfl, rfl, incI hΩ (by omega), trivial⟩⟩
  · replace h : i = n := by have := geI hΩ h; omega
    subst h
    cbv
    refine ⟨⟨rfl, by show i ≤ (ys i).length; omega⟩, .of ?_⟩
    rw [← hyn]
    subst hΩ
    show A.sl true 1 ((ys i).take i) = _
    rw [List.take_of_length_le (by omega)]
theorem roF_B (l : List UInt8) : roFree (.sl true 1 (l.map byteA)) = true := roFAll fun x hx => by obtain ⟨c, _, rfl⟩ := List.mem_map.1 hx; rfl
theorem roFF (o : Fil) : roFree (o.enc true) = true := by
  show roFree (.agg _) = true
  rw [roFree_agg]
  have h1 := roF_B o.d
  simp only [List.all_cons, List.all_nil, h1]
  rfl
theorem roFFs (l : List Fil) : roFree (.sl true 2 (l.map (Fil.enc true))) = true := roFAll fun x hx => by obtain ⟨c, _, rfl⟩ := List.mem_map.1 hx; exact roFF c
theorem roFD (x : Dsk) : roFree (x.enc true true) = true := by
  show roFree (.agg _) = true
  rw [roFree_agg]
  have h1 := roFFs x.f
  simp only [List.all_cons, List.all_nil, h1]
  rfl
theorem c_toFile (o : Fil) (hs : o.d.length ≤ 1048576) : PCtr PP n_laws_toFile [o.enc false] (o.enc true) := by
  obtain ⟨Ω, hΩ⟩ : ∃ Ω, Ω = std := ⟨_, rfl⟩
  have h1 := c_toByteS o.d hs
  have r1 := roF_B o.d
  unfold Fil.enc
  generalize o.d.map byteA = ds at *
  refine PCtr.walk tab hΩ fn_laws_toFile rfl ?_
  have htab := tab
  have hmo := hmo
  generalize PP = P at *
  cbv
  refine call_pure hΩ 3 h1 rfl (fits _) r1 rfl ?_
  cbv
  refine ⟨⟨rfl, by subst hΩ; exact Nat.le_refl _⟩, .of ?_⟩
  subst hΩ
  show A.agg [str o.p, A.sl true 1 (ds.take ds.length)] = _
  rw [List.take_length]; rfl
theorem c_toFileS (cs : List (Fil)) (hb : cs.length ≤ 1048576) (hl : ∀ f ∈ cs, f.d.length ≤ 1048576) : PCtr PP n_laws_toFileS [.sl false 2 (cs.map (Fil.enc false))] (.sl true 2 (cs.map (Fil.enc true))) := by
  obtain ⟨Ω, hΩ⟩ : ∃ Ω, Ω = std := ⟨_, rfl⟩
  obtain ⟨xs, hxs⟩ : ∃ xs, xs = cs.map (Fil.enc false) := ⟨_, rfl⟩
  obtain ⟨zs, hzs⟩ : ∃ zs, zs = cs.map (Fil.enc true) := ⟨_, rfl⟩
  obtain ⟨n, hn⟩ : ∃ n, n = cs.length := ⟨_, rfl⟩
  have hlen : xs.length = n := by rw [hxs, hn, List.length_map]
  obtain ⟨ys, hys⟩ : ∃ ys : Nat → List A, ys = fill (Fil.enc true) (.agg [str [], .nil]) cs := ⟨_, rfl⟩
  have hyl : ∀ i, i ≤ n → (ys i).length = n := fun i hi => by rw [hys, hn]; exact fill_length (by omega)
  have hya : ∀ i, ∀ z ∈ ys i, isAggN 2 z = true := fun i => by rw [hys]; exact fill_all (fun _ => rfl) rfl
  have hy0 : List.replicate n (.agg [str [], .nil]) = ys 0 := by rw [hys, fill_zero, hn]
  have hyn : ys n = zs := by rw [hys, hn, fill_full, hzs]
  have hyset : ∀ i c, cs[i]? = some c → (ys i).set i ((Fil.enc true) c) = ys (i + 1) := fun i c h => by rw [hys]; exact fill_set h
  clear hys
  rw [← hxs, ← hzs]
  have hcl : ∀ c ∈ cs, PCtr PP n_laws_toFile [Fil.enc false c] (Fil.enc true c) := fun c h => c_toFile c (hl c h)
  refine PCtr.walk tab hΩ fn_laws_toFileS rfl ?_
  have htab := tab
  have hmo := hmo
  generalize PP = P at *
  cbv
  refine ⟨⟨by subst hΩ; show _ ∧ (0 : Int) ≤ xs.length ∧ 40 * ((xs.length : Int).toNat) ≤ _ ∧ (xs.length : Int).toNat ≤ 9223372036854775807; rw [hlen]; refine ⟨rfl, ?_, ?_, ?_⟩ <;> omega⟩,
    loopX htab hΩ (fun i : Nat => ⟨[(0, .sl false 2 xs), (3, .vw 0 0 n), (4, .sc (.int .i64 (Ω.int i)))], 23, [some ⟨2, ys i, false⟩]⟩) (fun i => i ≤ n) (fun i => n - i) 0 (Nat.zero_le _) (Sbs.mk rfl ?_ ?_) (fun i hi => ?_)⟩
  · rw [← hy0]; subst hΩ; subst hlen; rfl
  · subst hΩ; subst hlen; exact ⟨rfl, rfl, rfl, trivial⟩
  have hyli := hyl i hi
  have hyai := hya i
  cbv
  refine br (fun h => ?_) (fun h => ?_)
  · replace h : i < n := by have := ltI hΩ h; omega
    obtain ⟨c, hcc⟩ := at_of (cs := cs) (by omega : i < cs.length)
    have hset := hyset i c hcc
    cbv
    obtain ⟨ds, hen, hen2⟩ : ∃ ds, Fil.enc false c = .agg [str c.p, .sl false 1 ds] ∧ Fil.enc true c = .agg [str c.p, .sl true 1 ds] := ⟨_, rfl, rfl⟩
    have hcc' := hcl c (List.mem_of_getElem? hcc)
    have hrf := roFF c
    rw [hen2] at hrf hset
    rw [hen, hen2] at hcc'
    refine ⟨⟨nnI hΩ⟩, _, (rdI hΩ hxs hcc).trans (congrArg some hen), ?_⟩
    cbv
    refine call_pure hΩ 3 hcc' rfl (fits _) hrf rfl ?_
    cbv
    refine ⟨⟨ixI hΩ h⟩, ⟨rfl, by subst hΩ; exact Nat.le_refl _⟩, ⟨by subst hΩ; show 0 + i < _; rw [hyli]; omega, hyai⟩, i + 1, by omega, by omega,
      Sbs.trans (Sbs.lastN (rows := [_]) rfl) (Sbs.mk rfl ?_ ⟨rfl, rfl, incI hΩ (by omega), trivial⟩)⟩
    rw [← hset]
    subst hΩ
    show [some (Row.mk 2 ((ys i).set (0 + i) (A.agg [str c.p, A.sl true 1 (ds.take ds.length)])) false)] = _
    rw [List.take_length, Nat.zero_add]
  · replace h : i = n := by have := geI hΩ h; omega
    subst h
    cbv
    refine ⟨⟨rfl, by show i ≤ (ys i).length; omega⟩, .of ?_⟩
    rw [← hyn]
    subst hΩ
    show A.sl true 2 ((ys i).take i) = _
    rw [List.take_of_length_le (by omega)]
theorem c_toDisk (x : Dsk) (hx : x.Fit) : PCtr PP n_laws_toDisk [x.enc false false] (x.enc true true) := by
  obtain ⟨Ω, hΩ⟩ : ∃ Ω, Ω = std := ⟨_, rfl⟩
  have h1 := c_toFileS x.f hx.n hx.d
  have r1 := roFFs x.f
  unfold Dsk.enc
  generalize x.f.map (Fil.enc false) = xs at *
  generalize x.f.map (Fil.enc true) = ys at *
  refine PCtr.walk tab hΩ fn_laws_toDisk rfl ?_
  have htab := tab
  have hmo := hmo
  generalize PP = P at *
  cbv
  refine call_pure hΩ 3 h1 rfl (fits _) r1 rfl ?_
  cbv
  refine ⟨⟨rfl, by subst hΩ; exact Nat.le_refl _⟩, .of ?_⟩
  subst hΩ
  show A.agg [A.sl true 2 (ys.take ys.length), i64 x.bg, i64 x.wr, i64 x.st, boo x.dn] = _
  rw [List.take_length]; rfl
end Go.Proofs.YtgcnggefeapalaaGreatDoor

/- Walks: what is wrong with a disk. Plain theorems. -/
set_option linter.unusedVariables false
set_option linter.unusedSimpArgs false
namespace Go.Proofs.YtgcnggefeapalaaGreatDoor
open Go Go.Fw
set_option maxRecDepth 100000
/-- The step of filsF at place i, told by what the code asks. -/
structure FilStep (Ω : Opq) (l : List Fil) (r R : Int) (i : Nat) (c : Fil) : Prop where
  bad : ∀ q, pathF c.p = q → q ≠ 0 → r = q
  old : ∀ p, pathF c.p = 0 → 0 < i → l[i - 1]? = some p → Ω.cmpS .leq c.p p.p = true → r = 1
  big : pathF c.p = 0 → (i = 0 ∨ ∃ p, l[i - 1]? = some p ∧ Ω.cmpS .leq c.p p.p = false) → Ω.cmp .gtr (Ω.int (Ω.len (c.d.map byteA))) 4000 = true → r = 2
  next : pathF c.p = 0 → (i = 0 ∨ ∃ p, l[i - 1]? = some p ∧ Ω.cmpS .leq c.p p.p = false) → Ω.cmp .gtr (Ω.int (Ω.len (c.d.map byteA))) 4000 = false → r = if filsF (prevP l (i + 1)) (l.drop (i + 1)) ≠ 0 then filsF (prevP l (i + 1)) (l.drop (i + 1)) else R
theorem filStep {Ω : Opq} (hΩ : Ω = std) {l : List Fil} {r R : Int} {i : Nat} {c : Fil} (hc : l[i]? = some c) (hr : r = if filsF (prevP l i) (l.drop i) ≠ 0 then filsF (prevP l i) (l.drop i) else R) : FilStep Ω l r R i c := by
  subst hΩ
  rw [filsF_at hc] at hr
  have hpv : ∀ p, 0 < i → l[i - 1]? = some p → prevP l i = some p.p := fun p h0 hp => by unfold prevP; rw [if_neg (by omega), hp]; rfl
  have hle : ∀ a b : List UInt8, std.cmpS .leq a b = leB a b := fun a b => rfl
  have hbg : std.cmp .gtr (std.int (std.len (c.d.map byteA))) 4000 = decide (4000 < c.d.length) := by
    show decide ((4000 : Int) < ((c.d.map byteA).length : Int)) = _
    rw [List.length_map]
    exact decide_eq_decide.2 (by omega)
  have hno : (i = 0 ∨ ∃ p, l[i - 1]? = some p ∧ std.cmpS .leq c.p p.p = false) → (prevP l i).any (leB c.p) = false := fun h => by
    rcases Nat.eq_zero_or_pos i with h0 | h0
    · subst h0; rfl
    · obtain ⟨p, h1, h2⟩ := h.resolve_left (by omega)
      rw [hpv p h0 h1]; rw [hle] at h2; exact h2
  refine ⟨fun q h1 h2 => ?_, fun p h1 h2 h3 h4 => ?_, fun h1 h2 h3 => ?_, fun h1 h2 h3 => ?_⟩
  · rw [if_pos (by rw [if_pos (by rw [h1]; exact h2), h1]; exact h2), if_pos (by rw [h1]; exact h2), h1] at hr; exact hr
  · have e : (prevP l i).any (leB c.p) = true := by rw [hpv p h2 h3]; rw [hle] at h4; exact h4
    rw [if_neg (show ¬ pathF c.p ≠ 0 by rw [h1]; simp), if_pos e] at hr
    simpa using hr
  · rw [hbg, decide_eq_true_eq] at h3
    rw [if_neg (show ¬ pathF c.p ≠ 0 by rw [h1]; simp), hno h2, if_neg (show ¬ false = true by simp), if_pos h3] at hr
    simpa using hr
  · rw [hbg, decide_eq_false_iff_not] at h3
    rw [if_neg (show ¬ pathF c.p ≠ 0 by rw [h1]; simp), hno h2, if_neg (show ¬ false = true by simp), if_neg h3] at hr
    exact hr
/-- What a disk's fault is, told by what the code asks. -/
structure DskAsk (Ω : Opq) (F : Int → Int → Int → Bool) (x : Dsk) (n : Nat) (r : Int) : Prop where
  i1 : F x.bg 0 20000 = false → r = 3
  i2 : F x.wr 0 1000000000 = false → r = 3
  i3 : F x.st (-1) 1000000000 = false → r = 3
  i4 : F x.bg 0 20000 = true → F x.wr 0 1000000000 = true → F x.st (-1) 1000000000 = true → Ω.cmp .gtr (Ω.int n) 120 = true → r = 2
  i5 : F x.bg 0 20000 = true → F x.wr 0 1000000000 = true → F x.st (-1) 1000000000 = true → Ω.cmp .gtr (Ω.int n) 120 = false → n ≤ 120 ∧ r = if filsF (prevP x.f 0) (x.f.drop 0) ≠ 0 then filsF (prevP x.f 0) (x.f.drop 0) else if x.bg < (totL x.f : Int) then 8 else 0
theorem dskAsk {Ω : Opq} (hΩ : Ω = std) (x : Dsk) : DskAsk Ω inB x x.f.length (dskF x) := by
  subst hΩ
  unfold dskF
  refine ⟨fun h => ?_, fun h => ?_, fun h => ?_, fun h1 h2 h3 h => ?_, fun h1 h2 h3 h => ?_⟩
  · rw [h]; rfl
  · rw [h]; cases inB x.bg 0 20000 <;> rfl
  · rw [h]; cases inB x.bg 0 20000 <;> cases inB x.wr 0 1000000000 <;> rfl
  · rw [h1, h2, h3, if_neg (by simp), if_pos (by have h : (120 : Int) < x.f.length := gt_t h; omega)]
  · have h : (x.f.length : Int) ≤ 120 := gt_f h
    refine ⟨by omega, ?_⟩
    rw [h1, h2, h3, if_neg (by simp), if_neg (by omega)]; rfl
theorem c_specDiskFault (x : Dsk) (hl : x.f.length ≤ 1048576) (ht : totL x.f ≤ 1099511627776) : PCtr PP n_spec_DiskFault [x.enc false false] (i64 (dskF x)) := by
  obtain ⟨Ω, hΩ⟩ : ∃ Ω, Ω = std := ⟨_, rfl⟩
  have ha := dskAsk hΩ x
  obtain ⟨r, hr⟩ : ∃ r, r = dskF x := ⟨_, rfl⟩
  have htt := c_l7Total x hl ht
  have hin := c_l1In
  have hpa : ∀ s, ∃ q, pathF s = q ∧ PCtr PP n_spec_PathFault [str s] (i64 q) := fun s => ⟨_, rfl, c_specPathFault s⟩
  rw [← hr] at ha ⊢
  unfold Dsk.see at htt
  unfold Dsk.enc
  obtain ⟨l, v1, v2, v3, v4⟩ := x
  dsimp only at *
  have hst : ∀ i c, l[i]? = some c → r = (if filsF (prevP l i) (l.drop i) ≠ 0 then filsF (prevP l i) (l.drop i) else if v1 < (totL l : Int) then 8 else 0) → FilStep Ω l r (if v1 < (totL l : Int) then 8 else 0) i c := fun i c hc h => filStep hΩ hc h
  obtain ⟨n, hn⟩ : ∃ n, n = l.length := ⟨_, rfl⟩
  rw [← hn] at ha
  obtain ⟨xs, hxs⟩ : ∃ xs, xs = l.map (Fil.enc false) := ⟨_, rfl⟩
  rw [← hxs] at htt ⊢
  have hlen : Ω.int (Ω.len xs) = Ω.int n := by subst hΩ; show ((xs.length : Nat) : Int) = _; rw [hxs, List.length_map, hn]; rfl
  have hat : ∀ i c, l[i]? = some c → xs[(Ω.int i).toNat]? = some (.agg [str c.p, .sl false 1 (c.d.map byteA)]) := fun i c hc => (rdI hΩ hxs hc).trans rfl
  have hend : ∀ i, n ≤ i → l.drop i = [] := fun i hi => List.drop_of_length_le (by omega)
  have hnl : ∀ i, i < n → ∃ c, l[i]? = some c := fun i hi => at_of (by omega)
  generalize hT : (totL l : Int) = tt at *
  obtain ⟨i1, i2, i3, i4, i5⟩ := ha
  dsimp only at i1 i2 i3 i4 i5
  rw [hT] at i5
  have hin1 := hin v1 0 20000
  have hin2 := hin v2 0 1000000000
  have hin3 := hin v3 (-1) 1000000000
  generalize inB v1 0 20000 = b1 at *
  generalize inB v2 0 1000000000 = b2 at *
  generalize inB v3 (-1) 1000000000 = b3 at *
  have fin1 : v1 < tt → (if v1 < tt then (8 : Int) else 0) = 8 := fun h => if_pos h
  have fin2 : tt ≤ v1 → (if v1 < tt then (8 : Int) else 0) = 0 := fun h => if_neg (by omega)
  generalize (if v1 < tt then (8 : Int) else 0) = R at *
  have htab := tab
  have hmo := hmo
  refine PCtr.walk tab hΩ fn_spec_DiskFault rfl ?_
  generalize PP = P at *
  cbv
  refine call_pure hΩ 3 hin1 rfl (fits _) rfl rfl ?_
  cbv
  refine br (fun h1 => ?_) (fun h1 => ?_) <;> cbv
  · exact .of (congrArg i64 (i1 (notA hΩ h1)).symm)
  have h1 := notB hΩ h1
  refine call_pure hΩ 3 hin2 rfl (fits _) rfl rfl ?_
  cbv
  refine br (fun h2 => ?_) (fun h2 => ?_) <;> cbv
  · exact .of (congrArg i64 (i2 (notA hΩ (iteB hΩ h2))).symm)
  have h2 := notB hΩ (iteB hΩ h2)
  refine call_pure hΩ 3 hin3 rfl (fits _) rfl rfl ?_
  cbv
  refine br (fun h3 => ?_) (fun h3 => ?_) <;> cbv
  · exact .of (congrArg i64 (i3 (notA hΩ (iteB hΩ h3))).symm)
  have h3 := notB hΩ (iteB hΩ h3)
  refine br (fun h4 => ?_) (fun h4 => ?_) <;> cbv
  · exact .of (congrArg i64 (i4 h1 h2 h3 (by rw [← hlen]; exact h4)).symm)
  obtain ⟨hn120, he0⟩ := i5 h1 h2 h3 (by rw [← hlen]; exact h4)
  refine loopX htab hΩ (fun i : Nat => ⟨[(1, .rp [.sl false 2 xs, i64 v1, i64 v2, i64 v3, boo v4]), (3, i64 (Ω.int i))], 72, []⟩) (fun i => i ≤ n ∧ r = if filsF (prevP l i) (l.drop i) ≠ 0 then filsF (prevP l i) (l.drop i) else R) (fun i => n - i) 0 ⟨Nat.zero_le _, he0⟩
    (((Sbs.unlk (r := 0) rfl rfl).trans (Sbs.thaw0 (r := 0) rfl rfl rfl)).trans ((Sbs.cut 0 rfl).trans (Sbs.mk rfl rfl ⟨rfl, zeroI hΩ, trivial⟩))) ?_
  rintro i ⟨hi, he⟩
  cbv
  refine br (fun h => ?_) (fun h => ?_) <;> cbv
  · have h := ltZt hΩ h
    have h : i < n := by rw [hlen] at h; subst hΩ; have h : (i : Int) < (n : Int) := h; omega
    obtain ⟨c, hc⟩ := hnl i h
    have st := hst i c hc he
    obtain ⟨q, hq, hcq⟩ := hpa c.p
    have hac := hat i c hc
    obtain ⟨sb, so, sg, sn⟩ := st
    have hi1 : i + 1 ≤ n := by omega
    have hlt : n - (i + 1) < n - i := by omega
    have hinc : i64 (Ω.ar .add .i64 (Ω.int i) 1) = i64 (Ω.int (i + 1)) := incI hΩ (by omega)
    have hprev : 0 < i → ∃ p, l[i - 1]? = some p ∧ xs[(Ω.ar .sub .i64 (Ω.int i) 1).toNat]? = some (.agg [str p.p, .sl false 1 (p.d.map byteA)]) ∧ 0 ≤ Ω.ar .sub .i64 (Ω.int i) 1 := fun h0 => by
      obtain ⟨p, hp⟩ := hnl (i - 1) (by omega)
      obtain ⟨k1, k2⟩ := subI hΩ h0 (by omega)
      refine ⟨p, hp, ?_, k1⟩
      rw [k2, ← hat (i - 1) p hp]
      subst hΩ; rfl
    generalize c.d.map byteA = cd at *
    refine ⟨⟨nnI hΩ⟩, _, hac, ?_⟩
    cbv
    refine call_pure hΩ 3 hcq rfl (fits _) rfl rfl ?_
    cbv
    refine br (fun g => ?_) (fun g => ?_) <;> cbv
    · exact .of (congrArg i64 (sb q hq (neZt hΩ g)).symm)
    have g := neZf hΩ g
    have hq0 : pathF c.p = 0 := by rw [hq, g]
    refine ⟨VC_drawn htab hΩ hmo (by kernel_rfl) ?_⟩
    cbv
    have last : (i = 0 ∨ ∃ p, l[i - 1]? = some p ∧ Ω.cmpS .leq c.p p.p = false) → ∀ b, Ω.cmp .gtr (Ω.int (Ω.len cd)) 4000 = b → (b = true → r = 2) ∧ (b = false → (i + 1 ≤ n ∧ r = if filsF (prevP l (i + 1)) (l.drop (i + 1)) ≠ 0 then filsF (prevP l (i + 1)) (l.drop (i + 1)) else R)) :=
      fun h b hb => ⟨fun e => sg hq0 h (by rw [hb, e]), fun e => ⟨hi1, sn hq0 h (by rw [hb, e])⟩⟩
    refine br (fun k => ?_) (fun k => ?_) <;> cbv
    · have k := gtZt hΩ k
      have k : 0 < i := by subst hΩ; have k : (0 : Int) < (i : Int) := k; omega
      obtain ⟨p, hp, hpat, hp0⟩ := hprev k
      refine ⟨⟨nnI hΩ⟩, _, hac, ?_⟩
      cbv
      refine ⟨⟨hp0⟩, _, hpat, ?_⟩
      cbv
      refine br (fun m => ?_) (fun m => ?_) <;> cbv
      · exact .of (congrArg i64 (so p hq0 k hp (iteA hΩ m)).symm)
      have last := last (.inr ⟨p, hp, iteA hΩ m⟩)
      refine ⟨⟨nnI hΩ⟩, _, hac, ?_⟩
      cbv
      refine br (fun o => ?_) (fun o => ?_) <;> cbv
      · exact .of (congrArg i64 ((last _ o).1 rfl).symm)
      · exact ⟨i + 1, (last _ o).2 rfl, hlt, Sbs.mk rfl rfl ⟨rfl, hinc, trivial⟩⟩
    · have k := gtZf hΩ k
      have k : i = 0 := by subst hΩ; have k : (i : Int) ≤ 0 := k; omega
      have last := last (.inl k)
      refine ⟨⟨nnI hΩ⟩, _, hac, ?_⟩
      cbv
      refine br (fun o => ?_) (fun o => ?_) <;> cbv
      · exact .of (congrArg i64 ((last _ o).1 rfl).symm)
      · exact ⟨i + 1, (last _ o).2 rfl, hlt, Sbs.mk rfl rfl ⟨rfl, hinc, trivial⟩⟩
  · have h := ltZf hΩ h
    have h : i = n := by rw [hlen] at h; subst hΩ; have h : (n : Int) ≤ (i : Int) := h; omega
    have he : r = R := by rw [h, hend n (Nat.le_refl _)] at he; exact he.trans (if_neg (by simp [filsF]))
    refine ⟨VC_drawn htab hΩ hmo (by kernel_rfl) ?_⟩
    cbv
    refine QCall_pure (k := 3) htt rfl (fits _) rfl ?_
    cbv
    refine br (fun g => ?_) (fun g => ?_) <;> cbv
    · exact .of (congrArg i64 (by rw [he, fin1 (gtZt hΩ g)]))
    · exact .of (congrArg i64 (by rw [he, fin2 (gtZf hΩ g)]))
end Go.Proofs.YtgcnggefeapalaaGreatDoor

/- Walks: what is wrong with a disk, in the implementation. Plain theorems. -/
set_option linter.unusedVariables false
set_option linter.unusedSimpArgs false
namespace Go.Proofs.YtgcnggefeapalaaGreatDoor
open Go Go.Fw
set_option maxRecDepth 100000
theorem c_implDiskFault (x : Dsk) (hl : x.f.length ≤ 1048576) (ht : totL x.f ≤ 1099511627776) : PCtr PP n_impl_DiskFault [x.enc false false] (i64 (dskF x)) := by
  obtain ⟨Ω, hΩ⟩ : ∃ Ω, Ω = std := ⟨_, rfl⟩
  have ha := dskAsk hΩ x
  obtain ⟨r, hr⟩ : ∃ r, r = dskF x := ⟨_, rfl⟩
  have htt := c_total x hl ht
  have hin := c_within
  have hpa : ∀ s, ∃ q, pathF s = q ∧ PCtr PP n_impl_PathFault [str s] (i64 q) := fun s => ⟨_, rfl, c_implPathFault s⟩
  rw [← hr] at ha ⊢
  unfold Dsk.enc at htt ⊢
  obtain ⟨l, v1, v2, v3, v4⟩ := x
  dsimp only at *
  have hst : ∀ i c, l[i]? = some c → r = (if filsF (prevP l i) (l.drop i) ≠ 0 then filsF (prevP l i) (l.drop i) else if v1 < (totL l : Int) then 8 else 0) → FilStep Ω l r (if v1 < (totL l : Int) then 8 else 0) i c := fun i c hc h => filStep hΩ hc h
  obtain ⟨n, hn⟩ : ∃ n, n = l.length := ⟨_, rfl⟩
  rw [← hn] at ha
  obtain ⟨xs, hxs⟩ : ∃ xs, xs = l.map (Fil.enc false) := ⟨_, rfl⟩
  rw [← hxs] at htt ⊢
  have hlen : Ω.int (Ω.len xs) = Ω.int n := by subst hΩ; show ((xs.length : Nat) : Int) = _; rw [hxs, List.length_map, hn]; rfl
  have hat : ∀ i c, l[i]? = some c → xs[(Ω.int i).toNat]? = some (.agg [str c.p, .sl false 1 (c.d.map byteA)]) := fun i c hc => (rdI hΩ hxs hc).trans rfl
  have hend : ∀ i, n ≤ i → l.drop i = [] := fun i hi => List.drop_of_length_le (by omega)
  have hnl : ∀ i, i < n → ∃ c, l[i]? = some c := fun i hi => at_of (by omega)
  generalize hT : (totL l : Int) = tt at *
  obtain ⟨i1, i2, i3, i4, i5⟩ := ha
  dsimp only at i1 i2 i3 i4 i5
  rw [hT] at i5
  have hin1 := hin v1 0 20000
  have hin2 := hin v2 0 1000000000
  have hin3 := hin v3 (-1) 1000000000
  generalize inB v1 0 20000 = b1 at *
  generalize inB v2 0 1000000000 = b2 at *
  generalize inB v3 (-1) 1000000000 = b3 at *
  have fin1 : v1 < tt → (if v1 < tt then (8 : Int) else 0) = 8 := fun h => if_pos h
  have fin2 : tt ≤ v1 → (if v1 < tt then (8 : Int) else 0) = 0 := fun h => if_neg (by omega)
  generalize (if v1 < tt then (8 : Int) else 0) = R at *
  have htab := tab
  have hmo := hmo
  refine PCtr.walk tab hΩ fn_impl_DiskFault rfl ?_
  generalize PP = P at *
  cbv
  refine call_pure hΩ 3 hin1 rfl (fits _) rfl rfl ?_
  cbv
  refine br (fun h1 => ?_) (fun h1 => ?_) <;> cbv
  · exact .of (congrArg i64 (i1 (notA hΩ h1)).symm)
  have h1 := notB hΩ h1
  refine call_pure hΩ 3 hin2 rfl (fits _) rfl rfl ?_
  cbv
  refine br (fun h2 => ?_) (fun h2 => ?_) <;> cbv
  · exact .of (congrArg i64 (i2 (notA hΩ (iteB hΩ h2))).symm)
  have h2 := notB hΩ (iteB hΩ h2)
  refine call_pure hΩ 3 hin3 rfl (fits _) rfl rfl ?_
  cbv
  refine br (fun h3 => ?_) (fun h3 => ?_) <;> cbv
  · exact .of (congrArg i64 (i3 (notA hΩ (iteB hΩ h3))).symm)
  have h3 := notB hΩ (iteB hΩ h3)
  refine br (fun h4 => ?_) (fun h4 => ?_) <;> cbv
  · exact .of (congrArg i64 (i4 h1 h2 h3 (by rw [← hlen]; exact h4)).symm)
  obtain ⟨hn120, he0⟩ := i5 h1 h2 h3 (by rw [← hlen]; exact h4)
  refine loopX htab hΩ (fun i : Nat => ⟨[(1, .rp [.sl false 2 xs, i64 v1, i64 v2, i64 v3, boo v4]), (29, .sl false 2 xs), (30, i64 (Ω.int n)), (31, i64 (Ω.int i))], 68, []⟩) (fun i => i ≤ n ∧ r = if filsF (prevP l i) (l.drop i) ≠ 0 then filsF (prevP l i) (l.drop i) else R) (fun i => n - i) 0 ⟨Nat.zero_le _, he0⟩
    (((Sbs.unlk (r := 0) rfl rfl).trans (Sbs.thaw0 (r := 0) rfl rfl rfl)).trans ((Sbs.cut 0 rfl).trans (Sbs.mk rfl rfl ⟨rfl, rfl, congrArg i64 hlen, zeroI hΩ, trivial⟩))) ?_
  rintro i ⟨hi, he⟩
  cbv
  refine br (fun h => ?_) (fun h => ?_) <;> cbv
  · have h := ltZt hΩ h
    have h : i < n := by subst hΩ; have h : (i : Int) < (n : Int) := h; omega
    obtain ⟨c, hc⟩ := hnl i h
    have st := hst i c hc he
    obtain ⟨q, hq, hcq⟩ := hpa c.p
    have hac := hat i c hc
    obtain ⟨sb, so, sg, sn⟩ := st
    have hi1 : i + 1 ≤ n := by omega
    have hlt : n - (i + 1) < n - i := by omega
    have hinc : i64 (Ω.ar .add .i64 (Ω.int i) 1) = i64 (Ω.int (i + 1)) := incI hΩ (by omega)
    have hprev : 0 < i → ∃ p, l[i - 1]? = some p ∧ xs[(Ω.ar .sub .i64 (Ω.int i) 1).toNat]? = some (.agg [str p.p, .sl false 1 (p.d.map byteA)]) ∧ 0 ≤ Ω.ar .sub .i64 (Ω.int i) 1 := fun h0 => by
      obtain ⟨p, hp⟩ := hnl (i - 1) (by omega)
      obtain ⟨k1, k2⟩ := subI hΩ h0 (by omega)
      refine ⟨p, hp, ?_, k1⟩
      rw [k2, ← hat (i - 1) p hp]
      subst hΩ; rfl
    generalize c.d.map byteA = cd at *
    refine ⟨⟨nnI hΩ⟩, _, hac, ?_⟩
    cbv
    refine call_pure hΩ 3 hcq rfl (fits _) rfl rfl ?_
    cbv
    refine br (fun g => ?_) (fun g => ?_) <;> cbv
    · exact .of (congrArg i64 (sb q hq (neZt hΩ g)).symm)
    have g := neZf hΩ g
    have hq0 : pathF c.p = 0 := by rw [hq, g]
    refine ⟨VC.sub (VC_drawn htab hΩ hmo (by kernel_rfl) ?_) ((Sbs.unlk (r := 0) rfl rfl).trans (Sbs.thaw0 (r := 0) rfl rfl rfl))⟩
    cbv
    have last : (i = 0 ∨ ∃ p, l[i - 1]? = some p ∧ Ω.cmpS .leq c.p p.p = false) → ∀ b, Ω.cmp .gtr (Ω.int (Ω.len cd)) 4000 = b → (b = true → r = 2) ∧ (b = false → (i + 1 ≤ n ∧ r = if filsF (prevP l (i + 1)) (l.drop (i + 1)) ≠ 0 then filsF (prevP l (i + 1)) (l.drop (i + 1)) else R)) :=
      fun h b hb => ⟨fun e => sg hq0 h (by rw [hb, e]), fun e => ⟨hi1, sn hq0 h (by rw [hb, e])⟩⟩
    refine br (fun k => ?_) (fun k => ?_) <;> cbv
    · have k := gtZt hΩ k
      have k : 0 < i := by subst hΩ; have k : (0 : Int) < (i : Int) := k; omega
      obtain ⟨p, hp, hpat, hp0⟩ := hprev k
      refine ⟨⟨hp0⟩, _, hpat, ?_⟩
      cbv
      refine br (fun m => ?_) (fun m => ?_) <;> cbv
      · exact .of (congrArg i64 (so p hq0 k hp (iteA hΩ m)).symm)
      have last := last (.inr ⟨p, hp, iteA hΩ m⟩)
      refine br (fun o => ?_) (fun o => ?_) <;> cbv
      · exact .of (congrArg i64 ((last _ o).1 rfl).symm)
      · exact ⟨i + 1, (last _ o).2 rfl, hlt, (Sbs.cut 0 rfl).trans (Sbs.mk rfl rfl ⟨rfl, rfl, rfl, hinc, trivial⟩)⟩
    · have k := gtZf hΩ k
      have k : i = 0 := by subst hΩ; have k : (i : Int) ≤ 0 := k; omega
      have last := last (.inl k)
      refine br (fun o => ?_) (fun o => ?_) <;> cbv
      · exact .of (congrArg i64 ((last _ o).1 rfl).symm)
      · exact ⟨i + 1, (last _ o).2 rfl, hlt, (Sbs.cut 0 rfl).trans (Sbs.mk rfl rfl ⟨rfl, rfl, rfl, hinc, trivial⟩)⟩
  · have h := ltZf hΩ h
    have h : i = n := by subst hΩ; have h : (n : Int) ≤ (i : Int) := h; omega
    have he : r = R := by rw [h, hend n (Nat.le_refl _)] at he; exact he.trans (if_neg (by simp [filsF]))
    refine ⟨VC_drawn htab hΩ hmo (by kernel_rfl) ?_⟩
    cbv
    refine QCall_pure (k := 3) htt rfl (fits _) rfl ?_
    cbv
    refine br (fun g => ?_) (fun g => ?_) <;> cbv
    · exact .of (congrArg i64 (by rw [he, fin1 (gtZt hΩ g)]))
    · exact .of (congrArg i64 (by rw [he, fin2 (gtZf hΩ g)]))
end Go.Proofs.YtgcnggefeapalaaGreatDoor

/- Walks: codes of catalogs and disks; sets of numbers. Plain theorems. -/
set_option linter.unusedVariables false
set_option linter.unusedSimpArgs false
namespace Go.Proofs.YtgcnggefeapalaaGreatDoor
open Go Go.Fw
set_option maxRecDepth 100000
/-- The code of a catalog and a disk. -/
def bthC (c : List Pck) (x : Dsk) : Int := if catF c ≠ 0 then catF c else dskF x
theorem c_bothCode (c : List Pck) (x : Dsk) (hl : c.length ≤ 1048576) (ho : ∀ o ∈ c, o.Small) (hx : x.Fit) : PCtr PP n_impl_bothCode [encP c, x.enc false false] (i64 (bthC c x)) := by
  obtain ⟨Ω, hΩ⟩ : ∃ Ω, Ω = std := ⟨_, rfl⟩
  have h1 := c_implCatalogFault c hl ho
  have h2 := c_implDiskFault x hx.n hx.t
  have h3 := c_firstCode [catF c, dskF x] (by simp)
  rw [show orF [catF c, dskF x] = bthC c x by unfold bthC; simp only [orF]; by_cases e : dskF x = 0 <;> simp [e]] at h3
  generalize bthC c x = b at *
  generalize catF c = b1 at *
  generalize dskF x = b2 at *
  unfold encP Dsk.enc at *
  generalize x.f.map (Fil.enc false) = xs at *
  generalize c.map (Pck.enc false) = cs at *
  have htab := tab
  have hmo := hmo
  refine PCtr.walk tab hΩ fn_impl_bothCode rfl ?_
  generalize PP = P at *
  cbv
  refine ⟨VC.sub (VC_tail htab hΩ hmo 4 (by kernel_rfl) ?_) ((Sbs.unlk (r := 0) rfl rfl).trans (Sbs.thaw0 (r := 0) rfl rfl rfl))⟩
  cbv
  refine QCall_pure (k := 3) h1 rfl (fits _) rfl ?_
  cbv
  refine QCall_pure (k := 4) h2 rfl (fits _) rfl ?_
  cbv
  refine call_pure hΩ 3 h3 rfl (fits _) rfl rfl ?_
  cbv
  exact .same
theorem c_l8Asked (c : List Pck) (x : Dsk) (hl : c.length ≤ 1048576) (ho : ∀ o ∈ c, o.Small) (hx : x.Fit) : PCtr PP n_spec_l8Asked [encP c, x.enc false false] (i64 (bthC c x)) := by
  obtain ⟨Ω, hΩ⟩ : ∃ Ω, Ω = std := ⟨_, rfl⟩
  have h1 := c_specCatalogFault c hl ho
  have h2 := c_specDiskFault x hx.n hx.t
  have e1 : catF c ≠ 0 → bthC c x = catF c := fun h => if_pos h
  have e2 : catF c = 0 → bthC c x = dskF x := fun h => if_neg (by simp [h])
  generalize bthC c x = b at *
  generalize catF c = b1 at *
  generalize dskF x = b2 at *
  unfold encP Dsk.enc at *
  generalize x.f.map (Fil.enc false) = xs at *
  generalize c.map (Pck.enc false) = cs at *
  have htab := tab
  have hmo := hmo
  refine PCtr.walk tab hΩ fn_spec_l8Asked rfl ?_
  generalize PP = P at *
  cbv
  refine call_pure hΩ 3 h1 rfl (fits _) rfl rfl ?_
  cbv
  refine br (fun h => ?_) (fun h => ?_) <;> cbv
  · exact .of (congrArg i64 (e1 (neZt hΩ h)).symm)
  · refine call_pure hΩ 4 h2 rfl (fits _) rfl rfl ?_
    cbv
    exact .of (congrArg i64 (e2 (neZf hΩ h)).symm)
end Go.Proofs.YtgcnggefeapalaaGreatDoor

/- Regions that draw their order, taken by a plan, rows or none: operations that only read what may be read by all, calls, orders, guards. Plain theorems, no condition. -/
set_option linter.unusedVariables false
set_option linter.unusedSimpArgs false
namespace Go.Fw
section
variable {P : Program} {T : Nat → Option TI} {S : State} {Ω : Opq}
theorem VOR_extract {o : Oper} {rs : List Nat} {x : Operand} {i : Nat} {xs : List A} {z : A} (ho : o.op = .extract x i) (hx : okO x = true) (he : ev S x = .tup xs) (hz : xs[i]? = some z) : VOR P o S rs z := by
  refine fun E G gs a w hi => ?_
  have h1 := ev_rel hi x hx
  rw [he] at h1
  obtain ⟨cs, hv, hr⟩ := tup_inv h1
  obtain ⟨v, hv1, hv2⟩ := hr.get i z hz
  have hv1' : cs[i]? = some v := by simpa using hv1
  exact ⟨v, fun w' hw' => by simp [execOp, ho, hv, Instr.extract, hv1'], hv2⟩
theorem vExtractR_ok {o : Oper} {rs : List Nat} {k : A → Prop} {x : Operand} {i : Nat} (ho : o.op = .extract x i) (h : vExtract (ev S x) i k) : ∃ z, VOR P o S rs z ∧ k z := by
  have hk : okO x = true := by cases x <;> rfl
  unfold vExtract at h
  split at h <;> try exact h.elim
  rename_i xs he
  split at h <;> try exact h.elim
  rename_i z hz
  exact ⟨z, VOR_extract ho hk he hz, h⟩
theorem VOR_slice_str {o : Oper} {rs : List Nat} {t : TypeId} {x : Operand} {lo hi : Option Operand} {s : ByteArray} {l h : Nat} (ho : o.op = .slice t x lo hi none) (hx : okO x = true) (hlo : okOpt lo = true) (hhi : okOpt hi = true)
    (ht : isStrT P t = true) (he : ev S x = .sc (.string s)) (h1 : bnd (lo.map (ev S)) 0 = some (l : Int)) (h2 : bnd (hi.map (ev S)) (bs s).length = some (h : Int)) (hlh : l ≤ h) (hhl : h ≤ (bs s).length)
    : VOR P o S rs (.sc (.string (mkS (((bs s).take h).drop l)))) := by
  refine fun E G gs a w hinv => ⟨_, ?_, .of (.sc rfl)⟩
  have e1 := ev_rel hinv x hx
  rw [he] at e1
  have v1 := (sc_inv e1).1
  have hu : P.underlying t = some .string := by
    unfold isStrT at ht
    split at ht
    · assumption
    · simp at ht
  obtain ⟨a1, a2⟩ := opt_rel hinv lo hlo
  obtain ⟨b1, b2⟩ := opt_rel hinv hi hhi
  rw [bs_length] at h2 hhl
  have hb := slice_bounds (P := P) (isS := false) (lo.map a.eval) (hi.map a.eval) _ _ h1 h2 a1 a2 b1 b2 hlh hhl (Nat.le_refl _)
  have e : s.extract l h = mkS (((bs s).take h).drop l) := by
    apply ByteArray.ext
    apply Array.ext'
    simp [mkS, bs, ByteArray.data_extract, List.extract_eq_take_drop, List.drop_take]
  intro w' hw'
  simp [execOp, ho, v1, Instr.sliceAt, run_underlying hu, Instr.slice, hb, e]
def vEOp (Ω : Opq) (T : Nat → Option TI) (o : Oper) (S : State) (k : A → Prop) : Prop :=
  match o.op with
  | .extract x i => vExtract (ev S x) i k
  | .slice t x lo hi none => (match T t, ev S x with
    | some ti, .sc (.string s) => if ti.str then vLo Ω (lo.map (ev S)) 0 fun c1 l => vLo Ω (hi.map (ev S)) (Ω.lenS (bs s)) fun c2 h => Ob (fun _ => c1 () ∧ c2 () ∧ l ≤ h ∧ h ≤ (bs s).length) ∧ k (.sc (.string (mkS (Ω.segS l h (bs s))))) else False
    | _, _ => vROp Ω T [] o S k)
  | _ => vROp Ω T [] o S k
theorem vEOp_ok (hT : TabOK P T) {o : Oper} {k : A → Prop} (h : vEOp std T o S k) : ∃ z, VOR P o S [] z ∧ k z := by
  have ok : ∀ x : Option Operand, okOpt x = true := fun x => by cases x <;> rfl
  unfold vEOp at h
  split at h
  · rename_i ho; exact vExtractR_ok ho h
  · rename_i t x lo hi ho
    split at h
    · rename_i ti s hi' hx
      have hti := tiOf_ok (hT _ _ hi')
      split at h <;> try exact h.elim
      rename_i hs
      obtain ⟨c1, l, h, g1⟩ := vLo_ok h
      obtain ⟨c2, u, h, g2⟩ := vLo_ok h
      obtain ⟨h0, h⟩ := h
      obtain ⟨h1, h2, h3, h4⟩ := h0.h
      exact ⟨_, VOR_slice_str ho (by cases x <;> rfl) (ok _) (ok _) (by rw [hti.str]; exact hs) hx (g1 h1) (g2 h2) h3 h4, h⟩
    · exact vROp_ok hT h
  · exact vROp_ok hT h
def vPl (Ω : Opq) (P : Program) (T : Nat → Option TI) (ops : List Oper) : Pln → Option Nat → State → (State → Prop) → Prop
  | .fin, _, S, K => K S
  | .q n p, mv, S, K => (match ops[n]? with
    | some o => vGd ops o S (fun S => vEOp Ω T o S fun z => vPl Ω P T ops p mv (S.put o.dst z) K) (fun S => vPl Ω P T ops p mv (S.put o.dst (.tup [])) K)
    | none => False)
  | .s n p, mv, S, K => (match ops[n]? with
    | some o => vGd ops o S (fun S => vOp Ω P T mv o S fun S' => vPl Ω P T ops p (madeBy o) S' K) (fun S => vPl Ω P T ops p none (S.put o.dst (.tup [])) K)
    | none => False)
  | .two n p m r, mv, S, K => (match ops[n]?, ops[m]? with
    | some o, some o' => vGd ops o S (fun S => vOp Ω P T mv o S fun S' => vPl Ω P T ops p (madeBy o) S' K) (fun S => vPl Ω P T ops p none (S.put o.dst (.tup [])) K) ∧
        vGd ops o' S (fun S => vOp Ω P T mv o' S fun S' => vPl Ω P T ops r (madeBy o') S' K) (fun S => vPl Ω P T ops r none (S.put o'.dst (.tup [])) K)
    | _, _ => False)
theorem pl_ok (hT : TabOK P T) {ops : List Oper} {E0 : Env P} (hsel : Region.noSelect ops.toArray = true) {K : State → Prop} : ∀ (p : Pln) (l : Array Bool) (mv : Option Nat) (S : State) (a : Act) (w : World) (E : Env P) (Sc : World → Prop), planB ops.toArray p l = true →
    vPl std P T ops p mv S K → SInv E S a w → (∀ S a w, SInv E S a w → SInv E0 S a w) → (∀ S a w, SInv E S a w → Sc w) →
    wpAnyH P .any ops.toArray (fun e a' w' => e = .normal ∧ ∃ S', SInv E0 S' a' w' ∧ K S') Sc p.depth l a w
  | .fin, l, mv, S, a, w, E, Sc, hB, h, hs, hb, hSc => ⟨by simpa [planB] using hB, rfl, S, hb _ _ _ hs, h⟩
  | .q n p, l, mv, S, a, w, E, Sc, hB, h, hs, hb, hSc => by
    simp only [planB, Bool.and_eq_true] at hB
    unfold vPl at h
    split at h <;> try exact h.elim
    rename_i o ho
    obtain ⟨hd, G, gs, hi⟩ := hs
    obtain ⟨S', hrows, hi', hX⟩ := vGd_ok h hi
    have hag : ∀ S2 a2 w2, SInv (envAt E G gs S' w) S2 a2 w2 → Agree G w w2 := fun S2 a2 w2 ⟨_, G2, gs2, hi2⟩ => hi'.agree hi2
    have hback : ∀ S2 a2 w2, SInv (envAt E G gs S' w) S2 a2 w2 → SInv E S2 a2 w2 := fun S2 a2 w2 ⟨h1, G2, gs2, hi2⟩ => ⟨h1, G2, gs2, hi'.back hi2⟩
    refine wpAnyH_mono (Sc := fun w' => Sc w' ∧ Agree G w w') (fun _ h => h.1) _ _ _ _ ?_
    have hself : Sc w ∧ Agree G w w := ⟨hSc _ _ _ ⟨hd, G, gs, hi⟩, fun _ _ => rfl⟩
    have ho' : ops.toArray[n]? = some o := by simpa using ho
    rcases hX with ⟨hw, hv⟩ | ⟨hw, hv⟩
    · obtain ⟨z, h1, h2⟩ := vEOp_ok hT hv
      obtain ⟨v, h3, h4⟩ := h1 E G gs a w hi'
      refine wpAnyH_take (oi := o) (v := v) ho' hsel hB.1.2 hB.1.1 (fun c a w h => absurd h.1 (by simp)) (.inl ⟨hw, fun w' hw' => h3 w' fun b hb => hw'.2 b (hb.elim id fun ⟨r, hr, _⟩ => by cases hr)⟩) hself ?_
      exact pl_ok hT hsel p _ mv _ _ w (envAt E G gs S' w) _ hB.2 h2 ⟨by rw [put_defers]; exact hd, G, gs, envAt_put E G gs S' w o.dst z ▸ (hi'.put h4 o.dst).at⟩ (fun S a w h => hb _ _ _ (hback _ _ _ h)) (fun S a w h => ⟨hSc _ _ _ (hback _ _ _ h), hag _ _ _ h⟩)
    · refine wpAnyH_take (oi := o) (v := undef) ho' hsel hB.1.2 hB.1.1 (fun c a w h => absurd h.1 (by simp)) (.inr ⟨hw, rfl⟩) hself ?_
      exact pl_ok hT hsel p _ mv _ _ w (envAt E G gs S' w) _ hB.2 hv ⟨by rw [put_defers]; exact hd, G, gs, envAt_put E G gs S' w o.dst (.tup []) ▸ (hi'.put (tup_undef _ _ _) o.dst).at⟩ (fun S a w h => hb _ _ _ (hback _ _ _ h)) (fun S a w h => ⟨hSc _ _ _ (hback _ _ _ h), hag _ _ _ h⟩)
  | .s n p, l, mv, S, a, w, E, Sc, hB, h, hs, hb, hSc => by
    simp only [planB, Bool.and_eq_true, decide_eq_true_eq] at hB
    unfold vPl at h
    split at h <;> try exact h.elim
    rename_i o ho
    refine wpAnyH_all hB.1 (by simp) fun i hi => ?_
    obtain rfl : i = n := by simpa using hi
    exact plan_step hT (X := fun o S' => vPl std P T ops p (madeBy o) S' K) ho h hs (fun S' a' w' hK hs' => ⟨hSc _ _ _ hs', pl_ok hT hsel p _ _ S' a' w' E Sc hB.2 hK hs' hb hSc⟩)
      fun S' hK hs' => ⟨hSc _ _ _ hs', pl_ok hT hsel p _ _ _ _ w E Sc hB.2 hK (skip_put hs' o.dst) hb hSc⟩
  | .two n p m r, l, mv, S, a, w, E, Sc, hB, h, hs, hb, hSc => by
    simp only [planB, Bool.and_eq_true, decide_eq_true_eq] at hB
    unfold vPl at h
    split at h <;> try exact h.elim
    rename_i o o' ho ho'
    refine wpAnyH_all hB.1.1.1 (by simp) fun i hi => ?_
    have hin : i = n ∨ i = m := by simpa using hi
    rcases hin with rfl | rfl
    · exact plan_step hT (X := fun o S' => vPl std P T ops p (madeBy o) S' K) ho h.1 hs (fun S' a' w' hK hs' => ⟨hSc _ _ _ hs', pl_ok hT hsel p _ _ S' a' w' E Sc hB.1.2 hK hs' hb hSc⟩)
        fun S' hK hs' => ⟨hSc _ _ _ hs', pl_ok hT hsel p _ _ _ _ w E Sc hB.1.2 hK (skip_put hs' o.dst) hb hSc⟩
    · have := plan_step (Q := fun e a' w' => e = .normal ∧ ∃ S', SInv E0 S' a' w' ∧ K S') (K' := fun a' w' => Sc w' ∧ wpAnyH P .any ops.toArray (fun e a' w' => e = .normal ∧ ∃ S', SInv E0 S' a' w' ∧ K S') Sc r.depth (l.setIfInBounds i true) a' w') hT (X := fun o S' => vPl std P T ops r (madeBy o) S' K) ho' h.2 hs (fun S' a' w' hK hs' => ⟨hSc _ _ _ hs', pl_ok hT hsel r _ _ S' a' w' E Sc hB.2 hK hs' hb hSc⟩)
        fun S' hK hs' => ⟨hSc _ _ _ hs', pl_ok hT hsel r _ _ _ _ w E Sc hB.2 hK (skip_put hs' o'.dst) hb hSc⟩
      rw [← hB.1.1.2] at this
      exact this
/-- A region that draws its order, by a plan; there may be rows. -/
theorem VC_pl (hT : TabOK P T) (hΩ : Ω = std) (hm : P.follows .mixedOrders = true) (p : Pln) {id : Nat} {ops : Array Oper} {K : Exit → State → Prop} (hB : planOK ops p = true)
    (h : vPl Ω P T ops.toList p none S (K .normal)) : VC P (.region id ops true) S K := by
  subst hΩ
  intro E a w hs
  have hops : ops = ops.toList.toArray := by simp
  rw [hops] at hB ⊢
  obtain ⟨hd, G, gs, hi⟩ := hs
  simp only [planOK, Bool.and_eq_true, decide_eq_true_eq] at hB
  obtain ⟨⟨hsel, hsz⟩, hB⟩ := hB
  have hw1 : Go.RowKit.Below w.heap.size w { w with drawn := w.drawn + 1 } := ⟨rfl, rfl, rfl, Nat.le_refl _, fun _ _ => rfl⟩
  have hi1 : Inv E G gs S a.tmps { w with drawn := w.drawn + 1 } := hi.below hw1 (fun _ h => h) (fun _ h => .inl h) (fun b h => Nat.lt_of_lt_of_le (hi.glt b h) hw1.size)
  have hwp : (Code.region id ops.toList.toArray true).wp P (fun e a' w' => e = .normal ∧ ∃ S', SInv E S' a' w' ∧ K .normal S') a w := by
    refine wp_region_held (S := fun _ => True) hm ?_
    have := pl_ok (E0 := E) hT hsel p _ none S a _ E (fun _ => True) hB h ⟨hd, G, gs, hi1⟩ (fun _ _ _ h => h) (fun _ _ _ _ => trivial)
    rw [hsz] at this
    exact this
  refine wp_mono hwp ?_
  rintro e a' w' ⟨rfl, S', hs', hK'⟩
  exact ⟨S', hs', hK'⟩
end
end Go.Fw

/- Walks: what a number alone has, in the implementation. Plain theorems. -/
set_option linter.unusedVariables false
set_option linter.unusedSimpArgs false
namespace Go.Proofs.YtgcnggefeapalaaGreatDoor
open Go Go.Fw Go.Sort
set_option maxRecDepth 100000
theorem brT {p : Bool} {X Y : Prop} (h : p = true) (hx : X) : match (generalizing := false) p with | true => X | false => Y := br (fun _ => hx) fun g => by rw [h] at g; cases g
theorem brF {p : Bool} {X Y : Prop} (h : p = false) (hy : Y) : match (generalizing := false) p with | true => X | false => Y := br (fun g => by rw [h] at g; cases g) fun _ => hy
theorem neT {Ω : Opq} (hΩ : Ω = std) {x y : Int} (h : x ≠ y) : Ω.cmp .neq x y = true := by subst hΩ; show (!decide (x = y)) = true; simp [h]
theorem neF {Ω : Opq} (hΩ : Ω = std) {x y : Int} (h : x = y) : Ω.cmp .neq x y = false := by subst hΩ; subst h; show (!decide (x = x)) = false; simp
theorem bthC_ok {c : List Pck} {x : Dsk} (hx : x.Fit) (h : bthC c x = 0) : catF c = 0 ∧ x.Ok := by
  unfold bthC at h
  split at h
  · rename_i h1; exact absurd h h1
  · rename_i h1; exact ⟨by simpa using h1, hx.ok h⟩
end Go.Proofs.YtgcnggefeapalaaGreatDoor

/- What the reading of a term answers. Definitions and plain theorems. -/
set_option linter.unusedVariables false
set_option linter.unusedSimpArgs false
namespace Go.Proofs.YtgcnggefeapalaaGreatDoor
open Go Go.Fw Go.Lib
set_option maxRecDepth 100000
/-- The low bound of a term's text, ahead of '<'. -/
def lowP (lo : List UInt8) : Option Ver := if lo = [] then some Ver.zero else if hasPrefix lo [62, 61] = true then (if (verP (lo.drop 2)).1 = 0 then some (verP (lo.drop 2)).2 else none) else none
def highP : List UInt8 → Option Ver
  | [] => some topV
  | _ :: h => if (verP h).1 = 0 then some (verP h).2 else none
def finT (t : Trm) : Int × Trm := if trmF t = 0 then (0, t) else (trmF t, Trm.zero)
def badT : Int × Trm := (5, Trm.zero)
def notL (x : UInt8) : Bool := !decide (x = 60)
/-- A term's text read. -/
def prsT (s : List UInt8) : Int × Trm :=
  if nameF (s.takeWhile nameB) ≠ 0 then badT else
    match lowP ((s.dropWhile nameB).takeWhile notL), highP ((s.dropWhile nameB).dropWhile notL) with
    | some l, some h => finT ⟨s.takeWhile nameB, l, h⟩
    | _, _ => badT
/-- The same, in the order in which the program reads. -/
def prsH (n : List UInt8) (l : Ver) (r : List UInt8) : Int × Trm :=
  if hasPrefix r [60] = true then (if (verP (trimPrefix r [60])).1 ≠ 0 then badT else finT ⟨n, l, (verP (trimPrefix r [60])).2⟩) else if r = [] then finT ⟨n, l, topV⟩ else badT
def cutI (r : List UInt8) : Nat := if indexByte r 60 < 0 then r.length else (indexByte r 60).toNat
def prsI (n r : List UInt8) : Int × Trm :=
  if hasPrefix r [62, 61] = true then (if (verP ((trimPrefix r [62, 61]).take (cutI (trimPrefix r [62, 61])))).1 ≠ 0 then badT else prsH n (verP ((trimPrefix r [62, 61]).take (cutI (trimPrefix r [62, 61])))).2 ((trimPrefix r [62, 61]).drop (cutI (trimPrefix r [62, 61]))))
  else prsH n Ver.zero r
theorem ixb_ge : ∀ l : List UInt8, indexByte l 60 = -1 ∨ 0 ≤ indexByte l 60 := fun l => by have := indexByte_ge l 60; omega
theorem cutI_eq : ∀ r : List UInt8, cutI r = (r.takeWhile notL).length
  | [] => rfl
  | b :: l => by
    have ih := cutI_eq l
    have hg := ixb_ge l
    unfold cutI at ih ⊢
    have h1 : indexByte (b :: l) 60 = if (b == 60) = true then 0 else if (indexByte l 60 == -1) = true then -1 else indexByte l 60 + 1 := rfl
    rw [h1]
    by_cases hb : b = 60
    · subst hb
      simp [notL]
    · rw [if_neg (c := (b == 60) = true) (by simpa using hb), List.takeWhile_cons, if_pos (c := notL b = true) (by simpa [notL] using hb)]
      rcases hg with hg | hg
      · rw [if_pos (c := (indexByte l 60 == -1) = true) (by simpa using hg)]
        rw [hg] at ih
        rw [if_pos (by decide)] at ih ⊢
        rw [List.length_cons, List.length_cons, ih]
      · rw [if_neg (c := (indexByte l 60 == -1) = true) (by simp; omega), if_neg (by omega)]
        rw [if_neg (by omega)] at ih
        rw [List.length_cons]
        omega
theorem cutI_le (r : List UInt8) : cutI r ≤ r.length := by
  rw [cutI_eq]
  have := congrArg List.length (List.takeWhile_append_dropWhile (p := notL) (l := r))
  rw [List.length_append] at this
  omega
theorem cutI_take (r : List UInt8) : r.take (cutI r) = r.takeWhile notL := by
  have h := List.take_left' (l₁ := r.takeWhile notL) (l₂ := r.dropWhile notL) (cutI_eq r).symm
  rwa [List.takeWhile_append_dropWhile] at h
theorem cutI_drop (r : List UInt8) : r.drop (cutI r) = r.dropWhile notL := by
  have h := List.drop_left' (l₁ := r.takeWhile notL) (l₂ := r.dropWhile notL) (cutI_eq r).symm
  rwa [List.takeWhile_append_dropWhile] at h
theorem prsH_of (n : List UInt8) (l : Ver) (r : List UInt8) : prsH n l (r.dropWhile notL) = match highP (r.dropWhile notL) with
    | some h => finT ⟨n, l, h⟩
    | none => badT := by
  have hd : r.dropWhile notL = [] ∨ ∃ h, r.dropWhile notL = 60 :: h := by
    have := List.head?_dropWhile_not notL r
    revert this
    cases r.dropWhile notL with
    | nil => exact fun _ => .inl rfl
    | cons b h => intro this; exact .inr ⟨h, by simp [notL] at this; rw [this]⟩
  rcases hd with hd | ⟨h, hd⟩ <;> rw [hd] <;> unfold prsH highP
  · rfl
  · have h1 : hasPrefix (60 :: h) [60] = true := by simp [hasPrefix]
    have h2 : trimPrefix (60 :: h) [60] = h := by unfold trimPrefix; rw [if_pos h1]; rfl
    rw [if_pos h1, h2]
    by_cases hv : (verP h).1 = 0
    · simp only [hv, if_true, if_false, not_true, ne_eq]
    · simp only [hv, if_true, if_false, not_false_eq_true, ne_eq]
theorem hp2 (r : List UInt8) : hasPrefix r [62, 61] = true ↔ ∃ t, r = 62 :: 61 :: t := by
  unfold hasPrefix
  rw [List.isPrefixOf_iff_prefix]
  exact ⟨fun ⟨t, h⟩ => ⟨t, h.symm⟩, fun ⟨t, h⟩ => ⟨t, h.symm⟩⟩
theorem prsI_eq (s : List UInt8) (h0 : nameF (s.takeWhile nameB) = 0) : prsT s = prsI (s.takeWhile nameB) (s.dropWhile nameB) := by
  unfold prsT prsI
  rw [if_neg (by simpa using h0)]
  generalize s.takeWhile nameB = n
  generalize s.dropWhile nameB = r
  by_cases hp : hasPrefix r [62, 61] = true
  · rw [if_pos hp]
    have ht : trimPrefix r [62, 61] = r.drop 2 := by unfold trimPrefix; rw [if_pos hp]; rfl
    rw [ht, cutI_take, cutI_drop]
    obtain ⟨t, rfl⟩ := (hp2 r).1 hp
    show _ = if (verP (t.takeWhile notL)).1 ≠ 0 then badT else prsH n (verP (t.takeWhile notL)).2 (t.dropWhile notL)
    rw [prsH_of]
    have h1 : (62 :: 61 :: t).takeWhile notL = 62 :: 61 :: t.takeWhile notL := by simp [notL]
    have h2 : (62 :: 61 :: t).dropWhile notL = t.dropWhile notL := by simp [notL]
    rw [h1, h2]
    unfold lowP
    rw [if_neg (by simp), if_pos (by simp [hasPrefix])]
    show (match (if (verP (t.takeWhile notL)).1 = 0 then some (verP (t.takeWhile notL)).2 else none), highP (t.dropWhile notL) with
      | some l, some h => finT ⟨n, l, h⟩
      | _, _ => badT) = _
    by_cases hv : (verP (t.takeWhile notL)).1 = 0
    · rw [if_pos hv, if_neg (by simpa using hv)]
      cases highP (t.dropWhile notL) <;> rfl
    · rw [if_neg hv, if_pos hv]
  · rw [if_neg hp]
    cases r with
    | nil => rfl
    | cons b r =>
      by_cases hb : b = 60
      · subst hb
        have := prsH_of n Ver.zero (60 :: r)
        rw [show (60 :: r).dropWhile notL = 60 :: r by simp [notL]] at this
        rw [this]
        rw [show (60 :: r).takeWhile notL = [] by simp [notL], show (60 :: r).dropWhile notL = 60 :: r by simp [notL]]
        unfold lowP
        rw [if_pos rfl]
        cases highP (60 :: r) <;> rfl
      · have h1 : (b :: r).takeWhile notL = b :: r.takeWhile notL := by rw [List.takeWhile_cons, if_pos (by simpa [notL] using hb)]
        have h2 : lowP (b :: r.takeWhile notL) = none := by
          unfold lowP
          rw [if_neg (by simp), if_neg]
          intro h
          obtain ⟨t, ht⟩ := (hp2 _).1 h
          refine hp ((hp2 _).2 ?_)
          cases r with
          | nil => simp at ht
          | cons c r =>
            by_cases hc : c = 60
            · subst hc; simp [notL] at ht
            · rw [List.takeWhile_cons, if_pos (by simpa [notL] using hc)] at ht
              simp at ht
              exact ⟨r, by rw [ht.1, ht.2.1]⟩
        rw [h1, h2]
        unfold prsH
        rw [if_neg (by simpa [hasPrefix] using fun h => hb h.symm), if_neg (by simp)]
end Go.Proofs.YtgcnggefeapalaaGreatDoor

/- What the text of terms and the reading of roots answer. Definitions and plain theorems. -/
set_option linter.unusedVariables false
set_option linter.unusedSimpArgs false
namespace Go.Proofs.YtgcnggefeapalaaGreatDoor
open Go Go.Fw Go.Lib
set_option maxRecDepth 100000
/-- A sound term's text. -/
def trmT (t : Trm) : List UInt8 := (t.n ++ (if t.l = Ver.zero then [] else [62, 61] ++ verT t.l)) ++ (if t.h = topV then [] else [60] ++ verT t.h)
def fmtT (t : Trm) : List UInt8 := if trmF t = 0 then trmT t else []
theorem trmF_parts {t : Trm} (h : trmF t = 0) : nameF t.n = 0 ∧ verF t.l = 0 ∧ (t.h = topV ∨ verF t.h = 0) := by
  unfold trmF at h
  split at h
  · rename_i g; exact absurd h g
  · rename_i g1
    split at h
    · rename_i g; exact absurd h g
    · rename_i g2
      split at h
      · cases h
      · rename_i g3
        refine ⟨by simpa using g1, by simpa using g2, ?_⟩
        by_cases e : t.h = topV
        · exact .inl e
        · exact .inr (Decidable.byContradiction fun g => g3 ⟨e, g⟩)
theorem trmT_len {t : Trm} (h : trmF t = 0) : (trmT t).length ≤ 40 := by
  obtain ⟨h1, h2, h3⟩ := trmF_parts h
  have := nameF_len h1
  have := verT_len h2
  unfold trmT
  rw [List.length_append, List.length_append]
  have a : (if t.l = Ver.zero then [] else [62, 61] ++ verT t.l).length ≤ 13 := by split <;> simp <;> omega
  have b : (if t.h = topV then [] else [60] ++ verT t.h).length ≤ 12 := by
    split
    · simp
    · rename_i g
      have := verT_len (h3.resolve_left g)
      simp; omega
  omega
theorem finT_ok (t : Trm) : (finT t).1 = 0 → trmF (finT t).2 = 0 := by
  unfold finT
  split
  · rename_i h; exact fun _ => h
  · rename_i h; exact fun g => absurd g h
theorem prsT_ok {s : List UInt8} (h : (prsT s).1 = 0) : trmF (prsT s).2 = 0 := by
  unfold prsT at h ⊢
  split at h
  · cases h
  · rename_i g
    rw [if_neg g]
    split at h
    · exact finT_ok _ h
    · cases h
/-- The text of sound terms. -/
def rtsT (ts : List Trm) : List UInt8 := (ts.map fun t => trmT t ++ [10]).flatten
theorem rtsT_at {ts : List Trm} {i : Nat} {t : Trm} (h : ts[i]? = some t) : rtsT (ts.take (i + 1)) = rtsT (ts.take i) ++ (trmT t ++ [10]) := by
  unfold rtsT
  rw [List.take_add_one, h]
  simp
theorem rtsT_len {ts : List Trm} (h : ∀ t ∈ ts, trmF t = 0) : (rtsT ts).length ≤ 41 * ts.length := by
  induction ts with
  | nil => simp [rtsT]
  | cons t ts ih =>
    have a := trmT_len (h t (.head _))
    have b := ih fun t ht => h t (.tail _ ht)
    unfold rtsT at b ⊢
    simp at b ⊢
    omega
theorem firstF_zero {α : Type} {f : α → Int} : ∀ {l : List α}, firstF f l = 0 ↔ ∀ x ∈ l, f x = 0
  | [] => by simp [firstF]
  | x :: l => by
    unfold firstF
    by_cases h : f x = 0
    · rw [if_neg (by simpa using h), firstF_zero]; simp [h]
    · rw [if_pos h]; simp [h]
/-- Two terms of one name, ahead of whom others stand. -/
def twoG : List Trm → List Trm → Bool
  | _, [] => false
  | pre, t :: r => (pre.any fun o => o.n == t.n) || twoG (pre ++ [t]) r
def twoB (ts : List Trm) : Bool := twoG [] ts
theorem twoG_at {ts : List Trm} {i : Nat} {t : Trm} (h : ts[i]? = some t) : twoG (ts.take i) (ts.drop i) = (((ts.take i).any fun o => o.n == t.n) || twoG (ts.take (i + 1)) (ts.drop (i + 1))) := by
  obtain ⟨hi, rfl⟩ := List.getElem?_eq_some_iff.1 h
  rw [List.drop_eq_getElem_cons hi, List.take_add_one, h]
  rfl
/-- What the program's reading of lines comes to. -/
def okL (ls : List (List UInt8)) : Bool := ls.all fun l => decide ((prsT l).1 = 0)
def rtL (ls : List (List UInt8)) : List Trm := ls.map fun l => (prsT l).2
theorem rtL_at {ls : List (List UInt8)} {i : Nat} {l : List UInt8} (h : ls[i]? = some l) : rtL (ls.take (i + 1)) = rtL (ls.take i) ++ [(prsT l).2] := by
  unfold rtL
  rw [List.take_add_one, h]
  simp
theorem rtL_ok {ls : List (List UInt8)} (h : okL ls = true) : ∀ t ∈ rtL ls, trmF t = 0 := by
  intro t ht
  obtain ⟨l, hl, rfl⟩ := List.mem_map.1 ht
  exact prsT_ok (by simpa using List.all_eq_true.1 h l hl)
/-- What the reference's reading of lines comes to. -/
def rdS : List Trm → List (List UInt8) → List Trm × Bool
  | pre, [] => (pre, true)
  | pre, l :: r => if (prsT l).1 = 0 then (if (pre.any fun o => o.n == (prsT l).2.n) then (pre, false) else rdS (pre ++ [(prsT l).2]) r) else (pre, false)
theorem rdS_two : ∀ (ls : List (List UInt8)) (pre : List Trm), (rdS pre ls).2 = (okL ls && !twoG pre (rtL ls)) ∧ ((rdS pre ls).2 = true → (rdS pre ls).1 = pre ++ rtL ls)
  | [], pre => ⟨rfl, fun _ => (List.append_nil _).symm⟩
  | l :: r, pre => by
    obtain ⟨h1, h2⟩ := rdS_two r (pre ++ [(prsT l).2])
    unfold rdS okL rtL twoG
    by_cases h : (prsT l).1 = 0
    · rw [if_pos h]
      cases hd : pre.any fun o => o.n == (prsT l).2.n with
      | true => simp [h, hd]
      | false =>
        rw [if_neg (by simp)]
        refine ⟨?_, fun g => ?_⟩
        · rw [h1]; simp [h, okL, hd, rtL]
        · rw [h2 g]; simp [rtL]
    · rw [if_neg h]
      simp [h]
theorem rdS_len : ∀ (ls : List (List UInt8)) (pre : List Trm), (rdS pre ls).1.length ≤ pre.length + ls.length
  | [], pre => by simp [rdS]
  | l :: r, pre => by
    have := rdS_len r (pre ++ [(prsT l).2])
    unfold rdS
    split
    · split
      · simp
      · simp at this ⊢; omega
    · simp
theorem rdS_ok : ∀ (ls : List (List UInt8)) (pre : List Trm), (∀ t ∈ pre, trmF t = 0) → ∀ t ∈ (rdS pre ls).1, trmF t = 0
  | [], pre => fun h => h
  | l :: r, pre => fun h => by
    unfold rdS
    split
    · rename_i g
      split
      · exact h
      · refine rdS_ok r _ fun t ht => ?_
        rcases List.mem_append.1 ht with ht | ht
        · exact h t ht
        · rw [List.mem_singleton.1 ht]; exact prsT_ok g
    · exact h
/-- The reference's roots of a text. -/
def rtsS (s : List UInt8) : List Trm × Bool := ((rdS [] (linesP s)).1, (rdS [] (linesP s)).2 && (decide ((rdS [] (linesP s)).1.length ≤ 8) && decide (rtsT (rdS [] (linesP s)).1 = s)))
/-- The program's roots of a text. -/
def rtsI (s : List UInt8) : Int × List Trm := if okL (linesP s) && (decide (rtsT (rtL (linesP s)) = s) && (decide ((rtL (linesP s)).length ≤ 8) && !twoB (rtL (linesP s)))) then (0, rtL (linesP s)) else (5, [])
theorem rts_eq (s : List UInt8) : rtsI s = if (rtsS s).2 then (0, (rtsS s).1) else (5, []) := by
  obtain ⟨h1, h2⟩ := rdS_two (linesP s) []
  unfold rtsI rtsS
  dsimp only
  cases hb : (rdS [] (linesP s)).2 with
  | false =>
    rw [hb] at h1
    rw [if_neg (c := (false && _) = true) (by simp), if_neg]
    intro g
    simp at g h1
    unfold twoB at g
    rw [h1 g.1] at g
    simp at g
  | true =>
    rw [h2 hb]
    rw [hb] at h1
    have h1 := (Bool.and_eq_true _ _ ▸ h1.symm : _ ∧ _)
    unfold twoB
    rw [h1.1, h1.2]
    simp [Bool.and_comm]
end Go.Proofs.YtgcnggefeapalaaGreatDoor

/- A package's bytes, what a set lacks, and what is wrong with a machine. Definitions and plain theorems. -/
set_option linter.unusedVariables false
set_option linter.unusedSimpArgs false
namespace Go.Proofs.YtgcnggefeapalaaGreatDoor
open Go Go.Fw
set_option maxRecDepth 100000
/-- The bytes of a package, one after another. -/
def bit (b : UInt8) : Nat → UInt8
  | 0 => b
  | i + 1 => 31 * bit b i + 7
def sumN : List UInt8 → Nat
  | [] => 0
  | c :: l => c.toNat + sumN l
def verN (v : Ver) : Nat := v.a.toNat + v.b.toNat + v.c.toNat
def byt0 (o : Pck) : UInt8 := UInt8.ofNat (verN o.v + sumN o.n)
def bytN (b : UInt8) (n : Nat) : List UInt8 := (List.range n).map (bit b)
def bytK (o : Pck) : List UInt8 := bytN (byt0 o) o.s.toNat
theorem bytN_succ (b : UInt8) (n : Nat) : bytN b (n + 1) = bytN b n ++ [bit b n] := by
  unfold bytN
  rw [List.range_succ, List.map_append]; rfl
theorem bytN_len (b : UInt8) (n : Nat) : (bytN b n).length = n := by unfold bytN; simp
theorem sumN_app : ∀ (l m : List UInt8), sumN (l ++ m) = sumN l + sumN m
  | [], m => by simp [sumN]
  | c :: l, m => by
    have := sumN_app l m
    show c.toNat + sumN (l ++ m) = c.toNat + sumN l + sumN m
    omega
theorem sumN_at {l : List UInt8} {i : Nat} {c : UInt8} (h : l[i]? = some c) : sumN (l.take (i + 1)) = sumN (l.take i) + c.toNat := by
  rw [List.take_add_one, h, sumN_app]; rfl
theorem sumN_le : ∀ l : List UInt8, sumN l ≤ 255 * l.length
  | [] => Nat.zero_le _
  | c :: l => by
    have := sumN_le l
    have h := c.toNat_lt
    show c.toNat + sumN l ≤ _
    rw [List.length_cons]
    omega
theorem bit_succ (b : UInt8) (i : Nat) : (bit b (i + 1)).toNat = (31 * (bit b i).toNat + 7) % 256 := by
  show (31 * bit b i + 7).toNat = _
  rw [UInt8.toNat_add, UInt8.toNat_mul]
  show (31 * (bit b i).toNat % 256 + 7) % 256 = _
  omega
theorem byt0_nat (o : Pck) : (byt0 o).toNat = (verN o.v + sumN o.n) % 256 := by
  unfold byt0
  rw [UInt8.toNat_ofNat']
/-- The packages of a set whose files are not there. -/
def lackB (c : List Pck) (l : List Fil) (k : Int) : Bool := !(hasF l (pathK (pk c k)) && decide (datF l (pathK (pk c k)) = bytK (pk c k)))
def lackF (c : List Pck) (l : List Fil) (s : List Int) : List Int := s.filter (lackB c l)
theorem lackF_at {c : List Pck} {l : List Fil} {s : List Int} {i : Nat} {k : Int} (h : s[i]? = some k) : lackF c l (s.take (i + 1)) = lackF c l (s.take i) ++ (if lackB c l k then [k] else []) := by
  unfold lackF
  rw [List.take_add_one, h, List.filter_append]
  cases hk : lackB c l k <;> simp [List.filter, hk]
/-- The path of the roots. -/
def rtsN : List UInt8 := [114, 111, 111, 116, 115]
/-- The set that is seen, and the code. -/
def shnW (c : List Pck) (l : List Fil) : Int × List Int := setW c l (curF l)
theorem shnW_none {c : List Pck} {l : List Fil} (h : curF l = 0) : shnW c l = (4, []) := by
  unfold shnW setW
  rw [h, if_neg]
  intro g
  obtain ⟨n, hn, he⟩ := List.any_eq_true.1 g
  have := gensF_ge hn
  rw [beq_iff_eq.1 he] at this
  omega
theorem shnW_told (c : List Pck) (l : List Fil) : Told c (shnW c l).2 := setW_told c l _
/-- What is wrong with a sound disk's set. -/
def whlB (c : List Pck) (l : List Fil) (s : List Int) : Bool := consB c s && decide ((lackF c l s).length = 0)
def sysW (c : List Pck) (l : List Fil) : Int := if (shnW c l).1 ≠ 0 then (shnW c l).1 else if whlB c l (shnW c l).2 then (rtsI (datF l rtsN)).1 else 1
def sysF (c : List Pck) (x : Dsk) : Int := if bthC c x ≠ 0 then bthC c x else sysW c x.f
end Go.Proofs.YtgcnggefeapalaaGreatDoor

/- Walks: the bytes of a package. Plain theorems. -/
set_option linter.unusedVariables false
set_option linter.unusedSimpArgs false
namespace Go.Proofs.YtgcnggefeapalaaGreatDoor
open Go Go.Fw
set_option maxRecDepth 100000
theorem c_EqualB (a b : List UInt8) (ha : a.length ≤ 1048576) (hb : b.length ≤ 1048576) : PCtr PP n_slices_Equal_L_byte_byte [.sl false 1 (a.map byteA), .sl false 1 (b.map byteA)] (boo (decide (a = b))) := by
  obtain ⟨Ω, hΩ⟩ : ∃ Ω, Ω = std := ⟨_, rfl⟩
  obtain ⟨r, hr⟩ : ∃ r, r = decide (a = b) := ⟨_, rfl⟩
  have ne : a ≠ b → r = false := fun h => by rw [hr]; exact decide_eq_false h
  have eq : a = b → r = true := fun h => by rw [hr]; exact decide_eq_true h
  rw [← hr]
  clear hr
  obtain ⟨xs, hxs⟩ : ∃ xs, xs = a.map byteA := ⟨_, rfl⟩
  obtain ⟨ys, hys⟩ : ∃ ys, ys = b.map byteA := ⟨_, rfl⟩
  have hlx : Ω.int (Ω.len xs) = (a.length : Int) := by subst hΩ; show ((xs.length : Nat) : Int) = _; rw [hxs, List.length_map]
  have hly : Ω.int (Ω.len ys) = (b.length : Int) := by subst hΩ; show ((ys.length : Nat) : Int) = _; rw [hys, List.length_map]
  have hll : xs.length = a.length := by rw [hxs, List.length_map]
  rw [← hxs, ← hys]
  have htab := tab
  have hmo := hmo
  refine PCtr.walk tab hΩ fn_slices_Equal_L_byte_byte rfl ?_
  generalize PP = P at *
  cbv
  refine br (fun h => ?_) (fun h => ?_) <;> cbv
  · have h := neI_t hΩ h
    exact .of (congrArg boo (ne (fun e => h (by rw [hlx, hly, e]))).symm)
  have h := neI_f hΩ h
  have hab : a.length = b.length := Int.ofNat_inj.1 (hlx.symm.trans (h.trans hly))
  refine loopX htab hΩ (fun i : Nat => ⟨[(0, .sl false 1 xs), (1, .sl false 1 ys), (12, i64 (Ω.int (Ω.len xs))), (13, i64 (Ω.int i))], 26, []⟩) (fun i => i ≤ a.length ∧ a.take i = b.take i) (fun i => a.length - i) 0
    ⟨Nat.zero_le _, rfl⟩ (Sbs.mk rfl rfl ⟨rfl, rfl, rfl, zeroI hΩ, trivial⟩) ?_
  rintro i ⟨hi, ht⟩
  cbv
  refine br (fun h => ?_) (fun h => ?_) <;> cbv
  · replace h := ltI hΩ h
    obtain ⟨c, hc⟩ := at_of (cs := a) (by omega : i < _)
    obtain ⟨d, hd⟩ := at_of (cs := b) (by omega : i < _)
    refine ⟨VC_drawn htab hΩ hmo (by kernel_rfl) ?_⟩
    cbv
    refine ⟨⟨nnI hΩ⟩, _, rdI hΩ hxs hc, ?_⟩
    cbv
    refine ⟨⟨nnI hΩ⟩, _, rdI hΩ hys hd, ?_⟩
    cbv
    refine br (fun k => ?_) (fun k => ?_) <;> cbv
    · have k : (c.toNat : Int) ≠ d.toNat := neI_t hΩ k
      exact .of (congrArg boo (ne (fun e => k (by rw [e, hd] at hc; cases hc; rfl))).symm)
    · have k : (c.toNat : Int) = d.toNat := neI_f hΩ k
      have e : c = d := UInt8.toNat_inj.1 (by omega)
      exact ⟨i + 1, ⟨by omega, by rw [List.take_add_one, List.take_add_one, hc, hd, ht, e]⟩, by omega, Sbs.mk rfl rfl ⟨rfl, rfl, rfl, incI hΩ (by omega), trivial⟩⟩
  · replace h := geI hΩ h
    rw [List.take_of_length_le (by omega), List.take_of_length_le (by omega)] at ht
    exact .of (congrArg boo (eq ht).symm)
theorem c_l8Same (a b : List UInt8) : PCtr PP n_spec_l8Same [.sl false 1 (a.map byteA), .sl false 1 (b.map byteA)] (boo (decide (a = b))) := by
  obtain ⟨Ω, hΩ⟩ : ∃ Ω, Ω = std := ⟨_, rfl⟩
  obtain ⟨r, hr⟩ : ∃ r, r = decide (a = b) := ⟨_, rfl⟩
  rw [← hr]
  obtain ⟨xs, hxs⟩ : ∃ xs, xs = a.map byteA := ⟨_, rfl⟩
  obtain ⟨ys, hys⟩ : ∃ ys, ys = b.map byteA := ⟨_, rfl⟩
  rw [← hxs, ← hys]
  refine PCtr.walk tab hΩ fn_spec_l8Same rfl ?_
  generalize PP = P at *
  cbv
  refine ⟨a, hxs, ?_⟩
  cbv
  refine ⟨b, hys, ?_⟩
  cbv
  refine .of (congrArg boo ?_)
  rw [hr]
  subst hΩ
  show cmpSS .eql a b = _
  cases h : cmpSS .eql a b with
  | true => exact (decide_eq_true (seqT rfl h)).symm
  | false => exact (decide_eq_false (seqF rfl h)).symm
/-- What both functions of a package's bytes need. -/
theorem byt_facts {Ω : Opq} (hΩ : Ω = std) (o : Pck) (hn : o.n.length ≤ 12) (hv : verF o.v = 0) (hs : inB o.s 1 200 = true) : ∃ (m : Nat) (C : Nat → Int) (F : Nat → List A), (o.s = (m : Int) ∧ 1 ≤ m ∧ m ≤ 200) ∧ (bytK o).map byteA = F m ∧ F 0 = [] ∧
    (∀ k, 0 ≤ C k ∧ C k ≤ 255 ∧ C (k + 1) = (31 * C k + 7) % 256 ∧ Ω.len (F k) = k ∧ Ω.len (F k) ≤ (F k).length ∧ Ω.take (Ω.len (F k)) (F k) = F k ∧ Ω.app (Ω.take (Ω.len (F k)) (F k)) [.sc (.int .u8 (C k))] = F (k + 1) ∧ Ω.plus (Ω.len (F k)) (Ω.len [.sc (.int .u8 (C k))]) = Ω.len (F (k + 1))) ∧
    C 0 = (o.v.a + o.v.b + o.v.c + (sumN o.n : Int)) % 256 := by
  have hs : (1 : Int) ≤ o.s ∧ o.s ≤ 200 := by unfold inB at hs; simpa using hs
  obtain ⟨⟨a0, a1⟩, ⟨b0, b1⟩, ⟨c0, c1⟩⟩ := verF_in hv
  refine ⟨o.s.toNat, fun k => ((bit (byt0 o) k).toNat : Int), fun k => (bytN (byt0 o) k).map byteA, ⟨by omega, by omega, by omega⟩, rfl, rfl, fun k => ?_, ?_⟩
  · have h1 := (bit (byt0 o) k).toNat_lt
    have h2 := bit_succ (byt0 o) k
    have h3 := bytN_len (byt0 o) k
    have h4 := bytN_len (byt0 o) (k + 1)
    dsimp only
    refine ⟨by omega, by omega, by omega, ?_, ?_, takeAll hΩ _, ?_, ?_⟩ <;> subst hΩ
    · show ((bytN (byt0 o) k).map byteA).length = k; rw [List.length_map, h3]
    · exact Nat.le_refl _
    · rw [takeAll rfl, bytN_succ, List.map_append]; rfl
    · show ((bytN (byt0 o) k).map byteA).length + 1 = ((bytN (byt0 o) (k + 1)).map byteA).length
      rw [List.length_map, List.length_map, h3, h4]
  · have h := byt0_nat o
    unfold verN at h
    show ((byt0 o).toNat : Int) = _
    omega
theorem c_bytes (o : Pck) (hn : o.n.length ≤ 12) (hv : verF o.v = 0) (hs : inB o.s 1 200 = true) : PCtr PP n_impl_Pack_bytes [o.enc false] (.sl true 1 ((bytK o).map byteA)) := by
  obtain ⟨Ω, hΩ⟩ : ∃ Ω, Ω = std := ⟨_, rfl⟩
  obtain ⟨m, C, F, ⟨hm, hm1, hm2⟩, hR, hF0, hF, hC0⟩ := byt_facts hΩ o hn hv hs
  rw [hR]
  clear hR
  obtain ⟨⟨a0, a1⟩, ⟨b0, b1⟩, ⟨c0, c1⟩⟩ := verF_in hv
  obtain ⟨ps, ds, bs, hen, -, -, -⟩ := enc_raw o
  rw [hen, hm]
  obtain ⟨B, hB⟩ : ∃ B : Nat → Int, ∀ i, B i = (o.v.a + o.v.b + o.v.c + (sumN (o.n.take i) : Int)) % 256 := ⟨_, fun _ => rfl⟩
  have hB0 : Ω.ar .add .u8 (Ω.ar .add .u8 (Ω.wrap .u8 o.v.a) (Ω.wrap .u8 o.v.b)) (Ω.wrap .u8 o.v.c) = B 0 := by
    rw [hB]; subst hΩ; show ((o.v.a % 256 + o.v.b % 256) % 256 + o.v.c % 256) % 256 = (o.v.a + o.v.b + o.v.c + ((0 : Nat) : Int)) % 256; omega
  have hBs : ∀ i c, o.n[i]? = some c → Ω.ar .add .u8 (B i) (Ω.u8 c) = B (i + 1) := fun i c h => by
    rw [hB, hB, sumN_at h]; subst hΩ; show ((o.v.a + o.v.b + o.v.c + (sumN (o.n.take i) : Int)) % 256 + (c.toNat : Int)) % 256 = _; omega
  have hBe : B o.n.length = C 0 := by rw [hB, hC0, List.take_length]
  clear hB hC0
  generalize o.v.a = va at *
  generalize o.v.b = vb at *
  generalize o.v.c = vc at *
  generalize o.n = nm at *
  obtain ⟨M, hM⟩ : ∃ M : Int, M = (m : Int) := ⟨_, rfl⟩
  rw [← hM]
  have hMi : M = Ω.int m := by subst hΩ; exact hM
  have htab := tab
  have hmo := hmo
  refine PCtr.walk tab hΩ fn_impl_Pack_bytes rfl ?_
  generalize PP = P at *
  cbv
  refine loopX htab hΩ (fun i : Nat => ⟨[(1, .pt 0 0 0), (3, .sc (.int .u8 (B i))), (22, i64 (Ω.int (Ω.lenS nm))), (23, i64 (Ω.int i))], 47, [some ⟨8, [.agg [str nm, i64 va, i64 vb, i64 vc, i64 M, .sl false 1 ps, .sl false 1 ds, .sl false 7 bs]], true⟩]⟩) (fun i => i ≤ nm.length) (fun i => nm.length - i) 0
    (Nat.zero_le _) (Sbs.mk rfl rfl ⟨rfl, congrArg (fun z => A.sc (.int .u8 z)) hB0, rfl, zeroI hΩ, trivial⟩) ?_
  intro i hi
  cbv
  refine br (fun h => ?_) (fun h => ?_) <;> cbv
  · have h := ltZt hΩ h
    have h : i < nm.length := by subst hΩ; have h : (i : Int) < (nm.length : Int) := h; omega
    obtain ⟨c, hc⟩ := at_of (cs := nm) h
    refine ⟨⟨nnI hΩ⟩, c, by subst hΩ; exact hc, ?_⟩
    cbv
    exact ⟨i + 1, by omega, by omega, Sbs.mk rfl rfl ⟨rfl, congrArg (fun z => A.sc (.int .u8 z)) (hBs i c hc), rfl, incI hΩ (by omega), trivial⟩⟩
  · have h := ltZf hΩ h
    have h : i = nm.length := by subst hΩ; have h : (nm.length : Int) ≤ (i : Int) := h; omega
    subst h
    rw [hBe]
    have hz := (hF 0).2.2.2.1
    refine loopX htab hΩ (fun k : Nat => ⟨[(3, .sc (.int .u8 (C k))), (5, .vw 1 0 (Ω.len (F k))), (35, i64 M), (36, i64 (Ω.int k))], 47, [none, some ⟨1, F k, false⟩]⟩) (fun k => k ≤ m) (fun k => m - k) 0
      (Nat.zero_le _) ?enter ?_
    case enter =>
      exact (Sbs.drop (r := 0) rfl).trans (Sbs.mk rfl (by show [none, some (Row.mk 1 [] false)] = [none, some (Row.mk 1 (F 0) false)]; rw [hF0]) ⟨rfl, by show A.vw 1 0 0 = A.vw 1 0 (Ω.len (F 0)); rw [hz], rfl, zeroI hΩ, trivial⟩)
    intro k hk
    obtain ⟨h1, h2, h3, h4, h5, h6, h7, h8⟩ := hF k
    cbv
    refine br (fun h => ?_) (fun h => ?_) <;> cbv
    · have h := ltZt hΩ h
      have h : k < m := by rw [hMi] at h; subst hΩ; have h : (k : Int) < (m : Int) := h; omega
      refine ⟨⟨rfl, okAll rfl, by show (Ω.len (F k) + 1) * 1 ≤ 140737488355328; omega, by show Ω.len (F k) + 1 ≤ 9223372036854775807; omega⟩, ?_⟩
      refine ⟨k + 1, by omega, by omega, (Sbs.cut 2 rfl).trans (Sbs.mk rfl (by show [none, some (Row.mk 1 (Ω.app (Ω.take (Ω.len (F k)) (F k)) [.sc (.int .u8 (C k))]) false)] = _; rw [h7]) ⟨congrArg (fun z => A.sc (.int .u8 z)) ?_, by show A.vw 1 0 (Ω.plus (Ω.len (F k)) (Ω.len [.sc (.int .u8 (C k))])) = _; rw [h8], rfl, incI hΩ (by omega), trivial⟩)⟩
      rw [h3]; subst hΩ
      show (31 * C k % 256 + 7) % 256 = _
      omega
    · have h := ltZf hΩ h
      have h : k = m := by rw [hMi] at h; subst hΩ; have h : (m : Int) ≤ (k : Int) := h; omega
      subst h
      refine ⟨⟨rfl, h5⟩, .of ?_⟩
      show A.sl true 1 (Ω.take (Ω.len (F k)) (F k)) = _
      rw [h6]
theorem c_l2Bytes (o : Pck) (hn : o.n.length ≤ 12) (hv : verF o.v = 0) (hs : inB o.s 1 200 = true) : PCtr PP n_spec_l2Bytes [o.enc false] (.sl true 1 ((bytK o).map byteA)) := by
  obtain ⟨Ω, hΩ⟩ : ∃ Ω, Ω = std := ⟨_, rfl⟩
  obtain ⟨m, C, F, ⟨hm, hm1, hm2⟩, hR, hF0, hF, hC0⟩ := byt_facts hΩ o hn hv hs
  rw [hR]
  clear hR
  obtain ⟨⟨a0, a1⟩, ⟨b0, b1⟩, ⟨c0, c1⟩⟩ := verF_in hv
  obtain ⟨ps, ds, bs, hen, -, -, -⟩ := enc_raw o
  rw [hen, hm]
  have hle := sumN_le o.n
  obtain ⟨B, hB⟩ : ∃ B : Nat → Int, ∀ i, B i = o.v.a + o.v.b + o.v.c + (sumN (o.n.take i) : Int) := ⟨_, fun _ => rfl⟩
  have hB0 : Ω.ar .add .i64 (Ω.ar .add .i64 o.v.a o.v.b) o.v.c = B 0 := by
    rw [hB]; subst hΩ; show IntKind.i64.wrap (IntKind.i64.wrap (o.v.a + o.v.b) + o.v.c) = o.v.a + o.v.b + o.v.c + ((0 : Nat) : Int); rw [wrap64 (x := o.v.a + o.v.b) (by omega) (by omega), wrap64 (by omega) (by omega)]; omega
  have hBs : ∀ i c, i < 12 → o.n[i]? = some c → Ω.ar .add .i64 (B i) (Ω.wrap .i64 (Ω.u8 c)) = B (i + 1) := fun i c hi h => by
    have h1 := sumN_le (o.n.take i)
    have h2 := c.toNat_lt
    rw [List.length_take] at h1
    rw [hB, hB, sumN_at h]; subst hΩ; show IntKind.i64.wrap (_ + IntKind.i64.wrap (c.toNat : Int)) = _; rw [wrap64 (x := (c.toNat : Int)) (by omega) (by omega), wrap64 (by omega) (by omega)]; omega
  have hBe : B o.n.length % 256 = C 0 ∧ 0 ≤ B o.n.length ∧ B o.n.length ≤ 100000 := by rw [hB, hC0, List.take_length]; omega
  clear hB hC0 hle
  generalize o.v.a = va at *
  generalize o.v.b = vb at *
  generalize o.v.c = vc at *
  generalize o.n = nm at *
  obtain ⟨M, hM⟩ : ∃ M : Int, M = (m : Int) := ⟨_, rfl⟩
  rw [← hM]
  have hMi : M = Ω.int m := by subst hΩ; exact hM
  have htab := tab
  have hmo := hmo
  refine PCtr.walk tab hΩ fn_spec_l2Bytes rfl ?_
  generalize PP = P at *
  cbv
  refine loopX htab hΩ (fun i : Nat => ⟨[(1, .pt 0 0 0), (3, i64 (B i)), (4, i64 (Ω.int i))], 50, [some ⟨8, [.agg [str nm, i64 va, i64 vb, i64 vc, i64 M, .sl false 1 ps, .sl false 1 ds, .sl false 7 bs]], true⟩]⟩) (fun i => i ≤ nm.length) (fun i => nm.length - i) 0
    (Nat.zero_le _) (Sbs.mk rfl rfl ⟨rfl, congrArg i64 hB0, zeroI hΩ, trivial⟩) ?_
  intro i hi
  cbv
  refine br (fun h => ?_) (fun h => ?_) <;> cbv
  · have h := ltZt hΩ h
    have h : i < nm.length := by subst hΩ; have h : (i : Int) < (nm.length : Int) := h; omega
    obtain ⟨c, hc⟩ := at_of (cs := nm) h
    refine ⟨⟨nnI hΩ⟩, c, by subst hΩ; exact hc, ?_⟩
    cbv
    exact ⟨i + 1, by omega, by omega, Sbs.mk rfl rfl ⟨rfl, congrArg i64 (hBs i c (by omega) hc), incI hΩ (by omega), trivial⟩⟩
  · have h := ltZf hΩ h
    have h : i = nm.length := by subst hΩ; have h : (nm.length : Int) ≤ (i : Int) := h; omega
    subst h
    obtain ⟨e1, e2, e3⟩ := hBe
    generalize B nm.length = b at *
    have hz := (hF 0).2.2.2.1
    refine loopX htab hΩ (fun k : Nat × Int => ⟨[(1, .pt 0 0 0), (3, i64 k.2), (5, .vw 1 0 (Ω.len (F k.1))), (6, i64 (Ω.int k.1))], 50, [some ⟨8, [.agg [str nm, i64 va, i64 vb, i64 vc, i64 M, .sl false 1 ps, .sl false 1 ds, .sl false 7 bs]], true⟩, some ⟨1, F k.1, false⟩]⟩) (fun k => k.1 ≤ m ∧ k.2 % 256 = C k.1 ∧ 0 ≤ k.2 ∧ k.2 ≤ 100000) (fun k => m - k.1) (0, b)
      ⟨Nat.zero_le _, e1, e2, e3⟩ ?enter ?_
    case enter =>
      exact Sbs.mk rfl (by show [_, some (Row.mk 1 [] false)] = [_, some (Row.mk 1 (F 0) false)]; rw [hF0]; rfl) ⟨rfl, rfl, by show A.vw 1 0 0 = A.vw 1 0 (Ω.len (F 0)); rw [hz], zeroI hΩ, trivial⟩
    rintro ⟨k, y⟩ ⟨hk, hy, y0, y1⟩
    dsimp only at hk hy y0 y1 ⊢
    obtain ⟨h1, h2, h3, h4, h5, h6, h7, h8⟩ := hF k
    have hrem : Ω.ar .rem .i64 y 256 = C k := by subst hΩ; show y.tmod 256 = _; rw [Int.tmod_eq_emod_of_nonneg y0]; exact hy
    have hwr : Ω.wrap .u8 (C k) = C k := by subst hΩ; show C k % 256 = _; omega
    have hnx : Ω.ar .add .i64 (Ω.ar .mul .i64 31 (Ω.ar .rem .i64 y 256)) 7 = 31 * C k + 7 := by
      rw [hrem]; subst hΩ; show IntKind.i64.wrap (IntKind.i64.wrap (31 * C k) + 7) = _; rw [wrap64 (x := 31 * C k) (by omega) (by omega), wrap64 (by omega) (by omega)]
    rw [← hwr, ← hrem] at h7 h8
    cbv
    refine br (fun h => ?_) (fun h => ?_) <;> cbv
    · have h := ltZt hΩ h
      have h : k < m := by rw [hMi] at h; subst hΩ; have h : (k : Int) < (m : Int) := h; omega
      refine ⟨⟨by decide⟩, ?_⟩
      refine ⟨⟨rfl, okAll rfl, by show (Ω.len (F k) + 1) * 1 ≤ 140737488355328; omega, by show Ω.len (F k) + 1 ≤ 9223372036854775807; omega⟩, ?_⟩
      refine ⟨(k + 1, 31 * C k + 7), ⟨by show k + 1 ≤ m; omega, h3.symm, by show 0 ≤ 31 * C k + 7; omega, by show 31 * C k + 7 ≤ 100000; omega⟩, by show m - (k + 1) < m - k; omega, (Sbs.cut 2 rfl).trans (Sbs.mk rfl ?_ ⟨rfl, congrArg i64 hnx, by show A.vw 1 0 (Ω.plus (Ω.len (F k)) (Ω.len [.sc (.int .u8 (Ω.wrap .u8 (Ω.ar .rem .i64 y 256)))])) = _; rw [h8], incI hΩ (by omega), trivial⟩)⟩
      show [_, some (Row.mk 1 (Ω.app (Ω.take (Ω.len (F k)) (F k)) [.sc (.int .u8 (Ω.wrap .u8 (Ω.ar .rem .i64 y 256)))]) false)] = _; rw [h7]; rfl
    · have h := ltZf hΩ h
      have h : k = m := by rw [hMi] at h; subst hΩ; have h : (m : Int) ≤ (k : Int) := h; omega
      subst h
      refine ⟨⟨rfl, h5⟩, .of ?_⟩
      show A.sl true 1 (Ω.take (Ω.len (F k)) (F k)) = _
      rw [h6]
end Go.Proofs.YtgcnggefeapalaaGreatDoor

/- Walks: the packages of a set whose files are not there. Plain theorems. -/
set_option linter.unusedVariables false
set_option linter.unusedSimpArgs false
namespace Go.Proofs.YtgcnggefeapalaaGreatDoor
open Go Go.Fw
set_option maxRecDepth 100000
/-- A package of a sound catalog, in cells; its path and bytes are small. -/
theorem pk_facts {c : List Pck} {k : Int} (hc : catF c = 0) (h : inB k 0 ((c.length : Int) - 1) = true) : 0 ≤ k ∧ (c.map (Pck.enc false))[k.toNat]? = some ((pk c k).enc false) ∧ (pk c k).n.length ≤ 12 ∧ verF (pk c k).v = 0 ∧ inB (pk c k).s 1 200 = true ∧ (bytK (pk c k)).length ≤ 200 := by
  obtain ⟨h0, h1, h2, h3⟩ := pk_at h
  obtain ⟨g1, g2, g3⟩ := packF_ok ((cat_ok hc).2 _ h3)
  refine ⟨h0, by rw [List.getElem?_map, h2]; rfl, nameF_len g1, g2, g3, ?_⟩
  have hs : (1 : Int) ≤ (pk c k).s ∧ (pk c k).s ≤ 200 := by unfold inB at g3; simpa using g3
  unfold bytK
  rw [bytN_len]
  omega
theorem frz_B1 (l : List UInt8) : (l.map byteA).map frz = l.map byteA := by rw [List.map_map]; exact List.map_congr_left fun c _ => rfl
theorem c_lacking1 (c : List Pck) (x : Dsk) (k : Int) (hc : catF c = 0) (hx : x.Ok) (hk : inB k 0 ((c.length : Int) - 1) = true) : PCtr PP n_impl_lacking_1 [i64 k, x.see, .rp [encP c]] (boo (lackB c x.f k)) := by
  obtain ⟨Ω, hΩ⟩ : ∃ Ω, Ω = std := ⟨_, rfl⟩
  obtain ⟨R, hR⟩ : ∃ R, R = lackB c x.f k := ⟨_, rfl⟩
  rw [← hR]
  unfold lackB at hR
  obtain ⟨k0, hat, hn, hv, hs, hbl⟩ := pk_facts hc hk
  generalize pk c k = o at *
  have hp := c_path o (by omega) hv
  have hd := c_data x (pathK o) hx.n hx.o
  have hb := c_bytes o hn hv hs
  have hdl := datF_len hx.d4 (pathK o)
  generalize pathK o = p at *
  have he := c_EqualB (datF x.f p) (bytK o) (by omega) (by omega)
  have hrb := roF_B (bytK o)
  have hfb := frz_B1 (bytK o)
  have r0 : hasF x.f p = false → R = true := fun h => by rw [hR, h]; rfl
  have r1 : hasF x.f p = true → R = !decide (datF x.f p = bytK o) := fun h => by rw [hR, h]; rfl
  clear hR
  generalize datF x.f p = d at *
  generalize hasF x.f p = h at *
  obtain ⟨ds, hds⟩ : ∃ ds, ds = d.map byteA := ⟨_, rfl⟩
  obtain ⟨bs, hbs⟩ : ∃ bs, bs = (bytK o).map byteA := ⟨_, rfl⟩
  generalize decide (d = bytK o) = e at *
  rw [← hds] at hd he
  rw [← hbs] at hb he hrb hfb
  have hlb : Ω.len bs = bs.length := by subst hΩ; rfl
  obtain ⟨ps, dd, bb, hen, -, -, -⟩ := enc_raw o
  rw [hen] at hat hp hb
  unfold Dsk.see encP Dsk.enc at *
  generalize x.f.map (Fil.enc false) = xs at *
  generalize c.map (Pck.enc false) = cs at *
  generalize x.bg = v1 at *
  generalize x.wr = v2 at *
  generalize x.st = v3 at *
  generalize x.dn = v4 at *
  have htab := tab
  have hmo := hmo
  refine PCtr.walk tab hΩ fn_impl_lacking_1 rfl ?_
  generalize PP = P at *
  cbv
  refine ⟨VC_pl htab hΩ hmo (.qs [0, 1, 2, 3, 4] (.s 5 (.s 6 (.qs [7, 8, 9, 10, 11] .fin)))) (by kernel_rfl) ?_⟩
  cbv
  refine ⟨⟨k0⟩, _, hat, ?_⟩
  cbv
  refine call_pure hΩ 4 hp rfl (fits _) rfl rfl ?_
  cbv
  refine call_share hΩ 4 hd rfl (fits _) rfl ?_
  cbv
  refine br (fun g => ?_) (fun g => ?_) <;> cbv
  · have g := notA hΩ g
    rw [r0 g]
    exact .same
  · have g := notB hΩ g
    have r1 := r1 g
    refine ⟨⟨k0⟩, _, hat, ?_⟩
    cbv
    refine call_pure hΩ 4 hb rfl (fits _) hrb rfl ?_
    cbv
    refine call_pure hΩ 4 he (mapO2 rfl (ro_vw rfl hlb hfb)) (fits _) rfl rfl ?_
    cbv
    exact .of (congrArg boo (by rw [r1]; subst hΩ; rfl))
/-- What is captured may be read by all. -/
theorem c_lacking (c : List Pck) (x : Dsk) (s : List Int) (hc : catF c = 0) (hx : x.Ok) (hk : Told c s) : PCtr PP n_impl_lacking [encP c, x.enc false false, .sl false 1 (s.map i64)] (ints (lackF c x.f s)) := by
  obtain ⟨Ω, hΩ⟩ : ∃ Ω, Ω = std := ⟨_, rfl⟩
  have hsl := hk.len
  have hcl := (cat_ok hc).1
  have h := c_those s (by omega) n_impl_lacking_1 [x.see, .rp [encP c]] (lackB c x.f) ⟨fun S k => by unfold Dsk.see encP; rfl, rfl, fun r => rfl, fun k hm => c_lacking1 c x k hc hx (hk.2 k hm)⟩
  have hr := roFInt (lackF c x.f s)
  unfold lackF at *
  unfold ints at *
  generalize (s.filter (lackB c x.f)).map i64 = zs at *
  generalize s.map i64 = ss at *
  have hle : Ω.len zs ≤ zs.length := by subst hΩ; exact Nat.le_refl _
  have htk : Ω.take (Ω.len zs) zs = zs := takeAll hΩ _
  unfold Dsk.see encP Dsk.enc at *
  generalize x.f.map (Fil.enc false) = xs at *
  generalize c.map (Pck.enc false) = cs at *
  generalize x.bg = v1 at *
  generalize x.wr = v2 at *
  generalize x.st = v3 at *
  generalize x.dn = v4 at *
  have htab := tab
  have hmo := hmo
  refine PCtr.walk tab hΩ fn_impl_lacking rfl ?_
  generalize PP = P at *
  cbv
  refine call_pure hΩ 5 h (ro_clo2 rfl (mapO2 (roPt rfl rfl) (roPt rfl rfl))) (fits _) hr rfl ?_
  cbv
  exact ⟨⟨rfl, hle⟩, .of (congrArg (A.sl true 1) htk)⟩
/-- The same, as the reference reckons it. -/
theorem c_l8Lacking (c : List Pck) (x : Dsk) (s : List Int) (hc : catF c = 0) (hx : x.Ok) (hk : Told c s) : PCtr PP n_spec_l8Lacking [encP c, x.see, .sl false 1 (s.map i64)] (ints (lackF c x.f s)) := by
  obtain ⟨Ω, hΩ⟩ : ∃ Ω, Ω = std := ⟨_, rfl⟩
  obtain ⟨F, hF⟩ := grw hΩ i64
  have hsl := hk.len
  have hcl := (cat_ok hc).1
  have hst := fun (i : Nat) (k : Int) (h : s[i]? = some k) => lackF_at (c := c) (l := x.f) h
  have hl0 : lackF c x.f (s.take 0) = [] := rfl
  have hln : lackF c x.f s = lackF c x.f (s.take s.length) := by rw [List.take_length]
  have hll : ∀ i, (lackF c x.f (s.take i)).length ≤ 24 := fun i => Nat.le_trans (List.length_filter_le _ _) (by rw [List.length_take]; omega)
  have hat : ∀ k ∈ s, ∃ (o : Pck) (p : List UInt8) (ds : List A) (h : Bool) (z : Int) (bs : List A), (0 ≤ k ∧ (c.map (Pck.enc false))[k.toNat]? = some (o.enc false)) ∧ (PCtr PP n_spec_l8Path [o.enc false] (str p) ∧ PCtr PP n_spec_l7Find [x.see, str p] (i64 z) ∧ PCtr PP n_spec_l2Bytes [o.enc false] (.sl true 1 bs)) ∧
      (h = false → z < 0 ∧ lackB c x.f k = true) ∧ (h = true → (0 ≤ z ∧ ∃ q, (x.f.map (Fil.enc false))[z.toNat]? = some (.agg [str q, .sl false 1 ds])) ∧ PCtr PP n_spec_l8Same [.sl false 1 ds, .sl false 1 bs] (boo (!lackB c x.f k))) ∧ roFree (.sl true 1 bs) = true ∧ bs.map frz = bs := fun k hm => by
    obtain ⟨k0, hat, hn, hv, hs, hbl⟩ := pk_facts hc (hk.2 k hm)
    obtain ⟨f1, f2⟩ := fnd_of hx.o (pathK (pk c k))
    refine ⟨pk c k, pathK (pk c k), (datF x.f (pathK (pk c k))).map byteA, hasF x.f (pathK (pk c k)), fndF x.f (pathK (pk c k)), (bytK (pk c k)).map byteA, ⟨k0, hat⟩, ⟨c_l8Path _ (by omega) hv, c_l7Find x _ hx.n, c_l2Bytes _ hn hv hs⟩, fun h => ⟨(f1 h).1, by unfold lackB; rw [h]; rfl⟩, fun h => ⟨f2 h, ?_⟩, roF_B _, frz_B1 _⟩
    have e : (!lackB c x.f k) = decide (datF x.f (pathK (pk c k)) = bytK (pk c k)) := by unfold lackB; rw [h]; simp
    rw [e]
    exact c_l8Same _ _
  unfold ints
  rw [hln]
  generalize lackB c x.f = B at *
  obtain ⟨L, hL⟩ : ∃ L : Nat → List Int, ∀ i, L i = lackF c x.f (s.take i) := ⟨_, fun _ => rfl⟩
  simp only [← hL] at hst hl0 hll ⊢
  obtain ⟨ss, hss⟩ : ∃ ss, ss = s.map i64 := ⟨_, rfl⟩
  rw [← hss, hF.eq]
  clear hL hln
  unfold Dsk.see encP at *
  generalize x.f.map (Fil.enc false) = xs at *
  generalize c.map (Pck.enc false) = cs at *
  generalize x.bg = v1 at *
  generalize x.wr = v2 at *
  generalize x.st = v3 at *
  generalize x.dn = v4 at *
  have htab := tab
  have hmo := hmo
  refine PCtr.walk tab hΩ fn_spec_l8Lacking rfl ?_
  generalize PP = P at *
  cbv
  refine loopX htab hΩ (fun i : Nat => ⟨[(0, .sl false 8 cs), (1, .rp [.sl false 2 xs, i64 v1, i64 v2, i64 v3, boo v4]), (2, .sl false 1 ss), (7, .vw 0 0 (Ω.len (F (L i)))), (8, i64 (Ω.int i))], 57, [some ⟨1, F (L i), false⟩]⟩) (fun i => i ≤ s.length) (fun i => s.length - i) 0
    (Nat.zero_le _) (Sbs.mk rfl (by show [some (Row.mk 1 [] false)] = [some (Row.mk 1 (F (L 0)) false)]; rw [hl0, hF.nil]) ⟨rfl, rfl, rfl, by show A.vw 0 0 0 = A.vw 0 0 (Ω.len (F (L 0))); rw [hl0, hF.z], zeroI hΩ, trivial⟩) ?_
  intro i hi
  have hlo := hF.lo (L i)
  have hfl := hF.len (L i)
  have htk := hF.tk (L i)
  have hle := hF.le (L i)
  have h24 := hll i
  cbv
  refine br (fun h => ?_) (fun h => ?_) <;> cbv
  · replace h := ltI hΩ h
    have h : i < s.length := by rw [hss, List.length_map] at h; exact h
    obtain ⟨k, hki⟩ := at_of (cs := s) h
    have hst := hst i k hki
    have hap := hF.app (L i) k
    have hpl := hF.plus (L i) k
    obtain ⟨o, p, ds, hh, z, bs, ⟨k0, hat⟩, ⟨hp, hz, hb⟩, hno, hyes, hrb, hfb⟩ := hat k (List.mem_of_getElem? hki)
    have hlb : Ω.len bs = bs.length := by subst hΩ; rfl
    obtain ⟨ps, dd, bb, hen, -, -, -⟩ := enc_raw o
    rw [hen] at hat hp hb
    have grow : B k = true → L (i + 1) = L i ++ [k] := fun e => by rw [hst, e]; rfl
    have keep : B k = false → L (i + 1) = L i := fun e => by rw [hst, e]; simp
    clear hst
    generalize B k = b at *
    refine ⟨⟨nnI hΩ⟩, _, rdI hΩ hss hki, ?_⟩
    cbv
    refine ⟨⟨k0⟩, _, hat, ?_⟩
    cbv
    refine call_pure hΩ 4 hp rfl (fits _) rfl rfl ?_
    cbv
    refine call_pure hΩ 4 hz rfl (fits _) rfl rfl ?_
    cbv
    refine ⟨VC_pl htab hΩ hmo (.qs [0, 1, 2, 3, 4, 5, 6, 7, 8, 9, 10, 11, 12, 13, 14, 15, 16, 17] (.s 18 (.s 19 (.s 20 (.s 21 .fin))))) (by kernel_rfl) ?_⟩
    cbv
    refine br (fun g => ?_) (fun g => ?_) <;> cbv
    · have g := ltZt hΩ g
      have hb1 : b = true := by
        cases hh with
        | true => have := (hyes rfl).1.1; omega
        | false => exact (hno rfl).2
      refine ⟨⟨nnI hΩ⟩, _, rdI hΩ hss hki, ?_⟩
      cbv
      refine ⟨⟨rfl, okAll rfl, by show (Ω.len (F (L i)) + 1) * 8 ≤ 140737488355328; omega, by show Ω.len (F (L i)) + 1 ≤ 9223372036854775807; omega⟩, ?_⟩
      exact ⟨i + 1, by omega, by omega, (Sbs.cut 1 rfl).trans (Sbs.mk rfl (by show [some (Row.mk 1 (Ω.app (Ω.take (Ω.len (F (L i))) (F (L i))) [i64 k]) false)] = _; rw [hap, grow hb1]) ⟨rfl, rfl, rfl, by show A.vw 0 0 (Ω.plus (Ω.len (F (L i))) (Ω.len [i64 k])) = _; rw [hpl, grow hb1], incI hΩ (by omega), trivial⟩)⟩
    · have g := ltZf hΩ g
      cases hh with
      | false => have := (hno rfl).1; omega
      | true =>
      obtain ⟨⟨z0, q, hq⟩, hsame⟩ := hyes rfl
      refine ⟨⟨z0⟩, _, hq, ?_⟩
      cbv
      refine ⟨⟨nnI hΩ⟩, _, rdI hΩ hss hki, ?_⟩
      cbv
      refine ⟨⟨k0⟩, _, hat, ?_⟩
      cbv
      refine call_pure hΩ 4 hb rfl (fits _) hrb rfl ?_
      cbv
      refine call_pure hΩ 4 hsame (mapO2 rfl (ro_vw rfl hlb hfb)) (fits _) rfl rfl ?_
      cbv
      refine br (fun g' => ?_) (fun g' => ?_) <;> cbv
      · have hb1 : b = true := by subst hΩ; cases b with | true => rfl | false => cases g'
        refine ⟨⟨nnI hΩ⟩, _, rdI hΩ hss hki, ?_⟩
        cbv
        refine ⟨⟨rfl, okAll rfl, by show (Ω.len (F (L i)) + 1) * 8 ≤ 140737488355328; omega, by show Ω.len (F (L i)) + 1 ≤ 9223372036854775807; omega⟩, ?_⟩
        exact ⟨i + 1, by omega, by omega, (Sbs.cut 1 rfl).trans (Sbs.mk rfl (by show [some (Row.mk 1 (Ω.app (Ω.take (Ω.len (F (L i))) (F (L i))) [i64 k]) false)] = _; rw [hap, grow hb1]) ⟨rfl, rfl, rfl, by show A.vw 0 0 (Ω.plus (Ω.len (F (L i))) (Ω.len [i64 k])) = _; rw [hpl, grow hb1], incI hΩ (by omega), trivial⟩)⟩
      · have hb0 : b = false := by subst hΩ; cases b with | false => rfl | true => cases g'
        exact ⟨i + 1, by omega, by omega, (Sbs.cut 1 rfl).trans (Sbs.mk rfl (by show [some (Row.mk 1 (F (L i)) false)] = _; rw [keep hb0]) ⟨rfl, rfl, rfl, by show A.vw 0 0 (Ω.len (F (L i))) = _; rw [keep hb0], incI hΩ (by omega), trivial⟩)⟩
  · replace h := geI hΩ h
    have : i = s.length := by rw [hss, List.length_map] at h; omega
    subst this
    exact ⟨⟨rfl, hle⟩, .of (congrArg (A.sl true 1) htk)⟩
end Go.Proofs.YtgcnggefeapalaaGreatDoor

/- Walks: the text of a term. Plain theorems. -/
set_option linter.unusedVariables false
set_option linter.unusedSimpArgs false
namespace Go.Proofs.YtgcnggefeapalaaGreatDoor
open Go Go.Fw
set_option maxRecDepth 100000
theorem bangT {D : Bool} (h : (!D) = true) : D = false := by cases D <;> simp_all
theorem bangF {D : Bool} (h : (!D) = false) : D = true := by cases D <;> simp_all
theorem cmpV_dec (a b : Ver) : decide (cmpV a b = 0) = decide (a = b) := by rw [decide_eq_decide]; exact cmpV_zero
theorem c_FormatTerm (t : Trm) : PCtr PP n_impl_FormatTerm [t.enc] (str (fmtT t)) := by
  obtain ⟨Ω, hΩ⟩ : ∃ Ω, Ω = std := ⟨_, rfl⟩
  have htab := tab
  have hmo := hmo
  have hve := verEq
  obtain ⟨r, hr⟩ : ∃ r, r = fmtT t := ⟨_, rfl⟩
  rw [← hr]
  have h1 := c_implTermFault t
  have h3 := c_implTop
  have hp := @trmF_parts t
  unfold fmtT trmT at hr
  generalize trmF t = F at *
  obtain ⟨n, l, h⟩ := t
  dsimp only at *
  have hl : F = 0 → PCtr PP n_impl_Version_text [l.enc] (str (verT l)) ∧ (verT l).length ≤ 11 := fun e => ⟨c_text l (hp e).2.1, verT_len (hp e).2.1⟩
  have hh : F = 0 → decide (h = topV) = false → PCtr PP n_impl_Version_text [h.enc] (str (verT h)) ∧ (verT h).length ≤ 11 := fun e g => by
    have := (hp e).2.2.resolve_left (by simpa using g)
    exact ⟨c_text h this, verT_len this⟩
  have hn : F = 0 → n.length ≤ 12 := fun e => nameF_len (hp e).1
  have hr1 : F ≠ 0 → [] = r := fun e => by rw [hr, if_neg e]
  have hr2 : F = 0 → ∀ a b, decide (l = Ver.zero) = a → decide (h = topV) = b → r = (n ++ (if a then [] else [62, 61] ++ verT l)) ++ (if b then [] else [60] ++ verT h) := fun e a b ha hb => by
    rw [hr, if_pos e, ← ha, ← hb]; simp
  clear hr hp
  generalize verT l = A2 at *
  generalize verT h = A3 at *
  generalize topV = tv at *
  refine PCtr.walk tab hΩ fn_impl_FormatTerm rfl ?_
  generalize PP = P at *
  cbv
  refine call_pure hΩ 3 h1 rfl (fits _) rfl rfl ?_
  cbv
  refine br (fun g => ?_) (fun g => ?_) <;> cbv
  · exact .of (congrArg str (hr1 (neI_t hΩ g)))
  have g := neI_f hΩ g
  have hr2 := hr2 g
  obtain ⟨hl, ll⟩ := hl g
  have hh := hh g
  have hn := hn g
  refine eqX_neq hve l Ver.zero ?_
  generalize hD : decide (l = Ver.zero) = D at *
  cbv
  refine br (fun k => ?_) (fun k => ?_) <;> cbv
  · have k := bangT k
    subst k
    refine call_pure hΩ 3 hl rfl (fits _) rfl rfl ?_
    cbv
    refine ⟨⟨by show ((2 + A2.length : Nat) : Int) ≤ _; omega⟩, ⟨by show ((n.length + (Ω.cat [62, 61] A2).length : Nat) : Int) ≤ _; rw [catL hΩ]; simp; omega⟩, ?_⟩
    cbv
    refine ⟨VC_drawn htab hΩ hmo (by kernel_rfl) ?_⟩
    cbv
    refine QCall_pure (k := 3) h3 rfl (fits _) rfl ?_
    cbv
    refine eqX_neq hve h tv ?_
    generalize hE : decide (h = tv) = E at *
    cbv
    refine br (fun k => ?_) (fun k => ?_) <;> cbv
    · have k := bangT k
      subst k
      obtain ⟨hh, lh⟩ := hh rfl
      refine call_pure hΩ 3 hh rfl (fits _) rfl rfl ?_
      cbv
      refine ⟨⟨by show ((1 + A3.length : Nat) : Int) ≤ _; omega⟩, ⟨by show (((Ω.cat n (Ω.cat [62, 61] A2)).length + (Ω.cat [60] A3).length : Nat) : Int) ≤ _; rw [catL hΩ, catL hΩ, catL hΩ]; simp; omega⟩, ?_⟩
      cbv
      refine .of (congrArg str ?_)
      rw [hr2 _ _ rfl rfl]; subst hΩ; rfl
    · have k := bangF k
      subst k
      refine .of (congrArg str ?_)
      rw [hr2 _ _ rfl rfl]; subst hΩ; exact (List.append_nil _).symm
  · have k := bangF k
    subst k
    refine ⟨VC_drawn htab hΩ hmo (by kernel_rfl) ?_⟩
    cbv
    refine QCall_pure (k := 3) h3 rfl (fits _) rfl ?_
    cbv
    refine eqX_neq hve h tv ?_
    generalize hE : decide (h = tv) = E at *
    cbv
    refine br (fun k => ?_) (fun k => ?_) <;> cbv
    · have k := bangT k
      subst k
      obtain ⟨hh, lh⟩ := hh rfl
      refine call_pure hΩ 3 hh rfl (fits _) rfl rfl ?_
      cbv
      refine ⟨⟨by show ((1 + A3.length : Nat) : Int) ≤ _; omega⟩, ⟨by show ((n.length + (Ω.cat [60] A3).length : Nat) : Int) ≤ _; rw [catL hΩ]; simp; omega⟩, ?_⟩
      cbv
      refine .of (congrArg str ?_)
      rw [hr2 _ _ rfl rfl]; subst hΩ; show _ = (n ++ []) ++ _; rw [List.append_nil]; rfl
    · have k := bangF k
      subst k
      refine .of (congrArg str ?_)
      rw [hr2 _ _ rfl rfl]; subst hΩ; simp
end Go.Proofs.YtgcnggefeapalaaGreatDoor

/- Walks: the text of a term. Plain theorems. -/
set_option linter.unusedVariables false
set_option linter.unusedSimpArgs false
namespace Go.Proofs.YtgcnggefeapalaaGreatDoor
open Go Go.Fw
set_option maxRecDepth 100000
theorem c_specFormatTerm (t : Trm) : PCtr PP n_spec_FormatTerm [t.enc] (str (fmtT t)) := by
  obtain ⟨Ω, hΩ⟩ : ∃ Ω, Ω = std := ⟨_, rfl⟩
  have htab := tab
  have hmo := hmo
  have hve := verEq
  obtain ⟨r, hr⟩ : ∃ r, r = fmtT t := ⟨_, rfl⟩
  rw [← hr]
  have h1 := c_specTermFault t
  have h3 := c_specTop
  have hp := @trmF_parts t
  have hcv := c_CompareVersions
  unfold fmtT trmT at hr
  generalize trmF t = F at *
  obtain ⟨n, l, h⟩ := t
  dsimp only at *
  have hl : F = 0 → PCtr PP n_spec_FormatVersion [l.enc] (str (verT l)) ∧ (verT l).length ≤ 11 := fun e => ⟨c_specFormatVersion l (hp e).2.1, verT_len (hp e).2.1⟩
  have hh : F = 0 → decide (h = topV) = false → PCtr PP n_spec_FormatVersion [h.enc] (str (verT h)) ∧ (verT h).length ≤ 11 := fun e g => by
    have := (hp e).2.2.resolve_left (by simpa using g)
    exact ⟨c_specFormatVersion h this, verT_len this⟩
  have hn : F = 0 → n.length ≤ 12 := fun e => nameF_len (hp e).1
  have hr1 : F ≠ 0 → [] = r := fun e => by rw [hr, if_neg e]
  have hr2 : F = 0 → ∀ a b, decide (l = Ver.zero) = a → decide (h = topV) = b → r = (n ++ (if a then [] else [62, 61] ++ verT l)) ++ (if b then [] else [60] ++ verT h) := fun e a b ha hb => by
    rw [hr, if_pos e, ← ha, ← hb]; simp
  clear hr hp
  have hcv := hcv l Ver.zero
  have hcd := cmpV_dec l Ver.zero
  generalize cmpV l Ver.zero = C at *
  generalize verT l = A2 at *
  generalize verT h = A3 at *
  generalize topV = tv at *
  refine PCtr.walk tab hΩ fn_spec_FormatTerm rfl ?_
  generalize PP = P at *
  cbv
  refine call_pure hΩ 3 h1 rfl (fits _) rfl rfl ?_
  cbv
  refine br (fun g => ?_) (fun g => ?_) <;> cbv
  · exact .of (congrArg str (hr1 (neI_t hΩ g)))
  have g := neI_f hΩ g
  have hr2 := hr2 g
  obtain ⟨hl, ll⟩ := hl g
  have hh := hh g
  have hn := hn g
  refine call_pure hΩ 3 hcv rfl (fits _) rfl rfl ?_
  cbv
  generalize hD : decide (l = Ver.zero) = D at *
  refine br (fun k => ?_) (fun k => ?_) <;> cbv
  · have k : D = false := by rw [← hcd]; exact decide_eq_false (neI_t hΩ k)
    subst k
    refine ⟨⟨by show ((n.length + 2 : Nat) : Int) ≤ _; omega⟩, ?_⟩
    refine call_pure hΩ 3 hl rfl (fits _) rfl rfl ?_
    cbv
    refine ⟨⟨by show (((Ω.cat n [62, 61]).length + A2.length : Nat) : Int) ≤ _; rw [catL hΩ]; simp; omega⟩, ?_⟩
    cbv
    refine ⟨VC_drawn htab hΩ hmo (by kernel_rfl) ?_⟩
    cbv
    refine QCall_pure (k := 3) h3 rfl (fits _) rfl ?_
    cbv
    refine eqX_neq hve h tv ?_
    generalize hE : decide (h = tv) = E at *
    cbv
    refine br (fun k => ?_) (fun k => ?_) <;> cbv
    · have k := bangT k
      subst k
      obtain ⟨hh, lh⟩ := hh rfl
      refine ⟨⟨by show (((Ω.cat (Ω.cat n [62, 61]) A2).length + 1 : Nat) : Int) ≤ _; rw [catL hΩ, catL hΩ]; simp; omega⟩, ?_⟩
      refine call_pure hΩ 3 hh rfl (fits _) rfl rfl ?_
      cbv
      refine ⟨⟨by show (((Ω.cat (Ω.cat (Ω.cat n [62, 61]) A2) [60]).length + A3.length : Nat) : Int) ≤ _; rw [catL hΩ, catL hΩ, catL hΩ]; simp; omega⟩, ?_⟩
      cbv
      refine .of (congrArg str ?_)
      rw [hr2 _ _ rfl rfl]; subst hΩ; show ((n ++ [62, 61]) ++ A2) ++ [60] ++ A3 = (n ++ ([62, 61] ++ A2)) ++ ([60] ++ A3); simp
    · have k := bangF k
      subst k
      refine .of (congrArg str ?_)
      rw [hr2 _ _ rfl rfl]; subst hΩ; show (n ++ [62, 61]) ++ A2 = (n ++ ([62, 61] ++ A2)) ++ []; simp
  · have k : D = true := by rw [← hcd]; exact decide_eq_true (neI_f hΩ k)
    subst k
    refine ⟨VC_drawn htab hΩ hmo (by kernel_rfl) ?_⟩
    cbv
    refine QCall_pure (k := 3) h3 rfl (fits _) rfl ?_
    cbv
    refine eqX_neq hve h tv ?_
    generalize hE : decide (h = tv) = E at *
    cbv
    refine br (fun k => ?_) (fun k => ?_) <;> cbv
    · have k := bangT k
      subst k
      obtain ⟨hh, lh⟩ := hh rfl
      refine ⟨⟨by show ((n.length + 1 : Nat) : Int) ≤ _; omega⟩, ?_⟩
      refine call_pure hΩ 3 hh rfl (fits _) rfl rfl ?_
      cbv
      refine ⟨⟨by show (((Ω.cat n [60]).length + A3.length : Nat) : Int) ≤ _; rw [catL hΩ]; simp; omega⟩, ?_⟩
      cbv
      refine .of (congrArg str ?_)
      rw [hr2 _ _ rfl rfl]; subst hΩ; show (n ++ [60]) ++ A3 = (n ++ []) ++ ([60] ++ A3); simp
    · have k := bangF k
      subst k
      refine .of (congrArg str ?_)
      rw [hr2 _ _ rfl rfl]; subst hΩ; simp
end Go.Proofs.YtgcnggefeapalaaGreatDoor

/- Walks: the reading of a term, the program's. Plain theorems. -/
set_option linter.unusedVariables false
set_option linter.unusedSimpArgs false
namespace Go.Proofs.YtgcnggefeapalaaGreatDoor
open Go Go.Fw Go.Lib
set_option maxRecDepth 100000
theorem c_AnyI (n : List UInt8) : PCtr PP n_impl_AnyTerm [str n] (inTop n).enc := by
  obtain ⟨Ω, hΩ⟩ : ∃ Ω, Ω = std := ⟨_, rfl⟩
  have htab := tab
  have hmo := hmo
  have h3 := c_implTop
  unfold inTop
  generalize topV = tv at *
  refine PCtr.walk tab hΩ fn_impl_AnyTerm rfl ?_
  generalize PP = P at *
  cbv
  refine call_pure hΩ 3 h3 rfl (fits _) rfl rfl ?_
  cbv
  exact .same
theorem c_AnyS (n : List UInt8) : PCtr PP n_spec_AnyTerm [str n] (inTop n).enc := by
  obtain ⟨Ω, hΩ⟩ : ∃ Ω, Ω = std := ⟨_, rfl⟩
  have htab := tab
  have hmo := hmo
  have h3 := c_specTop
  unfold inTop
  generalize topV = tv at *
  refine PCtr.walk tab hΩ fn_spec_AnyTerm rfl ?_
  generalize PP = P at *
  cbv
  refine call_pure hΩ 3 h3 rfl (fits _) rfl rfl ?_
  cbv
  exact .same
def trmR (x : Int × Trm) : A := .agg (i64 x.1 :: x.2.cells)
theorem tw_at {p : UInt8 → Bool} : ∀ {s : List UInt8} {i : Nat} {c : UInt8}, s[i]? = some c → i ≤ (s.takeWhile p).length → (p c = true → i + 1 ≤ (s.takeWhile p).length) ∧ (p c = false → (s.takeWhile p).length = i)
  | [], i, c, h, _ => by simp at h
  | x :: s, 0, c, h, _ => by
    simp at h
    subst h
    rw [List.takeWhile_cons]
    cases hp : p x <;> simp
  | x :: s, i + 1, c, h, hi => by
    rw [List.takeWhile_cons] at hi ⊢
    cases hp : p x with
    | false => rw [hp] at hi; simp at hi
    | true =>
      rw [hp] at hi
      simp at hi h ⊢
      have := tw_at (p := p) h hi
      exact ⟨fun g => by have := this.1 g; omega, fun g => this.2 g⟩
theorem tw_le (p : UInt8 → Bool) (s : List UInt8) : (s.takeWhile p).length ≤ s.length := by
  have := congrArg List.length (List.takeWhile_append_dropWhile (p := p) (l := s))
  rw [List.length_append] at this
  omega
theorem tw_take (p : UInt8 → Bool) (s : List UInt8) : s.take (s.takeWhile p).length = s.takeWhile p := by
  have h := List.take_left (l₁ := s.takeWhile p) (l₂ := s.dropWhile p)
  rwa [List.takeWhile_append_dropWhile] at h
theorem tw_drop (p : UInt8 → Bool) (s : List UInt8) : s.drop (s.takeWhile p).length = s.dropWhile p := by
  have h := List.drop_left (l₁ := s.takeWhile p) (l₂ := s.dropWhile p)
  rwa [List.takeWhile_append_dropWhile] at h
/-- The end of the reading: the term is looked at. -/
def FinR (R : A) (tf : Trm → Int) (t : Trm) : Prop := (tf t ≠ 0 → trmR (tf t, Trm.zero) = R) ∧ (tf t = 0 → trmR (0, t) = R)
theorem FinR.of {R : A} {t : Trm} (h : trmR (finT t) = R) : FinR R trmF t := by
  unfold finT at h
  exact ⟨fun g => by rwa [if_neg g] at h, fun g => by rwa [if_pos g] at h⟩
def tOf {R : A} {tf : Trm → Int} {t : Trm} (_ : FinR R tf t) : Trm := t
/-- The reading behind the low bound. -/
def TailR (R : A) (hp : List UInt8 → List UInt8 → Bool) (tp : List UInt8 → List UInt8 → List UInt8) (vp : List UInt8 → Int × Ver) (tf : Trm → Int) (n : List UInt8) (l tv : Ver) (r : List UInt8) : Prop :=
  (hp r [60] = true → (vp (tp r [60])).1 ≠ 0 → trmR badT = R) ∧ (hp r [60] = true → (vp (tp r [60])).1 = 0 → FinR R tf ⟨n, l, (vp (tp r [60])).2⟩) ∧ (hp r [60] = false → r = [] → FinR R tf ⟨n, l, tv⟩) ∧ (hp r [60] = false → r ≠ [] → trmR badT = R)
theorem TailR.of {R : A} {n : List UInt8} {l : Ver} {r : List UInt8} (h : trmR (prsH n l r) = R) : TailR R hasPrefix trimPrefix verP trmF n l topV r := by
  unfold prsH at h
  refine ⟨fun a b => ?_, fun a b => ?_, fun a b => ?_, fun a b => ?_⟩
  · rwa [if_pos a, if_pos b] at h
  · rw [if_pos a, if_neg (by simpa using b)] at h; exact .of h
  · rw [if_neg (by rw [a]; simp), if_pos b] at h; exact .of h
  · rwa [if_neg (by rw [a]; simp), if_neg b] at h
theorem prsR (s n r : List UInt8) (hn : s.takeWhile nameB = n) (hr : s.dropWhile nameB = r) {R : A} (h : R = trmR (prsT s)) :
    (nameF n ≠ 0 → trmR badT = R) ∧ (nameF n = 0 → hasPrefix r [62, 61] = true → (verP ((trimPrefix r [62, 61]).take (cutI (trimPrefix r [62, 61])))).1 ≠ 0 → trmR badT = R) ∧
    (nameF n = 0 → hasPrefix r [62, 61] = true → (verP ((trimPrefix r [62, 61]).take (cutI (trimPrefix r [62, 61])))).1 = 0 → TailR R hasPrefix trimPrefix verP trmF n (verP ((trimPrefix r [62, 61]).take (cutI (trimPrefix r [62, 61])))).2 topV ((trimPrefix r [62, 61]).drop (cutI (trimPrefix r [62, 61])))) ∧
    (nameF n = 0 → hasPrefix r [62, 61] = false → TailR R hasPrefix trimPrefix verP trmF n Ver.zero topV r) := by
  have hI : nameF n = 0 → trmR (prsI n r) = R := fun e => by rw [h, prsI_eq s (by rw [hn]; exact e), hn, hr]
  refine ⟨fun e => ?_, fun e a b => ?_, fun e a b => ?_, fun e a => ?_⟩
  · rw [h]; unfold prsT; rw [hn, if_pos e]
  · have := hI e; unfold prsI at this; rwa [if_pos a, if_pos b] at this
  · have := hI e; unfold prsI at this; rw [if_pos a, if_neg (by simpa using b)] at this; exact .of this
  · have := hI e; unfold prsI at this; rw [if_neg (by rw [a]; simp)] at this; exact .of this
theorem c_ParseTerm (s : List UInt8) (hs : s.length ≤ 1048575) : PCtr PP n_impl_ParseTerm [str s] (trmR (prsT s)) := by
  obtain ⟨Ω, hΩ⟩ : ∃ Ω, Ω = std := ⟨_, rfl⟩
  obtain ⟨R, hR⟩ : ∃ R, R = trmR (prsT s) := ⟨_, rfl⟩
  rw [← hR]
  have htab := tab
  have hmo := hmo
  have hnb := c_isNameByte
  have hat := fun i c h k => @tw_at nameB s i c h k
  have hnl := tw_le nameB s
  have htk := tw_take nameB s
  have hdr := tw_drop nameB s
  obtain ⟨n, hn⟩ : ∃ n, s.takeWhile nameB = n := ⟨_, rfl⟩
  obtain ⟨r, hr⟩ : ∃ r, s.dropWhile nameB = r := ⟨_, rfl⟩
  obtain ⟨F0, F1, F2, F3⟩ := prsR s n r hn hr hR
  obtain ⟨N, hN⟩ : ∃ N, N = n.length := ⟨_, rfl⟩
  rw [hn, ← hN] at hat hnl htk hdr
  rw [hr] at hdr
  have hA := c_AnyI n
  have hNF := c_implNameFault n
  have hC1 := c_CutPrefix r [62, 61]
  have hlow : (trimPrefix r [62, 61]).length ≤ 1048575 := by
    have : r.length ≤ s.length := by rw [← hdr, List.length_drop]; omega
    unfold trimPrefix
    split
    · rw [List.length_drop]; omega
    · omega
  have hrl : r.length ≤ 1048575 := by rw [← hdr, List.length_drop]; omega
  have hC2 := fun x => c_CutPrefix x [60]
  have htl : ∀ x : List UInt8, (trimPrefix x [60]).length ≤ x.length := fun x => by
    unfold trimPrefix
    split
    · rw [List.length_drop]; omega
    · omega
  have hIx := c_IndexByte (trimPrefix r [62, 61]) 60
  have hkk : indexByte (trimPrefix r [62, 61]) 60 < 0 ∧ cutI (trimPrefix r [62, 61]) = (trimPrefix r [62, 61]).length ∨ 0 ≤ indexByte (trimPrefix r [62, 61]) 60 ∧ (cutI (trimPrefix r [62, 61]) : Int) = indexByte (trimPrefix r [62, 61]) 60 := by
    unfold cutI
    rcases ixb_ge (trimPrefix r [62, 61]) with h | h
    · exact .inl ⟨by omega, if_pos (by omega)⟩
    · exact .inr ⟨h, by rw [if_neg (by omega)]; omega⟩
  have hKl := cutI_le (trimPrefix r [62, 61])
  have hPV := c_implParseVersion
  have hTF := c_implTermFault
  clear hR hn hr
  unfold inTop at hA
  generalize topV = tv at *
  generalize nameB = B at *
  generalize nameF n = nf at *
  generalize trmF = tf at *
  generalize verP = vp at *
  generalize hasPrefix = hp at *
  generalize hge : hp r [62, 61] = a at *
  generalize cutI (trimPrefix r [62, 61]) = K at *
  generalize indexByte (trimPrefix r [62, 61]) 60 = kk at *
  generalize trimPrefix r [62, 61] = low at *
  generalize trimPrefix = tp at *
  have hsg : ∀ X : Int, 0 ≤ X → Ω.nat X = K → 0 ≤ X ∧ Ω.nat X ≤ low.length ∧ Ω.nat X ≤ Ω.lenS low ∧ Ω.segS 0 (Ω.nat X) low = low.take K ∧ Ω.segS (Ω.nat X) (Ω.lenS low) low = low.drop K := fun X h0 h => by
    subst hΩ
    refine ⟨h0, by rw [h]; exact hKl, by rw [h]; exact hKl, ?_, ?_⟩
    · show (low.take (std.nat X)).drop 0 = _; rw [h]; rfl
    · show (low.take low.length).drop (std.nat X) = _; rw [h, List.take_length]
  have hS1 : kk < 0 → _ := fun h => hsg (Ω.int (Ω.lenS low)) (by subst hΩ; exact Int.natCast_nonneg _) (by
    have e : K = low.length := by omega
    subst hΩ; exact e.symm)
  have hS2 : 0 ≤ kk → _ := fun h => hsg kk h (by
    have e : kk.toNat = K := by omega
    subst hΩ; exact e)
  have hPK := hPV (low.take K) (by rw [List.length_take]; omega)
  have hdl : (low.drop K).length ≤ 1048575 := by rw [List.length_drop]; omega
  refine PCtr.walk tab hΩ fn_impl_ParseTerm rfl ?_
  generalize PP = P at *
  cbv
  refine loopX htab hΩ (fun i : Nat => ⟨[(0, str s), (2, .pt 0 0 0), (3, i64 (Ω.int i))], 90, [some ⟨8, [.agg (i64 0 :: Trm.zero.cells)], true⟩]⟩) (fun i => i ≤ N) (fun i => s.length - i) 0 (Nat.zero_le _) (Sbs.mk rfl rfl ⟨rfl, rfl, zeroI hΩ, trivial⟩) ?_
  intro i hi
  cbv
  have e1 : Ω.segS 0 (Ω.nat (Ω.int N)) s = n := by subst hΩ; show (s.take N).drop 0 = n; rw [htk]; rfl
  have e2 : Ω.segS (Ω.nat (Ω.int N)) (Ω.lenS s) s = r := by subst hΩ; show (s.take s.length).drop N = r; rw [List.take_length, hdr]
  have hNs : Ω.nat (Ω.int N) ≤ s.length := by subst hΩ; exact hnl
  have hNt : Ω.nat (Ω.int N) ≤ Ω.lenS s := by subst hΩ; exact hnl
  have hLs : ∀ x : List UInt8, Ω.lenS x ≤ x.length := fun x => by subst hΩ; exact Nat.le_refl _
  have nn : 0 ≤ Ω.int N := by subst hΩ; exact Int.natCast_nonneg N
  refine br (fun h => ?_) (fun h => ?_) <;> cbv
  rotate_left
  have hi : N = i := by have h := geS hΩ h; omega
  clear h
  subst hi
  rotate_left
  replace h := ltS hΩ h
  obtain ⟨c, hc⟩ := at_of (cs := s) h
  have hc2 := hat i c hc hi
  have hnc := hnb c
  generalize B c = b at *
  refine ⟨⟨nnI hΩ⟩, c, by subst hΩ; exact hc, ?_⟩
  cbv
  refine call_pure hΩ 3 hnc rfl (fitsE (congrArg (fun z => [A.sc (.int .u8 z)]) (u8I hΩ c))) rfl rfl ?_
  cbv
  refine br (fun k => ?_) (fun k => ?_)
  · have k : b = true := by subst hΩ; exact k
    exact ⟨i + 1, hc2.1 k, by omega, Sbs.mk rfl rfl ⟨rfl, rfl, incI hΩ (by omega), trivial⟩⟩
  have k : b = false := by subst hΩ; exact k
  have hi := hc2.2 k
  clear hc2 hnc k hc h
  subst hi
  cbv
  all_goals refine ⟨⟨trivial, nn, Nat.zero_le _, hNs⟩, ?_⟩
  all_goals refine call_pure hΩ 5 hA rfl (fitsE (congrArg (fun z => [str z]) e1)) rfl rfl ?_
  all_goals cbv
  all_goals refine ⟨⟨nn, trivial, hNt, hLs _⟩, ?_⟩
  all_goals refine call_pure hΩ 5 hNF rfl (fits _) rfl rfl ?_
  all_goals cbv
  all_goals refine br (fun g => ?_) (fun g => ?_) <;> cbv
  all_goals try exact .of (F0 (neI_t hΩ g))
  all_goals replace g := neI_f hΩ g
  all_goals replace F1 := F1 g
  all_goals replace F2 := F2 g
  all_goals replace F3 := F3 g
  all_goals refine call_pure hΩ 5 hC1 rfl (fitsE (congrArg (fun z => [str z, str [62, 61]]) e2)) rfl rfl ?_
  all_goals cbv
  all_goals refine br (fun h => ?_) (fun h => ?_) <;> cbv
  all_goals subst h
  all_goals try (refine call_pure hΩ 5 hIx rfl (fits _) rfl rfl ?_; cbv; refine br (fun k => ?_) (fun k => ?_) <;> cbv)
  all_goals try (have hx := hS1 (ltI_t hΩ k); obtain ⟨x0, x1, x2, x3, x4⟩ := hx)
  all_goals try (have hx := hS2 (ltI_f hΩ k); obtain ⟨x0, x1, x2, x3, x4⟩ := hx)
  all_goals try (refine ⟨⟨trivial, x0, Nat.zero_le _, x1⟩, ?_⟩; refine call_pure hΩ 5 hPK rfl (fitsE (congrArg (fun z => [str z]) x3)) rfl rfl ?_; cbv; refine br (fun k => ?_) (fun k => ?_) <;> cbv)
  all_goals try (exact .of (F1 rfl (neI_t hΩ k)))
  all_goals try (replace F2 := F2 rfl (neI_f hΩ ‹_›))
  all_goals try (refine ⟨VC_pl htab hΩ hmo (.q 0 (.q 2 (.q 3 (.q 4 (.s 1 (.q 5 (.s 6 (.q 7 .fin)))))))) (by kernel_rfl) ?_⟩; cbv; refine ⟨⟨x0, trivial, x2, hLs _⟩, ?_⟩)
  all_goals first
    | (have hx : ∃ x, x.length ≤ 1048575 ∧ Ω.segS (Ω.nat (Ω.int (Ω.lenS low))) (Ω.lenS low) low = x ∧ TailR R hp tp vp tf n (vp (low.take K)).2 tv x := ⟨_, hdl, x4, F2⟩; obtain ⟨x, hxl, hxe, T⟩ := hx)
    | (have hx : ∃ x, x.length ≤ 1048575 ∧ Ω.segS (Ω.nat kk) (Ω.lenS low) low = x ∧ TailR R hp tp vp tf n (vp (low.take K)).2 tv x := ⟨_, hdl, x4, F2⟩; obtain ⟨x, hxl, hxe, T⟩ := hx)
    | (have hx : ∃ x, x.length ≤ 1048575 ∧ Ω.segS (Ω.nat (Ω.int N)) (Ω.lenS s) s = x ∧ TailR R hp tp vp tf n Ver.zero tv x := ⟨_, hrl, e2, F3 rfl⟩; obtain ⟨x, hxl, hxe, T⟩ := hx)
  all_goals obtain ⟨T1, T2, T3, T4⟩ := T
  all_goals have C2 := hC2 x
  all_goals have V2 := hPV (tp x [60]) (by have := htl x; omega)
  all_goals have Q2 := fun h g => And.intro (T2 h g) (hTF (tOf (T2 h g)))
  all_goals have Q3 := fun h g => And.intro (T3 h g) (hTF (tOf (T3 h g)))
  all_goals dsimp only [tOf] at Q2 Q3
  all_goals clear T2 T3 F1
  all_goals generalize hp x [60] = hb at *
  all_goals generalize tp x [60] = y at *
  all_goals refine call_pure hΩ 5 C2 rfl (fitsE (congrArg (fun z => [str z, str [60]]) hxe)) rfl rfl ?_
  all_goals cbv
  all_goals refine br (fun h => ?_) (fun h => ?_) <;> cbv
  all_goals subst h
  all_goals try (refine call_pure hΩ 5 V2 rfl (fits _) rfl rfl ?_; cbv; refine br (fun k => ?_) (fun k => ?_) <;> cbv)
  all_goals try (exact .of (T1 rfl (neI_t hΩ k)))
  all_goals first
    | (have q := Q2 rfl (neI_f hΩ k); refine br (fun j => (sneT hΩ j rfl).elim) (fun j => ?_) <;> cbv)
    | (refine br (fun j => .of (T4 rfl (fun e => sneT hΩ j (hxe.trans e)))) (fun j => ?_); have q := Q3 rfl (hxe.symm.trans (sneF hΩ j)); cbv)
  all_goals obtain ⟨q1, q2⟩ := q
  all_goals refine call_pure hΩ 5 q2 rfl (fits _) rfl rfl ?_
  all_goals cbv
  all_goals refine br (fun j => ?_) (fun j => ?_) <;> cbv
  all_goals first
    | exact .of (q1.1 (neI_t hΩ j))
    | exact .of (q1.2 (neI_f hΩ j))
end Go.Proofs.YtgcnggefeapalaaGreatDoor

/- Walks: the reading of a term, the reference's. Plain theorems. -/
set_option linter.unusedVariables false
set_option linter.unusedSimpArgs false
namespace Go.Proofs.YtgcnggefeapalaaGreatDoor
open Go Go.Fw Go.Lib
set_option maxRecDepth 100000
/-- The reference's reading behind the high bound. -/
def TailS (R : A) (hp : List UInt8 → List UInt8 → Bool) (vp : List UInt8 → Int × Ver) (tf : Trm → Int) (n : List UInt8) (v : Ver) (lo : List UInt8) : Prop :=
  (lo = [] → FinR R tf ⟨n, Ver.zero, v⟩) ∧ (lo ≠ [] → lo.length < 2 → trmR badT = R) ∧ (2 ≤ lo.length → lo.take 2 ≠ [62, 61] → trmR badT = R) ∧
  (2 ≤ lo.length → lo.take 2 = [62, 61] → (vp (lo.drop 2)).1 ≠ 0 → trmR badT = R) ∧ (2 ≤ lo.length → lo.take 2 = [62, 61] → (vp (lo.drop 2)).1 = 0 → FinR R tf ⟨n, (vp (lo.drop 2)).2, v⟩)
theorem hp_take {lo : List UInt8} (h : 2 ≤ lo.length) : hasPrefix lo [62, 61] = true ↔ lo.take 2 = [62, 61] := by
  match lo, h with
  | a :: b :: t, _ =>
    rw [hp2]
    show (∃ u, a :: b :: t = 62 :: 61 :: u) ↔ [a, b] = [62, 61]
    constructor
    · rintro ⟨u, hu⟩; simp at hu ⊢; exact ⟨hu.1, hu.2.1⟩
    · intro h; simp at h; exact ⟨t, by rw [h.1, h.2]⟩
theorem TailS.of {R : A} {n lo : List UInt8} {v : Ver} (h : (match lowP lo with
    | some l => trmR (finT ⟨n, l, v⟩)
    | none => trmR badT) = R) : TailS R hasPrefix verP trmF n v lo := by
  unfold lowP at h
  refine ⟨fun a => ?_, fun a b => ?_, fun a b => ?_, fun a b c => ?_, fun a b c => ?_⟩
  · rw [if_pos a] at h; exact .of h
  · rw [if_neg a, if_neg] at h
    · exact h
    · intro g
      obtain ⟨t, rfl⟩ := (hp2 _).1 g
      simp at b
      omega
  · rw [if_neg (by rintro rfl; simp at a), if_neg (by rw [hp_take a]; exact b)] at h; exact h
  · rw [if_neg (by rintro rfl; simp at a), if_pos (by rw [hp_take a]; exact b), if_neg c] at h; exact h
  · rw [if_neg (by rintro rfl; simp at a), if_pos (by rw [hp_take a]; exact b), if_pos c] at h; exact .of h
theorem prsS2 (s n r : List UInt8) (hn : s.takeWhile nameB = n) (hr : s.dropWhile nameB = r) {R : A} (h : R = trmR (prsT s)) :
    (nameF n ≠ 0 → trmR badT = R) ∧ (nameF n = 0 → cutI r < r.length → (verP (r.drop (cutI r + 1))).1 ≠ 0 → trmR badT = R) ∧
    (nameF n = 0 → cutI r < r.length → (verP (r.drop (cutI r + 1))).1 = 0 → TailS R hasPrefix verP trmF n (verP (r.drop (cutI r + 1))).2 (r.take (cutI r))) ∧
    (nameF n = 0 → r.length ≤ cutI r → TailS R hasPrefix verP trmF n topV (r.take (cutI r))) := by
  unfold prsT at h
  rw [hn, hr] at h
  have hd : r.dropWhile notL = r.drop (cutI r) := (cutI_drop r).symm
  have hc : cutI r < r.length → r.drop (cutI r) = (r.drop (cutI r)).headD 0 :: r.drop (cutI r + 1) := fun g => by
    rw [List.drop_eq_getElem_cons g]; rfl
  rw [hd, ← cutI_take] at h
  refine ⟨fun e => ?_, fun e a b => ?_, fun e a b => ?_, fun e a => ?_⟩
  · rw [h, if_pos e]
  · rw [if_neg (by simpa using e), hc a] at h
    have : highP ((r.drop (cutI r)).headD 0 :: r.drop (cutI r + 1)) = none := by show (if _ then _ else _) = _; rw [if_neg b]
    rw [this] at h
    rw [h]
    cases lowP (r.take (cutI r)) <;> rfl
  · rw [if_neg (by simpa using e), hc a] at h
    have : highP ((r.drop (cutI r)).headD 0 :: r.drop (cutI r + 1)) = some (verP (r.drop (cutI r + 1))).2 := by show (if _ then _ else _) = _; rw [if_pos b]
    rw [this] at h
    refine .of ?_
    rw [h]
    cases lowP (r.take (cutI r)) <;> rfl
  · rw [if_neg (by simpa using e), List.drop_of_length_le a] at h
    refine .of ?_
    rw [h]
    cases lowP (r.take (cutI r)) <;> rfl
end Go.Proofs.YtgcnggefeapalaaGreatDoor

/- Walks: the reading of a term, the reference's. Plain theorems. -/
set_option linter.unusedVariables false
set_option linter.unusedSimpArgs false
namespace Go.Proofs.YtgcnggefeapalaaGreatDoor
open Go Go.Fw Go.Lib
set_option maxRecDepth 100000
theorem c_specParseTerm (s : List UInt8) (hs : s.length ≤ 1048575) : PCtr PP n_spec_ParseTerm [str s] (trmR (prsT s)) := by
  obtain ⟨Ω, hΩ⟩ : ∃ Ω, Ω = std := ⟨_, rfl⟩
  obtain ⟨R, hR⟩ : ∃ R, R = trmR (prsT s) := ⟨_, rfl⟩
  rw [← hR]
  have htab := tab
  have hmo := hmo
  have hnb := c_l1Name
  have hat := fun i c h k => @tw_at nameB s i c h k
  have hnl := tw_le nameB s
  have htk := tw_take nameB s
  have hdr := tw_drop nameB s
  obtain ⟨n, hn⟩ : ∃ n, s.takeWhile nameB = n := ⟨_, rfl⟩
  obtain ⟨r, hr⟩ : ∃ r, s.dropWhile nameB = r := ⟨_, rfl⟩
  obtain ⟨F0, F1, F2, F3⟩ := prsS2 s n r hn hr hR
  obtain ⟨N, hN⟩ : ∃ N, N = n.length := ⟨_, rfl⟩
  rw [hn, ← hN] at hat hnl htk hdr
  rw [hr] at hdr
  have hA := c_AnyS n
  have hNF := c_specNameFault n
  have hrl : r.length ≤ 1048575 := by rw [← hdr, List.length_drop]; omega
  have hmt := fun i c h k => @tw_at notL r i c h k
  have hMl := cutI_le r
  rw [← cutI_eq] at hmt
  have hPV := c_specParseVersion
  have hTF := c_specTermFault
  have hgl : ∀ c, notL c = !decide (c = 60) := fun c => rfl
  clear hR hn hr
  unfold inTop at hA
  generalize topV = tv at *
  generalize nameB = B at *
  generalize notL = B2 at *
  generalize nameF n = nf at *
  generalize trmF = tf at *
  generalize verP = vp at *
  generalize hasPrefix = hp at *
  generalize cutI r = M at *
  obtain ⟨lo, hlo⟩ : ∃ lo, lo = r.take M := ⟨_, rfl⟩
  have hlol : lo.length ≤ 1048575 := by rw [hlo, List.length_take]; omega
  rw [← hlo] at F2 F3
  obtain ⟨hi2, hhi2⟩ : ∃ hi2, hi2 = r.drop (M + 1) := ⟨_, rfl⟩
  have hhl : hi2.length ≤ 1048575 := by rw [hhi2, List.length_drop]; omega
  rw [← hhi2] at F1 F2
  have V1 := hPV hi2 hhl
  have V2 := hPV (lo.drop 2) (by rw [List.length_drop]; omega)
  refine PCtr.walk tab hΩ fn_spec_ParseTerm rfl ?_
  generalize PP = P at *
  cbv
  refine loopX htab hΩ (fun i : Nat => ⟨[(0, str s), (2, .pt 0 0 0), (3, i64 (Ω.int i))], 97, [some ⟨8, [.agg (i64 0 :: Trm.zero.cells)], true⟩]⟩) (fun i => i ≤ N) (fun i => s.length - i) 0 (Nat.zero_le _) (Sbs.mk rfl rfl ⟨rfl, rfl, zeroI hΩ, trivial⟩) ?_
  intro i hi
  cbv
  have kc : ∀ c : UInt8, (c.toNat : Int) = 60 ↔ c = 60 := fun c => ⟨fun h => by apply UInt8.toNat_inj.1; have : (60 : UInt8).toNat = 60 := rfl; omega, fun h => by rw [h]; rfl⟩
  have kT : ∀ c : UInt8, Ω.ite true (Ω.cmp .neq (Ω.u8 c) 60) false = true → (!decide (c = 60)) = true := fun c h => by
    have h : Ω.cmp .neq (Ω.u8 c) 60 = true := by subst hΩ; exact h
    have h := neI_t hΩ h
    rw [u8I hΩ] at h
    have h : ¬ c = 60 := fun e => h ((kc c).2 e)
    simp [h]
  have kF : ∀ c : UInt8, Ω.ite true (Ω.cmp .neq (Ω.u8 c) 60) false = false → (!decide (c = 60)) = false := fun c h => by
    have h : Ω.cmp .neq (Ω.u8 c) 60 = false := by subst hΩ; exact h
    have h := neI_f hΩ h
    rw [u8I hΩ] at h
    have h := (kc c).1 h
    simp [h]
  have mn : 0 ≤ Ω.int M := by subst hΩ; exact Int.natCast_nonneg M
  have hMl' : Ω.nat (Ω.int M) ≤ r.length := by subst hΩ; exact hMl
  have e3 : Ω.segS 0 (Ω.nat (Ω.int M)) r = lo := by subst hΩ; show (r.take M).drop 0 = lo; rw [hlo]; rfl
  have jT : Ω.cmp .lss (Ω.int (Ω.lenS (Ω.segS 0 (Ω.nat (Ω.int M)) r))) 2 = true → lo.length < 2 := fun h => by
    rw [e3] at h; subst hΩ; have h : (lo.length : Int) < 2 := lt_t h; omega
  have jF : Ω.cmp .lss (Ω.int (Ω.lenS (Ω.segS 0 (Ω.nat (Ω.int M)) r))) 2 = false → 2 ≤ lo.length := fun h => by
    rw [e3] at h; subst hΩ; have h : (2 : Int) ≤ lo.length := lt_f h; omega
  have e4 : Ω.segS 0 (Ω.nat 2) (Ω.segS 0 (Ω.nat (Ω.int M)) r) = lo.take 2 := by rw [e3]; subst hΩ; rfl
  have e5 : Ω.segS (Ω.nat 2) (Ω.lenS (Ω.segS 0 (Ω.nat (Ω.int M)) r)) (Ω.segS 0 (Ω.nat (Ω.int M)) r) = lo.drop 2 := by rw [e3]; subst hΩ; show (lo.take lo.length).drop 2 = _; rw [List.take_length]
  have jO : 2 ≤ lo.length → Ω.nat 2 ≤ (Ω.segS 0 (Ω.nat (Ω.int M)) r).length ∧ Ω.nat 2 ≤ Ω.lenS (Ω.segS 0 (Ω.nat (Ω.int M)) r) := fun h => by rw [e3]; subst hΩ; exact ⟨h, h⟩
  have n2 : ∀ (x y : List UInt8) b, Ω.ite false true (Ω.cmpS .neq x y) = b → Ω.cmpS .neq x y = b := fun x y b h => by subst hΩ; exact h
  have hS : M < r.length → 0 ≤ Ω.ar .add .i64 (Ω.int M) 1 ∧ Ω.nat (Ω.ar .add .i64 (Ω.int M) 1) ≤ Ω.lenS r ∧ Ω.segS (Ω.nat (Ω.ar .add .i64 (Ω.int M) 1)) (Ω.lenS r) r = hi2 := fun h => by
    have e : Ω.ar .add .i64 (Ω.int M) 1 = Ω.int (M + 1) := by
      have := incI hΩ (i := M) (by omega)
      unfold i64 at this
      injection this with this
      injection this
    rw [e]
    subst hΩ
    refine ⟨Int.natCast_nonneg _, ?_, ?_⟩
    · show (M + 1 : Nat) ≤ r.length; omega
    · show (r.take r.length).drop (M + 1) = hi2; rw [List.take_length, hhi2]
  have e1 : Ω.segS 0 (Ω.nat (Ω.int N)) s = n := by subst hΩ; show (s.take N).drop 0 = n; rw [htk]; rfl
  have e2 : Ω.segS (Ω.nat (Ω.int N)) (Ω.lenS s) s = r := by subst hΩ; show (s.take s.length).drop N = r; rw [List.take_length, hdr]
  have hNs : Ω.nat (Ω.int N) ≤ s.length := by subst hΩ; exact hnl
  have hNt : Ω.nat (Ω.int N) ≤ Ω.lenS s := by subst hΩ; exact hnl
  have hLs : ∀ x : List UInt8, Ω.lenS x ≤ x.length := fun x => by subst hΩ; exact Nat.le_refl _
  have nn : 0 ≤ Ω.int N := by subst hΩ; exact Int.natCast_nonneg N
  refine br (fun h => ?_) (fun h => ?_) <;> cbv
  rotate_left
  have hi : N = i := by have h := geS hΩ h; omega
  clear h
  subst hi
  rotate_left
  replace h := ltS hΩ h
  obtain ⟨c, hc⟩ := at_of (cs := s) h
  have hc2 := hat i c hc hi
  have hnc := hnb c
  generalize B c = b at *
  refine ⟨⟨nnI hΩ⟩, c, by subst hΩ; exact hc, ?_⟩
  cbv
  refine call_pure hΩ 3 hnc rfl (fitsE (congrArg (fun z => [A.sc (.int .u8 z)]) (u8I hΩ c))) rfl rfl ?_
  cbv
  refine br (fun k => ?_) (fun k => ?_)
  · have k : b = true := by subst hΩ; exact k
    exact ⟨i + 1, hc2.1 k, by omega, Sbs.mk rfl rfl ⟨rfl, rfl, incI hΩ (by omega), trivial⟩⟩
  have k : b = false := by subst hΩ; exact k
  have hi := hc2.2 k
  clear hc2 hnc k hc h
  subst hi
  cbv
  all_goals refine ⟨⟨trivial, nn, Nat.zero_le _, hNs⟩, ?_⟩
  all_goals refine call_pure hΩ 5 hA rfl (fitsE (congrArg (fun z => [str z]) e1)) rfl rfl ?_
  all_goals cbv
  all_goals refine call_pure hΩ 5 hNF rfl (fits _) rfl rfl ?_
  all_goals cbv
  all_goals refine br (fun g => ?_) (fun g => ?_) <;> cbv
  all_goals try exact .of (F0 (neI_t hΩ g))
  all_goals replace g := neI_f hΩ g
  all_goals replace F1 := F1 g
  all_goals replace F2 := F2 g
  all_goals replace F3 := F3 g
  all_goals refine ⟨⟨nn, trivial, hNt, hLs _⟩, ?_⟩
  all_goals refine loopX htab hΩ (fun i : Nat => ⟨[(2, .pt 0 0 0), (4, .pt 1 0 0), (5, str r), (6, str []), (7, i64 (Ω.int i))], 97, [some ⟨8, [.agg (i64 0 :: Trm.zero.cells)], true⟩, some ⟨7, [.agg [str n, i64 0, i64 0, i64 0, i64 tv.a, i64 tv.b, i64 tv.c]], true⟩]⟩) (fun i => i ≤ M) (fun i => r.length - i) 0 (Nat.zero_le _) (Sbs.mk rfl rfl ⟨rfl, rfl, congrArg str e2, rfl, zeroI hΩ, trivial⟩) ?_
  all_goals clear hat hi
  all_goals intro i hi
  all_goals cbv
  all_goals refine br (fun h => ?_) (fun h => ?_) <;> cbv
  all_goals try (have h := ltS hΩ h; obtain ⟨c, hc⟩ := at_of (cs := r) h; have hc2 := hmt i c hc hi; rw [hgl] at hc2; refine ⟨⟨nnI hΩ⟩, c, by subst hΩ; exact hc, ?_⟩; cbv; refine br (fun k => ?_) (fun k => ?_))
  all_goals try exact ⟨i + 1, hc2.1 (kT c k), by omega, Sbs.mk rfl rfl ⟨rfl, rfl, rfl, rfl, incI hΩ (by omega), trivial⟩⟩
  all_goals first
    | (have hM : M = i := hc2.2 (kF c k))
    | (have hM : M = i := by have h := geS hΩ h; omega)
  all_goals clear h
  all_goals subst hM
  all_goals try cbv
  all_goals refine br (fun h => ?_) (fun h => ?_) <;> cbv
  all_goals try (have hx := hS (ltS hΩ h); obtain ⟨x0, x1, x2⟩ := hx; refine ⟨⟨x0, trivial, x1, hLs _⟩, ?_⟩; refine call_pure hΩ 5 V1 rfl (fitsE (congrArg (fun z => [str z]) x2)) rfl rfl ?_; cbv; refine br (fun k => ?_) (fun k => ?_) <;> cbv)
  all_goals try (exact .of (F1 (ltS hΩ h) (neI_t hΩ k)))
  all_goals refine ⟨⟨trivial, mn, Nat.zero_le _, hMl'⟩, ?_⟩
  all_goals first
    | (have hx : ∃ v, v = (vp hi2).2 ∧ TailS R hp vp tf n v lo := ⟨_, rfl, F2 (ltS hΩ h) (neI_f hΩ k)⟩; obtain ⟨v, hv, T⟩ := hx)
    | (have T := F3 (geS hΩ h))
  all_goals obtain ⟨T1, T2, T3, T4, T5⟩ := T
  all_goals have Q1 := fun h => And.intro (T1 h) (hTF (tOf (T1 h)))
  all_goals have Q5 := fun h g f => And.intro (T5 h g f) (hTF (tOf (T5 h g f)))
  all_goals dsimp only [tOf] at Q1 Q5
  all_goals try subst hv
  all_goals clear T1 T5 h
  all_goals refine br (fun j => ?_) (fun j => ?_) <;> cbv
  all_goals try (have q := Q1 (e3.symm.trans (sneF hΩ j)))
  all_goals try (have jn : lo ≠ [] := fun e => sneT hΩ j (e3.trans e); refine br (fun h => ?_) (fun h => ?_) <;> cbv)
  all_goals try exact .of (T2 jn (jT h))
  all_goals try (have hx := jO (jF h); obtain ⟨y0, y1⟩ := hx; refine ⟨⟨trivial, by decide, Nat.zero_le _, y0⟩, ?_⟩; refine br (fun m => ?_) (fun m => ?_) <;> cbv)
  all_goals try exact .of (T3 (jF h) (fun e => sneT hΩ (n2 _ _ _ m) (e4.trans e)))
  all_goals try (have me := e4.symm.trans (sneF hΩ (n2 _ _ _ m)); refine ⟨⟨by decide, trivial, y1, hLs _⟩, ?_⟩; refine call_pure hΩ 5 V2 rfl (fitsE (congrArg (fun z => [str z]) e5)) rfl rfl ?_; cbv; refine br (fun k => ?_) (fun k => ?_) <;> cbv)
  all_goals try exact .of (T4 (jF h) me (neI_t hΩ k))
  all_goals try (have q := Q5 (jF h) me (neI_f hΩ k))
  all_goals obtain ⟨q1, q2⟩ := q
  all_goals refine call_pure hΩ 5 q2 rfl (fits _) rfl rfl ?_
  all_goals cbv
  all_goals refine br (fun j => ?_) (fun j => ?_) <;> cbv
  all_goals first
    | exact .of (q1.1 (neI_t hΩ j))
    | exact .of (q1.2 (neI_f hΩ j))
end Go.Proofs.YtgcnggefeapalaaGreatDoor

/- Walks: the text of terms. Plain theorems. -/
set_option linter.unusedVariables false
set_option linter.unusedSimpArgs false
namespace Go.Proofs.YtgcnggefeapalaaGreatDoor
open Go Go.Fw
set_option maxRecDepth 100000
theorem rts_facts (l : List Trm) (h : ∀ t ∈ l, trmF t = 0) (hl : l.length ≤ 1048577) : ∃ G : Nat → List UInt8, (rtsT l = G l.length ∧ [] = G 0) ∧ (∀ i c, l[i]? = some c → (G i).length ≤ 43000000 ∧ (fmtT c).length ≤ 40 ∧ fmtT c = trmT c ∧ G (i + 1) = G i ++ (trmT c ++ [10])) := by
  refine ⟨fun i => rtsT (l.take i), ⟨by show rtsT l = rtsT (l.take l.length); rw [List.take_length], rfl⟩, fun i c hc => ?_⟩
  have hm := h c (List.mem_of_getElem? hc)
  have h1 := rtsT_len (ts := l.take i) fun t ht => h t (List.mem_of_mem_take ht)
  have h2 : (l.take i).length ≤ l.length := by rw [List.length_take]; omega
  have e : fmtT c = trmT c := by unfold fmtT; rw [if_pos hm]
  refine ⟨by show (rtsT _).length ≤ _; omega, by rw [e]; exact trmT_len hm, e, rtsT_at hc⟩
theorem c_l8Text (l : List Trm) (h : ∀ t ∈ l, trmF t = 0) (hl : l.length ≤ 1048577) : PCtr PP n_spec_l8Text [.sl false 7 (l.map Trm.enc)] (str (rtsT l)) := by
  obtain ⟨Ω, hΩ⟩ : ∃ Ω, Ω = std := ⟨_, rfl⟩
  obtain ⟨G, ⟨hG1, hG0⟩, hGs⟩ := rts_facts l h hl
  rw [hG1]
  have hc := c_specFormatTerm
  obtain ⟨xs, hxs⟩ : ∃ xs, xs = l.map Trm.enc := ⟨_, rfl⟩
  have hlen : xs.length = l.length := by rw [hxs, List.length_map]
  rw [← hxs]
  generalize fmtT = F at *
  generalize trmT = X at *
  have htab := tab
  have hmo := hmo
  refine PCtr.walk tab hΩ fn_spec_l8Text rfl ?_
  generalize PP = P at *
  cbv
  refine loopX htab hΩ (fun i : Nat => ⟨[(0, .sl false 7 xs), (3, str (G i)), (4, i64 (Ω.int i))], 20, []⟩) (fun i => i ≤ l.length) (fun i => l.length - i) 0
    (Nat.zero_le _) (Sbs.mk rfl rfl ⟨rfl, congrArg str hG0, zeroI hΩ, trivial⟩) ?_
  intro i hi
  cbv
  refine br (fun h => ?_) (fun h => ?_) <;> cbv
  · replace h := ltI hΩ h
    obtain ⟨c, hcc⟩ := at_of (cs := l) (by omega : i < l.length)
    obtain ⟨g1, g2, g3, g4⟩ := hGs i c hcc
    have hc := hc c
    rw [g3] at g2 hc
    generalize X c = x at *
    refine ⟨⟨nnI hΩ⟩, _, rdI hΩ hxs hcc, ?_⟩
    cbv
    refine call_pure hΩ 3 hc rfl (fits _) rfl rfl ?_
    cbv
    refine ⟨⟨obC (by omega)⟩, ⟨obC (by rw [catL hΩ]; simp; omega)⟩, ?_⟩
    cbv
    refine ⟨i + 1, by omega, by omega, Sbs.mk rfl rfl ⟨rfl, congrArg str ?_, incI hΩ (by omega), trivial⟩⟩
    rw [g4]
    subst hΩ
    exact List.append_assoc _ _ _
  · replace h := geI hΩ h
    have hi : i = l.length := by omega
    subst hi
    exact .same
theorem c_RootsText (l : List Trm) (h : ∀ t ∈ l, trmF t = 0) (hl : l.length ≤ 1048577) : PCtr PP n_impl_RootsText [.sl false 7 (l.map Trm.enc)] (str (rtsT l)) := by
  obtain ⟨Ω, hΩ⟩ : ∃ Ω, Ω = std := ⟨_, rfl⟩
  obtain ⟨G, ⟨hG1, hG0⟩, hGs⟩ := rts_facts l h hl
  rw [hG1]
  have hc := c_FormatTerm
  have ht := c_termsFault l (by omega)
  rw [firstF_zero.2 h] at ht
  obtain ⟨xs, hxs⟩ : ∃ xs, xs = l.map Trm.enc := ⟨_, rfl⟩
  have hlen : xs.length = l.length := by rw [hxs, List.length_map]
  rw [← hxs] at ht ⊢
  generalize fmtT = F at *
  generalize trmT = X at *
  have htab := tab
  have hmo := hmo
  refine PCtr.walk tab hΩ fn_impl_RootsText rfl ?_
  generalize PP = P at *
  cbv
  refine call_pure hΩ 3 ht rfl (fits _) rfl rfl ?_
  cbv
  refine br (fun h => (neI_t hΩ h rfl).elim) (fun h => ?_)
  cbv
  refine loopX htab hΩ (fun i : Nat => ⟨[(3, str (G i)), (9, .sl false 7 xs), (10, i64 (Ω.int (Ω.len xs))), (11, i64 (Ω.int i))], 22, []⟩) (fun i => i ≤ l.length) (fun i => l.length - i) 0
    (Nat.zero_le _) (Sbs.mk rfl rfl ⟨congrArg str hG0, rfl, rfl, zeroI hΩ, trivial⟩) ?_
  intro i hi
  cbv
  refine br (fun h => ?_) (fun h => ?_) <;> cbv
  · replace h := ltI hΩ h
    obtain ⟨c, hcc⟩ := at_of (cs := l) (by omega : i < l.length)
    obtain ⟨g1, g2, g3, g4⟩ := hGs i c hcc
    have hc := hc c
    rw [g3] at g2 hc
    generalize X c = x at *
    refine ⟨⟨nnI hΩ⟩, _, rdI hΩ hxs hcc, ?_⟩
    cbv
    refine call_pure hΩ 3 hc rfl (fits _) rfl rfl ?_
    cbv
    refine ⟨⟨obC (by simp; omega)⟩, ⟨obC (by rw [catL hΩ]; simp; omega)⟩, ?_⟩
    cbv
    refine ⟨i + 1, by omega, by omega, Sbs.mkL (rows := []) rfl rfl rfl ⟨congrArg str ?_, rfl, rfl, incI hΩ (by omega), trivial⟩⟩
    rw [g4]
    subst hΩ
    rfl
  · replace h := geI hΩ h
    have hi : i = l.length := by omega
    subst hi
    exact .same
end Go.Proofs.YtgcnggefeapalaaGreatDoor

/- Walks: two terms of one name. Plain theorems. -/
set_option linter.unusedVariables false
set_option linter.unusedSimpArgs false
namespace Go.Proofs.YtgcnggefeapalaaGreatDoor
open Go Go.Fw
set_option maxRecDepth 100000
theorem c_twoOfOne1 (o t : Trm) : PCtr PP n_impl_twoOfOne_1 [o.enc, .rp t.cells] (boo (o.n == t.n)) := by
  obtain ⟨Ω, hΩ⟩ : ∃ Ω, Ω = std := ⟨_, rfl⟩
  obtain ⟨r, hr⟩ : ∃ r, r = (o.n == t.n) := ⟨_, rfl⟩
  rw [← hr]
  have htab := tab
  have hmo := hmo
  refine PCtr.walk tab hΩ fn_impl_twoOfOne_1 rfl ?_
  generalize PP = P at *
  cbv
  refine .of (congrArg boo ?_)
  rw [hr]
  subst hΩ
  show cmpSS .eql o.n t.n = _
  cases h : cmpSS .eql o.n t.n with
  | true => exact (beq_iff_eq.2 (seqT rfl h)).symm
  | false => exact (beq_eq_false_iff_ne.2 (seqF rfl h)).symm
theorem c_twoOfOne (l : List Trm) (hl : l.length ≤ 1048577) : PCtr PP n_impl_twoOfOne [.sl false 7 (l.map Trm.enc)] (boo (twoB l)) := by
  obtain ⟨Ω, hΩ⟩ : ∃ Ω, Ω = std := ⟨_, rfl⟩
  obtain ⟨r, hr⟩ : ∃ r, r = twoB l := ⟨_, rfl⟩
  rw [← hr]
  have hC : ∀ (i : Nat) (c : Trm), PCtr PP n_slices_ContainsFunc_L_impl_Term_impl_Term [.sl false 7 ((l.take i).map Trm.enc), .clo n_impl_twoOfOne_1 [.rp c.cells]] (boo ((l.take i).any fun o => o.n == c.n)) := fun i c =>
    c_ContainsFuncT (l.take i) (by rw [List.length_take]; omega) _ _ _ ⟨fun _ _ => rfl, rfl, fun _ => rfl, fun o _ => c_twoOfOne1 o c⟩
  have hG : ∀ i c, l[i]? = some c → twoG (l.take i) (l.drop i) = (((l.take i).any fun o => o.n == c.n) || twoG (l.take (i + 1)) (l.drop (i + 1))) := fun i c h => twoG_at h
  have hr0 : r = twoG (l.take 0) (l.drop 0) := hr
  obtain ⟨G, hG'⟩ : ∃ G : Nat → Bool, G = fun i => twoG (l.take i) (l.drop i) := ⟨_, rfl⟩
  have hr0 : r = G 0 := by rw [hG']; exact hr0
  have hGe : G l.length = false := by rw [hG']; show twoG _ (l.drop l.length) = _; rw [List.drop_length]; rfl
  have hG : ∀ i c, l[i]? = some c → G i = (((l.take i).any fun o => o.n == c.n) || G (i + 1)) := fun i c h => by rw [hG']; exact hG i c h
  clear hr hG'
  obtain ⟨xs, hxs⟩ : ∃ xs, xs = l.map Trm.enc := ⟨_, rfl⟩
  have hlen : xs.length = l.length := by rw [hxs, List.length_map]
  rw [← hxs]
  have htab := tab
  have hmo := hmo
  refine PCtr.walk tab hΩ fn_impl_twoOfOne rfl ?_
  generalize PP = P at *
  cbv
  refine loopX htab hΩ (fun i : Nat => ⟨[(0, .sl false 7 xs), (5, .sl false 7 xs), (6, i64 (Ω.int (Ω.len xs))), (7, i64 (Ω.int i))], 18, []⟩) (fun i => i ≤ l.length ∧ r = G i) (fun i => l.length - i) 0
    ⟨Nat.zero_le _, hr0⟩ (Sbs.mk rfl rfl ⟨rfl, rfl, rfl, zeroI hΩ, trivial⟩) ?_
  rintro i ⟨hi, he⟩
  cbv
  refine br (fun h => ?_) (fun h => ?_) <;> cbv
  · replace h := ltI hΩ h
    obtain ⟨c, hcc⟩ := at_of (cs := l) (by omega : i < l.length)
    have hc := hC i c
    rw [hG i c hcc] at he
    have e : (l.take i).map Trm.enc = Ω.seg 0 (Ω.nat (Ω.int i)) xs := by subst hΩ; show _ = (xs.take i).drop 0; rw [hxs, List.map_take]; rfl
    rw [e] at hc
    generalize ((l.take i).any fun o => o.n == c.n) = b at *
    refine ⟨⟨nnI hΩ⟩, _, rdI hΩ hxs hcc, ?_⟩
    cbv
    refine ⟨⟨trivial, nnI hΩ, Nat.zero_le _, by subst hΩ; show i ≤ xs.length; omega⟩, ?_⟩
    refine call_pure hΩ 5 hc (ro_clo2 rfl rfl) (fits _) rfl rfl ?_
    cbv
    refine br (fun k => ?_) (fun k => ?_) <;> cbv
    · subst k
      exact .of (congrArg boo (by rw [he]; rfl))
    · subst k
      exact ⟨i + 1, ⟨by omega, he⟩, by omega, Sbs.mkL (rows := []) rfl rfl rfl ⟨rfl, rfl, rfl, incI hΩ (by omega), trivial⟩⟩
  · replace h := geI hΩ h
    have hi : i = l.length := by omega
    subst hi
    exact .of (congrArg boo (by rw [he, hGe]))
end Go.Proofs.YtgcnggefeapalaaGreatDoor

/- Walks: the roots of a disk, the program's. Plain theorems. -/
set_option linter.unusedVariables false
set_option linter.unusedSimpArgs false
namespace Go.Proofs.YtgcnggefeapalaaGreatDoor
open Go Go.Fw
set_option maxRecDepth 100000
def rtsA (x : Int × List Trm) : A := .tup [.sl true 7 (x.2.map Trm.enc), i64 x.1]
theorem okL_bad {ls : List (List UInt8)} {i : Nat} {l : List UInt8} (h : ls[i]? = some l) (hb : (prsT l).1 ≠ 0) : okL ls = false := by
  unfold okL
  rw [← Bool.not_eq_true]
  intro g
  have := List.all_eq_true.1 g l (List.mem_of_getElem? h)
  exact hb (by simpa using this)
theorem c_roots (x : Dsk) (hx : x.Ok) : PCtr PP n_impl_Disk_roots [x.enc false false] (rtsA (rtsI (datF x.f rtsN))) := by
  obtain ⟨Ω, hΩ⟩ : ∃ Ω, Ω = std := ⟨_, rfl⟩
  obtain ⟨F, hF⟩ := grw hΩ Trm.enc
  have hcd := c_dataB x rtsN hx.n
  rw [datB_ord hx.o] at hcd
  have hdl := datF_len hx.d4 rtsN
  generalize datF x.f rtsN = d at *
  generalize hasB' x.f rtsN = hb at *
  obtain ⟨R, hR⟩ : ∃ R, R = rtsA (rtsI d) := ⟨_, rfl⟩
  rw [← hR]
  have hlc := c_linesOf d (by omega)
  have hln := linesP_len (s := d)
  have hmem := fun l => linesP_mem (s := d) (l := l)
  unfold rtsI at hR
  generalize linesP d = ls at *
  have hbad : okL ls = false → .tup [.sl true 7 [], i64 5] = R := fun h => by rw [hR, h]; rfl
  have hrt := fun i l => @rtL_at ls i l
  have hpt : ∀ l ∈ ls, PCtr PP n_impl_ParseTerm [str l] (trmR (prsT l)) := fun l h => c_ParseTerm l (by have := hmem l h; omega)
  have hpb := fun i l => @okL_bad ls i l
  have hrl : (rtL ls).length = ls.length := by unfold rtL; exact List.length_map _
  have htx := fun h => c_RootsText (rtL ls) (fun t ht => rtL_ok h t ht) (by rw [hrl]; omega)
  have h2 := c_twoOfOne (rtL ls) (by rw [hrl]; omega)
  simp only [hF.eq] at htx h2
  have hr0 : rtL (ls.take 0) = [] := rfl
  have hre : rtL (ls.take ls.length) = rtL ls := by rw [List.take_length]
  obtain ⟨G, hG⟩ : ∃ G : Nat → List Trm, G = fun i => rtL (ls.take i) := ⟨_, rfl⟩
  obtain ⟨n, hn⟩ : ∃ n, n = ls.length := ⟨_, rfl⟩
  obtain ⟨ys, hys⟩ : ∃ ys, ys = ls.map str := ⟨_, rfl⟩
  have hyl : ys.length = ls.length := by rw [hys, List.length_map]
  rw [← hys] at hlc
  obtain ⟨ds, hds⟩ : ∃ ds, ds = d.map byteA := ⟨_, rfl⟩
  rw [← hds] at hcd
  unfold rtsN at hcd
  unfold Dsk.enc at *
  generalize x.f.map (Fil.enc false) = xs at *
  have htab := tab
  have hmo := hmo
  refine PCtr.walk tab hΩ fn_impl_Disk_roots rfl ?_
  generalize PP = P at *
  cbv
  refine call_share hΩ 4 hcd rfl (fits _) rfl ?_
  cbv
  refine ⟨d, hds, ?_⟩
  cbv
  refine call_share hΩ 4 hlc rfl (fits _) rfl ?_
  cbv
  have hGl : ∀ i, (G i).length ≤ ls.length := fun i => by rw [hG]; show (rtL (ls.take i)).length ≤ _; unfold rtL; rw [List.length_map, List.length_take]; omega
  have hG0 : [] = F (G 0) := by rw [hG]; exact hF.nil.symm
  have hGz : 0 = Ω.len (F (G 0)) := by rw [← hG0]; subst hΩ; rfl
  have hGs : ∀ i l, ls[i]? = some l → G (i + 1) = G i ++ [(prsT l).2] := fun i l h => by rw [hG]; exact hrt i l h
  refine loopX htab hΩ (fun i : Nat => ⟨[(6, str d), (7, .vw 1 0 (Ω.len (F (G i)))), (20, .sl false 1 ys), (21, i64 (Ω.int (Ω.len ys))), (22, i64 (Ω.int i))], 51,
    [some ⟨5, [.agg [.sl false 2 xs, i64 x.bg, i64 x.wr, i64 x.st, boo x.dn]], true⟩, some ⟨7, F (G i), false⟩]⟩) (fun i => i ≤ n ∧ okL (ls.take i) = true) (fun i => n - i) 0 ⟨Nat.zero_le _, rfl⟩
    (Sbs.mk rfl (by dsimp only; rw [← hG0]; rfl) ⟨rfl, by dsimp only; rw [← hGz]; rfl, rfl, rfl, zeroI hΩ, trivial⟩) ?_
  rintro i ⟨hi, hok⟩
  have hlf := hF.len (G i)
  have hlo := hF.lo (G i)
  have hgl := hGl i
  cbv
  refine br (fun h => ?_) (fun h => ?_) <;> cbv
  · replace h := ltI hΩ h
    obtain ⟨w, hw0⟩ := at_of (cs := ls) (by omega : i < _)
    have hp := hpt w (List.mem_of_getElem? hw0)
    have hpb := hpb i w hw0
    have hgs := hGs i w hw0
    have hap0 := hF.app (G i) (prsT w).2
    have hpl0 := hF.plus (G i) (prsT w).2
    rw [← hgs] at hap0 hpl0
    obtain ⟨q, hq⟩ : ∃ q, q = prsT w := ⟨_, rfl⟩
    rw [← hq] at hp hpb hap0 hpl0
    refine ⟨⟨nnI hΩ⟩, _, rdI hΩ hys hw0, ?_⟩
    cbv
    refine call_pure hΩ 3 hp rfl (fits _) rfl rfl ?_
    cbv
    refine br (fun k => ?_) (fun k => ?_) <;> cbv
    · rw [← hbad (hpb (neI_t hΩ k))]
      exact ⟨3, by simp [fitA, fitA.fitL, i64]⟩
    · refine ⟨⟨rfl, okAll rfl, by show (Ω.len (F (G i)) + 1) * 64 ≤ 140737488355328; omega, by show Ω.len (F (G i)) + 1 ≤ 9223372036854775807; omega⟩, ?_⟩
      have hk0 : (prsT w).1 = 0 := by rw [← hq]; exact neI_f hΩ k
      have hok' : okL (ls.take (i + 1)) = true := by
        unfold okL at hok ⊢
        rw [List.take_add_one, hw0, List.all_append, hok]
        have hk : decide ((prsT w).1 = 0) = true := decide_eq_true hk0
        simp [hk]
      refine ⟨i + 1, ⟨by omega, hok'⟩, by omega, (Sbs.cut 2 rfl).trans (Sbs.mk rfl (by show [some (Row.mk 5 [.agg [.sl false 2 xs, i64 x.bg, i64 x.wr, i64 x.st, boo x.dn]] true), some (Row.mk 7 (Ω.app (Ω.take (Ω.len (F (G i))) (F (G i))) [q.2.enc]) false)] = _; rw [hap0]) ⟨rfl, by show A.vw 1 0 (Ω.plus (Ω.len (F (G i))) (Ω.len [q.2.enc])) = _; rw [hpl0], rfl, rfl, incI hΩ (by omega), trivial⟩)⟩
  · replace h := geI hΩ h
    have hin : i = ls.length := by omega
    subst hin
    have hGe : G ls.length = rtL ls := by rw [hG]; exact hre
    have hok1 : okL ls = true := by rw [List.take_length] at hok; exact hok
    have htx := htx hok1
    rw [hok1] at hR
    rw [hGe] at hlo ⊢
    have hFz : (F (rtL ls)).map frz = F (rtL ls) := by rw [← hF.eq, List.map_map]; exact List.map_congr_left fun c _ => rfl
    have hl8 : (F (rtL ls)).length = (rtL ls).length := hF.len _
    have htk := hF.tk (rtL ls)
    have hRg : rtsT (rtL ls) = d → (rtL ls).length ≤ 8 → twoB (rtL ls) = false → .tup [.sl true 7 (F (rtL ls)), i64 0] = R := fun a b c => by
      rw [hR, c, decide_eq_true a, decide_eq_true b, ← hF.eq]; rfl
    have hRb : (rtsT (rtL ls) ≠ d ∨ ¬ (rtL ls).length ≤ 8 ∨ twoB (rtL ls) = true) → .tup [.sl true 7 [], i64 5] = R := fun a => by
      rw [hR, if_neg]; · rfl
      intro g; simp at g
      rcases a with a | a | a
      · exact a g.1
      · omega
      · rw [a] at g; simp at g
    clear hR
    generalize rtsT (rtL ls) = tx at *
    generalize twoB (rtL ls) = tb at *
    generalize hts : rtL ls = ts at *
    generalize hfs : F ts = fs at *
    refine call_pure hΩ 5 htx (mapO1 (ro_vw rfl hlo hFz)) (fits _) rfl rfl ?_
    cbv
    refine br (fun k => ?_) (fun k => ?_) <;> cbv
    · rw [← hRb (.inl (sneT hΩ k))]
      exact ⟨3, by simp [fitA, fitA.fitL, i64]⟩
    have k := sneF hΩ k
    have n2 : ∀ b c, Ω.ite false true b = c → b = c := fun b c h => by subst hΩ; exact h
    refine br (fun m => ?_) (fun m => ?_) <;> cbv
    · have m := n2 _ _ m
      have m : ¬ ts.length ≤ 8 := by rw [hlo] at m; subst hΩ; have m : (8 : Int) < (fs.length : Int) := gt_t m; omega
      rw [← hRb (.inr (.inl m))]
      exact ⟨3, by simp [fitA, fitA.fitL, i64]⟩
    have m := n2 _ _ m
    have m : ts.length ≤ 8 := by rw [hlo] at m; subst hΩ; have m : (fs.length : Int) ≤ 8 := gt_f m; omega
    refine call_pure hΩ 5 h2 (mapO1 (ro_vw rfl hlo hFz)) (fits _) rfl rfl ?_
    cbv
    refine br (fun j => ?_) (fun j => ?_) <;> cbv
    · have j := n2 _ _ j
      rw [← hRb (.inr (.inr j))]
      exact ⟨3, by simp [fitA, fitA.fitL, i64]⟩
    have j := n2 _ _ j
    refine ⟨⟨rfl, by show Ω.len fs ≤ fs.length; omega⟩, ?_⟩
    have e : Ω.take (Ω.len fs) fs = fs := takeAll hΩ _
    exact .of (Eq.trans (congrArg (fun z => A.tup [.sl true 7 z, i64 0]) e) (hRg k m j))
end Go.Proofs.YtgcnggefeapalaaGreatDoor

/- Walks: the roots of a text and of a disk, the reference's. Plain theorems. -/
set_option linter.unusedVariables false
set_option linter.unusedSimpArgs false
namespace Go.Proofs.YtgcnggefeapalaaGreatDoor
open Go Go.Fw
set_option maxRecDepth 100000
theorem rdS_at {pre : List Trm} {ls : List (List UInt8)} {i : Nat} {l : List UInt8} (h : ls[i]? = some l) : rdS pre (ls.drop i) = if (prsT l).1 = 0 then (if (pre.any fun o => o.n == (prsT l).2.n) then (pre, false) else rdS (pre ++ [(prsT l).2]) (ls.drop (i + 1))) else (pre, false) := by
  obtain ⟨hi, rfl⟩ := List.getElem?_eq_some_iff.1 h
  rw [List.drop_eq_getElem_cons hi]
  rfl
def rtsB (x : List Trm × Bool) : A := .tup [.sl true 7 (x.1.map Trm.enc), boo x.2]
theorem c_l8Roots (s : List UInt8) (hs : s.length ≤ 1000000) : PCtr PP n_spec_l8Roots [str s] (rtsB (rtsS s)) := by
  obtain ⟨Ω, hΩ⟩ : ∃ Ω, Ω = std := ⟨_, rfl⟩
  obtain ⟨F, hF⟩ := grw hΩ Trm.enc
  obtain ⟨R, hR⟩ : ∃ R, R = rtsB (rtsS s) := ⟨_, rfl⟩
  rw [← hR]
  unfold rtsB at hR
  rw [hF.eq] at hR
  unfold rtsS at hR
  dsimp only at hR
  have hlc := c_l2Lines s (by omega)
  have hln := linesP_len (s := s)
  have hmem := fun l => linesP_mem (s := s) (l := l)
  generalize linesP s = ls at *
  have hpt : ∀ l ∈ ls, PCtr PP n_spec_ParseTerm [str l] (trmR (prsT l)) := fun l h => c_specParseTerm l (by have := hmem l h; omega)
  have hpo : ∀ l, (prsT l).1 = 0 → trmF (prsT l).2 = 0 := fun l => prsT_ok
  have hbad : ∀ o, rdS [] ls = (o, false) → A.tup [.sl true 7 (F o), boo false] = R := fun o h => by rw [hR, h]; rfl
  have hgo : ∀ o, rdS [] ls = (o, true) → R = A.tup [.sl true 7 (F o), boo (decide (o.length ≤ 8) && decide (rtsT o = s))] := fun o h => by rw [hR, h]; rfl
  clear hR
  have hat := fun pre i l => @rdS_at pre ls i l
  have hend : ∀ pre, rdS pre [] = (pre, true) := fun _ => rfl
  have htx : ∀ o : List Trm, (∀ t ∈ o, trmF t = 0) → o.length ≤ 1048577 → PCtr PP n_spec_l8Text [.sl false 7 (F o)] (str (rtsT o)) := fun o h1 h2 => by rw [← hF.eq]; exact c_l8Text o h1 h2
  have hFz : ∀ o : List Trm, (F o).map frz = F o := fun o => by rw [← hF.eq, List.map_map]; exact List.map_congr_left fun c _ => rfl
  obtain ⟨n, hn⟩ : ∃ n, n = ls.length := ⟨_, rfl⟩
  obtain ⟨ys, hys⟩ : ∃ ys, ys = ls.map str := ⟨_, rfl⟩
  have hyl : ys.length = ls.length := by rw [hys, List.length_map]
  rw [← hys] at hlc
  have htab := tab
  have hmo := hmo
  refine PCtr.walk tab hΩ fn_spec_l8Roots rfl ?_
  generalize PP = P at *
  cbv
  refine call_share hΩ 3 hlc rfl (fits _) rfl ?_
  cbv
  refine loopX htab hΩ (fun i : Nat × List Trm => ⟨[(0, str s), (4, .sl false 1 ys), (5, .vw 0 0 (Ω.len (F i.2))), (6, i64 (Ω.int i.1))], 58, [some ⟨7, F i.2, false⟩]⟩)
    (fun i => i.1 ≤ n ∧ i.2.length ≤ i.1 ∧ (∀ t ∈ i.2, trmF t = 0) ∧ rdS [] ls = rdS i.2 (ls.drop i.1)) (fun i => n - i.1) (0, []) ⟨Nat.zero_le _, Nat.le_refl _, nofun, rfl⟩
    (Sbs.mk rfl (by dsimp only; rw [hF.nil]) ⟨rfl, rfl, by dsimp only; rw [hF.z]; rfl, zeroI hΩ, trivial⟩) ?_
  rintro ⟨i, o⟩ ⟨hi, hol, hoo, hRi⟩
  dsimp only at hi hol hoo hRi ⊢
  have hlo := hF.lo o
  have hle := hF.le o
  have htk := hF.tk o
  have hfz := hFz o
  have hfl := hF.len o
  have hfe := (hF.eq o).symm
  cbv
  refine br (fun h => ?_) (fun h => ?_) <;> cbv
  · replace h := ltI hΩ h
    obtain ⟨w, hw0⟩ := at_of (cs := ls) (by omega : i < _)
    have hp := hpt w (List.mem_of_getElem? hw0)
    have hpo := hpo w
    rw [hat o i w hw0] at hRi
    obtain ⟨q, hq⟩ : ∃ q, q = prsT w := ⟨_, rfl⟩
    rw [← hq] at hp hpo hRi
    have hap0 := hF.app o q.2
    have hpl0 := hF.plus o q.2
    refine ⟨⟨nnI hΩ⟩, _, rdI hΩ hys hw0, ?_⟩
    cbv
    refine call_pure hΩ 3 hp rfl (fits _) rfl rfl ?_
    cbv
    refine br (fun k => ?_) (fun k => ?_) <;> cbv
    · rw [if_neg (neI_t hΩ k)] at hRi
      rw [← hbad o hRi]
      exact ⟨⟨rfl, hle⟩, .of (by show A.tup [.sl true 7 (Ω.take (Ω.len (F o)) (F o)), boo false] = _; rw [htk])⟩
    · rw [if_pos (neI_f hΩ k)] at hRi
      refine loopX htab hΩ (fun j : Nat => ⟨[(0, str s), (4, .sl false 1 ys), (5, .vw 0 0 (Ω.len (F o))), (6, i64 (Ω.int i)), (7, .pt 1 0 0), (8, i64 (Ω.int j))], 58, [some ⟨7, F o, false⟩, some ⟨8, [.agg (i64 q.1 :: q.2.cells)], true⟩]⟩)
        (fun j => j ≤ o.length ∧ (o.take j).any (fun c => c.n == q.2.n) = false) (fun j => o.length - j) 0 ⟨Nat.zero_le _, rfl⟩ (Sbs.mk rfl rfl ⟨rfl, rfl, rfl, rfl, rfl, zeroI hΩ, trivial⟩) ?_
      rintro j ⟨hj, hja⟩
      cbv
      refine br (fun g => ?_) (fun g => ?_) <;> cbv
      · replace g := ltI hΩ g
        obtain ⟨c, hcc⟩ := at_of (cs := o) (by omega : j < _)
        have hcj : (F o)[Ω.plus 0 (Ω.nat (Ω.int j))]? = some c.enc := by subst hΩ; show (F o)[0 + j]? = _; rw [Nat.zero_add]; exact rdI rfl hfe hcc
        refine ⟨VC_drawn htab hΩ hmo (by kernel_rfl) ?_⟩
        cbv
        refine ⟨⟨⟨nnI hΩ, by subst hΩ; show (j : Int) < ((F o).length : Int); omega⟩⟩, _, hcj, ?_⟩
        cbv
        refine br (fun e => ?_) (fun e => ?_) <;> cbv
        · have e := seqT hΩ e
          have ha : (o.any fun c => c.n == q.2.n) = true := List.any_eq_true.2 ⟨c, List.mem_of_getElem? hcc, beq_iff_eq.2 e⟩
          rw [if_pos ha] at hRi
          rw [← hbad o hRi]
          exact ⟨⟨rfl, hle⟩, .of (by show A.tup [.sl true 7 (Ω.take (Ω.len (F o)) (F o)), boo false] = _; rw [htk])⟩
        · have e := seqF hΩ e
          refine ⟨j + 1, ⟨by omega, ?_⟩, by omega, Sbs.mk rfl rfl ⟨rfl, rfl, rfl, rfl, rfl, incI hΩ (by omega), trivial⟩⟩
          rw [List.take_add_one, hcc, List.any_append, hja]
          simp [e]
      · replace g := geI hΩ g
        rw [List.take_of_length_le (by omega)] at hja
        rw [if_neg (by rw [hja]; simp)] at hRi
        refine ⟨⟨rfl, okAll rfl, by show (Ω.len (F o) + 1) * 64 ≤ 140737488355328; omega, by show Ω.len (F o) + 1 ≤ 9223372036854775807; omega⟩, ?_⟩
        refine ⟨(i + 1, o ++ [q.2]), ⟨by show i + 1 ≤ n; omega, by show (o ++ [q.2]).length ≤ i + 1; rw [List.length_append]; exact Nat.add_le_add_right hol 1, fun t ht => ?_, hRi⟩, by show n - (i + 1) < n - i; omega,
          (Sbs.cut 1 rfl).trans (Sbs.mk rfl (by show [some (Row.mk 7 (Ω.app (Ω.take (Ω.len (F o)) (F o)) [q.2.enc]) false)] = _; rw [hap0]) ⟨rfl, rfl, by show A.vw 0 0 (Ω.plus (Ω.len (F o)) (Ω.len [q.2.enc])) = _; rw [hpl0], incI hΩ (by omega), trivial⟩)⟩
        rcases List.mem_append.1 ht with ht | ht
        · exact hoo t ht
        · rw [List.mem_singleton.1 ht]; exact hpo (neI_f hΩ k)
  · replace h := geI hΩ h
    have : i = n := by omega
    subst this
    rw [List.drop_of_length_le (by omega), hend] at hRi
    have hRg := hgo o hRi
    have htx := htx o hoo (by omega)
    have hR1 : o.length ≤ 8 → rtsT o = s → A.tup [.sl true 7 (F o), boo true] = R := fun a b => by rw [hRg, decide_eq_true a, decide_eq_true b]; rfl
    have hR2 : o.length ≤ 8 → rtsT o ≠ s → A.tup [.sl true 7 (F o), boo false] = R := fun a b => by rw [hRg, decide_eq_true a, decide_eq_false b]; rfl
    have hR3 : ¬ o.length ≤ 8 → A.tup [.sl true 7 (F o), boo false] = R := fun a => by rw [hRg, decide_eq_false a]; rfl
    clear hRg hRi
    generalize rtsT o = tx at *
    refine br (fun k => ?_) (fun k => ?_) <;> cbv
    · have k : o.length ≤ 8 := by have k := leZt hΩ k; rw [hlo, hfl] at k; subst hΩ; have k : (o.length : Int) ≤ 8 := k; omega
      refine call_pure hΩ 5 htx (mapO1 (ro_vw rfl hlo hfz)) (fits _) rfl rfl ?_
      cbv
      refine ⟨⟨rfl, hle⟩, .of ?_⟩
      show A.tup [.sl true 7 (Ω.take (Ω.len (F o)) (F o)), boo (Ω.ite true (Ω.cmpS .eql tx s) false)] = R
      rw [htk]
      cases hc : Ω.cmpS .eql tx s with
      | true => rw [← hR1 k (seqT hΩ hc)]; subst hΩ; rfl
      | false => rw [← hR2 k (seqF hΩ hc)]; subst hΩ; rfl
    · have k : ¬ o.length ≤ 8 := by have k := leZf hΩ k; rw [hlo, hfl] at k; subst hΩ; have k : (8 : Int) < (o.length : Int) := k; omega
      refine ⟨⟨rfl, hle⟩, .of ?_⟩
      show A.tup [.sl true 7 (Ω.take (Ω.len (F o)) (F o)), boo false] = R
      rw [htk, hR3 k]
theorem rts_len (s : List UInt8) : (rtsS s).1.length ≤ s.length + 1 := by
  have h1 := rdS_len (linesP s) []
  have h2 := linesP_len (s := s)
  show (rdS [] (linesP s)).1.length ≤ _
  simp at h1
  omega
theorem roF_rtsB (x : List Trm × Bool) : roFree (rtsB x) = true := by
  unfold rtsB
  rw [roFree_tup]
  have h : roFree (.sl true 7 (x.1.map Trm.enc)) = true := roFTs x.1
  simp only [List.all_cons, List.all_nil, h]; rfl
theorem c_l8Asks (x : Dsk) (hx : x.Ok) : PCtr PP n_spec_l8Asks [x.see] (rtsB (rtsS (datF x.f rtsN))) := by
  obtain ⟨Ω, hΩ⟩ : ∃ Ω, Ω = std := ⟨_, rfl⟩
  have hcd := c_l7Find x rtsN hx.n
  obtain ⟨f1, f2⟩ := fnd_of hx.o rtsN
  have hdl := datF_len hx.d4 rtsN
  have hr := c_l8Roots (datF x.f rtsN) (by omega)
  have hro := roF_rtsB (rtsS (datF x.f rtsN))
  generalize hasF x.f rtsN = h at *
  generalize fndF x.f rtsN = z at *
  generalize datF x.f rtsN = d at *
  obtain ⟨ds, hds⟩ : ∃ ds, ds = d.map byteA := ⟨_, rfl⟩
  rw [← hds] at f2
  have hno : h = false → FitX (.tup [.nil, boo true]) (rtsB (rtsS d)) := fun e => by
    rw [(f1 e).2]
    show FitX _ (.tup [.sl true 7 [], boo true])
    exact ⟨2, ⟨rfl, rfl, trivial⟩⟩
  have hlen := rts_len d
  generalize rtsS d = q at *
  unfold rtsB at *
  generalize q.2 = b at *
  generalize q.1.map Trm.enc = ts at *
  have hle : Ω.len ts ≤ ts.length := by subst hΩ; exact Nat.le_refl _
  have htk : Ω.take (Ω.len ts) ts = ts := takeAll hΩ _
  unfold rtsN at hcd
  unfold Dsk.see at *
  generalize x.f.map (Fil.enc false) = xs at *
  generalize x.bg = v1 at *
  generalize x.wr = v2 at *
  generalize x.st = v3 at *
  generalize x.dn = v4 at *
  have htab := tab
  have hmo := hmo
  refine PCtr.walk tab hΩ fn_spec_l8Asks rfl ?_
  generalize PP = P at *
  cbv
  refine call_pure hΩ 4 hcd rfl (fits _) rfl rfl ?_
  cbv
  refine br (fun k => ?_) (fun k => ?_) <;> cbv
  · have k := ltZt hΩ k
    cases h with
    | true => have := (f2 rfl).1; omega
    | false => exact hno rfl
  have k := ltZf hΩ k
  cases h with
  | false => have := (f1 rfl).1; omega
  | true =>
  obtain ⟨hz, p', hp⟩ := f2 rfl
  refine ⟨⟨hz⟩, _, hp, ?_⟩
  cbv
  refine ⟨d, hds, ?_⟩
  cbv
  refine call_pure hΩ 4 hr rfl (fits _) hro rfl ?_
  cbv
  exact ⟨⟨rfl, hle⟩, .of (by show A.tup [.sl true 7 (Ω.take (Ω.len ts) ts), boo b] = _; rw [htk]; rfl)⟩
end Go.Proofs.YtgcnggefeapalaaGreatDoor

/- Walks: the set that is seen; what is wrong with a machine. Plain theorems. -/
set_option linter.unusedVariables false
set_option linter.unusedSimpArgs false
namespace Go.Proofs.YtgcnggefeapalaaGreatDoor
open Go Go.Fw
set_option maxRecDepth 100000
theorem c_shown (c : List Pck) (x : Dsk) (hl : c.length ≤ 1048576) (ho : ∀ o ∈ c, o.Small) (hc : catF c = 0) (hx : x.Ok) : PCtr PP n_impl_shown [encP c, x.enc false false] (.tup [.sl true 1 ((shnW c x.f).2.map i64), i64 (shnW c x.f).1]) := by
  obtain ⟨Ω, hΩ⟩ : ∃ Ω, Ω = std := ⟨_, rfl⟩
  have h1 := c_current x hx
  have h2 := c_setOf c x (curF x.f) hl ho hc hx
  have hr := roF_I (shnW c x.f).2
  have h0 : curF x.f = 0 → FitX (.tup [.nil, i64 4]) (.tup [.sl true 1 ((shnW c x.f).2.map i64), i64 (shnW c x.f).1]) := fun h => by
    rw [shnW_none h]; exact ⟨2, by simp [fitA, fitA.fitL, i64]⟩
  unfold shnW at *
  generalize setW c x.f (curF x.f) = W at *
  generalize curF x.f = n at *
  generalize W.2.map i64 = ss at *
  have hle : Ω.len ss ≤ ss.length := by subst hΩ; exact Nat.le_refl _
  have htk : Ω.take (Ω.len ss) ss = ss := takeAll hΩ _
  have hr2 : roFree (.tup [.sl true 1 ss, i64 W.1]) = true := by rw [roFree_tup]; simp only [List.all_cons, List.all_nil]; rw [hr]; rfl
  obtain ⟨k, hk⟩ : ∃ k : Int, k = if n = 0 then 4 else 0 := ⟨_, rfl⟩
  rw [← hk] at h1
  unfold encP Dsk.enc at *
  generalize x.f.map (Fil.enc false) = xs at *
  generalize c.map (Pck.enc false) = cs at *
  generalize x.bg = v1 at *
  generalize x.wr = v2 at *
  generalize x.st = v3 at *
  generalize x.dn = v4 at *
  generalize W.1 = w at *
  have htab := tab
  have hmo := hmo
  refine PCtr.walk tab hΩ fn_impl_shown rfl ?_
  generalize PP = P at *
  cbv
  refine call_pure hΩ 4 h1 rfl (fits _) rfl rfl ?_
  cbv
  refine br (fun g => ?_) (fun g => ?_) <;> cbv
  · have g := neZt hΩ g
    by_cases e : n = 0
    · rw [if_pos e] at hk
      subst hk
      exact h0 e
    · rw [if_neg e] at hk; exact absurd hk g
  · refine call_pure hΩ 4 h2 rfl (fits _) hr2 rfl ?_
    cbv
    exact ⟨⟨rfl, hle⟩, .of (by show A.tup [.sl true 1 (Ω.take (Ω.len ss) ss), i64 w] = _; rw [htk]; rfl)⟩
theorem c_l8Shown (c : List Pck) (x : Dsk) (hl : c.length ≤ 1048576) (hx : x.Ok) : PCtr PP n_spec_l8Shown [encP c, x.see] (setR (shnW c x.f).1 0 (shnW c x.f).2) := by
  obtain ⟨Ω, hΩ⟩ : ∃ Ω, Ω = std := ⟨_, rfl⟩
  have h1 := c_l8Current x hx.toFit hx.o
  have h2 := c_l8Set c x (curF x.f) hl hx
  have hr := roFI3 (shnW c x.f).1 0 (shnW c x.f).2
  unfold shnW at *
  generalize setW c x.f (curF x.f) = W at *
  generalize curF x.f = n at *
  unfold setR at *
  generalize W.2.map i64 = ss at *
  have hle : Ω.len ss ≤ ss.length := by subst hΩ; exact Nat.le_refl _
  have htk : Ω.take (Ω.len ss) ss = ss := takeAll hΩ _
  unfold encP Dsk.see at *
  generalize x.f.map (Fil.enc false) = xs at *
  generalize c.map (Pck.enc false) = cs at *
  generalize x.bg = v1 at *
  generalize x.wr = v2 at *
  generalize x.st = v3 at *
  generalize x.dn = v4 at *
  generalize W.1 = w at *
  have htab := tab
  have hmo := hmo
  refine PCtr.walk tab hΩ fn_spec_l8Shown rfl ?_
  generalize PP = P at *
  cbv
  refine call_pure hΩ 4 h1 rfl (fits _) rfl rfl ?_
  cbv
  refine call_pure hΩ 4 h2 rfl (fits _) hr rfl ?_
  cbv
  exact ⟨⟨rfl, hle⟩, .of (by show A.agg [i64 w, i64 0, .sl true 1 (Ω.take (Ω.len ss) ss)] = _; rw [htk]; rfl)⟩
theorem c_isWhole (c : List Pck) (x : Dsk) (s : List Int) (ho : ∀ o ∈ c, o.Small) (hc : catF c = 0) (hx : x.Ok) (hk : Told c s) : PCtr PP n_impl_isWhole [encP c, x.enc false false, .sl false 1 (s.map i64)] (boo (whlB c x.f s)) := by
  obtain ⟨Ω, hΩ⟩ : ∃ Ω, Ω = std := ⟨_, rfl⟩
  have hsl := hk.len
  have hcl := (cat_ok hc).1
  have h1 := c_consistent c s (by omega) (by omega) ho hk.2
  have h2 := c_lacking c x s hc hx hk
  have hr := roFInt (lackF c x.f s)
  obtain ⟨R, hR⟩ : ∃ R, R = whlB c x.f s := ⟨_, rfl⟩
  rw [← hR]
  unfold whlB at hR
  generalize consB c s = b at *
  unfold ints at *
  obtain ⟨zs, hzs⟩ : ∃ zs, zs = (lackF c x.f s).map i64 := ⟨_, rfl⟩
  have hzl : zs.length = (lackF c x.f s).length := by rw [hzs, List.length_map]
  rw [← hzs] at h2 hr
  rw [← hzl] at hR
  have r0 : b = false → R = false := fun h => by rw [hR, h]; rfl
  have r1 : b = true → R = decide (zs.length = 0) := fun h => by rw [hR, h]; rfl
  clear hzs hzl hR
  generalize s.map i64 = ss at *
  unfold encP Dsk.enc at *
  generalize x.f.map (Fil.enc false) = xs at *
  generalize c.map (Pck.enc false) = cs at *
  generalize x.bg = v1 at *
  generalize x.wr = v2 at *
  generalize x.st = v3 at *
  generalize x.dn = v4 at *
  have htab := tab
  have hmo := hmo
  refine PCtr.walk tab hΩ fn_impl_isWhole rfl ?_
  generalize PP = P at *
  cbv
  refine call_pure hΩ 3 h1 rfl (fits _) rfl rfl ?_
  cbv
  refine br (fun g => ?_) (fun g => ?_) <;> cbv
  · refine call_pure hΩ 4 h2 rfl (fits _) hr rfl ?_
    cbv
    refine .of (congrArg boo ?_)
    rw [r1 g]
    subst hΩ
    show decide ((zs.length : Int) = 0) = _
    rw [Bool.eq_iff_iff, decide_eq_true_eq, decide_eq_true_eq]
    omega
  · rw [r0 g]
    exact .of (congrArg boo (by subst hΩ; rfl))
/-- A machine. -/
def sysE (q o : Bool) (c : List Pck) (x : Dsk) : A := .agg [.sl q 8 (c.map (Pck.enc o)), .sl q 2 (x.f.map (Fil.enc o)), i64 x.bg, i64 x.wr, i64 x.st, boo x.dn]
theorem sysF_facts (c : List Pck) (x : Dsk) : (bthC c x ≠ 0 → sysF c x = bthC c x) ∧ (bthC c x = 0 → (shnW c x.f).1 ≠ 0 → sysF c x = (shnW c x.f).1) ∧ (bthC c x = 0 → (shnW c x.f).1 = 0 → whlB c x.f (shnW c x.f).2 = false → sysF c x = 1) ∧
    (bthC c x = 0 → (shnW c x.f).1 = 0 → whlB c x.f (shnW c x.f).2 = true → sysF c x = (rtsI (datF x.f rtsN)).1) := by
  unfold sysF sysW
  refine ⟨fun h => if_pos h, fun h g => ?_, fun h g e => ?_, fun h g e => ?_⟩ <;> rw [if_neg (by simp [h])]
  · rw [if_pos g]
  · rw [if_neg (by simp [g]), e]; rfl
  · rw [if_neg (by simp [g]), e]; rfl
theorem c_implSystemFault (c : List Pck) (x : Dsk) (hl : c.length ≤ 1048576) (ho : ∀ o ∈ c, o.Small) (hx : x.Fit) : PCtr PP n_impl_SystemFault [sysE false false c x] (i64 (sysF c x)) := by
  obtain ⟨Ω, hΩ⟩ : ∃ Ω, Ω = std := ⟨_, rfl⟩
  have h1 := c_bothCode c x hl ho hx
  obtain ⟨r1, r2, r3, r4⟩ := sysF_facts c x
  have H : bthC c x = 0 → PCtr PP n_impl_shown [encP c, x.enc false false] (.tup [.sl true 1 ((shnW c x.f).2.map i64), i64 (shnW c x.f).1]) ∧ PCtr PP n_impl_isWhole [encP c, x.enc false false, .sl false 1 ((shnW c x.f).2.map i64)] (boo (whlB c x.f (shnW c x.f).2)) ∧ PCtr PP n_impl_Disk_roots [x.enc false false] (rtsA (rtsI (datF x.f rtsN))) := fun h => by
    obtain ⟨hc, hk⟩ := bthC_ok hx h
    exact ⟨c_shown c x hl ho hc hk, c_isWhole c x _ ho hc hk (shnW_told c x.f), c_roots x hk⟩
  have hro := roF_I (shnW c x.f).2
  have hfz := frz_I (shnW c x.f).2
  have hrt : roFree (rtsA (rtsI (datF x.f rtsN))) = true := by
    unfold rtsA
    rw [roFree_tup]
    have h : roFree (.sl true 7 ((rtsI (datF x.f rtsN)).2.map Trm.enc)) = true := roFTs _
    simp only [List.all_cons, List.all_nil]; rw [h]; rfl
  generalize sysF c x = R at *
  generalize bthC c x = b at *
  generalize whlB c x.f (shnW c x.f).2 = wb at *
  generalize shnW c x.f = W at *
  generalize rtsI (datF x.f rtsN) = q at *
  generalize W.1 = k at *
  generalize W.2.map i64 = ss at *
  unfold rtsA at *
  generalize q.2.map Trm.enc = ts at *
  generalize q.1 = qc at *
  have hr2 : roFree (.tup [.sl true 1 ss, i64 k]) = true := by rw [roFree_tup]; simp only [List.all_cons, List.all_nil]; rw [hro]; rfl
  have hz2 : frz (.tup [.sl true 1 ss, i64 k]) = .tup [.sl false 1 ss, i64 k] := by rw [frz_tup]; simp only [List.map_cons, List.map_nil, frz_sl]; rw [hfz]; rfl
  unfold sysE encP Dsk.enc at *
  generalize x.f.map (Fil.enc false) = xs at *
  generalize c.map (Pck.enc false) = cs at *
  generalize x.bg = v1 at *
  generalize x.wr = v2 at *
  generalize x.st = v3 at *
  generalize x.dn = v4 at *
  have htab := tab
  have hmo := hmo
  refine PCtr.walk tab hΩ fn_impl_SystemFault rfl ?_
  generalize PP = P at *
  cbv
  refine call_pure hΩ 4 h1 rfl (fits _) rfl rfl ?_
  cbv
  refine br (fun g => ?_) (fun g => ?_) <;> cbv
  · exact .of (congrArg i64 (r1 (neZt hΩ g)).symm)
  have hb := neZf hΩ g
  obtain ⟨h2, h3, h4⟩ := H hb
  refine call_pf hΩ 4 h2 rfl (fits _) hr2 hz2 rfl ?_
  cbv
  refine br (fun g => ?_) (fun g => ?_) <;> cbv
  · exact .of (congrArg i64 (r2 hb (neZt hΩ g)).symm)
  have hk := neZf hΩ g
  refine call_pure hΩ 4 h3 rfl (fits _) rfl rfl ?_
  cbv
  refine br (fun g => ?_) (fun g => ?_) <;> cbv
  · exact .of (congrArg i64 (r3 hb hk (notA hΩ g)).symm)
  refine call_pure hΩ 4 h4 rfl (fits _) hrt rfl ?_
  cbv
  exact .of (congrArg i64 (r4 hb hk (notB hΩ g)).symm)
theorem c_specSystemFault (c : List Pck) (x : Dsk) (hl : c.length ≤ 1048576) (ho : ∀ o ∈ c, o.Small) (hx : x.Fit) : PCtr PP n_spec_SystemFault [sysE false false c x] (i64 (sysF c x)) := by
  obtain ⟨Ω, hΩ⟩ : ∃ Ω, Ω = std := ⟨_, rfl⟩
  have h1 := c_l8Asked c x hl ho hx
  obtain ⟨r1, r2, r3, r4⟩ := sysF_facts c x
  have H : bthC c x = 0 → PCtr PP n_spec_l8Shown [encP c, x.see] (setR (shnW c x.f).1 0 (shnW c x.f).2) ∧ (PCtr PP n_spec_l3Good [encP c, .sl false 1 ((shnW c x.f).2.map i64)] (boo (consB c (shnW c x.f).2)) ∧ PCtr PP n_spec_l8Lacking [encP c, x.see, .sl false 1 ((shnW c x.f).2.map i64)] (.sl true 1 ((lackF c x.f (shnW c x.f).2).map i64))) ∧ PCtr PP n_spec_l8Asks [x.see] (rtsB (rtsS (datF x.f rtsN))) := fun h => by
    obtain ⟨hc, hk⟩ := bthC_ok hx h
    have ht := shnW_told c x.f
    have hsl := ht.len
    exact ⟨c_l8Shown c x hl hk, ⟨c_l3Good c _ hl (by omega) ho ht.2, c_l8Lacking c x _ hc hk ht⟩, c_l8Asks x hk⟩
  have hro := roFI3 (shnW c x.f).1 0 (shnW c x.f).2
  have hfz : frz (setR (shnW c x.f).1 0 (shnW c x.f).2) = .agg [i64 (shnW c x.f).1, i64 0, .sl false 1 ((shnW c x.f).2.map i64)] := by unfold setR; rw [frz_agg]; simp only [List.map_cons, List.map_nil, frz_sl]; rw [frz_I]; rfl
  have hrl := roF_I (lackF c x.f (shnW c x.f).2)
  have hrt := roF_rtsB (rtsS (datF x.f rtsN))
  have e4 : (rtsI (datF x.f rtsN)).1 = if (rtsS (datF x.f rtsN)).2 then 0 else 5 := by rw [rts_eq]; cases (rtsS (datF x.f rtsN)).2 <;> rfl
  rw [e4] at r4
  have hw0 : consB c (shnW c x.f).2 = false → whlB c x.f (shnW c x.f).2 = false := fun h => by unfold whlB; rw [h]; rfl
  have hw1 : consB c (shnW c x.f).2 = true → whlB c x.f (shnW c x.f).2 = decide ((lackF c x.f (shnW c x.f).2).length = 0) := fun h => by unfold whlB; rw [h]; rfl
  clear e4
  obtain ⟨zs, hzs⟩ : ∃ zs, zs = (lackF c x.f (shnW c x.f).2).map i64 := ⟨_, rfl⟩
  have hzl : zs.length = (lackF c x.f (shnW c x.f).2).length := by rw [hzs, List.length_map]
  rw [← hzs] at H hrl
  rw [← hzl] at hw1
  clear hzs hzl
  generalize sysF c x = R at *
  generalize bthC c x = b at *
  generalize whlB c x.f (shnW c x.f).2 = wb at *
  generalize consB c (shnW c x.f).2 = cb at *
  generalize shnW c x.f = W at *
  generalize rtsS (datF x.f rtsN) = q at *
  unfold setR rtsB at *
  generalize W.1 = k at *
  generalize W.2.map i64 = ss at *
  generalize q.1.map Trm.enc = ts at *
  generalize q.2 = qb at *
  unfold sysE encP Dsk.see Dsk.enc at *
  generalize x.f.map (Fil.enc false) = xs at *
  generalize c.map (Pck.enc false) = cs at *
  generalize x.bg = v1 at *
  generalize x.wr = v2 at *
  generalize x.st = v3 at *
  generalize x.dn = v4 at *
  have htab := tab
  have hmo := hmo
  refine PCtr.walk tab hΩ fn_spec_SystemFault rfl ?_
  generalize PP = P at *
  cbv
  refine call_pure hΩ 4 h1 rfl (fits _) rfl rfl ?_
  cbv
  refine br (fun g => ?_) (fun g => ?_) <;> cbv
  · exact .of (congrArg i64 (r1 (neZt hΩ g)).symm)
  have hb := neZf hΩ g
  obtain ⟨h2, ⟨h3, h4⟩, h5⟩ := H hb
  refine call_pf hΩ 5 h2 rfl (fits _) hro hfz rfl ?_
  cbv
  refine br (fun g => ?_) (fun g => ?_) <;> cbv
  · exact .of (congrArg i64 (r2 hb (neZt hΩ g)).symm)
  have hk := neZf hΩ g
  refine call_pure hΩ 4 h3 rfl (fits _) rfl rfl ?_
  cbv
  refine br (fun g => ?_) (fun g => ?_) <;> cbv
  · exact .of (congrArg i64 (r3 hb hk (hw0 (notA hΩ g))).symm)
  have hcb := notB hΩ g
  refine call_pure hΩ 5 h4 rfl (fits _) hrl rfl ?_
  cbv
  refine br (fun g => ?_) (fun g => ?_) <;> cbv
  · have g := iteB hΩ g
    have g : 0 < zs.length := by have g := gtZt hΩ g; subst hΩ; have g : (0 : Int) < (zs.length : Int) := g; omega
    exact .of (congrArg i64 (r3 hb hk (by rw [hw1 hcb]; exact decide_eq_false (by omega))).symm)
  have g := iteB hΩ g
  have g : zs.length = 0 := by have g := gtZf hΩ g; subst hΩ; have g : (zs.length : Int) ≤ 0 := g; omega
  have r4 := r4 hb hk (by rw [hw1 hcb]; exact decide_eq_true g)
  refine call_pure hΩ 5 h5 rfl (fits _) hrt rfl ?_
  cbv
  refine br (fun g => ?_) (fun g => ?_) <;> cbv
  · rw [r4, if_neg (by simp [notA hΩ g])]; exact .same
  · rw [r4, if_pos (notB hΩ g)]; exact .same
end Go.Proofs.YtgcnggefeapalaaGreatDoor

/- Walks: marks of disks. Plain theorems. -/
set_option linter.unusedVariables false
set_option linter.unusedSimpArgs false
namespace Go.Proofs.YtgcnggefeapalaaGreatDoor
open Go Go.Fw
set_option maxRecDepth 100000
def Fil.cnt (o : Fil) : Nat := 1 + o.d.length
def Dsk.cnt (x : Dsk) : Nat := psum Fil.cnt x.f x.f.length
end Go.Proofs.YtgcnggefeapalaaGreatDoor

/- Walks: equal disks are told so. Plain theorems. -/
set_option linter.unusedVariables false
set_option linter.unusedSimpArgs false
namespace Go.Proofs.YtgcnggefeapalaaGreatDoor
open Go Go.Fw
set_option maxRecDepth 100000
theorem bne_self {Ω : Opq} (hΩ : Ω = std) {b : Bool} (h : Ω.cmpB .neq b b = true) : False := by subst hΩ; cases b <;> cases h
theorem c_eqByteS (cs : List (UInt8)) (hb : cs.length ≤ 1048576) : PCtr PP n_laws_eqByteS [.sl false 1 (cs.map (byteA)), .sl false 1 (cs.map (byteA))] (boo true) := by
  obtain ⟨Ω, hΩ⟩ : ∃ Ω, Ω = std := ⟨_, rfl⟩
  obtain ⟨xs, hxs⟩ : ∃ xs, xs = cs.map (byteA) := ⟨_, rfl⟩
  have hlen : xs.length = cs.length := by rw [hxs, List.length_map]
  rw [← hxs]
  have htab := tab
  have hmo := hmo
  refine PCtr.walk tab hΩ fn_laws_eqByteS rfl ?_
  generalize PP = P at *
  cbv
  refine br (fun h => (ne_self hΩ h).elim) (fun h => ?_)
  cbv
  refine loopX htab hΩ (fun i : Nat => ⟨[(0, .sl false 1 xs), (1, .sl false 1 xs), (5, .sc (.int .i64 (Ω.int i)))], 26, []⟩) (fun i => i ≤ cs.length) (fun i => cs.length - i) 0 (Nat.zero_le _) (Sbs.mk rfl rfl ⟨rfl, rfl, zeroI hΩ, trivial⟩) (fun i hi => ?_)
  cbv
  refine br (fun h => ?_) (fun h => ?_)
  · replace h := ltI hΩ h
    obtain ⟨c, hcc⟩ := at_of (cs := cs) (by omega : i < _)
    have hcm := List.mem_of_getElem? hcc
    cbv
    repeat' (first | (refine br (fun h => (notT hΩ h).elim) (fun h => ?_); cbv) | (refine br (fun h => (ne_self hΩ h).elim) (fun h => ?_); cbv) | (refine br (fun h => (sne_self hΩ h).elim) (fun h => ?_); cbv) | (refine ⟨VC_drawn htab hΩ hmo (by kernel_rfl) ?_⟩; cbv) | (refine ⟨⟨nnI hΩ⟩, _, rdI hΩ hxs hcc, ?_⟩; cbv))
    exact ⟨i + 1, by omega, by omega, Sbs.mk rfl rfl ⟨rfl, rfl, incI hΩ (by omega), trivial⟩⟩
  · cbv
    exact .same
theorem c_eqFile (o : Fil) (hs : o.d.length ≤ 1048576) : PCtr PP n_laws_eqFile [o.enc false, o.enc false] (boo true) := by
  obtain ⟨Ω, hΩ⟩ : ∃ Ω, Ω = std := ⟨_, rfl⟩
  have h1 := c_eqByteS o.d hs
  unfold Fil.enc
  generalize o.d.map byteA = ds at *
  have htab := tab
  have hmo := hmo
  refine PCtr.walk tab hΩ fn_laws_eqFile rfl ?_
  generalize PP = P at *
  cbv
  repeat' (first | (refine br (fun h => (notT hΩ h).elim) (fun h => ?_); cbv) | (refine br (fun h => (ne_self hΩ h).elim) (fun h => ?_); cbv) | (refine br (fun h => (sne_self hΩ h).elim) (fun h => ?_); cbv) | (refine ⟨VC_drawn htab hΩ hmo (by kernel_rfl) ?_⟩; cbv) | (refine call_pure hΩ 3 h1 rfl (fits _) rfl rfl ?_; cbv) | (refine QCall_pure (k := 3) h1 rfl (fits _) rfl ?_; cbv))
  exact .same
theorem c_eqFileS (cs : List (Fil)) (hb : cs.length ≤ 1048576) (hl : ∀ f ∈ cs, f.d.length ≤ 1048576) : PCtr PP n_laws_eqFileS [.sl false 2 (cs.map (Fil.enc false)), .sl false 2 (cs.map (Fil.enc false))] (boo true) := by
  obtain ⟨Ω, hΩ⟩ : ∃ Ω, Ω = std := ⟨_, rfl⟩
  obtain ⟨xs, hxs⟩ : ∃ xs, xs = cs.map (Fil.enc false) := ⟨_, rfl⟩
  have hlen : xs.length = cs.length := by rw [hxs, List.length_map]
  rw [← hxs]
  have hc : ∀ c ∈ cs, PCtr PP n_laws_eqFile [Fil.enc false c, Fil.enc false c] (boo true) := fun c h => c_eqFile c (hl c h)
  have htab := tab
  have hmo := hmo
  refine PCtr.walk tab hΩ fn_laws_eqFileS rfl ?_
  generalize PP = P at *
  cbv
  refine br (fun h => (ne_self hΩ h).elim) (fun h => ?_)
  cbv
  refine loopX htab hΩ (fun i : Nat => ⟨[(0, .sl false 2 xs), (1, .sl false 2 xs), (5, .sc (.int .i64 (Ω.int i)))], 27, []⟩) (fun i => i ≤ cs.length) (fun i => cs.length - i) 0 (Nat.zero_le _) (Sbs.mk rfl rfl ⟨rfl, rfl, zeroI hΩ, trivial⟩) (fun i hi => ?_)
  cbv
  refine br (fun h => ?_) (fun h => ?_)
  · replace h := ltI hΩ h
    obtain ⟨c, hcc⟩ := at_of (cs := cs) (by omega : i < _)
    have hcm := List.mem_of_getElem? hcc
    obtain ⟨ds, hen⟩ : ∃ ds, Fil.enc false c = .agg [str c.p, .sl false 1 ds] := ⟨_, rfl⟩
    have hcc1 := hc c hcm
    rw [hen] at hcc1
    cbv
    repeat' (first | (refine br (fun h => (notT hΩ h).elim) (fun h => ?_); cbv) | (refine br (fun h => (ne_self hΩ h).elim) (fun h => ?_); cbv) | (refine br (fun h => (sne_self hΩ h).elim) (fun h => ?_); cbv) | (refine ⟨VC_drawn htab hΩ hmo (by kernel_rfl) ?_⟩; cbv) | (refine ⟨⟨nnI hΩ⟩, _, (rdI hΩ hxs hcc).trans (congrArg some hen), ?_⟩; cbv) | (refine call_pure hΩ 3 hcc1 rfl (fits _) rfl rfl ?_; cbv) | (refine QCall_pure (k := 3) hcc1 rfl (fits _) rfl ?_; cbv))
    exact ⟨i + 1, by omega, by omega, Sbs.mk rfl rfl ⟨rfl, rfl, incI hΩ (by omega), trivial⟩⟩
  · cbv
    exact .same
theorem c_eqDisk (x : Dsk) (hx : x.Fit) : PCtr PP n_laws_eqDisk [x.enc false false, x.enc false false] (boo true) := by
  obtain ⟨Ω, hΩ⟩ : ∃ Ω, Ω = std := ⟨_, rfl⟩
  have h1 := c_eqFileS x.f hx.n hx.d
  unfold Dsk.enc
  generalize x.f.map (Fil.enc false) = xs at *
  have htab := tab
  have hmo := hmo
  refine PCtr.walk tab hΩ fn_laws_eqDisk rfl ?_
  generalize PP = P at *
  cbv
  repeat' (first | (refine br (fun h => (bne_self hΩ h).elim) (fun h => ?_); cbv) | (refine br (fun h => (notT hΩ h).elim) (fun h => ?_); cbv) | (refine br (fun h => (ne_self hΩ h).elim) (fun h => ?_); cbv) | (refine br (fun h => (sne_self hΩ h).elim) (fun h => ?_); cbv) | (refine ⟨VC_drawn htab hΩ hmo (by kernel_rfl) ?_⟩; cbv) | (refine call_pure hΩ 3 h1 rfl (fits _) rfl rfl ?_; cbv) | (refine QCall_pure (k := 3) h1 rfl (fits _) rfl ?_; cbv))
  exact .same
end Go.Proofs.YtgcnggefeapalaaGreatDoor

/- Helpers of laws about disks. Plain theorems. -/
set_option linter.unusedVariables false
set_option linter.unusedSimpArgs false
namespace Go.Proofs.YtgcnggefeapalaaGreatDoor
open Go Go.Fw
theorem szD_facts {x : Dsk} {l l2 : Int} (h : szD x l = l2) (h1 : l ≤ 1048576) (h2 : 0 ≤ l2) : x.Fit := by
  rw [szD_cost] at h
  refine Dsk.fit_of ?_
  split at h <;> omega
theorem cnt_cost (x : Dsk) : x.cnt ≤ cD x := by
  unfold Dsk.cnt cD psum costS
  rw [List.take_length]
  generalize x.f = l
  induction l with
  | nil => simp
  | cons f l ih =>
    have e1 : f.cnt = 1 + f.d.length := rfl
    have e2 : cF f = f.p.length + f.d.length := rfl
    simp only [List.map_cons, List.sum_cons, List.length_cons]
    omega
theorem szD_cnt {x : Dsk} {l l2 : Int} (h : szD x l = l2) (h1 : l ≤ 1048576) (h2 : 0 ≤ l2) : x.cnt ≤ 2097152 := by
  rw [szD_cost] at h
  have := cnt_cost x
  split at h <;> omega
end Go.Proofs.YtgcnggefeapalaaGreatDoor

/- Walks: sizes, copies and equality of machines. Plain theorems. -/
set_option linter.unusedVariables false
set_option linter.unusedSimpArgs false
namespace Go.Proofs.YtgcnggefeapalaaGreatDoor
open Go Go.Fw
set_option maxRecDepth 100000
def szY (c : List Pck) (x : Dsk) (l : Int) : Int := if szS szP c l < 0 then -1 else if szD x (szS szP c l) < 0 then -1 else szD x (szS szP c l)
theorem szP_leL {c : List Pck} {l : Int} (h : 0 ≤ szS szP c l) : szS szP c l ≤ l := by
  rw [szS_cost szP_cost] at h ⊢
  split <;> omega
theorem sz_factsL {c : List Pck} {l : Int} (hl : l ≤ 1048576) (h : 0 ≤ szS szP c l) : c.length ≤ 1048576 ∧ (∀ o ∈ c, o.Small) ∧ psum Pck.cnt c c.length ≤ 12582912 := by
  rw [szS_cost szP_cost] at h
  split at h
  · omega
  · have hc : costS cP c ≤ 1048576 := by omega
    exact ⟨Nat.le_trans (len_cost _ _) hc, fun o ho => small_of (Nat.le_trans (mem_cost _ _ o ho) hc), Nat.le_trans (psum_cnt_le c) (by omega)⟩
theorem szY_facts {c : List Pck} {x : Dsk} {l : Int} (hl : l ≤ 1048576) (h : 0 ≤ szY c x l) : (c.length ≤ 1048576 ∧ (∀ o ∈ c, o.Small) ∧ psum Pck.cnt c c.length ≤ 12582912) ∧ (x.Fit ∧ x.cnt ≤ 2097152) ∧ szY c x l ≤ l := by
  unfold szY at *
  split at h
  · omega
  · rename_i h1
    have h1 : 0 ≤ szS szP c l := by omega
    have h2 := szP_leL h1
    split at h
    · omega
    · rename_i h3
      rw [if_neg (by omega), if_neg h3]
      refine ⟨sz_factsL hl h1, ⟨szD_facts rfl (by omega) h, szD_cnt rfl (by omega) h⟩, ?_⟩
      rw [szD_cost] at h ⊢
      split <;> omega
theorem c_szSystem (c : List Pck) (x : Dsk) (l : Int) (h0 : 0 ≤ l) (h1 : l ≤ 1048576) (hm : c.length ≤ maxLen) (hf : ∀ o ∈ c, o.Fit) (hxm : x.f.length ≤ maxLen) (hxf : ∀ f ∈ x.f, f.Fit) : PCtr PP n_laws_szSystem [sysE false false c x, i64 l] (i64 (szY c x l)) := by
  obtain ⟨Ω, hΩ⟩ : ∃ Ω, Ω = std := ⟨_, rfl⟩
  have k1 := c_szPackS c l h0 h1 hm hf
  have k2 : 0 ≤ szS szP c l → PCtr PP n_laws_szDisk [x.enc false false, i64 (szS szP c l)] (i64 (szD x (szS szP c l))) := fun h => c_szDisk x _ h (by have := szP_leL h; omega) hxm hxf
  obtain ⟨R, hR⟩ : ∃ R, R = szY c x l := ⟨_, rfl⟩
  rw [← hR]
  unfold szY at hR
  generalize szS szP c l = s at *
  generalize szD x s = d at *
  unfold sysE Dsk.enc at *
  generalize x.f.map (Fil.enc false) = xs at *
  generalize c.map (Pck.enc false) = cs at *
  generalize x.bg = v1 at *
  generalize x.wr = v2 at *
  generalize x.st = v3 at *
  generalize x.dn = v4 at *
  have htab := tab
  have hmo := hmo
  refine PCtr.walk tab hΩ fn_laws_szSystem rfl ?_
  generalize PP = P at *
  cbv
  refine call_pure hΩ 4 k1 rfl (fits _) rfl rfl ?_
  cbv
  refine br (fun g => ?_) (fun g => ?_) <;> cbv
  · exact .of (congrArg i64 (by rw [hR, if_pos (ltI_t hΩ g)]))
  have g := ltI_f hΩ g
  rw [if_neg (by omega)] at hR
  refine call_pure hΩ 4 (k2 g) rfl (fits _) rfl rfl ?_
  cbv
  refine br (fun g => ?_) (fun g => ?_) <;> cbv
  · exact .of (congrArg i64 (by rw [hR, if_pos (ltI_t hΩ g)]))
  have g := ltI_f hΩ g
  exact .of (congrArg i64 (by rw [hR, if_neg (by omega)]))
theorem roFY (c : List Pck) (x : Dsk) : roFree (sysE true true c x) = true := by
  unfold sysE
  rw [roFree_agg]
  have h1 := roFPs c
  have h2 := roFFs x.f
  simp only [List.all_cons, List.all_nil]; rw [h1, h2]; rfl
theorem c_toSystem (c : List Pck) (x : Dsk) (hl : c.length ≤ 1048576) (ho : ∀ o ∈ c, o.Small) (hx : x.Fit) : PCtr PP n_laws_toSystem [sysE false false c x] (sysE true true c x) := by
  obtain ⟨Ω, hΩ⟩ : ∃ Ω, Ω = std := ⟨_, rfl⟩
  have h1 := c_toPackS c hl ho
  have h2 := c_toDisk x hx
  have r1 := roFPs c
  have r2 : roFree (x.enc true true) = true := roFD x
  unfold sysE Dsk.enc at *
  generalize x.f.map (Fil.enc false) = xs at *
  generalize c.map (Pck.enc false) = cs at *
  generalize x.f.map (Fil.enc true) = ys at *
  generalize c.map (Pck.enc true) = ds at *
  generalize x.bg = v1 at *
  generalize x.wr = v2 at *
  generalize x.st = v3 at *
  generalize x.dn = v4 at *
  have hly : Ω.len ys ≤ ys.length := by subst hΩ; exact Nat.le_refl _
  have hld : Ω.len ds ≤ ds.length := by subst hΩ; exact Nat.le_refl _
  have hty : Ω.take (Ω.len ys) ys = ys := takeAll hΩ _
  have htd : Ω.take (Ω.len ds) ds = ds := takeAll hΩ _
  have htab := tab
  have hmo := hmo
  refine PCtr.walk tab hΩ fn_laws_toSystem rfl ?_
  generalize PP = P at *
  cbv
  refine call_pure hΩ 4 h1 rfl (fits _) r1 rfl ?_
  cbv
  refine call_pure hΩ 4 h2 rfl (fits _) r2 rfl ?_
  cbv
  exact ⟨⟨rfl, hld⟩, ⟨rfl, hly⟩, .of (by show A.agg [.sl true 8 (Ω.take (Ω.len ds) ds), .sl true 2 (Ω.take (Ω.len ys) ys), i64 v1, i64 v2, i64 v3, boo v4] = _; rw [hty, htd]; rfl)⟩
theorem c_eqSystem (c : List Pck) (x : Dsk) (hl : c.length ≤ 1048576) (ho : ∀ o ∈ c, o.Small) (hx : x.Fit) : PCtr PP n_laws_eqSystem [sysE false false c x, sysE false false c x] (boo true) := by
  obtain ⟨Ω, hΩ⟩ : ∃ Ω, Ω = std := ⟨_, rfl⟩
  have h1 := c_eqPackS c hl ho
  have h2 := c_eqDisk x hx
  unfold sysE Dsk.enc at *
  generalize x.f.map (Fil.enc false) = xs at *
  generalize c.map (Pck.enc false) = cs at *
  generalize x.bg = v1 at *
  generalize x.wr = v2 at *
  generalize x.st = v3 at *
  generalize x.dn = v4 at *
  have htab := tab
  have hmo := hmo
  refine PCtr.walk tab hΩ fn_laws_eqSystem rfl ?_
  generalize PP = P at *
  cbv
  refine call_pure hΩ 4 h1 rfl (fits _) rfl rfl ?_
  cbv
  refine br (fun h => (notT hΩ h).elim) (fun h => ?_)
  cbv
  refine call_pure hΩ 4 h2 rfl (fits _) rfl rfl ?_
  cbv
  refine br (fun h => (notT hΩ h).elim) (fun h => ?_)
  cbv
  exact .same
theorem ro_agg6 {S : State} {k : Nat} {a a' b b' c d e f : A} (ha : roO S (k + 1) a = some a') (hb : roO S (k + 1) b = some b') (hc : roO S (k + 1) c = some c) (hd : roO S (k + 1) d = some d) (he : roO S (k + 1) e = some e) (hf : roO S (k + 1) f = some f) : roO S (k + 2) (.agg [a, b, c, d, e, f]) = some (.agg [a', b', c, d, e, f]) := by
  show (mapO (roO S (k + 1)) [a, b, c, d, e, f]).map A.agg = _
  simp [mapO, ha, hb, hc, hd, he, hf]
end Go.Proofs.YtgcnggefeapalaaGreatDoor

/- Walks: the text of a set; do machines show the same. Plain theorems. -/
set_option linter.unusedVariables false
set_option linter.unusedSimpArgs false
namespace Go.Proofs.YtgcnggefeapalaaGreatDoor
open Go Go.Fw
set_option maxRecDepth 100000
/-- The line of a package, and the text of a set. -/
def lnK (o : Pck) : List UInt8 := o.n ++ [32] ++ verT o.v
theorem lnK_len {o : Pck} (hn : o.n.length ≤ 12) (hv : verF o.v = 0) : (lnK o).length ≤ 24 := by
  have := verT_len hv
  unfold lnK
  simp
  omega
theorem sys_known {c : List Pck} {x : Dsk} (hx : x.Fit) (h : sysF c x = 0) : catF c = 0 ∧ x.Ok ∧ (shnW c x.f).1 = 0 := by
  have hb : bthC c x = 0 := Decidable.byContradiction fun g => by rw [(sysF_facts c x).1 g] at h; exact g h
  obtain ⟨h1, h2⟩ := bthC_ok hx hb
  exact ⟨h1, h2, Decidable.byContradiction fun g => by rw [(sysF_facts c x).2.1 hb g] at h; exact g h⟩
end Go.Proofs.YtgcnggefeapalaaGreatDoor

/- The text of a machine. Definitions and plain theorems. -/
set_option linter.unusedVariables false
set_option linter.unusedSimpArgs false
namespace Go.Proofs.YtgcnggefeapalaaGreatDoor
open Go Go.Fw
set_option maxRecDepth 100000
/-- The sum of bytes. -/
def sumB : List UInt8 → Int → Int
  | [], h => h
  | b :: l, h => sumB l ((h * 263 + (b.toNat : Int)) % 1000003)
theorem sumB_at {l : List UInt8} {i : Nat} {b : UInt8} {h : Int} (e : l[i]? = some b) : sumB (l.drop i) h = sumB (l.drop (i + 1)) ((h * 263 + (b.toNat : Int)) % 1000003) := by
  obtain ⟨hi, rfl⟩ := List.getElem?_eq_some_iff.1 e
  rw [List.drop_eq_getElem_cons hi]
  rfl
theorem sumB_in : ∀ (l : List UInt8) (h : Int), 0 ≤ h → h < 1000003 → 0 ≤ sumB l h ∧ sumB l h < 1000003
  | [], h, h0, h1 => ⟨h0, h1⟩
  | b :: l, h, h0, h1 => sumB_in l _ (by omega) (by omega)
/-- A text that grows by a line for each of a list. -/
def catG {α : Type} (f : α → List UInt8) (b : List UInt8) (l : List α) : List UInt8 := b ++ (l.map f).flatten
theorem catG_at {α : Type} {f : α → List UInt8} {b : List UInt8} {l : List α} {i : Nat} {a : α} (h : l[i]? = some a) : catG f b (l.take (i + 1)) = catG f b (l.take i) ++ f a := by
  unfold catG
  rw [List.take_add_one, h]
  simp
theorem catG_len {α : Type} {f : α → List UInt8} {n : Nat} {b : List UInt8} : ∀ {l : List α}, (∀ a ∈ l, (f a).length ≤ n) → (catG f b l).length ≤ b.length + n * l.length
  | [], _ => by simp [catG]
  | a :: l, h => by
    have h1 := h a (.head _)
    have h2 := catG_len (b := b) (l := l) fun a ha => h a (.tail _ ha)
    unfold catG at h2 ⊢
    rw [List.length_cons, Nat.mul_succ]
    simp at h2 ⊢
    omega
theorem catG_steps {α : Type} (f : α → List UInt8) (n : Nat) (b : List UInt8) (l : List α) (h : ∀ a ∈ l, (f a).length ≤ n) : ∃ G : Nat → List UInt8, (catG f b l = G l.length ∧ b = G 0) ∧ ∀ i a, l[i]? = some a → (G i).length ≤ b.length + n * l.length ∧ (f a).length ≤ n ∧ G (i + 1) = G i ++ f a := by
  refine ⟨fun i => catG f b (l.take i), ⟨by show _ = catG f b (l.take l.length); rw [List.take_length], by simp [catG]⟩, fun i a ha => ⟨?_, h a (List.mem_of_getElem? ha), catG_at ha⟩⟩
  have h1 := catG_len (b := b) (l := l.take i) fun a ha => h a (List.mem_of_mem_take ha)
  have h2 : n * (l.take i).length ≤ n * l.length := Nat.mul_le_mul_left _ (by rw [List.length_take]; omega)
  dsimp only
  omega
def linR (t : Trm) : List UInt8 := [114, 111, 111, 116, 32] ++ (trmT t ++ [10])
def linH (c : List Pck) (k : Int) : List UInt8 := [104, 97, 115, 32] ++ (lnK (pk c k) ++ [10])
def linF (f : Fil) : List UInt8 := [102, 105, 108, 101, 32] ++ (f.p ++ ([32] ++ (Lib.itoa f.d.length ++ ([32] ++ (Lib.itoa (sumB f.d 7) ++ [10])))))
def fmt0 (x : Dsk) : List UInt8 := [103, 101, 110, 32] ++ (Lib.itoa (curF x.f) ++ ([10] ++ if x.dn then [100, 111, 119, 110, 10] else []))
def fmtY (c : List Pck) (x : Dsk) : List UInt8 := if sysF c x ≠ 0 then [] else catG linF (catG (linH c) (catG linR (fmt0 x) (rtsS (datF x.f rtsN)).1) (shnW c x.f).2) x.f
theorem itoa_len6 {n : Int} (h0 : 0 ≤ n) (h1 : n ≤ 9999999) : (Lib.itoa n).length ≤ 7 := by
  rw [itoa_dec h0]
  exact decD_len 6 _ (by omega)
theorem linR_len {t : Trm} (h : trmF t = 0) : (linR t).length ≤ 46 := by
  have := trmT_len h
  unfold linR
  simp
  omega
theorem linH_len {c : List Pck} {k : Int} (hc : catF c = 0) (h : inB k 0 ((c.length : Int) - 1) = true) : (linH c k).length ≤ 29 := by
  obtain ⟨-, -, hn, hv, -, -⟩ := pk_facts hc h
  have := lnK_len hn hv
  unfold linH
  simp
  omega
theorem linF_len {f : Fil} (hp : f.p.length ≤ 1000) (hd : f.d.length ≤ 4000) : (linF f).length ≤ 1100 := by
  have h1 := itoa_len6 (n := f.d.length) (by omega) (by omega)
  obtain ⟨h2, h3⟩ := sumB_in f.d 7 (by omega) (by omega)
  have h4 := itoa_len6 h2 (by omega)
  unfold linF
  simp
  omega
end Go.Proofs.YtgcnggefeapalaaGreatDoor

/- Walks: the sum of bytes; a line of numbers. Plain theorems. -/
set_option linter.unusedVariables false
set_option linter.unusedSimpArgs false
namespace Go.Proofs.YtgcnggefeapalaaGreatDoor
open Go Go.Fw
set_option maxRecDepth 100000
theorem sumS {Ω : Opq} (hΩ : Ω = std) (c : UInt8) {h : Int} (h0 : 0 ≤ h) (h1 : h < 1000003) : Ω.ar .rem .i64 (Ω.ar .add .i64 (Ω.ar .mul .i64 h 263) (Ω.wrap .i64 (c.toNat : Int))) 1000003 = (h * 263 + (c.toNat : Int)) % 1000003 := by
  have hc := c.toNat_lt
  subst hΩ
  show (IntKind.i64.wrap (IntKind.i64.wrap (h * 263) + IntKind.i64.wrap (c.toNat : Int))).tmod 1000003 = _
  rw [wrap64 (x := h * 263) (by omega) (by omega), wrap64 (x := (c.toNat : Int)) (by omega) (by omega), wrap64 (by omega) (by omega), Int.tmod_eq_emod_of_nonneg (by omega)]
theorem c_SumOf (d : List UInt8) (hd : d.length ≤ 1048576) : PCtr PP n_impl_SumOf [.sl false 1 (d.map byteA)] (i64 (sumB d 7)) := by
  obtain ⟨Ω, hΩ⟩ : ∃ Ω, Ω = std := ⟨_, rfl⟩
  obtain ⟨r, hr⟩ : ∃ r, r = sumB d 7 := ⟨_, rfl⟩
  rw [← hr]
  have hat := fun (i : Nat) (b : UInt8) (h : Int) (e : d[i]? = some b) => sumB_at (h := h) e
  have hend : ∀ h, sumB [] h = h := fun _ => rfl
  have hst := fun (c : UInt8) (h : Int) (h0 : 0 ≤ h) (h1 : h < 1000003) => sumS hΩ c h0 h1
  generalize sumB = B at *
  obtain ⟨xs, hxs⟩ : ∃ xs, xs = d.map byteA := ⟨_, rfl⟩
  have hlen : xs.length = d.length := by rw [hxs, List.length_map]
  rw [← hxs]
  have htab := tab
  have hmo := hmo
  refine PCtr.walk tab hΩ fn_impl_SumOf rfl ?_
  generalize PP = P at *
  cbv
  refine loopX htab hΩ (fun i : Nat × Int => ⟨[(3, i64 i.2), (6, .sl false 1 xs), (7, i64 (Ω.int (Ω.len xs))), (8, i64 (Ω.int i.1))], 20, []⟩) (fun i => i.1 ≤ d.length ∧ 0 ≤ i.2 ∧ i.2 < 1000003 ∧ r = B (d.drop i.1) i.2) (fun i => d.length - i.1) (0, 7)
    ⟨Nat.zero_le _, by decide, by decide, hr⟩ (Sbs.mk rfl rfl ⟨rfl, rfl, rfl, zeroI hΩ, trivial⟩) ?_
  rintro ⟨i, h⟩ ⟨hi, h0, h1, he⟩
  dsimp only at hi h0 h1 he ⊢
  cbv
  refine br (fun g => ?_) (fun g => ?_) <;> cbv
  · replace g := ltI hΩ g
    obtain ⟨c, hc⟩ := at_of (cs := d) (by omega : i < _)
    rw [hat i c h hc] at he
    have hst := hst c h h0 h1
    refine ⟨⟨nnI hΩ⟩, _, rdI hΩ hxs hc, ?_⟩
    cbv
    refine ⟨⟨by decide⟩, ?_⟩
    exact ⟨(i + 1, (h * 263 + (c.toNat : Int)) % 1000003), ⟨by show i + 1 ≤ _; omega, by show 0 ≤ (_ : Int) % 1000003; omega, by show (_ : Int) % 1000003 < 1000003; omega, he⟩, by show d.length - (i + 1) < d.length - i; omega, Sbs.mk rfl rfl ⟨congrArg i64 hst, rfl, rfl, incI hΩ (by omega), trivial⟩⟩
  · replace g := geI hΩ g
    rw [List.drop_of_length_le (by omega), hend] at he
    exact .of (congrArg i64 he.symm)
theorem c_specSumOf (d : List UInt8) (hd : d.length ≤ 1048576) : PCtr PP n_spec_SumOf [.sl false 1 (d.map byteA)] (i64 (sumB d 7)) := by
  obtain ⟨Ω, hΩ⟩ : ∃ Ω, Ω = std := ⟨_, rfl⟩
  obtain ⟨r, hr⟩ : ∃ r, r = sumB d 7 := ⟨_, rfl⟩
  rw [← hr]
  have hat := fun (i : Nat) (b : UInt8) (h : Int) (e : d[i]? = some b) => sumB_at (h := h) e
  have hend : ∀ h, sumB [] h = h := fun _ => rfl
  have hst := fun (c : UInt8) (h : Int) (h0 : 0 ≤ h) (h1 : h < 1000003) => sumS hΩ c h0 h1
  generalize sumB = B at *
  obtain ⟨xs, hxs⟩ : ∃ xs, xs = d.map byteA := ⟨_, rfl⟩
  have hlen : xs.length = d.length := by rw [hxs, List.length_map]
  rw [← hxs]
  have htab := tab
  have hmo := hmo
  refine PCtr.walk tab hΩ fn_spec_SumOf rfl ?_
  generalize PP = P at *
  cbv
  refine loopX htab hΩ (fun i : Nat × Int => ⟨[(0, .sl false 1 xs), (3, i64 i.2), (4, i64 (Ω.int i.1))], 21, []⟩) (fun i => i.1 ≤ d.length ∧ 0 ≤ i.2 ∧ i.2 < 1000003 ∧ r = B (d.drop i.1) i.2) (fun i => d.length - i.1) (0, 7)
    ⟨Nat.zero_le _, by decide, by decide, hr⟩ (Sbs.mk rfl rfl ⟨rfl, rfl, zeroI hΩ, trivial⟩) ?_
  rintro ⟨i, h⟩ ⟨hi, h0, h1, he⟩
  dsimp only at hi h0 h1 he ⊢
  cbv
  refine br (fun g => ?_) (fun g => ?_) <;> cbv
  · replace g := ltI hΩ g
    obtain ⟨c, hc⟩ := at_of (cs := d) (by omega : i < _)
    rw [hat i c h hc] at he
    have hst := hst c h h0 h1
    refine ⟨⟨nnI hΩ⟩, _, rdI hΩ hxs hc, ?_⟩
    cbv
    refine ⟨⟨by decide⟩, ?_⟩
    exact ⟨(i + 1, (h * 263 + (c.toNat : Int)) % 1000003), ⟨by show i + 1 ≤ _; omega, by show 0 ≤ (_ : Int) % 1000003; omega, by show (_ : Int) % 1000003 < 1000003; omega, he⟩, by show d.length - (i + 1) < d.length - i; omega, Sbs.mk rfl rfl ⟨rfl, congrArg i64 hst, incI hΩ (by omega), trivial⟩⟩
  · replace g := geI hΩ g
    rw [List.drop_of_length_le (by omega), hend] at he
    exact .of (congrArg i64 he.symm)
/-- A line of words: a word and numbers. -/
def l12P (w : List UInt8) (ns : List Nat) : List UInt8 := catG (fun n => 32 :: Lib.decDigits n) w ns
theorem c_l12Line (w : List UInt8) (ns : List Nat) (hw : w.length ≤ 1048576) (hn : ns.length ≤ 1048576) (hb : ∀ n ∈ ns, n < 1000000000000000000) : PCtr PP n_spec_l12Line [str w, .sl false 1 (ns.map fun n : Nat => i64 (n : Int))] (str (l12P w ns)) := by
  obtain ⟨Ω, hΩ⟩ : ∃ Ω, Ω = std := ⟨_, rfl⟩
  obtain ⟨G, ⟨hG1, hG0⟩, hGs⟩ := catG_steps (fun n => 32 :: Lib.decDigits n) 19 w ns fun n hm => by
    have := decD_len 17 n (hb n hm)
    rw [List.length_cons]
    omega
  unfold l12P
  rw [hG1]
  obtain ⟨Z, hZ⟩ : ∃ Z : Nat → Int, Z = fun n : Nat => (n : Int) := ⟨_, rfl⟩
  have hc : ∀ n ∈ ns, PCtr PP n_spec_l1Decimal [i64 (Z n)] (str (Lib.decDigits n)) := fun n hm => by rw [hZ]; exact c_l1Decimal n (hb n hm)
  obtain ⟨xs, hxs⟩ : ∃ xs, xs = ns.map fun n => i64 (Z n) := ⟨_, rfl⟩
  have hlen : xs.length = ns.length := by rw [hxs, List.length_map]
  rw [show (ns.map fun n : Nat => i64 (n : Int)) = xs by rw [hxs, hZ]]
  clear hZ
  have htab := tab
  have hmo := hmo
  refine PCtr.walk tab hΩ fn_spec_l12Line rfl ?_
  generalize PP = P at *
  cbv
  refine loopX htab hΩ (fun i : Nat => ⟨[(0, str (G i)), (1, .sl false 1 xs), (5, i64 (Ω.int i))], 21, []⟩) (fun i => i ≤ ns.length) (fun i => ns.length - i) 0
    (Nat.zero_le _) (Sbs.mk rfl rfl ⟨congrArg str hG0, rfl, zeroI hΩ, trivial⟩) ?_
  intro i hi
  cbv
  refine br (fun h => ?_) (fun h => ?_) <;> cbv
  · replace h := ltI hΩ h
    obtain ⟨c, hcc⟩ := at_of (cs := ns) (by omega : i < ns.length)
    obtain ⟨g1, g2, g3⟩ := hGs i c hcc
    have hc := hc c (List.mem_of_getElem? hcc)
    have hrd := rdI hΩ hxs hcc
    generalize Lib.decDigits c = x at *
    rw [List.length_cons] at g2
    refine ⟨⟨obC (by simp; omega)⟩, ⟨nnI hΩ⟩, _, hrd, ?_⟩
    cbv
    refine call_pure hΩ 3 hc rfl (fits _) rfl rfl ?_
    cbv
    refine ⟨⟨obC (by rw [catL hΩ]; simp; omega)⟩, ?_⟩
    refine ⟨i + 1, by omega, by omega, Sbs.mk rfl rfl ⟨congrArg str ?_, rfl, incI hΩ (by omega), trivial⟩⟩
    rw [g3]
    subst hΩ
    exact List.append_assoc _ _ _
  · replace h := geI hΩ h
    have hi : i = ns.length := by omega
    subst hi
    exact .same
end Go.Proofs.YtgcnggefeapalaaGreatDoor

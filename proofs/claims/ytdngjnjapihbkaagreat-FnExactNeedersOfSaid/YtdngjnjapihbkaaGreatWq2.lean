/- Walks: who leans on one. Plain theorems. -/
import Derived.Test.YtdngjnjapihbkaaGreatW4
set_option linter.unusedVariables false
set_option linter.unusedSimpArgs false
namespace Go.Proofs.YtdngjnjapihbkaaGreat
open Go Go.Fw
set_option maxRecDepth 100000
theorem c_l1Has (l : List Int) (s : Int) (hl : l.length ≤ 4611686018427387904) : PCtr PP n_spec_l1Has [.sl false 1 (l.map i64), i64 s] (boo (l.any (· == s))) := by
  obtain ⟨Ω, hΩ⟩ : ∃ Ω, Ω = std := ⟨_, rfl⟩
  obtain ⟨r, hr⟩ : ∃ r, r = l.any (· == s) := ⟨_, rfl⟩
  rw [← hr]
  obtain ⟨xs, hxs⟩ : ∃ xs, xs = l.map i64 := ⟨_, rfl⟩
  have hlen : xs.length = l.length := by rw [hxs, List.length_map]
  rw [← hxs]
  have htab := tab
  have hmo := hmo
  have hve := verEq
  refine PCtr.walk tab hΩ fn_spec_l1Has rfl ?_
  generalize PP = P at *
  cbv
  refine loopX htab hΩ (fun i : Nat => ⟨[(0, .sl false 1 xs), (1, .sc (.int .i64 s)), (5, .sc (.int .i64 (Ω.int i)))], 18, []⟩) (fun i => i ≤ l.length ∧ r = (l.drop i).any (· == s)) (fun i => l.length - i) 0
    ⟨Nat.zero_le _, hr⟩ (Sbs.mk rfl rfl ⟨rfl, rfl, zeroI hΩ, trivial⟩) ?_
  rintro i ⟨hi, he⟩
  cbv
  refine br (fun h => ?_) (fun h => ?_) <;> cbv
  · replace h := ltI hΩ h
    obtain ⟨c, hcc⟩ := at_of (cs := l) (by omega : i < l.length)
    rw [any_at _ hcc] at he
    refine ⟨⟨nnI hΩ⟩, _, rdI hΩ hxs hcc, ?_⟩
    cbv
    refine br (fun g => ?_) (fun g => ?_) <;> cbv
    · exact .of (congrArg boo (by rw [he, show (c == s) = true by simp [eqI_t hΩ g]]; rfl))
    · rw [show (c == s) = false by simp [eqI_f hΩ g], Bool.false_or] at he
      exact ⟨i + 1, ⟨by omega, he⟩, by omega, Sbs.mk rfl rfl ⟨rfl, rfl, incI hΩ (by omega), trivial⟩⟩
  · replace h := geI hΩ h
    exact .of (congrArg boo (by rw [he, List.drop_of_length_le (by omega)]; rfl))
theorem c_IndexI (l : List Int) (s : Int) (hl : l.length ≤ 4611686018427387904) : PCtr PP n_slices_Index_L_int64_int64 [.sl false 1 (l.map i64), i64 s] (i64 (idx (fun c => s == c) l)) := by
  obtain ⟨Ω, hΩ⟩ : ∃ Ω, Ω = std := ⟨_, rfl⟩
  obtain ⟨r, hr⟩ : ∃ r, r = idx (fun c => s == c) l := ⟨_, rfl⟩
  rw [← hr]
  obtain ⟨xs, hxs⟩ : ∃ xs, xs = l.map i64 := ⟨_, rfl⟩
  have hlen : xs.length = l.length := by rw [hxs, List.length_map]
  rw [← hxs]
  have htab := tab
  have hmo := hmo
  have hve := verEq
  refine PCtr.walk tab hΩ fn_slices_Index_L_int64_int64 rfl ?_
  generalize PP = P at *
  cbv
  refine loopX htab hΩ (fun i : Nat => ⟨[(0, .sl false 1 xs), (1, .sc (.int .i64 s)), (7, .sc (.int .i64 (Ω.int (Ω.len xs)))), (8, .sc (.int .i64 (Ω.int i)))], 19, []⟩) (fun i => i ≤ l.length ∧ r = idxFrom (fun c => s == c) i (l.drop i)) (fun i => l.length - i) 0
    ⟨Nat.zero_le _, hr⟩ (Sbs.mk rfl rfl ⟨rfl, rfl, rfl, zeroI hΩ, trivial⟩) ?_
  rintro i ⟨hi, he⟩
  cbv
  refine br (fun h => ?_) (fun h => ?_) <;> cbv
  · replace h := ltI hΩ h
    obtain ⟨c, hcc⟩ := at_of (cs := l) (by omega : i < l.length)
    rw [idxFrom_at _ hcc] at he
    refine ⟨⟨nnI hΩ⟩, _, rdI hΩ hxs hcc, ?_⟩
    cbv
    refine br (fun g => ?_) (fun g => ?_) <;> cbv
    · exact .of (congrArg i64 (by rw [he, if_pos (by have := eqI_t hΩ g; simp [this])]; subst hΩ; rfl))
    · rw [if_neg (by have := eqI_f hΩ g; simp; omega)] at he
      exact ⟨i + 1, ⟨by omega, he⟩, by omega, Sbs.mk rfl rfl ⟨rfl, rfl, rfl, incI hΩ (by omega), trivial⟩⟩
  · replace h := geI hΩ h
    exact .of (congrArg i64 (by rw [he, List.drop_of_length_le (by omega)]; rfl))
theorem c_ContainsI (l : List Int) (s : Int) (hl : l.length ≤ 4611686018427387904) : PCtr PP n_slices_Contains_L_int64_int64 [.sl false 1 (l.map i64), i64 s] (boo (l.any (· == s))) := by
  obtain ⟨Ω, hΩ⟩ : ∃ Ω, Ω = std := ⟨_, rfl⟩
  obtain ⟨r, hr⟩ : ∃ r, r = l.any (· == s) := ⟨_, rfl⟩
  rw [← hr]
  have hc0 := c_IndexI l s hl
  rw [show (l.any (· == s)) = l.any (fun c => s == c) by congr 1; funext c; rw [Bool.eq_iff_iff, beq_iff_eq, beq_iff_eq]; exact eq_comm, ← idx_any] at hr
  generalize idx (fun c => s == c) l = k at *
  generalize l.map i64 = xs at *
  have htab := tab
  have hmo := hmo
  refine PCtr.walk tab hΩ fn_slices_Contains_L_int64_int64 rfl ?_
  generalize PP = P at *
  cbv
  repeat' (first | (refine br (fun h => ?_) (fun h => ?_) <;> cbv) | (refine ⟨VC_drawn htab hΩ hmo (by kernel_rfl) ?_⟩; cbv) | (refine QCall_pure (k := 3) (hc0) rfl (fits _) rfl ?_; cbv) | (refine call_pure hΩ 3 (hc0) rfl (fits _) rfl rfl ?_; cbv))
  all_goals (refine .of (congrArg boo ?_); subst hΩ; subst hr; rfl)
/-- k leans on t. -/
def nedB (c : List Pck) (t k : Int) : Bool := !decide (k = t) && (pk c k).d.any fun l => l.any (givesB (pk c t))
def nedC (c : List Pck) (s : List Int) (t : Int) : Int := if setF c s ≠ 0 then setF c s else if s.any (· == t) then 0 else 4
def nedS (c : List Pck) (s : List Int) (t : Int) : List Int := if nedC c s t ≠ 0 then [] else s.filter (nedB c t)
theorem nedS_le (c : List Pck) (s : List Int) (t : Int) : (nedS c s t).length ≤ s.length := by
  unfold nedS
  split
  · exact Nat.zero_le _
  · exact List.length_filter_le _ _
theorem c_leans (l : List Pck) (k t : Int) (hl : l.length ≤ 1048576) (hs : ∀ o ∈ l, o.Small) (hk : inB k 0 ((l.length : Int) - 1) = true) (ht : inB t 0 ((l.length : Int) - 1) = true) : PCtr PP n_impl_leans [encP l, i64 k, i64 t] (boo (nedB l t k)) := by
  obtain ⟨Ω, hΩ⟩ : ∃ Ω, Ω = std := ⟨_, rfl⟩
  obtain ⟨r, hr⟩ : ∃ r, r = nedB l t k := ⟨_, rfl⟩
  rw [← hr]
  obtain ⟨xs, hxs⟩ : ∃ xs, xs = l.map (Pck.enc false) := ⟨_, rfl⟩
  have hlen : xs.length = l.length := by rw [hxs, List.length_map]
  unfold encP at *
  rw [← hxs]
  obtain ⟨ht0, htl, hta, htm⟩ := pk_at ht
  obtain ⟨hk0, hkl, hka, hkm⟩ := pk_at hk
  obtain ⟨ps1, ds1, bs1, hen1, hps1, hds1, hbs1⟩ := enc_raw (pk l t)
  obtain ⟨ps2, ds2, bs2, hen2, hps2, hds2, hbs2⟩ := enc_raw (pk l k)
  have hx1 : xs[t.toNat]? = some (Pck.enc false (pk l t)) := by rw [hxs, List.getElem?_map, hta]; rfl
  have hx2 : xs[k.toNat]? = some (Pck.enc false (pk l k)) := by rw [hxs, List.getElem?_map, hka]; rfl
  have hcf : PCtr PP n_slices_ContainsFunc_L_L_impl_Term_L_impl_Term [.sl false 1 ((pk l k).d.map (encTs false)), .clo (1000000 + n_impl_Pack_givesOne) [(pk l t).enc false]] (boo ((pk l k).d.any fun u => u.any (givesB (pk l t)))) :=
    c_ContainsFuncL _ (by have := (hs _ hkm).d; omega) _ _ _ ⟨fun S k => by rw [hen1]; rfl, by rw [hen1]; rfl, fun _ => by rw [hen1]; rfl, fun u hu => c_givesOne (pk l t) u (hs _ htm).p ((hs _ hkm).e u hu)⟩
  rw [hen1] at hx1 hcf
  rw [hen2] at hx2
  rw [← hds2] at hcf
  unfold nedB at hr
  generalize ((pk l k).d.any fun u => u.any (givesB (pk l t))) = B1 at *
  clear hbs1 hbs2 hps1 hps2 hds1 hds2 hen1 hen2 hs hk ht htm hkm hta hka hxs
  generalize pk l t = p1 at *
  generalize pk l k = p2 at *
  have htab := tab
  have hmo := hmo
  have hve := verEq
  refine PCtr.walk tab hΩ fn_impl_leans rfl ?_
  generalize PP = P at *
  cbv
  refine ⟨VC_drawn htab hΩ hmo (by kernel_rfl) ?_⟩
  cbv
  repeat' (first | (refine br (fun h => ?_) (fun h => ?_) <;> cbv) | (refine ⟨⟨ht0⟩, _, hx1, ?_⟩; cbv) | (refine ⟨⟨hk0⟩, _, hx2, ?_⟩; cbv) | (refine QCall_pure (k := 5) hcf (ro_clo2 rfl rfl) (fits _) rfl ?_; cbv))
  all_goals (refine .of (congrArg boo ?_); subst hΩ; subst hr; clear hcf htab hmo hve; simp_all)
theorem c_l13Leans (l : List Pck) (k t : Int) (hl : l.length ≤ 1048576) (hs : ∀ o ∈ l, o.Small) (hk : inB k 0 ((l.length : Int) - 1) = true) (ht : inB t 0 ((l.length : Int) - 1) = true) : PCtr PP n_spec_l13Leans [encP l, i64 k, i64 t] (boo (nedB l t k)) := by
  obtain ⟨Ω, hΩ⟩ : ∃ Ω, Ω = std := ⟨_, rfl⟩
  obtain ⟨r, hr⟩ : ∃ r, r = nedB l t k := ⟨_, rfl⟩
  rw [← hr]
  obtain ⟨xs, hxs⟩ : ∃ xs, xs = l.map (Pck.enc false) := ⟨_, rfl⟩
  have hlen : xs.length = l.length := by rw [hxs, List.length_map]
  unfold encP at *
  rw [← hxs]
  obtain ⟨ht0, htl, hta, htm⟩ := pk_at ht
  obtain ⟨hk0, hkl, hka, hkm⟩ := pk_at hk
  obtain ⟨ps1, ds1, bs1, hen1, hps1, hds1, hbs1⟩ := enc_raw (pk l t)
  obtain ⟨ps2, ds2, bs2, hen2, hps2, hds2, hbs2⟩ := enc_raw (pk l k)
  have hx1 : xs[t.toNat]? = some (Pck.enc false (pk l t)) := by rw [hxs, List.getElem?_map, hta]; rfl
  have hx2 : xs[k.toNat]? = some (Pck.enc false (pk l k)) := by rw [hxs, List.getElem?_map, hka]; rfl
  have hg := fun t' => c_l2Gives (pk l t) t' (by have := (hs _ htm).p; omega)
  rw [hen1] at hx1 hg
  rw [hen2] at hx2
  unfold nedB at hr
  have hdl : (pk l k).d.length ≤ 1048576 := (hs _ hkm).d
  have hdd := (hs _ hkm).e
  generalize (pk l k).d = d at *
  generalize givesB (pk l t) = G at *
  have hdlen : ds2.length = d.length := by rw [hds2, List.length_map]
  clear hbs1 hbs2 hps1 hps2 hds1 hen1 hs hk ht htm hkm hta hka hen2
  generalize pk l t = p1 at *
  generalize pk l k = p2 at *
  rw [show ((!decide (k = t)) && d.any fun l => l.any G) = ((d.any fun l => l.any G) && !decide (k = t)) from Bool.and_comm _ _] at hr
  obtain ⟨B, hB⟩ : ∃ B, B = !decide (k = t) := ⟨_, rfl⟩
  rw [← hB] at hr
  have htab := tab
  have hmo := hmo
  refine PCtr.walk tab hΩ fn_spec_l13Leans rfl ?_
  generalize PP = P at *
  cbv
  refine ⟨⟨hk0⟩, _, hx2, ?_⟩
  cbv
  refine loopX htab hΩ (fun i : Nat => ⟨[(0, .sl false 8 xs), (1, .sc (.int .i64 k)), (2, .sc (.int .i64 t)), (7, .sl false 1 ds2), (8, .sc (.int .i64 (Ω.int i)))], 45, []⟩) (fun i => i ≤ d.length ∧ r = (((d.drop i).any fun l => l.any G) && B)) (fun i => d.length - i) 0
    ⟨Nat.zero_le _, hr⟩ (Sbs.mk rfl rfl ⟨rfl, rfl, rfl, rfl, zeroI hΩ, trivial⟩) ?_
  rintro i ⟨hi, he⟩
  cbv
  refine br (fun h => ?_) (fun h => ?_) <;> cbv
  · replace h := ltI hΩ h
    obtain ⟨c, hcc⟩ := at_of (cs := d) (by omega : i < d.length)
    rw [any_at _ hcc] at he
    obtain ⟨ts, hts⟩ : ∃ ts, ts = c.map Trm.enc := ⟨_, rfl⟩
    have hcl := hdd c (List.mem_of_getElem? hcc)
    have htl : ts.length = c.length := by rw [hts, List.length_map]
    have hrd : ds2[(Ω.int i).toNat]? = some (.sl false 7 ts) := (rdI hΩ hds2 hcc).trans (by rw [hts]; rfl)
    refine loopX htab hΩ (fun j : Nat => ⟨[(0, .sl false 8 xs), (1, .sc (.int .i64 k)), (2, .sc (.int .i64 t)), (7, .sl false 1 ds2), (8, .sc (.int .i64 (Ω.int i))), (9, .sc (.int .i64 (Ω.int j)))], 45, []⟩) (fun j => j ≤ c.length ∧ r = (((c.drop j).any G || ((d.drop (i + 1)).any fun l => l.any G)) && B)) (fun j => c.length - j) 0
      ⟨Nat.zero_le _, he⟩ (Sbs.mk rfl rfl ⟨rfl, rfl, rfl, rfl, rfl, zeroI hΩ, trivial⟩) ?_
    rintro j ⟨hj, he⟩
    cbv
    refine ⟨⟨nnI hΩ⟩, _, hrd, ?_⟩
    cbv
    refine br (fun h => ?_) (fun h => ?_) <;> cbv
    · replace h := ltI hΩ h
      obtain ⟨e, hee⟩ := at_of (cs := c) (by omega : j < c.length)
      rw [any_at _ hee] at he
      refine ⟨VC_drawn htab hΩ hmo (by kernel_rfl) ?_⟩
      cbv
      refine ⟨⟨ht0⟩, _, hx1, ?_⟩
      cbv
      refine ⟨⟨nnI hΩ⟩, _, hrd, ?_⟩
      cbv
      refine ⟨⟨nnI hΩ⟩, _, rdI hΩ hts hee, ?_⟩
      cbv
      refine QCall_pure (k := 3) (hg e) rfl (fits _) rfl ?_
      cbv
      refine br (fun g => ?_) (fun g => ?_) <;> cbv
      · exact .of (congrArg boo (by rw [he, show G e = true from g, hB]; clear hg; subst hΩ; by_cases q : k = t <;> simp [q, cmpIS]))
      · rw [show G e = false from g, Bool.false_or] at he
        exact ⟨j + 1, ⟨by omega, he⟩, by omega, Sbs.mk rfl rfl ⟨rfl, rfl, rfl, rfl, rfl, incI hΩ (by omega), trivial⟩⟩
    · replace h := geI hΩ h
      rw [List.drop_of_length_le (by omega : c.length ≤ j), List.any_nil, Bool.false_or] at he
      exact ⟨i + 1, ⟨by omega, he⟩, by omega, Sbs.mk rfl rfl ⟨rfl, rfl, rfl, rfl, incI hΩ (by omega), trivial⟩⟩
  · replace h := geI hΩ h
    exact .of (congrArg boo (by rw [he, List.drop_of_length_le (by omega)]; rfl))
theorem c_NeedersOf1 (l : List Pck) (t k : Int) (hl : l.length ≤ 1048576) (hs : ∀ o ∈ l, o.Small) (hk : inB k 0 ((l.length : Int) - 1) = true) (ht : inB t 0 ((l.length : Int) - 1) = true) : PCtr PP n_impl_NeedersOf_1 [i64 k, .rp [encP l], .rp [i64 t]] (boo (nedB l t k)) := by
  obtain ⟨Ω, hΩ⟩ : ∃ Ω, Ω = std := ⟨_, rfl⟩
  have hc := c_leans l k t hl hs hk ht
  generalize nedB l t k = r at *
  unfold encP at *
  generalize l.map (Pck.enc false) = xs at *
  have htab := tab
  have hmo := hmo
  refine PCtr.walk tab hΩ fn_impl_NeedersOf_1 rfl ?_
  generalize PP = P at *
  cbv
  refine call_pure hΩ 3 hc rfl (fits _) rfl rfl ?_
  cbv
  exact .same
theorem c_implNeedersOf (l : List Pck) (s : List Int) (t : Int) (hl : l.length ≤ 1048576) (ho : ∀ o ∈ l, o.Small) (hs : s.length ≤ 1048576) : PCtr PP n_impl_NeedersOf [encP l, .sl false 1 (s.map i64), i64 t] (setR (nedC l s t) 0 (nedS l s t)) := by
  obtain ⟨Ω, hΩ⟩ : ∃ Ω, Ω = std := ⟨_, rfl⟩
  have hc := c_implSetFault l s hl ho hs
  have hp := c_ContainsI s t (by omega)
  obtain ⟨k0, hk0⟩ : ∃ x, setF l s = x := ⟨_, rfl⟩
  obtain ⟨bi, hbi⟩ : ∃ x, s.any (· == t) = x := ⟨_, rfl⟩
  rw [hk0] at hc
  rw [hbi] at hp
  have hth : k0 = 0 → bi = true → PCtr PP n_impl_those [.sl false 1 (s.map i64), .clo n_impl_NeedersOf_1 [.rp [encP l], .rp [i64 t]]] (ints (s.filter (nedB l t))) := fun e1 e2 =>
    c_those s hs _ _ _ ⟨fun _ _ => rfl, rfl, fun _ => rfl, fun k hk => c_NeedersOf1 l t k hl ho (setF_in (hk0.trans e1) k hk) (setF_in (hk0.trans e1) t (by rw [e2] at hbi; simpa using hbi))⟩
  have hroZ := roFInt (s.filter (nedB l t))
  unfold ints encP at *
  have hC : nedC l s t = if k0 ≠ 0 then k0 else if bi then 0 else 4 := by rw [nedC, hk0, hbi]
  have hS : nedS l s t = if nedC l s t ≠ 0 then [] else s.filter (nedB l t) := rfl
  generalize nedC l s t = C at *
  generalize nedS l s t = Z at *
  generalize s.filter (nedB l t) = zs at *
  have htab := tab
  have hmo := hmo
  generalize s.map i64 = xs at *
  generalize l.map (Pck.enc false) = cs at *
  refine PCtr.walk tab hΩ fn_impl_NeedersOf rfl ?_
  generalize hA : setR C 0 Z = R
  generalize PP = P at *
  cbv
  refine call_pure hΩ 3 hc rfl (fits _) rfl rfl ?_
  cbv
  refine br (fun g1 => ?_) (fun g1 => ?_) <;> cbv
  · have g1 : k0 = 0 := eqI_t hΩ g1
    refine call_pure hΩ 3 hp rfl (fits _) rfl rfl ?_
    cbv
    refine br (fun g2 => ?_) (fun g2 => ?_) <;> cbv
    · have g2 : bi = false := notT' hΩ (b := bi) (by subst hΩ; exact g2)
      refine br (fun g3 => ?_) (fun g3 => absurd (neI_f hΩ g3) (by decide)) <;> cbv
      have e1 : C = 4 := by rw [hC, g1, g2]; rfl
      have e2 : Z = [] := by rw [hS, e1]; rfl
      rw [← hA, e1, e2]
      exact fit_nilR 4 0
    · have g2 : bi = true := notF' hΩ (b := bi) (by subst hΩ; exact g2)
      have e1 : C = 0 := by rw [hC, g1, g2]; rfl
      have e2 : Z = zs := by rw [hS, e1]; rfl
      have hth := hth g1 g2
      refine br (fun g3 => absurd g1 (neI_t hΩ g3)) (fun g3 => ?_) <;> cbv
      obtain ⟨zz, hzz⟩ : ∃ zz, zz = zs.map i64 := ⟨_, rfl⟩
      rw [← hzz] at hth hroZ
      refine call_pure hΩ 5 hth (ro_clo2 rfl rfl) (fits _) hroZ rfl ?_
      cbv
      exact ⟨⟨rfl, by subst hΩ; exact Nat.le_refl _⟩, by rw [← hA, e1, e2]; exact fit_R hΩ 0 0 zs hzz⟩
  · have g1 : k0 ≠ 0 := eqI_f hΩ g1
    have e1 : C = k0 := by rw [hC, if_pos g1]
    have e2 : Z = [] := by rw [hS, e1, if_pos g1]
    refine br (fun g3 => ?_) (fun g3 => absurd (neI_f hΩ g3) g1) <;> cbv
    rw [← hA, e1, e2]
    exact fit_nilR k0 0
theorem c_specNeedersOf (l : List Pck) (s : List Int) (t : Int) (hl : l.length ≤ 1048576) (ho : ∀ o ∈ l, o.Small) (hs : s.length ≤ 1048576) : PCtr PP n_spec_NeedersOf [encP l, .sl false 1 (s.map i64), i64 t] (setR (nedC l s t) 0 (nedS l s t)) := by
  obtain ⟨Ω, hΩ⟩ : ∃ Ω, Ω = std := ⟨_, rfl⟩
  have hc := c_specSetFault l s hl ho hs
  have hp := c_l1Has s t (by omega)
  obtain ⟨k0, hk0⟩ : ∃ x, setF l s = x := ⟨_, rfl⟩
  obtain ⟨bi, hbi⟩ : ∃ x, s.any (· == t) = x := ⟨_, rfl⟩
  rw [hk0] at hc
  rw [hbi] at hp
  obtain ⟨xs, hxs⟩ : ∃ xs, xs = s.map i64 := ⟨_, rfl⟩
  have hlen : xs.length = s.length := by rw [hxs, List.length_map]
  obtain ⟨cs, hcs⟩ : ∃ cs, cs = l.map (Pck.enc false) := ⟨_, rfl⟩
  have hC : nedC l s t = if k0 ≠ 0 then k0 else if bi then 0 else 4 := by rw [nedC, hk0, hbi]
  have hS : nedS l s t = if nedC l s t ≠ 0 then [] else s.filter (nedB l t) := rfl
  have hln : k0 = 0 → bi = true → ∀ k ∈ s, PCtr PP n_spec_l13Leans [encP l, i64 k, i64 t] (boo (nedB l t k)) := fun e1 e2 k hk =>
    c_l13Leans l k t hl ho (setF_in (hk0.trans e1) k hk) (setF_in (hk0.trans e1) t (by rw [e2] at hbi; simpa using hbi))
  unfold encP at hc hln ⊢
  rw [← hcs] at hc hln ⊢
  rw [← hxs] at hc hp ⊢
  generalize nedC l s t = C at *
  generalize nedS l s t = Z at *
  generalize nedB l t = B at *
  clear hk0 hbi
  have htab := tab
  have hmo := hmo
  refine PCtr.walk tab hΩ fn_spec_NeedersOf rfl ?_
  generalize hA : setR C 0 Z = R
  generalize PP = P at *
  cbv
  refine call_pure hΩ 3 hc rfl (fits _) rfl rfl ?_
  cbv
  refine br (fun g1 => ?_) (fun g1 => ?_) <;> cbv
  · have g1 : k0 ≠ 0 := neI_t hΩ g1
    have e1 : C = k0 := by rw [hC, if_pos g1]
    have e2 : Z = [] := by rw [hS, e1, if_pos g1]
    rw [← hA, e1, e2]
    exact fit_nilR k0 0
  have g1 : k0 = 0 := neI_f hΩ g1
  refine call_pure hΩ 3 hp rfl (fits _) rfl rfl ?_
  cbv
  refine br (fun g2 => ?_) (fun g2 => ?_) <;> cbv
  · have g2 : bi = false := notT' hΩ g2
    have e1 : C = 4 := by rw [hC, g1, g2]; rfl
    have e2 : Z = [] := by rw [hS, e1]; rfl
    rw [← hA, e1, e2]
    exact fit_nilR 4 0
  have g2 : bi = true := notF' hΩ g2
  have e1 : C = 0 := by rw [hC, g1, g2]; rfl
  have e2 : Z = s.filter B := by rw [hS, e1]; rfl
  have hln := hln g1 g2
  obtain ⟨F, hF⟩ : ∃ F : Nat → List Int, F = fun j => (s.take j).filter B := ⟨_, rfl⟩
  have hFat : ∀ j c, s[j]? = some c → F (j + 1) = F j ++ (if B c then [c] else []) := fun j c h => by
    rw [hF]
    simp only
    rw [List.take_add_one, h, List.filter_append]
    congr 1
    cases hb : B c <;> simp [hb]
  have hFn : F s.length = s.filter B := by rw [hF]; simp only; rw [List.take_length]
  have hF0 : F 0 = [] := by rw [hF]; rfl
  have hFl : ∀ j, (F j).length ≤ s.length := fun j => by rw [hF]; exact Nat.le_trans (List.length_filter_le _ _) (by simp; omega)
  obtain ⟨ys, hys⟩ : ∃ ys : Nat → List A, ys = fun j => (F j).map i64 := ⟨_, rfl⟩
  have hyl : ∀ j, (ys j).length = (F j).length := fun j => by rw [hys]; simp
  refine loopX htab hΩ (fun i : Nat => ⟨[(0, .sl false 8 cs), (1, .sl false 1 xs), (2, .sc (.int .i64 t)), (6, .pt 0 0 0), (8, .pt 1 0 0), (9, .sc (.int .i64 (Ω.int i)))], 46,
      [some ⟨3, [.agg [i64 0, i64 0, .nil]], true⟩, some ⟨3, [.agg [i64 0, i64 0, .vw 2 0 (F i).length]], true⟩, some ⟨1, ys i, false⟩]⟩) (fun i => i ≤ s.length) (fun i => s.length - i) 0 (Nat.zero_le _)
    (Sbs.trans (Sbs.nilCell (r := 1) (j := 0) (q := 2) (n := 1) rfl rfl rfl) (Sbs.mk rfl (by rw [hF0, hys]; simp only; rw [hF0]; rfl) ⟨rfl, rfl, rfl, rfl, rfl, zeroI hΩ, trivial⟩)) ?_
  intro i hi
  have hFli := hFl i
  have hyli := hyl i
  have hFai := hFat i
  obtain ⟨m, hm⟩ : ∃ m, (F i).length = m := ⟨_, rfl⟩
  rw [hm] at hFli hyli ⊢
  cbv
  refine br (fun h => ?_) (fun h => ?_) <;> cbv
  · replace h := ltI hΩ h
    obtain ⟨c, hcc⟩ := at_of (cs := s) (by omega : i < s.length)
    have hFc := hFai c hcc
    have h1 := hln c (List.mem_of_getElem? hcc)
    have yes : B c = true → [some (Row.mk 3 [.agg [i64 0, i64 0, .nil]] true), some ⟨3, [.agg [i64 0, i64 0, .vw 2 0 (Ω.plus m (Ω.len [i64 c]))]], true⟩, some ⟨1, Ω.app (Ω.take m (ys i)) [i64 c], false⟩] =
        [some ⟨3, [.agg [i64 0, i64 0, .nil]], true⟩, some ⟨3, [.agg [i64 0, i64 0, .vw 2 0 (F (i + 1)).length]], true⟩, some ⟨1, ys (i + 1), false⟩] := fun hb => by
      rw [hb] at hFc
      have e3 : (F (i + 1)).length = m + 1 := by rw [hFc, ← hm]; simp
      have e4 : ys (i + 1) = ys i ++ [i64 c] := by rw [hys]; simp only; rw [hFc]; simp
      rw [e3, e4]
      subst hΩ
      show [_, some (Row.mk 3 [A.agg [i64 0, i64 0, A.vw 2 0 (m + 1)]] true), some (Row.mk 1 ((ys i).take m ++ [i64 c]) false)] = _
      rw [List.take_of_length_le (by omega)]
    have non : B c = false → [some (Row.mk 3 [.agg [i64 0, i64 0, .nil]] true), some ⟨3, [.agg [i64 0, i64 0, .vw 2 0 m]], true⟩, some ⟨1, ys i, false⟩] =
        [some ⟨3, [.agg [i64 0, i64 0, .nil]], true⟩, some ⟨3, [.agg [i64 0, i64 0, .vw 2 0 (F (i + 1)).length]], true⟩, some ⟨1, ys (i + 1), false⟩] := fun hb => by
      rw [hb] at hFc
      have e3 : (F (i + 1)).length = m := by rw [hFc, ← hm]; simp
      have e4 : ys (i + 1) = ys i := by rw [hys]; simp only; rw [hFc]; simp
      rw [e3, e4]
    refine ⟨⟨nnI hΩ⟩, _, rdI hΩ hxs hcc, ?_⟩
    cbv
    refine call_pure hΩ 3 h1 rfl (fits _) rfl rfl ?_
    cbv
    refine br (fun h => ?_) (fun h => ?_) <;> cbv
    · refine ⟨VC_atail htab hΩ hmo 6 rfl rfl rfl (by kernel_rfl) ?_⟩
      cbv
      refine ⟨⟨nnI hΩ⟩, _, rdI hΩ hxs hcc, ?_⟩
      cbv
      exact ⟨⟨rfl, okAll rfl, by show (m + 1) * 8 ≤ 140737488355328; omega, by show m + 1 ≤ 9223372036854775807; omega⟩, i + 1, by omega, by omega, Sbs.trans (Sbs.lastN (rows := [_, _, _]) rfl) (Sbs.mk rfl (yes h) ⟨rfl, rfl, rfl, rfl, rfl, incI hΩ (by omega), trivial⟩)⟩
    · exact ⟨i + 1, by omega, by omega, Sbs.mk rfl (non h) ⟨rfl, rfl, rfl, rfl, rfl, incI hΩ (by omega), trivial⟩⟩
  · have hil : i = s.length := by have := geI hΩ h; omega
    refine ⟨⟨rfl, by rw [← hyli]; exact Nat.le_refl _⟩, .of ?_⟩
    rw [← hA, e1, e2, ← hFn, ← hil]
    subst hΩ
    show A.agg [i64 0, i64 0, A.sl true 1 ((ys i).take m)] = _
    rw [List.take_of_length_le (by omega), hys]
    rfl
end Go.Proofs.YtdngjnjapihbkaaGreat

/- Walks: who is barred. Plain theorems. -/
import Derived.Test.YtdngjnjapihbkaaWb9
import Derived.Test.YtdngjnjapihbkaaFwT
set_option linter.unusedVariables false
set_option linter.unusedSimpArgs false
namespace Go.Proofs.Ytdngjnjapihbkaa
open Go Go.Fw
set_option maxRecDepth 100000
def Pck.zero : Pck := ⟨[], Ver.zero, 0, [], [], []⟩
def pk (c : List Pck) (k : Int) : Pck := c.getD k.toNat Pck.zero
def barB (c : List Pck) (t k : Int) : Bool := !decide (k = t) && ((pk c k).b.any (givesB (pk c t)) || (pk c t).b.any (givesB (pk c k)))
/-- A set with a code. -/
def setR (k a : Int) (s : List Int) : A := .agg [i64 k, i64 a, .sl true 1 (s.map i64)]
def barC (c : List Pck) (s : List Int) (t : Int) : Int := if setF c s ≠ 0 then setF c s else if inB t 0 ((c.length : Int) - 1) then 0 else 4
def barS (c : List Pck) (s : List Int) (t : Int) : List Int := if barC c s t ≠ 0 then [] else s.filter (barB c t)
theorem fit_nilR (k a : Int) : FitX (.agg [i64 k, i64 a, .nil]) (setR k a []) := ⟨2, by unfold setR; simp [fitA, fitA.fitL, i64]⟩
theorem fit_R {Ω : Opq} (hΩ : Ω = std) (k a : Int) (s : List Int) {zs : List A} (h : zs = s.map i64) : FitX (.agg [i64 k, i64 a, .sl true 1 (Ω.take (Ω.len zs) zs)]) (setR k a s) := .of (by subst hΩ; subst h; unfold setR; show A.agg [_, _, A.sl true 1 ((s.map i64).take (s.map i64).length)] = _; rw [List.take_length])
theorem pk_at {c : List Pck} {k : Int} (h : inB k 0 ((c.length : Int) - 1) = true) : 0 ≤ k ∧ k.toNat < c.length ∧ c[k.toNat]? = some (pk c k) ∧ pk c k ∈ c := by
  unfold inB at h
  simp only [Bool.and_eq_true, decide_eq_true_eq] at h
  have hk : k.toNat < c.length := by omega
  refine ⟨h.1, hk, ?_, ?_⟩
  · rw [pk, List.getD_eq_getElem?_getD, List.getElem?_eq_getElem hk]; rfl
  · rw [pk, List.getD_eq_getElem?_getD, List.getElem?_eq_getElem hk]; exact List.getElem_mem hk
theorem setF_in {c : List Pck} {s : List Int} (h : setF c s = 0) : ∀ k ∈ s, inB k 0 ((c.length : Int) - 1) = true := by
  unfold setF at h
  split at h
  · rename_i h0; exact absurd h h0
  · split at h
    · rename_i h1
      rw [setOk_eq, Bool.and_eq_true] at h1
      exact List.all_eq_true.1 h1.2
    · simp at h
theorem c_BarredBy1 (l : List Pck) (t k : Int) (hl : l.length ≤ 1048576) (hs : ∀ o ∈ l, o.Small) (hk : inB k 0 ((l.length : Int) - 1) = true) (ht : inB t 0 ((l.length : Int) - 1) = true) : PCtr PP n_impl_BarredBy_1 [i64 k, .rp [i64 t], .rp [encP l]] (boo (barB l t k)) := by
  obtain ⟨Ω, hΩ⟩ : ∃ Ω, Ω = std := ⟨_, rfl⟩
  obtain ⟨r, hr⟩ : ∃ r, r = barB l t k := ⟨_, rfl⟩
  rw [← hr]
  obtain ⟨xs, hxs⟩ : ∃ xs, xs = l.map (Pck.enc false) := ⟨_, rfl⟩
  have hlen : xs.length = l.length := by rw [hxs, List.length_map]
  unfold encP at *
  rw [← hxs]
  obtain ⟨ht0, htl, hta, htm⟩ := pk_at ht
  obtain ⟨hk0, hkl, hka, hkm⟩ := pk_at hk
  obtain ⟨ps1, ds1, bs1, hen1, hps1, hds1, hbs1⟩ := enc_raw (pk l t)
  obtain ⟨ps2, ds2, bs2, hen2, hps2, hds2, hbs2⟩ := enc_raw (pk l k)
  have hx1 : xs[t.toNat]? = some (Pck.enc false (pk l t)) := by rw [hxs, List.getElem?_map, hta]; rfl
  rw [hen1] at hx1
  have hx2 : xs[k.toNat]? = some (Pck.enc false (pk l k)) := by rw [hxs, List.getElem?_map, hka]; rfl
  rw [hen2] at hx2
  have h1 := c_givesOne (pk l t) (pk l k).b (hs _ htm).p (hs _ hkm).b
  have h2 := c_givesOne (pk l k) (pk l t).b (hs _ hkm).p (hs _ htm).b
  rw [hen1, ← hbs2] at h1
  rw [hen2, ← hbs1] at h2
  unfold barB at hr
  generalize (pk l k).b.any (givesB (pk l t)) = B1 at *
  generalize (pk l t).b.any (givesB (pk l k)) = B2 at *
  clear hbs1 hbs2 hps1 hps2 hds1 hds2 hen1 hen2 hs hk ht htm hkm hta hka hxs
  generalize pk l t = p1 at *
  generalize pk l k = p2 at *
  have htab := tab
  have hmo := hmo
  have hve := verEq
  refine PCtr.walk tab hΩ fn_impl_BarredBy_1 rfl ?_
  generalize PP = P at *
  cbv
  refine ⟨VC_drawn htab hΩ hmo (by kernel_rfl) ?_⟩
  cbv
  repeat' (first | (refine br (fun h => ?_) (fun h => ?_) <;> cbv) | (refine ⟨⟨ht0⟩, _, hx1, ?_⟩; cbv) | (refine ⟨⟨hk0⟩, _, hx2, ?_⟩; cbv) | (refine QCall_pure (k := 3) h1 rfl (fits _) rfl ?_; cbv) | (refine QCall_pure (k := 3) h2 rfl (fits _) rfl ?_; cbv))
  all_goals (refine .of (congrArg boo ?_); subst hΩ; subst hr; clear h1 h2 htab hmo hve; simp_all)
theorem c_l4BarsOne (l : List Pck) (bs : List Trm) (k : Int) (hl : l.length ≤ 1048576) (hb : bs.length ≤ 1048576) (hs : ∀ o ∈ l, o.Small) (hk : inB k 0 ((l.length : Int) - 1) = true) : PCtr PP n_spec_l4BarsOne [encP l, .sl false 7 (bs.map Trm.enc), i64 k] (boo (bs.any (givesB (pk l k)))) := by
  obtain ⟨Ω, hΩ⟩ : ∃ Ω, Ω = std := ⟨_, rfl⟩
  obtain ⟨r, hr⟩ : ∃ r, r = bs.any (givesB (pk l k)) := ⟨_, rfl⟩
  rw [← hr]
  obtain ⟨xs, hxs⟩ : ∃ xs, xs = l.map (Pck.enc false) := ⟨_, rfl⟩
  have hlen : xs.length = l.length := by rw [hxs, List.length_map]
  unfold encP at *
  rw [← hxs]
  obtain ⟨ys, hys⟩ : ∃ ys, ys = bs.map Trm.enc := ⟨_, rfl⟩
  have hylen : ys.length = bs.length := by rw [hys, List.length_map]
  rw [← hys]
  obtain ⟨hk0, hkl, hka, hkm⟩ := pk_at hk
  obtain ⟨ps2, ds2, bs2, hen2, hps2, hds2, hbs2⟩ := enc_raw (pk l k)
  have hx2 : xs[k.toNat]? = some (Pck.enc false (pk l k)) := by rw [hxs, List.getElem?_map, hka]; rfl
  rw [hen2] at hx2
  have hg := fun t => c_l2Gives (pk l k) t (by have := (hs _ hkm).p; omega)
  rw [hen2] at hg
  generalize givesB (pk l k) = G at *
  clear hka hkm hps2 hds2 hbs2 hen2
  generalize pk l k = pp at *
  have htab := tab
  have hmo := hmo
  have hve := verEq
  refine PCtr.walk tab hΩ fn_spec_l4BarsOne rfl ?_
  generalize PP = P at *
  cbv
  refine loopX htab hΩ (fun i : Nat => ⟨[(0, .sl false 8 xs), (1, .sl false 7 ys), (2, .sc (.int .i64 k)), (7, .sc (.int .i64 (Ω.int i)))], 23, []⟩) (fun i => i ≤ bs.length ∧ r = (bs.drop i).any G) (fun i => bs.length - i) 0
    ⟨Nat.zero_le _, hr⟩ (Sbs.mk rfl rfl ⟨rfl, rfl, rfl, zeroI hΩ, trivial⟩) ?_
  rintro i ⟨hi, he⟩
  cbv
  refine br (fun h => ?_) (fun h => ?_) <;> cbv
  · replace h := ltI hΩ h
    obtain ⟨c, hcc⟩ := at_of (cs := bs) (by omega : i < bs.length)
    rw [any_at _ hcc] at he
    refine ⟨VC_drawn htab hΩ hmo (by kernel_rfl) ?_⟩
    cbv
    refine ⟨⟨hk0⟩, _, hx2, ?_⟩
    cbv
    refine ⟨⟨nnI hΩ⟩, _, rdI hΩ hys hcc, ?_⟩
    cbv
    refine QCall_pure (k := 3) (hg c) rfl (fits _) rfl ?_
    cbv
    refine br (fun g => ?_) (fun g => ?_) <;> cbv
    · exact .of (congrArg boo (by rw [he, show G c = true from g]; rfl))
    · rw [show G c = false from g, Bool.false_or] at he
      exact ⟨i + 1, ⟨by omega, he⟩, by omega, Sbs.mk rfl rfl ⟨rfl, rfl, rfl, incI hΩ (by omega), trivial⟩⟩
  · replace h := geI hΩ h
    exact .of (congrArg boo (by rw [he, List.drop_of_length_le (by omega)]; rfl))
theorem c_implBarredBy (l : List Pck) (s : List Int) (t : Int) (hl : l.length ≤ 1048576) (ho : ∀ o ∈ l, o.Small) (hs : s.length ≤ 1048576) : PCtr PP n_impl_BarredBy [encP l, .sl false 1 (s.map i64), i64 t] (setR (barC l s t) 0 (barS l s t)) := by
  obtain ⟨Ω, hΩ⟩ : ∃ Ω, Ω = std := ⟨_, rfl⟩
  have hc := c_implSetFault l s hl ho hs
  have hp := c_arePlaces l [t] hl (by simp)
  rw [show ([t].all fun x => inB x 0 ((l.length : Int) - 1)) = inB t 0 ((l.length : Int) - 1) by simp] at hp
  obtain ⟨k0, hk0⟩ : ∃ x, setF l s = x := ⟨_, rfl⟩
  obtain ⟨bi, hbi⟩ : ∃ x, inB t 0 ((l.length : Int) - 1) = x := ⟨_, rfl⟩
  rw [hk0] at hc
  rw [hbi] at hp
  have hth : k0 = 0 → bi = true → PCtr PP n_impl_those [.sl false 1 (s.map i64), .clo n_impl_BarredBy_1 [.rp [i64 t], .rp [encP l]]] (ints (s.filter (barB l t))) := fun e1 e2 =>
    c_those s hs _ _ _ ⟨fun _ _ => rfl, rfl, fun _ => rfl, fun k hk => c_BarredBy1 l t k hl ho (setF_in (hk0.trans e1) k hk) (hbi.trans e2)⟩
  have hroZ := roFInt (s.filter (barB l t))
  unfold ints encP at *
  have hC : barC l s t = if k0 ≠ 0 then k0 else if bi then 0 else 4 := by rw [barC, hk0, hbi]
  have hS : barS l s t = if barC l s t ≠ 0 then [] else s.filter (barB l t) := rfl
  generalize barC l s t = C at *
  generalize barS l s t = Z at *
  generalize s.filter (barB l t) = zs at *
  have htab := tab
  have hmo := hmo
  generalize s.map i64 = xs at *
  generalize l.map (Pck.enc false) = cs at *
  refine PCtr.walk tab hΩ fn_impl_BarredBy rfl ?_
  generalize hA : setR C 0 Z = R
  generalize PP = P at *
  cbv
  refine call_pure hΩ 3 hc rfl (fits _) rfl rfl ?_
  cbv
  refine br (fun g1 => ?_) (fun g1 => ?_) <;> cbv
  · have g1 : k0 = 0 := eqI_t hΩ g1
    refine call_pure hΩ 3 hp (mapTwo rfl (roV rfl rfl rfl)) (fits _) rfl rfl ?_
    cbv
    refine br (fun g2 => ?_) (fun g2 => ?_) <;> cbv
    · have g2 : bi = false := notT' hΩ (b := bi) (by subst hΩ; exact g2)
      refine br (fun g3 => ?_) (fun g3 => absurd (neI_f hΩ g3) (by decide)) <;> cbv
      have e1 : C = 4 := by rw [hC, g1, g2]; rfl
      have e2 : Z = [] := by rw [hS, e1]; rfl
      rw [← hA, e1, e2]
      exact fit_nilR 4 0
    · have g2 : bi = true := notF' hΩ (b := bi) (by subst hΩ; exact g2)
      have e1 : C = 0 := by rw [hC, g1, g2]; rfl
      have e2 : Z = zs := by rw [hS, e1]; rfl
      have hth := hth g1 g2
      refine br (fun g3 => absurd g1 (neI_t hΩ g3)) (fun g3 => ?_) <;> cbv
      obtain ⟨zz, hzz⟩ : ∃ zz, zz = zs.map i64 := ⟨_, rfl⟩
      rw [← hzz] at hth hroZ
      refine call_pure hΩ 5 hth (ro_clo2 rfl rfl) (fits _) hroZ rfl ?_
      cbv
      exact ⟨⟨rfl, by subst hΩ; exact Nat.le_refl _⟩, by rw [← hA, e1, e2]; exact fit_R hΩ 0 0 zs hzz⟩
  · have g1 : k0 ≠ 0 := eqI_f hΩ g1
    have e1 : C = k0 := by rw [hC, if_pos g1]
    have e2 : Z = [] := by rw [hS, e1, if_pos g1]
    refine br (fun g3 => ?_) (fun g3 => absurd (neI_f hΩ g3) g1) <;> cbv
    rw [← hA, e1, e2]
    exact fit_nilR k0 0
theorem c_specBarredBy (l : List Pck) (s : List Int) (t : Int) (hl : l.length ≤ 1048576) (ho : ∀ o ∈ l, o.Small) (hs : s.length ≤ 1048576) : PCtr PP n_spec_BarredBy [encP l, .sl false 1 (s.map i64), i64 t] (setR (barC l s t) 0 (barS l s t)) := by
  obtain ⟨Ω, hΩ⟩ : ∃ Ω, Ω = std := ⟨_, rfl⟩
  have hc := c_specSetFault l s hl ho hs
  obtain ⟨k0, hk0⟩ : ∃ x, setF l s = x := ⟨_, rfl⟩
  obtain ⟨bi, hbi⟩ : ∃ x, inB t 0 ((l.length : Int) - 1) = x := ⟨_, rfl⟩
  rw [hk0] at hc
  obtain ⟨xs, hxs⟩ : ∃ xs, xs = s.map i64 := ⟨_, rfl⟩
  have hlen : xs.length = s.length := by rw [hxs, List.length_map]
  obtain ⟨cs, hcs⟩ : ∃ cs, cs = l.map (Pck.enc false) := ⟨_, rfl⟩
  have hcl : cs.length = l.length := by rw [hcs, List.length_map]
  have hLm : Ω.ar .sub .i64 (Ω.int (Ω.len cs)) 1 = (l.length : Int) - 1 := by subst hΩ; show IntKind.i64.wrap ((cs.length : Int) - 1) = _; rw [hcl]; exact wrap64 (by omega) (by omega)
  have hw : PCtr PP n_spec_l1In [i64 t, i64 0, i64 (Ω.ar .sub .i64 (Ω.int (Ω.len cs)) 1)] (boo bi) := by rw [hLm, ← hbi]; exact c_l1In t 0 _
  have hC : barC l s t = if k0 ≠ 0 then k0 else if bi then 0 else 4 := by rw [barC, hk0, hbi]
  have hS : barS l s t = if barC l s t ≠ 0 then [] else s.filter (barB l t) := rfl
  have hbar := fun (bs : List Trm) (k : Int) (hb : bs.length ≤ 1048576) (hk : inB k 0 ((l.length : Int) - 1) = true) => c_l4BarsOne l bs k hl hb ho hk
  unfold encP at hc hbar ⊢
  rw [← hcs] at hc hbar ⊢
  rw [← hxs] at hc ⊢
  generalize barC l s t = C at *
  generalize barS l s t = Z at *
  have htab := tab
  have hmo := hmo
  refine PCtr.walk tab hΩ fn_spec_BarredBy rfl ?_
  generalize hA : setR C 0 Z = R
  generalize PP = P at *
  cbv
  refine call_pure hΩ 3 hc rfl (fits _) rfl rfl ?_
  cbv
  refine br (fun g1 => ?_) (fun g1 => ?_) <;> cbv
  · have g1 : k0 ≠ 0 := neI_t hΩ g1
    have e1 : C = k0 := by rw [hC, if_pos g1]
    have e2 : Z = [] := by rw [hS, e1, if_pos g1]
    rw [← hA, e1, e2]
    exact fit_nilR k0 0
  have g1 : k0 = 0 := neI_f hΩ g1
  refine call_pure hΩ 3 hw rfl (fits _) rfl rfl ?_
  cbv
  refine br (fun g2 => ?_) (fun g2 => ?_) <;> cbv
  · have g2 : bi = false := notT' hΩ g2
    have e1 : C = 4 := by rw [hC, g1, g2]; rfl
    have e2 : Z = [] := by rw [hS, e1]; rfl
    rw [← hA, e1, e2]
    exact fit_nilR 4 0
  have g2 : bi = true := notF' hΩ g2
  have e1 : C = 0 := by rw [hC, g1, g2]; rfl
  have e2 : Z = s.filter (barB l t) := by rw [hS, e1]; rfl
  obtain ⟨F, hF⟩ : ∃ F : Nat → List Int, F = fun j => (s.take j).filter (barB l t) := ⟨_, rfl⟩
  have hFat : ∀ j c, s[j]? = some c → F (j + 1) = F j ++ (if barB l t c then [c] else []) := fun j c h => by
    rw [hF]
    simp only
    rw [List.take_add_one, h, List.filter_append]
    congr 1
    cases hb : barB l t c <;> simp [hb]
  have hFn : F s.length = s.filter (barB l t) := by rw [hF]; simp only; rw [List.take_length]
  have hF0 : F 0 = [] := by rw [hF]; rfl
  have hFl : ∀ j, (F j).length ≤ s.length := fun j => by rw [hF]; exact Nat.le_trans (List.length_filter_le _ _) (by simp; omega)
  obtain ⟨ys, hys⟩ : ∃ ys : Nat → List A, ys = fun j => (F j).map i64 := ⟨_, rfl⟩
  have hyl : ∀ j, (ys j).length = (F j).length := fun j => by rw [hys]; simp
  have hset := setF_in (hk0.trans g1)
  obtain ⟨ht0, htl, hta, htm⟩ := pk_at (hbi.trans g2)
  obtain ⟨ps1, ds1, bs1, hen1, hps1, hds1, hbs1⟩ := enc_raw (pk l t)
  have hx1 : cs[t.toNat]? = some (Pck.enc false (pk l t)) := by rw [hcs, List.getElem?_map, hta]; rfl
  rw [hen1] at hx1
  refine loopX htab hΩ (fun i : Nat => ⟨[(0, .sl false 8 cs), (1, .sl false 1 xs), (2, .sc (.int .i64 t)), (6, .pt 0 0 0), (8, .pt 1 0 0), (9, .sc (.int .i64 (Ω.int i)))], 73,
      [some ⟨3, [.agg [i64 0, i64 0, .nil]], true⟩, some ⟨3, [.agg [i64 0, i64 0, .vw 2 0 (F i).length]], true⟩, some ⟨1, ys i, false⟩]⟩) (fun i => i ≤ s.length) (fun i => s.length - i) 0 (Nat.zero_le _)
    (Sbs.trans (Sbs.nilCell (r := 1) (j := 0) (q := 2) (n := 1) rfl rfl rfl) (Sbs.mk rfl (by rw [hF0, hys]; simp only; rw [hF0]; rfl) ⟨rfl, rfl, rfl, rfl, rfl, zeroI hΩ, trivial⟩)) ?_
  intro i hi
  have hFli := hFl i
  have hyli := hyl i
  have hFai := hFat i
  obtain ⟨m, hm⟩ : ∃ m, (F i).length = m := ⟨_, rfl⟩
  rw [hm] at hFli hyli ⊢
  cbv
  refine br (fun h => ?_) (fun h => ?_) <;> cbv
  · replace h := ltI hΩ h
    obtain ⟨c, hcc⟩ := at_of (cs := s) (by omega : i < s.length)
    have hFc := hFai c hcc
    have hcin := hset c (List.mem_of_getElem? hcc)
    obtain ⟨hc0, hcl2, hca, hcm⟩ := pk_at hcin
    obtain ⟨ps2, ds2, bs2, hen2, hps2, hds2, hbs2⟩ := enc_raw (pk l c)
    have hx2 : cs[c.toNat]? = some (Pck.enc false (pk l c)) := by rw [hcs, List.getElem?_map, hca]; rfl
    rw [hen2] at hx2
    have h1 := hbar (pk l c).b t (ho _ hcm).b (hbi.trans g2)
    have h2 := hbar (pk l t).b c (ho _ htm).b hcin
    rw [← hbs2] at h1
    rw [← hbs1] at h2
    have hbB : barB l t c = (!decide (c = t) && ((pk l c).b.any (givesB (pk l t)) || (pk l t).b.any (givesB (pk l c)))) := rfl
    generalize (pk l c).b.any (givesB (pk l t)) = B1 at h1 hbB
    generalize (pk l t).b.any (givesB (pk l c)) = B2 at h2 hbB
    clear hen1 hen2 hps1 hps2 hds1 hds2 hbs1 hbs2
    generalize pk l t = p1 at hx1
    generalize pk l c = p2 at hx2
    have yes : barB l t c = true → [some (Row.mk 3 [.agg [i64 0, i64 0, .nil]] true), some ⟨3, [.agg [i64 0, i64 0, .vw 2 0 (Ω.plus m (Ω.len [i64 c]))]], true⟩, some ⟨1, Ω.app (Ω.take m (ys i)) [i64 c], false⟩] =
        [some ⟨3, [.agg [i64 0, i64 0, .nil]], true⟩, some ⟨3, [.agg [i64 0, i64 0, .vw 2 0 (F (i + 1)).length]], true⟩, some ⟨1, ys (i + 1), false⟩] := fun hb => by
      rw [hb] at hFc
      have e3 : (F (i + 1)).length = m + 1 := by rw [hFc, ← hm]; simp
      have e4 : ys (i + 1) = ys i ++ [i64 c] := by rw [hys]; simp only; rw [hFc]; simp
      rw [e3, e4]
      subst hΩ
      show [_, some (Row.mk 3 [A.agg [i64 0, i64 0, A.vw 2 0 (m + 1)]] true), some (Row.mk 1 ((ys i).take m ++ [i64 c]) false)] = _
      rw [List.take_of_length_le (by omega)]
    have non : barB l t c = false → [some (Row.mk 3 [.agg [i64 0, i64 0, .nil]] true), some ⟨3, [.agg [i64 0, i64 0, .vw 2 0 m]], true⟩, some ⟨1, ys i, false⟩] =
        [some ⟨3, [.agg [i64 0, i64 0, .nil]], true⟩, some ⟨3, [.agg [i64 0, i64 0, .vw 2 0 (F (i + 1)).length]], true⟩, some ⟨1, ys (i + 1), false⟩] := fun hb => by
      rw [hb] at hFc
      have e3 : (F (i + 1)).length = m := by rw [hFc, ← hm]; simp
      have e4 : ys (i + 1) = ys i := by rw [hys]; simp only; rw [hFc]; simp
      rw [e3, e4]
    refine ⟨VC_drawn htab hΩ hmo (by kernel_rfl) ?_⟩
    cbv
    repeat' (first | (refine br (fun h => ?_) (fun h => ?_) <;> cbv) | (refine ⟨⟨nnI hΩ⟩, _, rdI hΩ hxs hcc, ?_⟩; cbv) | (refine ⟨⟨ht0⟩, _, hx1, ?_⟩; cbv) | (refine ⟨⟨hc0⟩, _, hx2, ?_⟩; cbv) | (refine QCall_pure (k := 3) h1 rfl (fits _) rfl ?_; cbv) | (refine QCall_pure (k := 3) h2 rfl (fits _) rfl ?_; cbv))
    all_goals clear h1 h2 hx1 hx2 hbar hc hw
    all_goals first
      | (have hb : barB l t c = false := by (rw [hbB]; clear yes non htab hmo; subst hΩ; simp_all; done)
         exact ⟨i + 1, by omega, by omega, Sbs.mk rfl (non hb) ⟨rfl, rfl, rfl, rfl, rfl, incI hΩ (by omega), trivial⟩⟩)
      | skip
    all_goals (have hb : barB l t c = true := by (rw [hbB]; clear yes non htab hmo; subst hΩ; simp_all; done))
    all_goals (refine ⟨VC_atail htab hΩ hmo 6 rfl rfl rfl (by kernel_rfl) ?_⟩; cbv)
    all_goals (refine ⟨⟨nnI hΩ⟩, _, rdI hΩ hxs hcc, ?_⟩; cbv)
    all_goals exact ⟨⟨rfl, okAll rfl, by show (m + 1) * 8 ≤ 140737488355328; omega, by show m + 1 ≤ 9223372036854775807; omega⟩, i + 1, by omega, by omega, Sbs.trans (Sbs.lastN (rows := [_, _, _]) rfl) (Sbs.mk rfl (yes hb) ⟨rfl, rfl, rfl, rfl, rfl, incI hΩ (by omega), trivial⟩)⟩
  · have hil : i = s.length := by have := geI hΩ h; omega
    refine ⟨⟨rfl, by rw [← hyli]; exact Nat.le_refl _⟩, .of ?_⟩
    rw [← hA, e1, e2, ← hFn, ← hil]
    subst hΩ
    show A.agg [i64 0, i64 0, A.sl true 1 ((ys i).take m)] = _
    rw [List.take_of_length_le (by omega), hys]
    rfl
end Go.Proofs.Ytdngjnjapihbkaa

/- Walks: what can be spared. Plain theorems. -/
import Derived.Test.YtdngjnjapihbkaaGreatWq4
import Derived.Test.YtdngjnjapihbkaaGreatWl0
import Derived.Test.YtdngjnjapihbkaaGreatF3
set_option linter.unusedVariables false
set_option linter.unusedSimpArgs false
namespace Go.Proofs.YtdngjnjapihbkaaGreat
open Go Go.Fw
set_option maxRecDepth 100000
def butF (s : List Int) (k : Int) : List Int := s.filter fun o => !decide (o = k)
def sprS (c : List Pck) (s : List Int) (a : List Trm) : List Int := if askC c s a ≠ 0 then [] else if holdB c s a then s.filter (fun k => holdB c (butF s k) a) else []
theorem sprS_le (c : List Pck) (s : List Int) (a : List Trm) : (sprS c s a).length ≤ s.length := by
  unfold sprS
  split
  · exact Nat.zero_le _
  · split
    · exact List.length_filter_le _ _
    · exact Nat.zero_le _
theorem askC_set {c : List Pck} {s : List Int} {a : List Trm} (h : askC c s a = 0) : setF c s = 0 ∧ firstF trmF a = 0 := by
  unfold askC at h
  split at h
  · rename_i h0; exact absurd h h0
  · rename_i h0
    split at h
    · simp at h
    · exact ⟨Decidable.not_not.1 h0, h⟩
theorem c_SpareOf11 (o k : Int) : PCtr PP n_impl_SpareOf_1_1 [i64 o, .rp [i64 k]] (boo (!decide (o = k))) := by
  obtain ⟨Ω, hΩ⟩ : ∃ Ω, Ω = std := ⟨_, rfl⟩
  obtain ⟨r, hr⟩ : ∃ r, r = !decide (o = k) := ⟨_, rfl⟩
  rw [← hr]
  have htab := tab
  have hmo := hmo
  refine PCtr.walk tab hΩ fn_impl_SpareOf_1_1 rfl ?_
  generalize PP = P at *
  cbv
  refine .of (congrArg boo ?_)
  subst hΩ; subst hr
  simp [cmpIS, bne]
  rfl
theorem c_SpareOf1 (l : List Pck) (s : List Int) (a : List Trm) (k : Int) (hl : l.length ≤ 1048576) (hs : s.length ≤ 1048576) (ha : a.length ≤ 1048576) (ho : ∀ o ∈ l, o.Small) (hk : ∀ k ∈ s, inB k 0 ((l.length : Int) - 1) = true) :
    PCtr PP n_impl_SpareOf_1 [i64 k, .rp [encP l], .rp [.sl false 1 (s.map i64)], .rp [.sl false 7 (a.map Trm.enc)]] (boo (holdB l (butF s k) a)) := by
  obtain ⟨Ω, hΩ⟩ : ∃ Ω, Ω = std := ⟨_, rfl⟩
  have hbl : (butF s k).length ≤ s.length := List.length_filter_le _ _
  have h1 : PCtr PP n_impl_those [.sl false 1 (s.map i64), .clo n_impl_SpareOf_1_1 [.rp [i64 k]]] (ints (butF s k)) :=
    c_those s hs _ _ _ ⟨fun _ _ => rfl, rfl, fun _ => rfl, fun o _ => c_SpareOf11 o k⟩
  have h2 := c_holds l (butF s k) a hl (by omega) ha ho fun x hx => hk x (List.mem_filter.1 hx).1
  have hrf := roFInt (butF s k)
  have hfz := frzInt (butF s k)
  unfold ints encP at *
  generalize holdB l (butF s k) a = r at *
  generalize l.map (Pck.enc false) = xs at *
  generalize s.map i64 = ys at *
  generalize a.map Trm.enc = zs at *
  generalize (butF s k).map i64 = bs at *
  have hle : Ω.len bs = bs.length := by subst hΩ; rfl
  have htab := tab
  have hmo := hmo
  refine PCtr.walk tab hΩ fn_impl_SpareOf_1 rfl ?_
  generalize PP = P at *
  cbv
  refine ⟨VC_held htab hΩ hmo [0, 1, 2, 4] [3, 5, 6] (by kernel_rfl) ?_⟩
  cbv
  refine call_pure hΩ 5 h1 (ro_clo2 rfl rfl) (fits _) hrf rfl ?_
  cbv
  refine call_pure hΩ 3 h2 (mapO3 rfl (roV rfl hle hfz) rfl) (fits _) rfl rfl ?_
  cbv
  exact .same
theorem rise_adj {s : List Int} : ∀ (n i : Nat), s.length - i = n → riseAll s i (s.drop i) = true → ∀ j x y, i ≤ j → 1 ≤ j → s[j - 1]? = some x → s[j]? = some y → x < y
  | 0, i, hn, _, j, x, y, hij, _, _, hy => by
    have := (List.getElem?_eq_some_iff.1 hy).1
    omega
  | n + 1, i, hn, h, j, x, y, hij, h1, hx, hy => by
    have hi : i < s.length := by omega
    rw [riseAll_at (List.getElem?_eq_getElem hi), Bool.and_eq_true] at h
    by_cases hji : j = i
    · subst hji
      have h2 := h.1
      rw [Bool.or_eq_true] at h2
      rcases h2 with h2 | h2
      · have : j = 0 := by simpa using h2
        omega
      · have h3 := of_decide_eq_true h2
        rw [List.getD_eq_getElem?_getD, hx] at h3
        rw [List.getElem?_eq_getElem hi] at hy
        cases hy
        exact h3
    · exact rise_adj n (i + 1) (by omega) h.2 j x y (by omega) h1 hx hy
theorem setF_rise {c : List Pck} {s : List Int} (h : setF c s = 0) : riseAll s 0 (s.drop 0) = true := by
  unfold setF at h
  split at h
  · rename_i h0; exact absurd h h0
  · split at h
    · rename_i h1
      rw [setOk_eq, Bool.and_eq_true] at h1
      exact h1.1
    · simp at h
theorem setF_lt {c : List Pck} {s : List Int} (h : setF c s = 0) : ∀ (d i : Nat) (x y : Int), s[i]? = some x → s[i + d + 1]? = some y → x < y
  | 0, i, x, y, hx, hy => rise_adj _ 0 rfl (setF_rise h) (i + 1) x y (by omega) (by omega) hx hy
  | d + 1, i, x, y, hx, hy => by
    have hlt := (List.getElem?_eq_some_iff.1 hy).1
    obtain ⟨z, hz⟩ : ∃ z, s[i + d + 1]? = some z := ⟨_, List.getElem?_eq_getElem (by omega)⟩
    have h1 := setF_lt h d i x z hx hz
    have h2 := rise_adj _ 0 rfl (setF_rise h) (i + (d + 1) + 1) z y (by omega) (by omega) hz hy
    omega
theorem setF_but {c : List Pck} {s : List Int} (h : setF c s = 0) {i : Nat} {k : Int} (hk : s[i]? = some k) : butF s k = s.take i ++ s.drop (i + 1) := by
  obtain ⟨h1, h2⟩ := List.getElem?_eq_some_iff.1 hk
  have hs : s = s.take i ++ (k :: s.drop (i + 1)) := by rw [← h2, List.getElem_cons_drop, List.take_append_drop]
  unfold butF
  conv => lhs; rw [hs]
  rw [List.filter_append, List.filter_cons_of_neg (by simp)]
  congr 1
  · rw [List.filter_eq_self]
    intro x hx
    obtain ⟨j, hj, hjx⟩ := List.mem_iff_getElem.1 hx
    have hji : j < i := by simp at hj; omega
    rw [List.getElem_take] at hjx
    have := setF_lt h (i - j - 1) j x k (by rw [← hjx]; exact List.getElem?_eq_getElem _) (by rw [show j + (i - j - 1) + 1 = i by omega]; exact hk)
    simp; omega
  · rw [List.filter_eq_self]
    intro x hx
    obtain ⟨j, hj, hjx⟩ := List.mem_iff_getElem.1 hx
    rw [List.getElem_drop] at hjx
    have := setF_lt h j i k x hk (by rw [show i + j + 1 = i + 1 + j by omega, ← hjx]; exact List.getElem?_eq_getElem _)
    simp; omega
theorem seg_ok {Ω : Opq} (hΩ : Ω = std) {xs : List A} (h1 : ∀ y ∈ xs, noOwn y = true) (h2 : ∀ c ∈ flat xs, okCell c = true) (l h : Nat) : (∀ y ∈ Ω.seg l h xs, noOwn y = true) ∧ (∀ c ∈ flat (Ω.seg l h xs), okCell c = true) := by
  subst hΩ
  have hs : ∀ y ∈ (xs.take h).drop l, y ∈ xs := fun y hy => List.mem_of_mem_take (List.mem_of_mem_drop hy)
  refine ⟨fun y hy => h1 y (hs y hy), fun c hc => h2 c ?_⟩
  obtain ⟨x, hx, hy⟩ := List.mem_flatMap.1 hc
  exact List.mem_flatMap.2 ⟨x, hs x hx, hy⟩
theorem c_implSpareOf (l : List Pck) (s : List Int) (a : List Trm) (hl : l.length ≤ 1048576) (ho : ∀ o ∈ l, o.Small) (hs : s.length ≤ 1048576) (ha : a.length ≤ 1048576) : PCtr PP n_impl_SpareOf [encP l, .sl false 1 (s.map i64), .sl false 7 (a.map Trm.enc)] (setR (askC l s a) 0 (sprS l s a)) := by
  obtain ⟨Ω, hΩ⟩ : ∃ Ω, Ω = std := ⟨_, rfl⟩
  have hc := c_asksCode l s a hl hs ha ho
  obtain ⟨k0, hk0⟩ : ∃ x, askC l s a = x := ⟨_, rfl⟩
  obtain ⟨bi, hbi⟩ : ∃ x, holdB l s a = x := ⟨_, rfl⟩
  rw [hk0] at hc
  have hS : sprS l s a = if k0 ≠ 0 then [] else if bi then s.filter (fun k => holdB l (butF s k) a) else [] := by rw [sprS, hk0, hbi]
  have hin : k0 = 0 → ∀ k ∈ s, inB k 0 ((l.length : Int) - 1) = true := fun e => setF_in (askC_set (hk0.trans e)).1
  have hp : k0 = 0 → PCtr PP n_impl_holds [encP l, .sl false 1 (s.map i64), .sl false 7 (a.map Trm.enc)] (boo bi) := fun e => by rw [← hbi]; exact c_holds l s a hl hs ha ho (hin e)
  have hth : k0 = 0 → PCtr PP n_impl_those [.sl false 1 (s.map i64), .clo n_impl_SpareOf_1 [.rp [encP l], .rp [.sl false 1 (s.map i64)], .rp [.sl false 7 (a.map Trm.enc)]]] (ints (s.filter (fun k => holdB l (butF s k) a))) := fun e =>
    c_those s hs _ _ _ ⟨fun _ _ => rfl, rfl, fun _ => rfl, fun k hk => c_SpareOf1 l s a k hl hs ha ho (hin e)⟩
  have hroZ := roFInt (s.filter (fun k => holdB l (butF s k) a))
  unfold ints encP at *
  rw [hk0]
  generalize sprS l s a = Z at *
  generalize s.filter (fun k => holdB l (butF s k) a) = zs at *
  have htab := tab
  have hmo := hmo
  generalize s.map i64 = xs at *
  generalize a.map Trm.enc = tsx at *
  generalize l.map (Pck.enc false) = cs at *
  refine PCtr.walk tab hΩ fn_impl_SpareOf rfl ?_
  generalize hA : setR k0 0 Z = R
  generalize PP = P at *
  cbv
  refine call_pure hΩ 3 hc rfl (fits _) rfl rfl ?_
  cbv
  refine br (fun g1 => ?_) (fun g1 => ?_) <;> cbv
  · have g1 : k0 ≠ 0 := neI_t hΩ g1
    have e2 : Z = [] := by rw [hS, if_pos g1]
    rw [← hA, e2]
    exact fit_nilR k0 0
  have g1 : k0 = 0 := neI_f hΩ g1
  refine call_pure hΩ 3 (hp g1) rfl (fits _) rfl rfl ?_
  cbv
  refine br (fun g2 => ?_) (fun g2 => ?_) <;> cbv
  · have g2 : bi = false := notT' hΩ g2
    have e2 : Z = [] := by rw [hS, g1, g2]; rfl
    rw [← hA, g1, e2]
    exact fit_nilR 0 0
  have g2 : bi = true := notF' hΩ g2
  have e2 : Z = zs := by rw [hS, g1, g2]; rfl
  have hth := hth g1
  obtain ⟨zz, hzz⟩ : ∃ zz, zz = zs.map i64 := ⟨_, rfl⟩
  rw [← hzz] at hth hroZ
  refine call_pure hΩ 5 hth (ro_clo2 rfl rfl) (fits _) hroZ rfl ?_
  cbv
  exact ⟨⟨rfl, by subst hΩ; exact Nat.le_refl _⟩, by rw [← hA, g1, e2]; exact fit_R hΩ 0 0 zs hzz⟩
theorem c_specSpareOf (l : List Pck) (s : List Int) (a : List Trm) (hl : l.length ≤ 1048576) (ho : ∀ o ∈ l, o.Small) (hs : s.length ≤ 1048576) (ha : a.length ≤ 1048576) : PCtr PP n_spec_SpareOf [encP l, .sl false 1 (s.map i64), .sl false 7 (a.map Trm.enc)] (setR (askC l s a) 0 (sprS l s a)) := by
  obtain ⟨Ω, hΩ⟩ : ∃ Ω, Ω = std := ⟨_, rfl⟩
  have hc := c_l13Asked l s a hl hs ha ho
  obtain ⟨k0, hk0⟩ : ∃ x, askC l s a = x := ⟨_, rfl⟩
  rw [hk0] at hc
  obtain ⟨xs, hxs⟩ : ∃ xs, xs = s.map i64 := ⟨_, rfl⟩
  have hlen : xs.length = s.length := by rw [hxs, List.length_map]
  obtain ⟨A1, hA1⟩ : ∃ A1 : Bool, A1 = a.all fun t => s.any fun k => givesB (pk l k) t := ⟨_, rfl⟩
  obtain ⟨B1, hB1⟩ : ∃ B1 : Bool, B1 = consB l s := ⟨_, rfl⟩
  have hS : sprS l s a = if k0 ≠ 0 then [] else if (B1 && A1) then s.filter (fun k => holdB l (butF s k) a) else [] := by rw [sprS, hk0, hB1, hA1]; rfl
  have hin : k0 = 0 → ∀ k ∈ s, inB k 0 ((l.length : Int) - 1) = true := fun e => setF_in (askC_set (hk0.trans e)).1
  have hg : k0 = 0 → PCtr PP n_spec_l3Good [encP l, .sl false 1 xs] (boo B1) := fun e => by rw [hB1, hxs]; exact c_l3Good l s hl hs ho (hin e)
  have hh : k0 = 0 → PCtr PP n_spec_l3Holds [encP l, .sl false 1 xs, .sl false 7 (a.map Trm.enc)] (boo A1) := fun e => by rw [hA1, hxs]; exact c_l3Holds l s a hl hs ha ho (hin e) (askC_set (hk0.trans e)).2
  obtain ⟨bf, hbf⟩ : ∃ bf : Int → List A, bf = fun k => (butF s k).map i64 := ⟨_, rfl⟩
  have hrest : k0 = 0 → ∀ i k, s[i]? = some k → ∃ b1 b2 : Bool, (b1 && b2) = holdB l (butF s k) a ∧ PCtr PP n_spec_l3Good [encP l, .sl false 1 (bf k)] (boo b1) ∧ PCtr PP n_spec_l3Holds [encP l, .sl false 1 (bf k), .sl false 7 (a.map Trm.enc)] (boo b2) ∧
      xs.take i ++ xs.drop (i + 1) = bf k ∧ (bf k).map frz = bf k ∧ (xs.take i).length + (xs.drop (i + 1)).length = (bf k).length := fun e i k hk => by
    have hb := setF_but (askC_set (hk0.trans e)).1 hk
    have hbl : (butF s k).length ≤ s.length := List.length_filter_le _ _
    have hi2 : ∀ k' ∈ butF s k, inB k' 0 ((l.length : Int) - 1) = true := fun x hx => hin e x (List.mem_filter.1 hx).1
    have e2 : xs.take i ++ xs.drop (i + 1) = bf k := by rw [hbf]; simp only; rw [hb, hxs, List.map_append, List.map_take, List.map_drop]
    refine ⟨_, _, rfl, by rw [hbf]; exact c_l3Good l _ hl (by omega) ho hi2, by rw [hbf]; exact c_l3Holds l _ a hl (by omega) ha ho hi2 (askC_set (hk0.trans e)).2, e2, by rw [hbf]; exact frzInt _, ?_⟩
    rw [← e2, List.length_append]
  have hno := noInt s
  rw [← hxs] at hno
  unfold encP at *
  rw [hk0, ← hxs]
  rw [← hxs] at hc
  generalize sprS l s a = Z at *
  obtain ⟨B, hB⟩ : ∃ B : Int → Bool, B = fun k => holdB l (butF s k) a := ⟨_, rfl⟩
  have hrest : k0 = 0 → ∀ i k, s[i]? = some k → ∃ b1 b2 : Bool, (b1 && b2) = B k ∧ PCtr PP n_spec_l3Good [.sl false 8 (l.map (Pck.enc false)), .sl false 1 (bf k)] (boo b1) ∧ PCtr PP n_spec_l3Holds [.sl false 8 (l.map (Pck.enc false)), .sl false 1 (bf k), .sl false 7 (a.map Trm.enc)] (boo b2) ∧
      xs.take i ++ xs.drop (i + 1) = bf k ∧ (bf k).map frz = bf k ∧ (xs.take i).length + (xs.drop (i + 1)).length = (bf k).length := by rw [hB]; exact hrest
  rw [← hB] at hS
  clear hbf hB1 hA1 hB hin
  generalize a.map Trm.enc = tsx at *
  generalize l.map (Pck.enc false) = cs at *
  have htab := tab
  have hmo := hmo
  refine PCtr.walk tab hΩ fn_spec_SpareOf rfl ?_
  generalize hA : setR k0 0 Z = R
  generalize PP = P at *
  cbv
  refine call_pure hΩ 3 hc rfl (fits _) rfl rfl ?_
  cbv
  refine br (fun g1 => ?_) (fun g1 => ?_) <;> cbv
  · have g1 : k0 ≠ 0 := neI_t hΩ g1
    have e2 : Z = [] := by rw [hS, if_pos g1]
    rw [← hA, e2]
    exact fit_nilR k0 0
  have g1 : k0 = 0 := neI_f hΩ g1
  have hg := hg g1
  have hh := hh g1
  have hrest := hrest g1
  refine call_pure hΩ 3 hg rfl (fits _) rfl rfl ?_
  cbv
  refine br (fun g2 => ?_) (fun g2 => ?_) <;> cbv
  · have g2 : B1 = false := notT' hΩ g2
    have e2 : Z = [] := by rw [hS, g1, g2]; rfl
    rw [← hA, g1, e2]
    exact fit_nilR 0 0
  have g2 : B1 = true := notF' hΩ g2
  refine call_pure hΩ 3 hh rfl (fits _) rfl rfl ?_
  cbv
  refine br (fun g3 => ?_) (fun g3 => ?_) <;> cbv
  · have g3 : A1 = false := by subst hΩ; simpa using g3
    have e2 : Z = [] := by rw [hS, g1, g2, g3]; rfl
    rw [← hA, g1, e2]
    exact fit_nilR 0 0
  have g3 : A1 = true := by subst hΩ; simpa using g3
  have e2 : Z = s.filter B := by rw [hS, g1, g2, g3]; rfl
  obtain ⟨F, hF⟩ : ∃ F : Nat → List Int, F = fun j => (s.take j).filter B := ⟨_, rfl⟩
  have hFat : ∀ j c, s[j]? = some c → F (j + 1) = F j ++ (if B c then [c] else []) := fun j c h => by
    rw [hF]
    simp only
    rw [List.take_add_one, h, List.filter_append]
    congr 1
    cases hb : B c <;> simp [hb]
  have hFn : F s.length = s.filter B := by rw [hF]; simp only; rw [List.take_length]
  have hF0 : F 0 = [] := by rw [hF]; rfl
  have hFl : ∀ j, (F j).length ≤ s.length := fun j => by rw [hF]; exact Nat.le_trans (List.length_filter_le _ _) (by simp; omega)
  obtain ⟨ys, hys⟩ : ∃ ys : Nat → List A, ys = fun j => (F j).map i64 := ⟨_, rfl⟩
  have hyl : ∀ j, (ys j).length = (F j).length := fun j => by rw [hys]; simp
  refine loopX htab hΩ (fun i : Nat => ⟨[(0, .sl false 8 cs), (1, .sl false 1 xs), (2, .sl false 7 tsx), (6, .pt 0 0 0), (8, .pt 1 0 0), (9, .sc (.int .i64 (Ω.int i)))], 67,
      [some ⟨3, [.agg [i64 0, i64 0, .nil]], true⟩, some ⟨3, [.agg [i64 0, i64 0, .vw 2 0 (F i).length]], true⟩, some ⟨1, ys i, false⟩]⟩) (fun i => i ≤ s.length) (fun i => s.length - i) 0 (Nat.zero_le _)
    (Sbs.trans (Sbs.nilCell (r := 1) (j := 0) (q := 2) (n := 1) rfl rfl rfl) (Sbs.mk rfl (by rw [hF0, hys]; simp only; rw [hF0]; rfl) ⟨rfl, rfl, rfl, rfl, rfl, zeroI hΩ, trivial⟩)) ?_
  intro i hi
  have hFli := hFl i
  have hyli := hyl i
  have hFai := hFat i
  obtain ⟨m, hm⟩ : ∃ m, (F i).length = m := ⟨_, rfl⟩
  rw [hm] at hFli hyli ⊢
  cbv
  refine br (fun h => ?_) (fun h => ?_) <;> cbv
  · replace h := ltI hΩ h
    obtain ⟨c, hcc⟩ := at_of (cs := s) (by omega : i < s.length)
    have hFc := hFai c hcc
    obtain ⟨b1, b2, hbb, hgc, hhc, hap, hfz, hll⟩ := hrest i c hcc
    have yes : B c = true → [some (Row.mk 3 [.agg [i64 0, i64 0, .nil]] true), some ⟨3, [.agg [i64 0, i64 0, .vw 2 0 (Ω.plus m (Ω.len [i64 c]))]], true⟩, some ⟨1, Ω.app (Ω.take m (ys i)) [i64 c], false⟩] =
        [some ⟨3, [.agg [i64 0, i64 0, .nil]], true⟩, some ⟨3, [.agg [i64 0, i64 0, .vw 2 0 (F (i + 1)).length]], true⟩, some ⟨1, ys (i + 1), false⟩] := fun hb => by
      rw [hb] at hFc
      have e3 : (F (i + 1)).length = m + 1 := by rw [hFc, ← hm]; simp
      have e4 : ys (i + 1) = ys i ++ [i64 c] := by rw [hys]; simp only; rw [hFc]; simp
      rw [e3, e4]
      subst hΩ
      show [_, some (Row.mk 3 [A.agg [i64 0, i64 0, A.vw 2 0 (m + 1)]] true), some (Row.mk 1 ((ys i).take m ++ [i64 c]) false)] = _
      rw [List.take_of_length_le (by omega)]
    have non : B c = false → [some (Row.mk 3 [.agg [i64 0, i64 0, .nil]] true), some ⟨3, [.agg [i64 0, i64 0, .vw 2 0 m]], true⟩, some ⟨1, ys i, false⟩] =
        [some ⟨3, [.agg [i64 0, i64 0, .nil]], true⟩, some ⟨3, [.agg [i64 0, i64 0, .vw 2 0 (F (i + 1)).length]], true⟩, some ⟨1, ys (i + 1), false⟩] := fun hb => by
      rw [hb] at hFc
      have e3 : (F (i + 1)).length = m := by rw [hFc, ← hm]; simp
      have e4 : ys (i + 1) = ys i := by rw [hys]; simp only; rw [hFc]; simp
      rw [e3, e4]
    have hinc : Ω.nat (Ω.ar .add .i64 (Ω.int i) 1) = i + 1 ∧ 0 ≤ Ω.ar .add .i64 (Ω.int i) 1 := by
      subst hΩ
      have e : std.ar .add .i64 (std.int i) 1 = ((i + 1 : Nat) : Int) := inc64 (by omega)
      rw [e]
      exact ⟨rfl, Int.natCast_nonneg _⟩
    have q1 := seg_ok hΩ hno.1 hno.2.1 0 (Ω.nat (Ω.int i))
    have q2 := seg_ok hΩ hno.1 hno.2.1 (Ω.nat (Ω.ar .add .i64 (Ω.int i) 1)) (Ω.len xs)
    have z1 : Ω.seg 0 (Ω.nat (Ω.int i)) xs = xs.take i := by subst hΩ; rfl
    have z2 : Ω.seg (Ω.nat (Ω.ar .add .i64 (Ω.int i) 1)) (Ω.len xs) xs = xs.drop (i + 1) := by rw [hinc.1]; subst hΩ; show (xs.take xs.length).drop (i + 1) = _; rw [List.take_length]
    have l1 : (Ω.seg 0 (Ω.nat (Ω.int i)) xs).length = i := by rw [z1, List.length_take]; omega
    have l2 : (Ω.seg (Ω.nat (Ω.ar .add .i64 (Ω.int i) 1)) (Ω.len xs) xs).length ≤ s.length := by rw [z2, List.length_drop]; omega
    have l3 : Ω.plus 0 (Ω.len (Ω.seg 0 (Ω.nat (Ω.int i)) xs)) = i := by rw [z1]; subst hΩ; show 0 + (xs.take i).length = i; rw [List.length_take]; omega
    have hL : Ω.app (Ω.take (Ω.plus 0 (Ω.len (Ω.seg 0 (Ω.nat (Ω.int i)) xs))) (Ω.app (Ω.take 0 []) (Ω.seg 0 (Ω.nat (Ω.int i)) xs))) (Ω.seg (Ω.nat (Ω.ar .add .i64 (Ω.int i) 1)) (Ω.len xs) xs) = bf c := by
      rw [z1, z2, ← hap]
      subst hΩ
      show ([].take 0 ++ xs.take i).take (0 + (xs.take i).length) ++ _ = _
      rw [List.take_of_length_le (by simp)]
      rfl
    have hLl : Ω.plus (Ω.plus 0 (Ω.len (Ω.seg 0 (Ω.nat (Ω.int i)) xs))) (Ω.len (Ω.seg (Ω.nat (Ω.ar .add .i64 (Ω.int i) 1)) (Ω.len xs) xs)) = (bf c).length := by
      rw [z1, z2, ← hll]
      subst hΩ
      show 0 + (xs.take i).length + _ = _
      rw [Nat.zero_add]
      rfl
    refine ⟨VC_held htab hΩ hmo [1, 2, 3, 5, 6, 7, 8] [0, 4, 9, 10] (by kernel_rfl) ?_⟩
    cbv
    refine ⟨⟨⟨trivial, (nnI hΩ), Nat.zero_le _, by subst hΩ; show ((i : Int)).toNat ≤ xs.length; omega⟩⟩, ⟨⟨hinc.2, trivial, by have := hinc.1; have e : Ω.len xs = xs.length := (by subst hΩ; rfl); show Ω.nat (Ω.ar .add .i64 (Ω.int i) 1) ≤ Ω.len xs; omega, by have e : Ω.len xs = xs.length := (by subst hΩ; rfl); show Ω.len xs ≤ xs.length; omega⟩⟩,
      ⟨⟨q1.1, q1.2, by show (0 + (Ω.seg 0 (Ω.nat (Ω.int i)) xs).length) * 8 ≤ 140737488355328; omega, by show 0 + (Ω.seg 0 (Ω.nat (Ω.int i)) xs).length ≤ 9223372036854775807; omega⟩⟩,
      ⟨⟨q2.1, q2.2, by show (Ω.plus 0 (Ω.len (Ω.seg 0 (Ω.nat (Ω.int i)) xs)) + (Ω.seg (Ω.nat (Ω.ar .add .i64 (Ω.int i) 1)) (Ω.len xs) xs).length) * 8 ≤ 140737488355328; rw [l3]; omega, by show Ω.plus 0 (Ω.len (Ω.seg 0 (Ω.nat (Ω.int i)) xs)) + (Ω.seg (Ω.nat (Ω.ar .add .i64 (Ω.int i) 1)) (Ω.len xs) xs).length ≤ 9223372036854775807; rw [l3]; omega⟩⟩, ?_⟩
    refine call_pure hΩ 3 hgc (mapO2 rfl (ro_vw rfl (hLl.trans (congrArg List.length hL.symm)) ((congrArg (List.map frz) hL).trans hfz))) (fits _) rfl rfl ?_
    cbv
    refine br (fun g => ?_) (fun g => ?_) <;> cbv
    · have g : b1 = true := g
      refine call_pure hΩ 3 hhc (mapO3 rfl (ro_vw rfl (hLl.trans (congrArg List.length hL.symm)) ((congrArg (List.map frz) hL).trans hfz)) rfl) (fits _) rfl rfl ?_
      cbv
      refine br (fun h => ?_) (fun h => ?_) <;> cbv
      · have hb : B c = true := by rw [← hbb, g]; subst hΩ; simpa using h
        refine ⟨VC_atail htab hΩ hmo 6 rfl rfl rfl (by kernel_rfl) ?_⟩
        cbv
        refine ⟨⟨nnI hΩ⟩, _, rdI hΩ hxs hcc, ?_⟩
        cbv
        exact ⟨⟨rfl, okAll rfl, by show (m + 1) * 8 ≤ 140737488355328; omega, by show m + 1 ≤ 9223372036854775807; omega⟩, i + 1, by omega, by omega, Sbs.trans (Sbs.lastN (rows := [_, _, _, _]) rfl) (Sbs.mkL (rows := [_, _, _]) rfl rfl (yes hb) ⟨rfl, rfl, rfl, rfl, rfl, incI hΩ (by omega), trivial⟩)⟩
      · have hb : B c = false := by rw [← hbb, g]; subst hΩ; simpa using h
        exact ⟨i + 1, by omega, by omega, Sbs.mkL (rows := [_, _, _]) rfl rfl (non hb) ⟨rfl, rfl, rfl, rfl, rfl, incI hΩ (by omega), trivial⟩⟩
    · have g : b1 = false := g
      have hb : B c = false := by rw [← hbb, g]; rfl
      exact ⟨i + 1, by omega, by omega, Sbs.mkL (rows := [_, _, _]) rfl rfl (non hb) ⟨rfl, rfl, rfl, rfl, rfl, incI hΩ (by omega), trivial⟩⟩
  · have hil : i = s.length := by have := geI hΩ h; omega
    refine ⟨⟨rfl, by rw [← hyli]; exact Nat.le_refl _⟩, .of ?_⟩
    rw [← hA, g1, e2, ← hFn, ← hil]
    subst hΩ
    show A.agg [i64 0, i64 0, A.sl true 1 ((ys i).take m)] = _
    rw [List.take_of_length_le (by omega), hys]
    rfl
end Go.Proofs.YtdngjnjapihbkaaGreat

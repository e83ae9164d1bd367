/- Walks: faults of catalogs and sets. Plain theorems. -/
import Derived.Test.YtomfmdfamlmfiaaGreatC3
import Derived.OrdersHeld
set_option linter.unusedVariables false
set_option linter.unusedSimpArgs false
namespace Go.Proofs.YtomfmdfamlmfiaaGreat
open Go Go.Fw
set_option maxRecDepth 100000
def isP (n : List UInt8) (v : Ver) (p : Pck) : Bool := p.n == n && decide (p.v = v)
def findF (c : List Pck) (n : List UInt8) (v : Ver) : Int := idx (isP n v) c
def catFrom (all : List Pck) : Nat → List Pck → Int
  | _, [] => 0
  | i, x :: xs => if packF x ≠ 0 then packF x else if 0 ≤ findF (all.take i) x.n x.v then 6 else catFrom all (i + 1) xs
theorem catFrom_at {cs : List Pck} {i : Nat} {c : Pck} (h : cs[i]? = some c) : catFrom cs i (cs.drop i) = if packF c ≠ 0 then packF c else if 0 ≤ findF (cs.take i) c.n c.v then 6 else catFrom cs (i + 1) (cs.drop (i + 1)) := by
  obtain ⟨h1, h2⟩ := List.getElem?_eq_some_iff.1 h
  conv => lhs; rw [List.drop_eq_getElem_cons h1, h2, catFrom]
def catF (c : List Pck) : Int := if 24 < c.length then 2 else catFrom c 0 c
def riseAll (s : List Int) : Nat → List Int → Bool
  | _, [] => true
  | i, x :: xs => (i == 0 || decide (s.getD (i - 1) 0 < x)) && riseAll s (i + 1) xs
def setOk (m : Int) (s : List Int) : Nat → List Int → Bool
  | _, [] => true
  | i, x :: xs => (inB x 0 m && (i == 0 || decide (s.getD (i - 1) 0 < x))) && setOk m s (i + 1) xs
theorem setOk_eq (m : Int) (s : List Int) : ∀ (l : List Int) (i : Nat), setOk m s i l = (riseAll s i l && l.all fun x => inB x 0 m)
  | [], i => rfl
  | x :: xs, i => by
    rw [setOk, riseAll, List.all_cons, setOk_eq m s xs (i + 1)]
    generalize inB x 0 m = a
    generalize (i == 0 || decide (s.getD (i - 1) 0 < x)) = b
    generalize riseAll s (i + 1) xs = c
    generalize (xs.all fun x => inB x 0 m) = d
    revert a b c d
    decide
theorem setOk_at (m : Int) {s : List Int} {i : Nat} {c : Int} (h : s[i]? = some c) : setOk m s i (s.drop i) = ((inB c 0 m && (i == 0 || decide (s.getD (i - 1) 0 < c))) && setOk m s (i + 1) (s.drop (i + 1))) := by
  obtain ⟨h1, h2⟩ := List.getElem?_eq_some_iff.1 h
  conv => lhs; rw [List.drop_eq_getElem_cons h1, h2, setOk]
theorem riseAll_at {s : List Int} {i : Nat} {c : Int} (h : s[i]? = some c) : riseAll s i (s.drop i) = ((i == 0 || decide (s.getD (i - 1) 0 < c)) && riseAll s (i + 1) (s.drop (i + 1))) := by
  obtain ⟨h1, h2⟩ := List.getElem?_eq_some_iff.1 h
  conv => lhs; rw [List.drop_eq_getElem_cons h1, h2, riseAll]
theorem rise0 (s : List Int) : riseAll s 0 s = riseAll s 1 (s.drop 1) := by
  cases s with
  | nil => rfl
  | cons x xs => simp [riseAll]
theorem subI {Ω : Opq} (hΩ : Ω = std) {i : Nat} (h0 : 0 < i) (h : i ≤ 4611686018427387904) : 0 ≤ Ω.ar .sub .i64 (Ω.int i) 1 ∧ (Ω.ar .sub .i64 (Ω.int i) 1).toNat = i - 1 := by
  subst hΩ
  show 0 ≤ IntKind.i64.wrap ((i : Int) - 1) ∧ (IntKind.i64.wrap ((i : Int) - 1)).toNat = i - 1
  rw [wrap64 (by omega) (by omega)]
  omega
def setF (c : List Pck) (s : List Int) : Int := if catF c ≠ 0 then catF c else if setOk ((c.length : Int) - 1) s 0 s then 0 else 1
def encP (c : List Pck) : A := .sl false 8 (c.map (Pck.enc false))
theorem c_find1 (o : Pck) (n : List UInt8) (v : Ver) : PCtr PP n_impl_find_1 [o.enc false, .rp [str n], .rp v.cells] (boo (isP n v o)) := by
  obtain ⟨Ω, hΩ⟩ : ∃ Ω, Ω = std := ⟨_, rfl⟩
  obtain ⟨r, hr⟩ : ∃ r, r = isP n v o := ⟨_, rfl⟩
  rw [← hr]
  obtain ⟨ps, ds, bs, hen, hps, hds, hbs⟩ := enc_raw o
  rw [hen]
  unfold isP at hr
  obtain ⟨D, hD⟩ : ∃ x, decide (o.v = v) = x := ⟨_, rfl⟩
  rw [hD] at hr
  have htab := tab
  have hmo := hmo
  have hve := verEq
  refine PCtr.walk tab hΩ fn_impl_find_1 rfl ?_
  generalize PP = P at *
  cbv
  refine br (fun g => ?_) (fun g => ?_) <;> cbv
  · refine eqX_eql hve o.v v ?_
    rw [hD]
    cbv
    exact .of (congrArg boo (by rw [hr, show (o.n == n) = true by subst hΩ; exact g, Bool.true_and]; subst hΩ; rfl))
  · exact .of (congrArg boo (by rw [hr, show (o.n == n) = false by subst hΩ; exact g, Bool.false_and]))
theorem c_find (l : List Pck) (n : List UInt8) (v : Ver) (hl : l.length ≤ 1048576) : PCtr PP n_impl_find [encP l, str n, v.enc] (i64 (findF l n v)) := by
  obtain ⟨Ω, hΩ⟩ : ∃ Ω, Ω = std := ⟨_, rfl⟩
  obtain ⟨r, hr⟩ : ∃ r, r = findF l n v := ⟨_, rfl⟩
  rw [← hr]
  have hc := c_IndexFuncP l (by omega) n_impl_find_1 [.rp [str n], .rp v.cells] (isP n v) ⟨fun _ _ => rfl, rfl, fun _ => rfl, fun o _ => c_find1 o n v⟩
  unfold encP
  rw [show idx (isP n v) l = r from hr.symm] at hc
  generalize l.map (Pck.enc false) = xs at *
  have htab := tab
  have hmo := hmo
  have hve := verEq
  refine PCtr.walk tab hΩ fn_impl_find rfl ?_
  generalize PP = P at *
  cbv
  refine call_pure hΩ 5 hc (ro_clo2 rfl rfl) (fits _) rfl rfl ?_
  cbv
  exact .same
theorem c_l2Find (l : List Pck) (n : List UInt8) (v : Ver) (hl : l.length ≤ 1048576) : PCtr PP n_spec_l2Find [encP l, str n, v.enc] (i64 (findF l n v)) := by
  obtain ⟨Ω, hΩ⟩ : ∃ Ω, Ω = std := ⟨_, rfl⟩
  obtain ⟨r, hr⟩ : ∃ r, r = findF l n v := ⟨_, rfl⟩
  rw [← hr]
  obtain ⟨xs, hxs⟩ : ∃ xs, xs = l.map (Pck.enc false) := ⟨_, rfl⟩
  have hlen : xs.length = l.length := by rw [hxs, List.length_map]
  unfold encP
  rw [← hxs]
  have hcv := c_CompareVersions
  have htab := tab
  have hmo := hmo
  have hve := verEq
  refine PCtr.walk tab hΩ fn_spec_l2Find rfl ?_
  generalize PP = P at *
  cbv
  refine loopX htab hΩ (fun i : Nat => ⟨[(0, .sl false 8 xs), (1, .sc (.string (mkS n))), (5, .pt 0 0 0), (7, .sc (.int .i64 (Ω.int i)))], 32, [some ⟨3, [v.enc], true⟩]⟩) (fun i => i ≤ l.length ∧ r = idxFrom (isP n v) i (l.drop i)) (fun i => l.length - i) 0
    ⟨Nat.zero_le _, hr⟩ (Sbs.mk rfl rfl ⟨rfl, rfl, rfl, zeroI hΩ, trivial⟩) ?_
  rintro i ⟨hi, he⟩
  cbv
  refine br (fun h => ?_) (fun h => ?_) <;> cbv
  · replace h := ltI hΩ h
    obtain ⟨c, hcc⟩ := at_of (cs := l) (by omega : i < l.length)
    rw [idxFrom_at _ hcc] at he
    refine ⟨VC_drawn htab hΩ hmo (by kernel_rfl) ?_⟩
    cbv
    obtain ⟨ps, ds, bs, hen, hps, hds, hbs⟩ := enc_raw c
    refine ⟨⟨nnI hΩ⟩, _, (rdI hΩ hxs hcc).trans (congrArg some hen), ?_⟩
    cbv
    refine br (fun g => ?_) (fun g => ?_) <;> cbv
    · have g : (c.n == n) = true := by subst hΩ; exact g
      refine ⟨⟨nnI hΩ⟩, _, (rdI hΩ hxs hcc).trans (congrArg some hen), ?_⟩
      cbv
      have hcv := hcv c.v v
      have hp : isP n v c = decide (cmpV c.v v = 0) := by rw [isP, g, Bool.true_and]; congr 1; rw [cmpV_zero]
      generalize cmpV c.v v = k at *
      rw [hp] at he
      refine QCall_pure (k := 3) hcv rfl (fits _) rfl ?_
      cbv
      refine br (fun g2 => ?_) (fun g2 => ?_) <;> cbv
      · exact .of (congrArg i64 (by rw [he, if_pos (by subst hΩ; have := eq_t g2; simp [this])]; subst hΩ; rfl))
      · rw [if_neg (by subst hΩ; have := eq_f g2; simp [this])] at he
        exact ⟨i + 1, ⟨by omega, he⟩, by omega, Sbs.mk rfl rfl ⟨rfl, rfl, rfl, incI hΩ (by omega), trivial⟩⟩
    · have g : (c.n == n) = false := by subst hΩ; exact g
      rw [if_neg (by rw [isP, g]; simp)] at he
      exact ⟨i + 1, ⟨by omega, he⟩, by omega, Sbs.mk rfl rfl ⟨rfl, rfl, rfl, incI hΩ (by omega), trivial⟩⟩
  · replace h := geI hΩ h
    exact .of (congrArg i64 (by rw [he, List.drop_of_length_le (by omega)]; rfl))
theorem c_implCatalogFault (l : List Pck) (hl : l.length ≤ 1048576) (hs : ∀ o ∈ l, o.Small) : PCtr PP n_impl_CatalogFault [encP l] (i64 (catF l)) := by
  obtain ⟨Ω, hΩ⟩ : ∃ Ω, Ω = std := ⟨_, rfl⟩
  obtain ⟨r, hr⟩ : ∃ r, r = catF l := ⟨_, rfl⟩
  rw [← hr]
  have hpk : ∀ o ∈ l, PCtr PP n_impl_PackFault [o.enc false] (i64 (packF o)) := fun o ho => c_implPackFault o (hs o ho)
  have hfi := fun (i : Nat) n v => c_find (l.take i) n v (by simp; omega)
  unfold encP at hfi
  obtain ⟨xs, hxs⟩ : ∃ xs, xs = l.map (Pck.enc false) := ⟨_, rfl⟩
  have hlen : xs.length = l.length := by rw [hxs, List.length_map]
  unfold encP
  rw [← hxs]
  rw [show (∀ (i : Nat) n v, PCtr PP n_impl_find [.sl false 8 ((l.take i).map (Pck.enc false)), str n, Ver.enc v] (i64 (findF (l.take i) n v))) = (∀ (i : Nat) n v, PCtr PP n_impl_find [.sl false 8 (xs.take i), str n, Ver.enc v] (i64 (findF (l.take i) n v))) by simp only [List.map_take, ← hxs]] at hfi
  unfold catF at hr
  have htab := tab
  have hmo := hmo
  have hve := verEq
  refine PCtr.walk tab hΩ fn_impl_CatalogFault rfl ?_
  generalize PP = P at *
  cbv
  refine br (fun g => ?_) (fun g => ?_) <;> cbv
  · exact .of (congrArg i64 (by rw [hr, if_pos (by subst hΩ; have g : (24 : Int) < xs.length := gt_t g; omega)]))
  rw [if_neg (by subst hΩ; have g : (xs.length : Int) ≤ 24 := gt_f g; omega)] at hr
  refine loopX htab hΩ (fun i : Nat => ⟨[(0, .sl false 8 xs), (9, .sl false 8 xs), (10, .sc (.int .i64 (Ω.int (Ω.len xs)))), (11, .sc (.int .i64 (Ω.int i)))], 31, []⟩) (fun i => i ≤ l.length ∧ r = catFrom l i (l.drop i)) (fun i => l.length - i) 0
    ⟨Nat.zero_le _, hr⟩ (Sbs.mk rfl rfl ⟨rfl, rfl, rfl, zeroI hΩ, trivial⟩) ?_
  rintro i ⟨hi, he⟩
  cbv
  refine br (fun h => ?_) (fun h => ?_) <;> cbv
  · replace h := ltI hΩ h
    obtain ⟨c, hcc⟩ := at_of (cs := l) (by omega : i < l.length)
    rw [catFrom_at hcc] at he
    obtain ⟨ps, ds, bs, hen, hps, hds, hbs⟩ := enc_raw c
    refine ⟨⟨nnI hΩ⟩, _, (rdI hΩ hxs hcc).trans (congrArg some hen), ?_⟩
    cbv
    have hp := hpk c (List.mem_of_getElem? hcc)
    rw [hen] at hp
    generalize packF c = kc at *
    refine call_pure hΩ 3 hp rfl (fits _) rfl rfl ?_
    cbv
    refine br (fun g => ?_) (fun g => ?_) <;> cbv
    · exact .of (congrArg i64 (by rw [he, if_pos (neI_t hΩ g)]))
    rw [if_neg (by rw [neI_f hΩ g]; simp)] at he
    refine ⟨VC_drawn htab hΩ hmo (by kernel_rfl) ?_⟩
    cbv
    refine ⟨⟨trivial, nnI hΩ, Nat.zero_le _, by subst hΩ; show i ≤ xs.length; omega⟩, ?_⟩
    have hf : PCtr P n_impl_find [.sl false 8 (Ω.seg 0 (Ω.nat (Ω.int i)) xs), str c.n, c.v.enc] (i64 (findF (l.take i) c.n c.v)) := by subst hΩ; exact hfi i c.n c.v
    generalize findF (l.take i) c.n c.v = kf at *
    refine QCall_pure (k := 3) hf rfl (fits _) rfl ?_
    cbv
    refine br (fun g2 => ?_) (fun g2 => ?_) <;> cbv
    · exact .of (congrArg i64 (by rw [he, if_pos (geI_t hΩ g2)]))
    · rw [if_neg (Int.not_le.2 (geI_f hΩ g2))] at he
      exact ⟨i + 1, ⟨by omega, he⟩, by omega, Sbs.mkL (rows := []) rfl rfl rfl ⟨rfl, rfl, rfl, incI hΩ (by omega), trivial⟩⟩
  · replace h := geI hΩ h
    exact .of (congrArg i64 (by rw [he, List.drop_of_length_le (by omega)]; rfl))
theorem c_specCatalogFault (l : List Pck) (hl : l.length ≤ 1048576) (hs : ∀ o ∈ l, o.Small) : PCtr PP n_spec_CatalogFault [encP l] (i64 (catF l)) := by
  obtain ⟨Ω, hΩ⟩ : ∃ Ω, Ω = std := ⟨_, rfl⟩
  obtain ⟨r, hr⟩ : ∃ r, r = catF l := ⟨_, rfl⟩
  rw [← hr]
  have hpk : ∀ o ∈ l, PCtr PP n_spec_PackFault [o.enc false] (i64 (packF o)) := fun o ho => c_specPackFault o (hs o ho)
  have hfi := fun (i : Nat) n v => c_l2Find (l.take i) n v (by simp; omega)
  unfold encP at hfi
  obtain ⟨xs, hxs⟩ : ∃ xs, xs = l.map (Pck.enc false) := ⟨_, rfl⟩
  have hlen : xs.length = l.length := by rw [hxs, List.length_map]
  unfold encP
  rw [← hxs]
  rw [show (∀ (i : Nat) n v, PCtr PP n_spec_l2Find [.sl false 8 ((l.take i).map (Pck.enc false)), str n, Ver.enc v] (i64 (findF (l.take i) n v))) = (∀ (i : Nat) n v, PCtr PP n_spec_l2Find [.sl false 8 (xs.take i), str n, Ver.enc v] (i64 (findF (l.take i) n v))) by simp only [List.map_take, ← hxs]] at hfi
  unfold catF at hr
  have htab := tab
  have hmo := hmo
  have hve := verEq
  refine PCtr.walk tab hΩ fn_spec_CatalogFault rfl ?_
  generalize PP = P at *
  cbv
  refine br (fun g => ?_) (fun g => ?_) <;> cbv
  · exact .of (congrArg i64 (by rw [hr, if_pos (by subst hΩ; have g : (24 : Int) < xs.length := gt_t g; omega)]))
  rw [if_neg (by subst hΩ; have g : (xs.length : Int) ≤ 24 := gt_f g; omega)] at hr
  refine loopX htab hΩ (fun i : Nat => ⟨[(0, .sl false 8 xs), (3, .sc (.int .i64 (Ω.int i)))], 37, []⟩) (fun i => i ≤ l.length ∧ r = catFrom l i (l.drop i)) (fun i => l.length - i) 0
    ⟨Nat.zero_le _, hr⟩ (Sbs.mk rfl rfl ⟨rfl, zeroI hΩ, trivial⟩) ?_
  rintro i ⟨hi, he⟩
  cbv
  refine br (fun h => ?_) (fun h => ?_) <;> cbv
  · replace h := ltI hΩ h
    obtain ⟨c, hcc⟩ := at_of (cs := l) (by omega : i < l.length)
    rw [catFrom_at hcc] at he
    obtain ⟨ps, ds, bs, hen, hps, hds, hbs⟩ := enc_raw c
    refine ⟨⟨nnI hΩ⟩, _, (rdI hΩ hxs hcc).trans (congrArg some hen), ?_⟩
    cbv
    have hp := hpk c (List.mem_of_getElem? hcc)
    rw [hen] at hp
    generalize packF c = kc at *
    refine call_pure hΩ 3 hp rfl (fits _) rfl rfl ?_
    cbv
    refine br (fun g => ?_) (fun g => ?_) <;> cbv
    · exact .of (congrArg i64 (by rw [he, if_pos (neI_t hΩ g)]))
    rw [if_neg (by rw [neI_f hΩ g]; simp)] at he
    refine ⟨VC_drawn htab hΩ hmo (by kernel_rfl) ?_⟩
    cbv
    refine ⟨⟨trivial, nnI hΩ, Nat.zero_le _, by subst hΩ; show i ≤ xs.length; omega⟩, ?_⟩
    have hf : PCtr P n_spec_l2Find [.sl false 8 (Ω.seg 0 (Ω.nat (Ω.int i)) xs), str c.n, c.v.enc] (i64 (findF (l.take i) c.n c.v)) := by subst hΩ; exact hfi i c.n c.v
    generalize findF (l.take i) c.n c.v = kf at *
    refine ⟨⟨nnI hΩ⟩, _, (rdI hΩ hxs hcc).trans (congrArg some hen), ?_⟩
    cbv
    refine ⟨⟨nnI hΩ⟩, _, (rdI hΩ hxs hcc).trans (congrArg some hen), ?_⟩
    cbv
    refine QCall_pure (k := 3) hf rfl (fits _) rfl ?_
    cbv
    refine br (fun g2 => ?_) (fun g2 => ?_) <;> cbv
    · exact .of (congrArg i64 (by rw [he, if_pos (geI_t hΩ g2)]))
    · rw [if_neg (Int.not_le.2 (geI_f hΩ g2))] at he
      exact ⟨i + 1, ⟨by omega, he⟩, by omega, Sbs.mk rfl rfl ⟨rfl, incI hΩ (by omega), trivial⟩⟩
  · replace h := geI hΩ h
    exact .of (congrArg i64 (by rw [he, List.drop_of_length_le (by omega)]; rfl))
theorem c_arePlaces1 (k : Int) (l : List Pck) (hl : l.length ≤ 1048576) : PCtr PP n_impl_arePlaces_1 [i64 k, .rp [encP l]] (boo (!inB k 0 ((l.length : Int) - 1))) := by
  obtain ⟨Ω, hΩ⟩ : ∃ Ω, Ω = std := ⟨_, rfl⟩
  obtain ⟨r, hr⟩ : ∃ r, r = !inB k 0 ((l.length : Int) - 1) := ⟨_, rfl⟩
  rw [← hr]
  obtain ⟨xs, hxs⟩ : ∃ xs, xs = l.map (Pck.enc false) := ⟨_, rfl⟩
  have hlen : xs.length = l.length := by rw [hxs, List.length_map]
  unfold encP
  rw [← hxs]
  have hw : PCtr PP n_impl_within [i64 k, i64 0, i64 (Ω.ar .sub .i64 (Ω.int (Ω.len xs)) 1)] (boo (inB k 0 ((l.length : Int) - 1))) := by
    have := c_within k 0 ((l.length : Int) - 1)
    rw [show ((l.length : Int) - 1) = IntKind.i64.wrap ((xs.length : Int) - 1) by rw [wrap64 (by omega) (by omega), hlen]] at this ⊢
    subst hΩ
    exact this
  generalize inB k 0 ((l.length : Int) - 1) = b at *
  have htab := tab
  have hmo := hmo
  have hve := verEq
  refine PCtr.walk tab hΩ fn_impl_arePlaces_1 rfl ?_
  generalize PP = P at *
  cbv
  refine call_pure hΩ 3 hw rfl (fits _) rfl rfl ?_
  cbv
  exact .of (congrArg boo (by rw [hr]; subst hΩ; rfl))
theorem c_arePlaces (l : List Pck) (s : List Int) (hl : l.length ≤ 1048576) (hs : s.length ≤ 1048576) : PCtr PP n_impl_arePlaces [encP l, .sl false 1 (s.map i64)] (boo (s.all fun x => inB x 0 ((l.length : Int) - 1))) := by
  obtain ⟨Ω, hΩ⟩ : ∃ Ω, Ω = std := ⟨_, rfl⟩
  obtain ⟨r, hr⟩ : ∃ r, r = s.all fun x => inB x 0 ((l.length : Int) - 1) := ⟨_, rfl⟩
  rw [← hr]
  have hc := c_ContainsFuncI s (by omega) n_impl_arePlaces_1 [.rp [encP l]] (fun x => !inB x 0 ((l.length : Int) - 1)) ⟨fun _ _ => rfl, rfl, fun _ => rfl, fun k _ => c_arePlaces1 k l hl⟩
  rw [show (s.all fun x => inB x 0 ((l.length : Int) - 1)) = !(s.any fun x => !inB x 0 ((l.length : Int) - 1)) by rw [List.any_eq_not_all_not]; simp] at hr
  generalize (s.any fun x => !inB x 0 ((l.length : Int) - 1)) = b at *
  unfold encP at *
  generalize l.map (Pck.enc false) = xs at *
  generalize s.map i64 = ys at *
  have htab := tab
  have hmo := hmo
  have hve := verEq
  refine PCtr.walk tab hΩ fn_impl_arePlaces rfl ?_
  generalize PP = P at *
  cbv
  refine call_pure hΩ 5 hc (ro_clo2 rfl rfl) (fits _) rfl rfl ?_
  cbv
  exact .of (congrArg boo (by rw [hr]; subst hΩ; rfl))
theorem c_l3Set (l : List Pck) (s : List Int) (hl : l.length ≤ 1048576) (hs : s.length ≤ 1048576) : PCtr PP n_spec_l3Set [encP l, .sl false 1 (s.map i64)] (boo (setOk ((l.length : Int) - 1) s 0 s)) := by
  obtain ⟨Ω, hΩ⟩ : ∃ Ω, Ω = std := ⟨_, rfl⟩
  obtain ⟨r, hr⟩ : ∃ r, r = setOk ((l.length : Int) - 1) s 0 s := ⟨_, rfl⟩
  rw [← hr]
  obtain ⟨xs, hxs⟩ : ∃ xs, xs = s.map i64 := ⟨_, rfl⟩
  have hlen : xs.length = s.length := by rw [hxs, List.length_map]
  obtain ⟨cs, hcs⟩ : ∃ cs, cs = l.map (Pck.enc false) := ⟨_, rfl⟩
  have hcl : cs.length = l.length := by rw [hcs, List.length_map]
  unfold encP
  rw [← hcs]
  rw [← hxs]
  have hLm : Ω.ar .sub .i64 (Ω.int (Ω.len cs)) 1 = (l.length : Int) - 1 := by subst hΩ; show IntKind.i64.wrap ((cs.length : Int) - 1) = _; rw [hcl]; exact wrap64 (by omega) (by omega)
  have hw : ∀ k, PCtr PP n_spec_l1In [i64 k, i64 0, i64 (Ω.ar .sub .i64 (Ω.int (Ω.len cs)) 1)] (boo (inB k 0 ((l.length : Int) - 1))) := fun k => by rw [hLm]; exact c_l1In k 0 _
  generalize ((l.length : Int) - 1) = m at *
  have htab := tab
  have hmo := hmo
  have hve := verEq
  refine PCtr.walk tab hΩ fn_spec_l3Set rfl ?_
  generalize PP = P at *
  cbv
  refine loopX htab hΩ (fun i : Nat => ⟨[(0, .sl false 8 cs), (1, .sl false 1 xs), (5, .sc (.int .i64 (Ω.int i)))], 37, []⟩) (fun i => i ≤ s.length ∧ r = setOk m s i (s.drop i)) (fun i => s.length - i) 0
    ⟨Nat.zero_le _, hr⟩ (Sbs.mk rfl rfl ⟨rfl, rfl, zeroI hΩ, trivial⟩) ?_
  rintro i ⟨hi, he⟩
  cbv
  refine br (fun h => ?_) (fun h => ?_) <;> cbv
  · replace h := ltI hΩ h
    obtain ⟨c, hcc⟩ := at_of (cs := s) (by omega : i < s.length)
    rw [setOk_at _ hcc] at he
    refine ⟨VC_drawn htab hΩ hmo (by kernel_rfl) ?_⟩
    cbv
    refine ⟨⟨nnI hΩ⟩, _, rdI hΩ hxs hcc, ?_⟩
    cbv
    have hw1 := hw c
    generalize inB c 0 m = B at *
    refine QCall_pure (k := 3) hw1 rfl (fits _) rfl ?_
    cbv
    refine br (fun g => ?_) (fun g => ?_) <;> cbv
    · exact .of (congrArg boo (by rw [he, notT' hΩ g]; rfl))
    rw [notF' hΩ g, Bool.true_and] at he
    refine br (fun g2 => ?_) (fun g2 => ?_) <;> cbv
    · have hi0 : 0 < i := by subst hΩ; have g2 : (0 : Int) < i := gt_t g2; omega
      have hs1 := subI hΩ hi0 (by omega)
      obtain ⟨d, hd⟩ := at_of (cs := s) (by omega : i - 1 < s.length)
      rw [show (i == 0) = false by simp; omega, Bool.false_or, List.getD_eq_getElem?_getD, hd] at he
      refine ⟨⟨nnI hΩ⟩, _, rdI hΩ hxs hcc, ?_⟩
      cbv
      refine ⟨⟨hs1.1⟩, i64 d, by rw [hs1.2, hxs, List.getElem?_map, hd]; rfl, ?_⟩
      cbv
      refine br (fun g3 => ?_) (fun g3 => ?_) <;> cbv
      · exact .of (congrArg boo (by rw [he]; subst hΩ; have g3 : c ≤ d := le_t g3; rw [show decide ((some d).getD 0 < c) = false by simp; omega]; rfl))
      · rw [show decide ((some d).getD 0 < c) = true by subst hΩ; have g3 : d < c := le_f g3; simpa using g3, Bool.true_and] at he
        exact ⟨i + 1, ⟨by omega, he⟩, by omega, Sbs.mk rfl rfl ⟨rfl, rfl, incI hΩ (by omega), trivial⟩⟩
    · have hi0 : i = 0 := by subst hΩ; have g2 : (i : Int) ≤ 0 := gt_f g2; omega
      rw [show (i == 0) = true by simpa using hi0, Bool.true_or, Bool.true_and] at he
      refine br (fun g4 => ?_) (fun g4 => ?_)
      · subst hΩ; cases (show false = true from g4)
      cbv
      exact ⟨i + 1, ⟨by omega, he⟩, by omega, Sbs.mk rfl rfl ⟨rfl, rfl, incI hΩ (by omega), trivial⟩⟩
  · replace h := geI hΩ h
    exact .of (congrArg boo (by rw [he, List.drop_of_length_le (by omega)]; rfl))
theorem c_implSetFault (l : List Pck) (s : List Int) (hl : l.length ≤ 1048576) (ho : ∀ o ∈ l, o.Small) (hs : s.length ≤ 1048576) : PCtr PP n_impl_SetFault [encP l, .sl false 1 (s.map i64)] (i64 (setF l s)) := by
  obtain ⟨Ω, hΩ⟩ : ∃ Ω, Ω = std := ⟨_, rfl⟩
  obtain ⟨r, hr⟩ : ∃ r, r = setF l s := ⟨_, rfl⟩
  rw [← hr]
  have hc := c_implCatalogFault l hl ho
  have hp := c_arePlaces l s hl hs
  unfold setF at hr
  generalize catF l = k at *
  obtain ⟨xs, hxs⟩ : ∃ xs, xs = s.map i64 := ⟨_, rfl⟩
  have hlen : xs.length = s.length := by rw [hxs, List.length_map]
  obtain ⟨cs, hcs⟩ : ∃ cs, cs = l.map (Pck.enc false) := ⟨_, rfl⟩
  have hcl : cs.length = l.length := by rw [hcs, List.length_map]
  unfold encP at hc hp ⊢
  rw [← hcs] at hc hp ⊢
  rw [← hxs] at hp ⊢
  have htab := tab
  have hmo := hmo
  have hve := verEq
  refine PCtr.walk tab hΩ fn_impl_SetFault rfl ?_
  generalize PP = P at *
  cbv
  refine call_pure hΩ 3 hc rfl (fits _) rfl rfl ?_
  cbv
  refine br (fun g => ?_) (fun g => ?_) <;> cbv
  · exact .of (congrArg i64 (by rw [hr, if_pos (neI_t hΩ g)]))
  rw [if_neg (by rw [neI_f hΩ g]; simp)] at hr
  rw [setOk_eq, rise0] at hr
  generalize (s.all fun x => inB x 0 _) = B at *
  have fin : ∀ i, r = (if (riseAll s i (s.drop i) && B) = true then 0 else 1) → s.length ≤ i → r = if B = true then 0 else 1 := fun i he h => by
    rw [he, List.drop_of_length_le h, riseAll, Bool.true_and]
  refine loopX htab hΩ (fun i : Nat => ⟨[(0, .sl false 8 cs), (1, .sl false 1 xs), (6, .sc (.int .i64 (Ω.int i)))], 32, []⟩) (fun i => 1 ≤ i ∧ i ≤ s.length + 1 ∧ r = if (riseAll s i (s.drop i) && B) = true then 0 else 1) (fun i => s.length + 1 - i) 1
    ⟨Nat.le_refl _, by omega, hr⟩ (Sbs.mk rfl rfl ⟨rfl, rfl, by subst hΩ; rfl, trivial⟩) ?_
  rintro i ⟨hi0, hi, he⟩
  cbv
  refine br (fun h => ?_) (fun h => ?_) <;> cbv
  · replace h := ltI hΩ h
    obtain ⟨c, hcc⟩ := at_of (cs := s) (by omega : i < s.length)
    obtain ⟨d, hd⟩ := at_of (cs := s) (by omega : i - 1 < s.length)
    have hs1 := subI hΩ hi0 (by omega)
    rw [riseAll_at hcc, show (i == 0) = false by simp; omega, Bool.false_or, List.getD_eq_getElem?_getD, hd] at he
    refine ⟨VC_drawn htab hΩ hmo (by kernel_rfl) ?_⟩
    cbv
    refine ⟨⟨nnI hΩ⟩, _, rdI hΩ hxs hcc, ?_⟩
    cbv
    refine ⟨⟨hs1.1⟩, i64 d, by rw [hs1.2, hxs, List.getElem?_map, hd]; rfl, ?_⟩
    cbv
    refine br (fun g3 => ?_) (fun g3 => ?_) <;> cbv
    · exact .of (congrArg i64 (by rw [he]; subst hΩ; have g3 : c ≤ d := le_t g3; rw [show decide ((some d).getD 0 < c) = false by simp; omega]; rfl))
    · rw [show decide ((some d).getD 0 < c) = true by subst hΩ; have g3 : d < c := le_f g3; simpa using g3, Bool.true_and] at he
      exact ⟨i + 1, ⟨by omega, by omega, he⟩, by omega, Sbs.mk rfl rfl ⟨rfl, rfl, incI hΩ (by omega), trivial⟩⟩
  · replace h := geI hΩ h
    have hr := fin i he (by omega)
    refine call_pure hΩ 3 hp rfl (fits _) rfl rfl ?_
    cbv
    refine br (fun g => ?_) (fun g => ?_) <;> cbv
    · exact .of (congrArg i64 (by rw [hr, notT' hΩ g]; rfl))
    · exact .of (congrArg i64 (by rw [hr, notF' hΩ g]; rfl))
theorem c_specSetFault (l : List Pck) (s : List Int) (hl : l.length ≤ 1048576) (ho : ∀ o ∈ l, o.Small) (hs : s.length ≤ 1048576) : PCtr PP n_spec_SetFault [encP l, .sl false 1 (s.map i64)] (i64 (setF l s)) := by
  obtain ⟨Ω, hΩ⟩ : ∃ Ω, Ω = std := ⟨_, rfl⟩
  obtain ⟨r, hr⟩ : ∃ r, r = setF l s := ⟨_, rfl⟩
  rw [← hr]
  have hc := c_specCatalogFault l hl ho
  have hp := c_l3Set l s hl hs
  unfold setF at hr
  generalize catF l = k at *
  obtain ⟨xs, hxs⟩ : ∃ xs, xs = s.map i64 := ⟨_, rfl⟩
  have hlen : xs.length = s.length := by rw [hxs, List.length_map]
  obtain ⟨cs, hcs⟩ : ∃ cs, cs = l.map (Pck.enc false) := ⟨_, rfl⟩
  have hcl : cs.length = l.length := by rw [hcs, List.length_map]
  unfold encP at hc hp ⊢
  rw [← hcs] at hc hp ⊢
  rw [← hxs] at hp ⊢
  generalize setOk ((l.length : Int) - 1) s 0 s = b at *
  have htab := tab
  have hmo := hmo
  have hve := verEq
  refine PCtr.walk tab hΩ fn_spec_SetFault rfl ?_
  generalize PP = P at *
  cbv
  refine call_pure hΩ 3 hc rfl (fits _) rfl rfl ?_
  cbv
  refine br (fun g => ?_) (fun g => ?_) <;> cbv
  · exact .of (congrArg i64 (by rw [hr, if_pos (neI_t hΩ g)]))
  rw [if_neg (by rw [neI_f hΩ g]; simp)] at hr
  refine call_pure hΩ 3 hp rfl (fits _) rfl rfl ?_
  cbv
  refine br (fun g => ?_) (fun g => ?_) <;> cbv
  · exact .of (congrArg i64 (by rw [hr, notT' hΩ g]; rfl))
  · exact .of (congrArg i64 (by rw [hr, notF' hΩ g]; rfl))
end Go.Proofs.YtomfmdfamlmfiaaGreat

/- Walks: sets by a function value; who is barred. Plain theorems. -/
set_option linter.unusedVariables false
set_option linter.unusedSimpArgs false
namespace Go.Proofs.YtomfmdfamlmfiaaGreat
open Go Go.Fw
set_option maxRecDepth 100000
def ints (l : List Int) : A := .sl true 1 (l.map i64)
theorem frzInt (l : List Int) : (l.map i64).map frz = l.map i64 := by
  rw [List.map_map]; exact List.map_congr_left fun c _ => rfl
theorem noInt (l : List Int) : (∀ y ∈ l.map i64, noOwn y = true) ∧ (∀ c ∈ flat (l.map i64), okCell c = true) ∧ (∀ y ∈ l.map i64, isAggB y = false) ∧ (∀ y ∈ l.map i64, vStore.isAggA y = false) := by
  refine ⟨fun y hy => ?_, fun y hy => ?_, fun y hy => ?_, fun y hy => ?_⟩
  · obtain ⟨c, _, rfl⟩ := List.mem_map.1 hy; rfl
  · obtain ⟨x, hx, hy⟩ := List.mem_flatMap.1 hy
    obtain ⟨c, _, rfl⟩ := List.mem_map.1 hx
    have : y = i64 c := by simpa [i64, A.cells] using hy
    rw [this]; rfl
  · obtain ⟨c, _, rfl⟩ := List.mem_map.1 hy; rfl
  · obtain ⟨c, _, rfl⟩ := List.mem_map.1 hy; rfl
theorem roFInt (l : List Int) : roFree (.sl true 1 (l.map i64)) = true := by
  rw [roFree_sl, Bool.true_and, List.all_eq_true]
  intro x hx
  obtain ⟨c, _, rfl⟩ := List.mem_map.1 hx
  rfl
theorem idx_spec (p : Int → Bool) : ∀ (l : List Int) (i : Nat), (idxFrom p i l = -1 ∧ (l.filter fun x => !p x) = l) ∨ ∃ m, idxFrom p i l = ((i + m : Nat) : Int) ∧ m < l.length ∧ ((l.take (m + 1)).filter fun x => !p x) = l.take m
  | [], i => .inl ⟨rfl, rfl⟩
  | x :: xs, i => by
    rw [idxFrom]
    by_cases h : p x = true
    · right
      refine ⟨0, by rw [if_pos h]; simp, by simp, by simp [h]⟩
    · rw [if_neg h]
      rcases idx_spec p xs (i + 1) with ⟨h1, h2⟩ | ⟨m, h1, h2, h3⟩
      · left
        refine ⟨h1, ?_⟩
        rw [List.filter_cons_of_pos (by simpa using h), h2]
      · right
        refine ⟨m + 1, by rw [h1]; congr 1; omega, by simp; omega, ?_⟩
        rw [List.take_succ_cons, List.filter_cons_of_pos (by simpa using h), h3, List.take_succ_cons]
theorem filter_at {p : Int → Bool} {s : List Int} {j : Nat} {c : Int} (h : s[j]? = some c) : ((s.take (j + 1)).filter fun x => !p x) = ((s.take j).filter fun x => !p x) ++ (if p c then [] else [c]) := by
  rw [List.take_add_one, h, List.filter_append]
  congr 1
  by_cases hc : p c <;> simp [hc]
theorem take_set_add {ys : List A} {i : Nat} {z : A} (h : i < ys.length) : (ys.set i z).take (i + 1) = ys.take i ++ [z] := by
  rw [List.take_add_one, List.getElem?_set_self h, List.take_set_of_le (Nat.le_refl _)]; rfl
theorem c_Clone (s : List Int) (hs : s.length ≤ 1048576) : PCtr PP n_slices_Clone_L_int64_int64 [.sl false 1 (s.map i64)] (ints s) := by
  obtain ⟨Ω, hΩ⟩ : ∃ Ω, Ω = std := ⟨_, rfl⟩
  unfold ints
  obtain ⟨xs, hxs⟩ : ∃ xs, xs = s.map i64 := ⟨_, rfl⟩
  have hlen : xs.length = s.length := by rw [hxs, List.length_map]
  have hno := noInt s
  have hfz := frzInt s
  rw [← hxs] at hno hfz ⊢
  have htab := tab
  refine PCtr.walk tab hΩ fn_slices_Clone_L_int64_int64 rfl ?_
  generalize PP = P at *
  cbv
  intro b hb
  refine br (fun g => ?_) (fun g => ?_) <;> cbv
  · exact ⟨1, hb g⟩
  refine ⟨⟨hno.1, hno.2.1, ?_, ?_⟩, ⟨rfl, ?_⟩, .of ?_⟩
  · show (0 + xs.length) * 8 ≤ 140737488355328
    omega
  · show 0 + xs.length ≤ 9223372036854775807
    omega
  · subst hΩ; show 0 + xs.length ≤ (List.take 0 [] ++ xs).length; simp
  · subst hΩ; show A.sl true 1 ((List.take 0 [] ++ xs).take (0 + xs.length)) = _; rw [List.take_of_length_le (by simp)]; rfl
theorem c_DeleteFunc (s : List Int) (hs : s.length ≤ 1048576) (g : Nat) (caps : List A) (p : Int → Bool) (hf : CloB PP i64 s g caps p) : ECtr PP n_slices_DeleteFunc_L_int64_int64 [.sl true 1 (s.map i64), .clo g caps] (ints (s.filter fun x => !p x)) := by
  obtain ⟨Ω, hΩ⟩ : ∃ Ω, Ω = std := ⟨_, rfl⟩
  unfold ints
  have hc := c_IndexFuncI s (by omega) g caps p hf
  have hro := hf.ro
  have hcn := hf.no
  have hrun : ∀ x ∈ s, PCtr PP (Ω.cloN g) (Ω.cloA g [i64 x] caps) (boo (p x)) := by subst hΩ; exact hf.run
  obtain ⟨k, hk⟩ : ∃ k, idx p s = k := ⟨_, rfl⟩
  rw [hk] at hc
  obtain ⟨xs, hxs⟩ : ∃ xs, xs = s.map i64 := ⟨_, rfl⟩
  have hlen : xs.length = s.length := by rw [hxs, List.length_map]
  have hno := noInt s
  have hfz := frzInt s
  rw [← hxs] at hno hfz hc ⊢
  have hle : Ω.len xs = xs.length := by subst hΩ; rfl
  obtain ⟨zs, hzs⟩ : ∃ zs, zs = (s.filter fun x => !p x).map i64 := ⟨_, rfl⟩
  rw [← hzs]
  have htab := tab
  refine ECtr.walk tab hΩ 3 fn_slices_DeleteFunc_L_int64_int64 rfl (by simp only [rootO, rootO.rootOL, List.all_cons, List.all_nil, noOwn_vw, noOwn_clo, hcn]; rfl) ?_
  generalize PP = P at *
  cbv
  refine call_pure hΩ 5 hc (ro_clo2 (roV rfl hle hfz) (hro _ 0)) (fits _) rfl rfl ?_
  cbv
  refine br (fun g1 => ?_) (fun g1 => ?_) <;> cbv
  · have g1 : k = -1 := eqI_t hΩ g1
    rcases idx_spec p s 0 with ⟨h1, h2⟩ | ⟨m, h1, _⟩
    · refine ⟨⟨rfl, by subst hΩ; exact Nat.le_refl _⟩, .of ?_⟩
      rw [hzs, h2, ← hxs]
      subst hΩ
      show A.sl true 1 (xs.take xs.length) = _
      rw [List.take_length]
    · have : k = ((0 + m : Nat) : Int) := by rw [← hk]; exact h1
      omega
  have g1 : k ≠ -1 := eqI_f hΩ g1
  obtain ⟨m, hkm, hml, hfm⟩ : ∃ m : Nat, k = Ω.int m ∧ m < s.length ∧ ((s.take (m + 1)).filter fun x => !p x) = s.take m := by
    rcases idx_spec p s 0 with ⟨h1, _⟩ | ⟨m, h1, h2, h3⟩
    · exact absurd (hk.symm.trans h1) g1
    · rw [Nat.zero_add] at h1
      exact ⟨m, by subst hΩ; exact hk.symm.trans h1, h2, h3⟩
  subst hkm
  obtain ⟨F, hF⟩ : ∃ F : Nat → List Int, F = fun j => (s.take j).filter fun x => !p x := ⟨_, rfl⟩
  have hFat : ∀ j c, s[j]? = some c → F (j + 1) = F j ++ (if p c then [] else [c]) := fun j c h => by rw [hF]; exact filter_at h
  have hFm : F (m + 1) = s.take m := by rw [hF]; exact hfm
  have hFml : (F (m + 1)).length = m := by rw [hFm]; simp; omega
  have hFn : F s.length = s.filter fun x => !p x := by rw [hF]; simp only; rw [List.take_length]
  refine loopX htab hΩ (fun i : Nat × List A => ⟨[(0, .vw 0 0 (Ω.len xs)), (1, .clo g caps), (5, .sc (.int .i64 (Ω.int (F i.1).length))), (6, .sc (.int .i64 (Ω.int i.1)))], 42, [some ⟨1, i.2, false⟩]⟩)
    (fun i => (F i.1).length < i.1 ∧ i.1 ≤ s.length ∧ i.2.length = s.length ∧ i.2.take (F i.1).length = (F i.1).map i64 ∧ (∀ q, i.1 ≤ q → i.2[q]? = xs[q]?) ∧ (∀ y ∈ i.2, isAggB y = false) ∧ (∀ y ∈ i.2, vStore.isAggA y = false))
    (fun i => s.length - i.1) (m + 1, xs) ⟨by dsimp only; omega, by dsimp only; omega, hlen, ?_, fun _ _ => rfl, hno.2.2.1, hno.2.2.2⟩ (Sbs.mk rfl rfl ⟨rfl, rfl, by rw [hFml]; rfl, incI hΩ (by omega), trivial⟩) ?_
  · dsimp only
    rw [hFml, hFm, hxs, List.map_take]
  rintro ⟨j, ys⟩ ⟨h1, h2, h3, h4, h5, h6, h7⟩
  dsimp only at h1 h2 h3 h4 h5 h6 h7
  obtain ⟨f, hf2⟩ : ∃ f, f = (F j).length := ⟨_, rfl⟩
  rw [← hf2] at h1 h4
  dsimp only
  rw [← hf2]
  cbv
  refine br (fun h => ?_) (fun h => ?_) <;> cbv
  · replace h := ltI hΩ h
    obtain ⟨c, hcc⟩ := at_of (cs := s) (by omega : j < s.length)
    have hyj : ys[j]? = some (i64 c) := by rw [h5 j (Nat.le_refl _), hxs, List.getElem?_map, hcc]; rfl
    have hFj := hFat j c hcc
    have hr1 := hrun c (List.mem_of_getElem? hcc)
    refine ⟨⟨ixI hΩ (by show j < Ω.len xs; rw [hle]; exact h)⟩, i64 c, atI hΩ hyj, ?_⟩
    cbv
    refine call_pure hΩ 4 hr1 (ro_cloA hΩ rfl (hro _ 0)) (fits _) rfl rfl ?_
    cbv
    refine br (fun g => ?_) (fun g => ?_) <;> cbv
    · have g := notT' hΩ g
      rw [g] at hFj
      have hFl : (F (j + 1)).length = f + 1 := by rw [hFj, hf2]; simp
      have hfl : f < ys.length := by omega
      refine ⟨⟨ixI hΩ (by show f < Ω.len xs; rw [hle]; omega)⟩, ⟨by subst hΩ; show 0 + f < ys.length; omega, h7⟩, ?_⟩
      refine ⟨(j + 1, ys.set f (i64 c)), ⟨by dsimp only; omega, by dsimp only; omega, by simpa using h3, ?_, fun q hq => ?_, fun y hy => ?_, fun y hy => ?_⟩, by dsimp only; omega, Sbs.mk rfl ?_ ⟨rfl, rfl, ?_, incI hΩ (by omega), trivial⟩⟩
      · dsimp only; rw [hFl, take_set_add hfl, h4, hFj, List.map_append]; rfl
      · dsimp only at hq ⊢; rw [List.getElem?_set_ne (by omega)]; exact h5 q (by omega)
      · rcases List.mem_or_eq_of_mem_set hy with hy | rfl
        · exact h6 y hy
        · rfl
      · rcases List.mem_or_eq_of_mem_set hy with hy | rfl
        · exact h7 y hy
        · rfl
      · subst hΩ; show [some (Row.mk 1 (ys.set (0 + f) (i64 c)) false)] = _; rw [Nat.zero_add]
      · dsimp only; rw [hFl]; exact incI hΩ (by omega)
    · have g : p c = true := notF' hΩ g
      rw [g] at hFj
      have hFl : (F (j + 1)).length = f := by rw [hFj, hf2]; simp
      exact ⟨(j + 1, ys), ⟨by dsimp only; omega, by dsimp only; omega, h3, by dsimp only; rw [hFl, h4, hFj]; simp, fun q hq => h5 q (by dsimp only at hq; omega), h6, h7⟩, by dsimp only; omega, Sbs.mk rfl rfl ⟨rfl, rfl, by dsimp only; rw [hFl]; rfl, incI hΩ (by omega), trivial⟩⟩
  · have hj : j = s.length := by have := geI hΩ h; omega
    subst hj
    refine ⟨⟨nnI hΩ, trivial, ?_, Nat.le_refl _⟩, ⟨?_, h6⟩, ⟨trivial, nnI hΩ, Nat.zero_le _, ?_⟩, ⟨?_, ?_⟩, .of ?_⟩
    · subst hΩ; show f ≤ xs.length; omega
    · subst hΩ; show 0 + f + (xs.length - f) = ys.length; omega
    · subst hΩ; show f ≤ xs.length; omega
    · subst hΩ; rfl
    · subst hΩ; show f - 0 ≤ (ys.take (0 + f) ++ List.replicate (xs.length - f) (A.sc (Value.int IntKind.i64 0))).length; simp; omega
    · subst hΩ
      show A.sl true 1 ((ys.take (0 + f) ++ List.replicate (xs.length - f) (A.sc (Value.int IntKind.i64 0))).take (f - 0)) = _
      rw [Nat.zero_add, Nat.sub_zero, List.take_append_of_le_length (by simp; omega), List.take_take, Nat.min_self, h4, hzs, hFn]
theorem c_those1 (g : Nat) (caps : List A) (b : Bool) (k : Int) (hro : ∀ S k, mapO (roO S (k + 4)) caps = some caps) (hf : PCtr PP (Fw.cloN g) (Fw.cloA g [i64 k] caps) (boo b)) : PCtr PP n_impl_those_1 [i64 k, .rp [.clo g caps]] (boo (!b)) := by
  obtain ⟨Ω, hΩ⟩ : ∃ Ω, Ω = std := ⟨_, rfl⟩
  have hrun : PCtr PP (Ω.cloN g) (Ω.cloA g [i64 k] caps) (boo b) := by subst hΩ; exact hf
  have htab := tab
  refine PCtr.walk tab hΩ fn_impl_those_1 rfl ?_
  generalize PP = P at *
  cbv
  refine call_pure hΩ 4 hrun (ro_cloA hΩ rfl (hro _ 0)) (fits _) rfl rfl ?_
  cbv
  exact .of (congrArg boo (by subst hΩ; rfl))
theorem c_those (s : List Int) (hs : s.length ≤ 1048576) (g : Nat) (caps : List A) (p : Int → Bool) (hf : CloB PP i64 s g caps p) : PCtr PP n_impl_those [.sl false 1 (s.map i64), .clo g caps] (ints (s.filter p)) := by
  obtain ⟨Ω, hΩ⟩ : ∃ Ω, Ω = std := ⟨_, rfl⟩
  have hcl := c_Clone s hs
  have hd := c_DeleteFunc s hs n_impl_those_1 [.rp [.clo g caps]] (fun x => !p x) ⟨fun S k => by rfl, rfl, fun _ => rfl, fun x hx => c_those1 g caps (p x) x hf.ro (hf.run x hx)⟩
  have hro := hf.ro
  have hcn := hf.no
  have hkl := hf.kl
  have hroF := roFInt s
  have hroZ := roFInt (s.filter p)
  rw [show (s.filter fun x => !!p x) = s.filter p by congr 1; funext x; simp] at hd
  unfold ints at hcl hd ⊢
  generalize s.map i64 = xs at *
  generalize (s.filter p).map i64 = zs at *
  have htab := tab
  refine PCtr.walk tab hΩ fn_impl_those rfl ?_
  generalize PP = P at *
  cbv
  refine call_pure hΩ 3 hcl rfl (fits _) hroF rfl ?_
  cbv
  refine call_eat2 (row := ⟨1, xs, false⟩) hΩ 8 hd rfl rfl (by subst hΩ; rfl) (ro_clo1 (mapOne (roPt (x := .clo g caps) (by show some (Row.mk 1 [A.clo g (killL 1 caps)] true) = _; rw [hkl]) (ro_clo1 (hro _ 1))))) (fits _) hroZ rfl ?_
  cbv
  refine ⟨⟨rfl, by subst hΩ; exact Nat.le_refl _⟩, .of ?_⟩
  subst hΩ
  show A.sl true 1 (zs.take zs.length) = _
  rw [List.take_length]
end Go.Proofs.YtomfmdfamlmfiaaGreat

/- Regions that draw their order, of which a first part only reads but for one slice that is made, and the rest stands in one order. Plain theorems, no condition. -/
set_option linter.unusedVariables false
set_option linter.unusedSimpArgs false
namespace Go.Fw
section
variable {P : Program}
theorem under_same {t : TypeId} {d : TypeDesc} {w w1 : World} (h : (underlying t).run P w = .ok d w1) : w1 = w := by
  unfold underlying at h
  simp only [Sem.run_bind, run_program, Result.andThen_ok] at h
  split at h
  · simp at h; exact h.2.symm
  · simp at h
theorem info_same {t : TypeId} {d : TypeInfo} {w w1 : World} (h : (typeInfo t).run P w = .ok d w1) : w1 = w := by
  unfold typeInfo at h
  simp only [Sem.run_bind, run_program, Result.andThen_ok] at h
  split at h
  · simp at h; exact h.2.symm
  · simp at h
theorem size_same {t : TypeId} {d : Nat} {w w1 : World} (h : (sizeOf t).run P w = .ok d w1) : w1 = w := by
  unfold sizeOf at h
  simp only [Sem.run_bind] at h
  generalize hr : (typeInfo t).run P w = r at h
  cases r with
  | halt => simp [Result.andThen] at h
  | ok d w2 =>
    have := info_same hr
    subst this
    simp at h
    exact h.2.symm
theorem zero_same {t : TypeId} {d : Value} {w w1 : World} (h : (zeroValue t).run P w = .ok d w1) : w1 = w := by
  unfold zeroValue at h
  simp only [Sem.run_bind] at h
  generalize hr : (typeInfo t).run P w = r at h
  cases r with
  | halt => simp [Result.andThen] at h
  | ok d w2 =>
    have := info_same hr
    subst this
    simp only [Result.andThen_ok] at h
    split at h
    · simp at h; exact h.2.symm
    · simp at h
theorem newRow_below {t : TypeId} {cs : Array Value} {d : Addr} {w w1 : World} (h : (newRow t cs).run P w = .ok d w1) : Go.RowKit.Below w.heap.size w w1 := by
  have : (newRow t cs).run P w = .ok ⟨w.heap.size, 0, none⟩ (w.alloc (.cells cs t)) := by simp [newRow]
  rw [this] at h
  simp only [Result.ok.injEq] at h
  rw [← h.2]
  refine ⟨rfl, rfl, rfl, ?_, fun k hk => heap_alloc_lt w _ hk⟩
  show w.heap.size ≤ (w.heap.push _).size
  rw [Array.size_push]
  omega
def BelowS (P : Program) {α : Type} (m : Sem α) : Prop := ∀ w v w', m.run P w = .ok v w' → Go.RowKit.Below w.heap.size w w'
theorem BelowS.pure {α : Type} (x : α) : BelowS P (Pure.pure x : Sem α) := fun w v w' h => by
  simp only [Sem.run_pure, Result.ok.injEq] at h
  rw [← h.2]; exact .refl _ _
theorem BelowS.bind {α β : Type} {m : Sem α} {f : α → Sem β} (h : BelowS P m) (hf : ∀ x, BelowS P (f x)) : BelowS P (m >>= f) := fun w v w' hr => by
  rw [Sem.run_bind] at hr
  generalize hm : m.run P w = r at hr
  cases r with
  | halt => simp [Result.andThen] at hr
  | ok x w1 =>
    simp only [Result.andThen_ok] at hr
    have h1 := h _ _ _ hm
    have h2 := hf x _ _ _ hr
    exact ⟨h2.os.trans h1.os, h2.tape.trans h1.tape, h2.output.trans h1.output, Nat.le_trans h1.size h2.size, fun b hb => (h2.block b (Nat.lt_of_lt_of_le hb h1.size)).trans (h1.block b hb)⟩
theorem BelowS.same {α : Type} {m : Sem α} (h : ∀ w v w', m.run P w = .ok v w' → w' = w) : BelowS P m := fun w v w' hr => by
  rw [h _ _ _ hr]; exact .refl _ _
theorem BelowS.halts {α : Type} {m : Sem α} (h : ∀ w v w', m.run P w ≠ .ok v w') : BelowS P m := fun w v w' hr => absurd hr (h _ _ _)
theorem BelowS.bind_halts {α β : Type} {m : Sem α} {f : α → Sem β} (h : ∀ w v w', m.run P w ≠ .ok v w') : BelowS P (m >>= f) := fun w v w' hr => by
  rw [Sem.run_bind] at hr
  generalize hm : m.run P w = r at hr
  cases r with
  | halt => simp [Result.andThen] at hr
  | ok x w1 => exact absurd hm (h _ _ _)
theorem buildSlice_below {t : TypeId} {len : Nat} {parts : Array (Nat × Value)} : BelowS P (Instr.buildSlice t len parts) := by
  unfold Instr.buildSlice
  refine BelowS.bind (.same fun w v w' h => under_same h) fun d => ?_
  split
  · refine BelowS.bind (.same fun w v w' h => size_same h) fun sz => ?_
    dsimp only
    split
    · exact BelowS.bind_halts fun w v w' h => by simp at h
    · split
      · refine BelowS.bind (BelowS.pure _) fun z => ?_
        skip
        split
        · exact BelowS.bind (fun w v w' h => newRow_below h) fun _ => BelowS.pure _
        · exact BelowS.halts fun w v w' h => by simp at h
      · refine BelowS.bind (.same fun w v w' h => zero_same h) fun z => ?_
        refine BelowS.bind (BelowS.pure _) fun z => ?_
        skip
        split
        · exact BelowS.bind (fun w v w' h => newRow_below h) fun _ => BelowS.pure _
        · exact BelowS.halts fun w v w' h => by simp at h
  · exact BelowS.halts fun w v w' h => by simp at h
end
/-! Any order, told by what each operation yields. -/
section
variable {P : Program} {ops : Array Oper} {md : Region.Mode} {Y : Nat → Value → Sem Next → Prop}
def gOp (ops : Array Oper) (Y : Nat → Value → Sem Next → Prop) (i : Nat) (K : Act → Prop) (a : Act) : Prop :=
  match ops[i]? with
  | none => K a
  | some o => if Region.wanted o (yielded ops a.tmps) then ∃ v, Y i v (execOp a.eval o) ∧ K (a.put o.dst v) else K (a.put o.dst undef)
def YG (ops : Array Oper) (Y : Nat → Value → Sem Next → Prop) (i : Nat) (o : Oper) (v : Value) (a : Act) : Prop :=
  (Region.wanted o (yielded ops a.tmps) = true ∧ Y i v (execOp a.eval o)) ∨ (Region.wanted o (yielded ops a.tmps) = false ∧ v = undef)
theorem gOp_mono {i : Nat} {a : Act} {K K' : Act → Prop} (h : ∀ a, K a → K' a) (hh : gOp ops Y i K a) : gOp ops Y i K' a := by
  unfold gOp at *
  split
  · exact h _ (by simpa [*] using hh)
  · rename_i o ho
    simp only [ho] at hh
    split
    · rename_i hw; simp only [hw, if_true] at hh; obtain ⟨v, h1, h2⟩ := hh; exact ⟨v, h1, h _ h2⟩
    · rename_i hw; simp only [hw] at hh; exact h _ hh
theorem YG.gOp {i : Nat} {o : Oper} {v : Value} {a : Act} (hi : ops[i]? = some o) (hy : YG ops Y i o v a) {K : Act → Prop} (h : K (a.put o.dst v)) : Fw.gOp ops Y i K a := by
  unfold Fw.gOp
  simp only [hi]
  rcases hy with ⟨hw, hv⟩ | ⟨hw, rfl⟩
  · simp only [hw, if_true]; exact ⟨v, hv, h⟩
  · simp only [hw, Bool.false_eq_true, if_false]; exact h
theorem YG.of_same {i : Nat} {o : Oper} {v : Value} {a a' : Act} (hy : YG ops Y i o v a) (he : execOp a'.eval o = execOp a.eval o)
    (hw : Region.wanted o (yielded ops a'.tmps) = Region.wanted o (yielded ops a.tmps)) : YG ops Y i o v a' := by
  unfold YG at *
  rw [he, hw]
  exact hy
theorem gOp_put {i j : Nat} {oi oj : Oper} {v : Value} (hj : ops[j]? = some oj) (hap : oi.apart ops oj = true) (hsi : ∀ cs b, oi.op ≠ .select cs b) (hsj : ∀ cs b, oj.op ≠ .select cs b) {K : Act → Prop} {a : Act}
    (hy : YG ops Y i oi v a) (h : gOp ops Y j K (a.put oi.dst v)) : gOp ops Y j (fun a' => YG ops Y i oi v a' ∧ K (a'.put oi.dst v)) a := by
  obtain ⟨h1, h2, h3⟩ := Oper.apart_spec hap
  have keep : ∀ (a : Act), YG ops Y i oi v a → ∀ u, YG ops Y i oi v (a.put oj.dst u) := fun a hy u => hy.of_same (execOp_put oi hsi a oj.dst u h3) (wanted_put oi a oj.dst u h3)
  unfold gOp at *
  simp only [hj] at *
  rw [wanted_put oj a oi.dst v h1] at h
  split
  · rename_i hw
    simp only [hw, if_true] at h
    obtain ⟨u, hu, hn⟩ := h
    rw [execOp_put oj hsj a oi.dst v h1] at hu
    exact ⟨u, hu, keep a hy u, by rw [← Act.put_comm a v u h2]; exact hn⟩
  · rename_i hw
    simp only [hw] at h
    exact ⟨keep a hy _, by rw [← Act.put_comm a v undef h2]; exact h⟩
def anyG (md : Region.Mode) (ops : Array Oper) (Y : Nat → Value → Sem Next → Prop) (n : Nat) (L : Array Bool → Act → Prop) : Nat → Array Bool → Act → Prop
  | 0, listed, a => L listed a
  | f + 1, listed, a => Region.ready md ops listed ≠ [] ∧ ∀ i ∈ Region.ready md ops listed, i < n ∧ gOp ops Y i (anyG md ops Y n L f (listed.setIfInBounds i true)) a
theorem anyG_first {n i : Nat} {oi : Oper} {v : Value} {L : Array Bool → Act → Prop} (hi : ops[i]? = some oi) (hsel : ∀ (j : Nat) (o : Oper) cs b, ops[j]? = some o → o.op ≠ .select cs b) (hin : i < n)
    (hs : Region.sinkB md ops n = true) (hc : Region.chainB md ops n = true) (hn : n < ops.size) (hdone : ∀ listed a, L listed a → ∀ j ∈ Region.ready md ops listed, n ≤ j) :
    ∀ (f : Nat) (listed : Array Bool) (a : Act), HeadInv md ops n listed →
      (∀ j oj, ops[j]? = some oj → j ≠ i → listed.getD j true = false → (∀ e ∈ oj.after, Region.binds md e = true → e.on ≠ i) → oi.apart ops oj = true) →
      i ∈ Region.ready md ops listed → YG ops Y i oi v a →
      anyG md ops Y n L f (listed.setIfInBounds i true) (a.put oi.dst v) → anyG md ops Y n L (f + 1) listed a := by
  intro f
  induction f with
  | zero =>
    intro listed a inv _ hr hy H
    have hun := (mem_ready.1 hr).1
    refine ⟨fun h => (by rw [h] at hr; cases hr), fun j hj => ?_⟩
    have hjn : j < n := (Nat.lt_or_ge j n).elim id fun h => absurd hj (tail_waits hs hc hn inv _ i rfl hin hun j h)
    refine ⟨hjn, ?_⟩
    by_cases hji : j = i
    · subst hji; exact hy.gOp hi H
    · have := hdone _ _ H j (ready_mono hj hji)
      omega
  | succ f ih =>
    intro listed a inv hfree hr hy H
    have hun := (mem_ready.1 hr).1
    refine ⟨fun h => (by rw [h] at hr; cases hr), fun j hj => ?_⟩
    have hjn : j < n := (Nat.lt_or_ge j n).elim id fun h => absurd hj (tail_waits hs hc hn inv _ i rfl hin hun j h)
    refine ⟨hjn, ?_⟩
    by_cases hji : j = i
    · subst hji; exact hy.gOp hi H
    · have h1 := (H.2 j (ready_mono hj hji)).2
      obtain ⟨hjun, oj, hoj, hall⟩ := mem_ready.1 hj
      have hnot : ∀ e ∈ oj.after, Region.binds md e = true → e.on ≠ i := fun e he hb heq => by
        have h1 := hall e he hb
        rw [heq, getD_both hun] at h1
        cases h1
      have h2 := gOp_put hoj (hfree j oj hoj hji hjun hnot) (fun cs b => hsel i oi cs b hi) (fun cs b => hsel j oj cs b hoj) hy h1
      have hfree' : ∀ k ok, ops[k]? = some ok → k ≠ i → (listed.setIfInBounds j true).getD k true = false →
          (∀ e ∈ ok.after, Region.binds md e = true → e.on ≠ i) → oi.apart ops ok = true := fun k ok hk hki hun hno => by
        refine hfree k ok hk hki ?_ hno
        by_cases hjk : j = k
        · subst hjk; exact hjun
        · rw [getD_set_ne true hjk] at hun; exact hun
      refine gOp_mono (fun a' h3 => ih (listed.setIfInBounds j true) a' (inv.set hj hjn) hfree' (ready_mono hr (Ne.symm hji)) h3.1 ?_) h2
      rw [Array.setIfInBounds_comm _ _ hji]
      exact h3.2
def YA (P : Program) (w1 ws : World) (s : Nat) (i : Nat) (v : Value) (m : Sem Next) : Prop :=
  if i = s then m.run P w1 = .ok (.value v) ws else ∀ w', Go.RowKit.Below w1.heap.size w1 w' → m.run P w' = .ok (.value v) w'
def wpV (P : Program) (ops : Array Oper) (w1 : World) (Q : Act → Prop) : List Oper → Act → Prop
  | [], a => Q a
  | o :: rest, a => if Region.wanted o (yielded ops a.tmps) then ∃ v, (∀ w', Go.RowKit.Below w1.heap.size w1 w' → (execOp a.eval o).run P w' = .ok (.value v) w') ∧ wpV P ops w1 Q rest (a.put o.dst v)
      else wpV P ops w1 Q rest (a.put o.dst undef)
theorem anyG_lexA {s g : Nat} {os : Oper} {w1 : World} {Lq : World → Act → Prop} (hos : ops[s]? = some os) (hsg : os.guard = none) (hsel : Region.noSelect ops = true) (hs : Region.sinkB md ops (s + 1) = true) (hc : Region.chainB md ops (s + 1) = true) (hn : s + 1 < ops.size) :
    ∀ (l : List Oper) (k : Nat) (listed : Array Bool) (a : Act), (∀ j, j < l.length → l[j]? = ops[k + j]?) → k + l.length = s → HeadInv md ops (s + 1) listed → Region.lexHead md ops g (l.length + 1) k listed = true →
      wpV P ops w1 (fun a' => ∃ v ws, (execOp a'.eval os).run P w1 = .ok (.value v) ws ∧ Go.RowKit.Below w1.heap.size w1 ws ∧ Lq ws (a'.put os.dst v)) l a →
      ∃ ws, Go.RowKit.Below w1.heap.size w1 ws ∧ anyG md ops (YA P w1 ws s) (s + 1) (fun listed' a' => (Region.seqB md ops g (s + 1) listed' = true ∧ Lq ws a') ∧ listed'.getD s false = true) (l.length + 1) listed a
  | [], k, listed, a, _, hk, inv, hB, h => by
    have : k = s := by simpa using hk
    subst this
    obtain ⟨v, ws, h1, h2, h3⟩ := h
    simp only [List.length_nil, Nat.zero_add, Region.lexHead, Bool.and_eq_true] at hB
    obtain ⟨⟨hr, hf⟩, hB'⟩ := hB
    refine ⟨ws, h2, ?_⟩
    exact anyG_first (Y := YA P w1 ws k) hos (Region.noSelect_spec hsel) (Nat.lt_succ_self k) hs hc hn (fun listed' a' hL => seqB_ready hL.1.1) 0 listed a inv (Region.free_spec hos hf) (by simpa using hr)
      (.inl ⟨by simp [Region.wanted, hsg], by unfold YA; rw [if_pos rfl]; exact h1⟩) ⟨⟨hB', h3⟩, by have := inv.size; simp; omega⟩
  | o :: l, k, listed, a, hl, hk, inv, hB, h => by
    have h0 : ops[k]? = some o := by simpa using (hl 0 (by simp)).symm
    rw [List.length_cons, Region.lexHead] at hB
    simp only [Bool.and_eq_true] at hB
    obtain ⟨⟨hr, hf⟩, hB'⟩ := hB
    have hkn : k < s := by simp only [List.length_cons] at hk; omega
    have hr' : k ∈ Region.ready md ops listed := by simpa using hr
    have key : ∀ v, (∀ ws, YG ops (YA P w1 ws s) k o v a) → wpV P ops w1 (fun a' => ∃ v ws, (execOp a'.eval os).run P w1 = .ok (.value v) ws ∧ Go.RowKit.Below w1.heap.size w1 ws ∧ Lq ws (a'.put os.dst v)) l (a.put o.dst v) →
        ∃ ws, Go.RowKit.Below w1.heap.size w1 ws ∧ anyG md ops (YA P w1 ws s) (s + 1) (fun listed' a' => (Region.seqB md ops g (s + 1) listed' = true ∧ Lq ws a') ∧ listed'.getD s false = true) ((o :: l).length + 1) listed a := fun v hy h => by
      obtain ⟨ws, hb, hG⟩ := anyG_lexA (Lq := Lq) hos hsg hsel hs hc hn l (k + 1) (listed.setIfInBounds k true) (a.put o.dst v) (fun j hj => by have := hl (j + 1) (by simp; omega); simpa [Nat.add_assoc, Nat.add_comm 1 j] using this)
        (by simp only [List.length_cons] at hk; omega) (inv.set hr' (by omega)) hB' h
      exact ⟨ws, hb, anyG_first h0 (Region.noSelect_spec hsel) (by omega) hs hc hn (fun listed' a' hL => seqB_ready hL.1.1) (l.length + 1) listed a inv (Region.free_spec h0 hf) hr' (hy ws) hG⟩
    unfold wpV at h
    split at h
    · rename_i hw
      obtain ⟨v, h1, h2⟩ := h
      exact key v (fun ws => .inl ⟨hw, by unfold YA; rw [if_neg (by omega)]; exact h1⟩) h2
    · rename_i hw
      exact key undef (fun ws => .inr ⟨by simpa using hw, rfl⟩) h
theorem any_of_G {n g s : Nat} {os : Oper} {w1 ws : World} {L : Array Bool → Act → Prop} {Q' : Exit → Act → World → Prop} (hos : ops[s]? = some os) (hsg : os.guard = none) (hws : Go.RowKit.Below w1.heap.size w1 ws)
    (hL : ∀ listed a, L listed a → wpAny P md ops Q' g listed a (if listed.getD s false then ws else w1)) :
    ∀ (f : Nat) (listed : Array Bool) (a : Act), anyG md ops (YA P w1 ws s) n L f listed a → wpAny P md ops Q' (f + g) listed a (if listed.getD s false then ws else w1)
  | 0, listed, a, h => by rw [Nat.zero_add]; exact hL _ _ h
  | f + 1, listed, a, h => by
    rw [show f + 1 + g = (f + g) + 1 by omega]
    refine ⟨fun h0 => absurd h0 h.1, fun i hi => ?_⟩
    have hg := (h.2 i hi).2
    have hun := (mem_ready.1 hi).1
    have hlt : i < listed.size := by
      rcases Nat.lt_or_ge i listed.size with h | h
      · exact h
      · simp [Array.getElem?_eq_none h] at hun
    have ih := any_of_G (n := n) hos hsg hws hL f (listed.setIfInBounds i true)
    by_cases his : i = s
    · subst his
      have e1 : listed.getD i false = false := getD_both hun
      have e2 : (listed.setIfInBounds i true).getD i false = true := by simp [hlt]
      rw [e1]
      rw [e2] at ih
      unfold gOp at hg
      unfold wpOp
      simp only [hos] at hg ⊢
      have hw : Region.wanted os (yielded ops a.tmps) = true := by simp [Region.wanted, hsg]
      rw [if_pos hw] at hg ⊢
      obtain ⟨v, h1, h2⟩ := hg
      unfold YA at h1
      rw [if_pos rfl] at h1
      left
      unfold Oper.wp
      simp only [Bool.false_eq_true, if_false]
      rw [h1]
      exact ih _ h2
    · have e1 : (listed.setIfInBounds i true).getD s false = listed.getD s false := getD_set_ne false his
      rw [e1] at ih
      have hb : Go.RowKit.Below w1.heap.size w1 (if listed.getD s false then ws else w1) := by
        split
        · exact hws
        · exact .refl _ _
      generalize (if listed.getD s false = true then ws else w1) = ww at ih hb ⊢
      unfold gOp at hg
      unfold wpOp
      split
      · rename_i ho; simp only [ho] at hg; exact ih _ hg
      · rename_i o ho
        simp only [ho] at hg
        split
        · rename_i hw
          simp only [hw, if_true] at hg
          obtain ⟨v, h1, h2⟩ := hg
          unfold YA at h1
          rw [if_neg his] at h1
          left
          unfold Oper.wp
          rw [h1 _ hb]
          exact ih _ h2
        · rename_i hw
          simp only [hw] at hg
          exact ih _ hg
theorem wp_region_atail {id s : Nat} {Q : Exit → Act → World → Prop} {a : Act} {w : World} {l : List Oper} {os : Oper} (hos : l[s]? = some os) (hsg : os.guard = none) (hm : P.follows .mixedOrders = true) (hB : Region.lexTailB .any l.toArray (s + 1) = true)
    (h : wpV P l.toArray { w with drawn := w.drawn + 1 } (fun a' => ∃ v ws, (execOp a'.eval os).run P { w with drawn := w.drawn + 1 } = .ok (.value v) ws ∧ Go.RowKit.Below w.heap.size { w with drawn := w.drawn + 1 } ws ∧
      wpList P l.toArray Q (l.drop (s + 1)) (a'.put os.dst v) ws) (l.take s) a) : (Code.region id l.toArray true).wp P Q a w := by
  simp only [Region.lexTailB, Bool.and_eq_true, decide_eq_true_eq] at hB
  obtain ⟨⟨⟨⟨hsel, hn⟩, hs⟩, hc⟩, hlex⟩ := hB
  have hn' : s + 1 < l.length := by simpa using hn
  have htl : (l.take s).length = s := by simp; omega
  have hdl : (l.drop (s + 1)).length = l.toArray.size - (s + 1) := by simp
  have inv0 : HeadInv .any l.toArray (s + 1) (Array.replicate l.toArray.size false) :=
    ⟨by simp, fun j oj _ hl => (by rw [getD_replicate_false] at hl; cases hl), fun t _ ht => getD_in (by simpa using ht) (getD_replicate_false _ _)⟩
  have hos' : l.toArray[s]? = some os := by simpa using hos
  obtain ⟨ws, hb, H⟩ := anyG_lexA (md := .any) (g := l.toArray.size - (s + 1)) (w1 := { w with drawn := w.drawn + 1 }) (Lq := fun ws a' => wpList P l.toArray Q (l.drop (s + 1)) a' ws) hos' hsg hsel hs hc hn (l.take s) 0 _ a (fun j hj => by
    have hj' : j < s := by rw [htl] at hj; exact hj
    simp [hj']) (by simpa using htl) inv0 (by rw [htl]; exact hlex) h
  refine wp_region_any hm ?_
  have := any_of_G (Q' := Q) (g := l.toArray.size - (s + 1)) hos' hsg hb (fun listed a' hL => by
    rw [hL.2]
    have := wpAny_of_seq (md := .any) (Q' := Q) (l.drop (s + 1)) (s + 1) listed a' ws (fun j => by simp [List.getElem?_drop]) (by rw [hdl]; exact hL.1.1) hL.1.2
    rwa [hdl] at this) _ _ _ H
  rw [htl, getD_replicate_false] at this
  simp only [Bool.false_eq_true, if_false] at this
  rw [show s + 1 + (l.toArray.size - (s + 1)) = l.toArray.size by omega] at this
  exact this
/-! The reckoning. -/
variable {T : Nat → Option TI} {S : State} {o : Oper}
def vVOp (Ω : Opq) (P : Program) (T : Nat → Option TI) (o : Oper) (S : State) (k : A → Prop) : Prop :=
  match o.op with
  | .move x => k (ev S x)
  | .assign x => k (ev S x)
  | .pick c x y => vPick Ω (ev S c) (ev S x) (ev S y) k
  | .unOp op _ x => vUn Ω op (ev S x) k
  | .binOp op t x y _ => vBinA Ω P T op t (ev S x) (ev S y) k
  | .load t x => vLoad T t S (ev S x) k
  | .fieldAddr t x i => vFieldAddr T t i (ev S x) k
  | .field t x i => vField T t i (ev S x) k
  | .indexAddr t x y => vIndexAddr Ω T t S (ev S x) (ev S y) k
  | .index t x y => vIndex Ω T t (ev S x) (ev S y) k
  | .extract x i => vExtract (ev S x) i k
  | .nilCheck x => vNilCheck (ev S x) k
  | .slice t x lo hi none => vSlice Ω T t S (ev S x) (lo.map (ev S)) (hi.map (ev S)) k
  | _ => False
theorem vVOp_ok (hT : TabOK P T) {k : A → Prop} (h : vVOp std P T o S k) : ∃ z, VOK P o S z ∧ k z := by
  unfold vVOp at h
  split at h
  · rename_i x ho; exact ⟨_, VOK_move (.inl ho) rfl, h⟩
  · rename_i x ho; exact ⟨_, VOK_move (.inr ho) rfl, h⟩
  · rename_i ho; exact vPick_ok ho h
  · rename_i ho; exact vUn_ok ho h
  · rename_i ho; exact vBinA_ok hT ho h
  · rename_i ho; exact vLoad_ok hT ho h
  · rename_i ho; exact vFieldAddr_ok hT ho h
  · rename_i ho; exact vField_ok hT ho h
  · rename_i ho; exact vIndexAddr_ok hT ho h
  · rename_i ho; exact vIndex_ok hT ho h
  · rename_i ho; exact vExtract_ok ho h
  · rename_i ho; exact vNilCheck_ok ho h
  · rename_i ho; exact vSlice_ok hT ho h
  · exact h.elim
def vVs (Ω : Opq) (P : Program) (T : Nat → Option TI) : List Oper → State → (State → Prop) → Prop
  | [], S, K => K S
  | o :: os, S, K => match o.guard with
    | none => vVOp Ω P T o S fun z => vVs Ω P T os (S.put o.dst z) K
    | some _ => False
theorem vVs_ok (hT : TabOK P T) {K : State → Prop} {Q : Act → Prop} {E : Env P} {w w1 : World} (hw1 : Go.RowKit.Below w.heap.size w w1) (hQ : ∀ a S, SInv E S a w → K S → Q a) :
    ∀ (os : List Oper) (S : State), vVs std P T os S K → ∀ a, SInv E S a w → wpV P ops w1 Q os a
  | [], S, h, a, hs => hQ a S hs h
  | o :: os, S, h, a, hs => by
    unfold vVs at h
    split at h
    · rename_i hg
      obtain ⟨z, h1, h2⟩ := vVOp_ok hT h
      obtain ⟨hd, G, gs, hi⟩ := hs
      obtain ⟨v, h3, h4⟩ := h1 E G gs a w hi
      unfold wpV
      rw [if_pos (by simp [Region.wanted, hg])]
      refine ⟨v, fun w' hw' => h3 w' ?_, vVs_ok hT hw1 hQ os _ h2 _ ⟨by rw [put_defers]; exact hd, G, gs, hi.put h4 o.dst⟩⟩
      exact ⟨hw'.os.trans hw1.os, hw'.tape.trans hw1.tape, hw'.output.trans hw1.output, Nat.le_trans hw1.size hw'.size, fun b hb => (hw'.block b (Nat.lt_of_lt_of_le hb hw1.size)).trans (hw1.block b hb)⟩
    · exact h.elim
/-- A region that draws its order: s operations that only read, a slice is made, then the rest in one order. -/
theorem VC_atail (hT : TabOK P T) {Ω : Opq} (hΩ : Ω = std) (hm : P.follows .mixedOrders = true) (s : Nat) {id : Nat} {ops : Array Oper} {K : Exit → State → Prop} {os : Oper} {t : TypeId} {len : Nat} {parts : Array (Nat × Operand)}
    (hos : ops.toList[s]? = some os) (hg : os.guard = none) (hop : os.op = .buildSlice t len parts) (hB : Region.lexTailB .any ops (s + 1) = true)
    (h : vVs Ω P T (ops.toList.take s) S fun S' => vOp Ω P T none os S' fun S'' => vOps Ω P T ops.toList (madeBy os) (ops.toList.drop (s + 1)) S'' (K .normal)) : VC P (.region id ops true) S K := by
  subst hΩ
  intro E a w hs
  have hops : ops = ops.toList.toArray := by simp
  rw [hops] at hB ⊢
  have hw1 : Go.RowKit.Below w.heap.size w { w with drawn := w.drawn + 1 } := ⟨rfl, rfl, rfl, Nat.le_refl _, fun _ _ => rfl⟩
  refine wp_region_atail hos hg hm hB (vVs_ok (ops := ops.toList.toArray) hT hw1 (fun a' S' hs' hK => ?_) (ops.toList.take s) S h a hs)
  obtain ⟨hd, G, gs, hi⟩ := hs'
  have hs1 : SInv E S' a' { w with drawn := w.drawn + 1 } := ⟨hd, G, gs, hi.below hw1 (fun _ h => h) (fun _ h => .inl h) (fun b h => Nat.lt_of_lt_of_le (hi.glt b h) hw1.size)⟩
  have hwp := vOp_ok hT hK E a' { w with drawn := w.drawn + 1 } (fun a2 w2 => wpList P ops.toList.toArray (fun e a' w' => ∃ S', SInv E S' a' w' ∧ K e S') (ops.toList.drop (s + 1)) a2 w2) (fun _ _ _ => False) hs1
    (fun S2 a2 w2 hK2 hs2 => vOps_ok hT ops.toList (ops.toList.drop (s + 1)) _ S2 K hK2 E a2 w2 hs2)
  unfold Oper.wp at hwp
  have hex : execOp a'.eval os = (do pure (.value (← Instr.buildSlice t len (parts.map fun p => (p.1, a'.eval p.2)))) : Sem Next) := by simp only [execOp, hop]
  rw [hex] at hwp
  simp only [Sem.run_bind] at hwp
  generalize hr : (Instr.buildSlice t len (parts.map fun p => (p.1, a'.eval p.2))).run P { w with drawn := w.drawn + 1 } = r at hwp
  cases r with
  | halt x w' =>
    simp only [Result.andThen] at hwp
    unfold Oper.upon at hwp
    split at hwp <;> first | exact hwp.elim | (rename_i heq; cases heq)
  | ok v ws =>
    simp only [Result.andThen_ok, Sem.run_pure, Oper.upon_value] at hwp
    refine ⟨v, ws, ?_, ?_, hwp⟩
    · rw [hex, Sem.run_bind, hr]; rfl
    · have := buildSlice_below _ _ _ hr
      exact ⟨this.os, this.tape, this.output, this.size, this.block⟩
end
end Go.Fw

/- Sets with a code. Plain theorems. -/
set_option linter.unusedVariables false
set_option linter.unusedSimpArgs false
namespace Go.Proofs.YtomfmdfamlmfiaaGreat
open Go Go.Fw
set_option maxRecDepth 100000
def Pck.zero : Pck := ⟨[], Ver.zero, 0, [], [], []⟩
def pk (c : List Pck) (k : Int) : Pck := c.getD k.toNat Pck.zero
/-- A set with a code. -/
def setR (k a : Int) (s : List Int) : A := .agg [i64 k, i64 a, .sl true 1 (s.map i64)]
theorem fit_nilR (k a : Int) : FitX (.agg [i64 k, i64 a, .nil]) (setR k a []) := ⟨2, by unfold setR; simp [fitA, fitA.fitL, i64]⟩
theorem fit_R {Ω : Opq} (hΩ : Ω = std) (k a : Int) (s : List Int) {zs : List A} (h : zs = s.map i64) : FitX (.agg [i64 k, i64 a, .sl true 1 (Ω.take (Ω.len zs) zs)]) (setR k a s) := .of (by subst hΩ; subst h; unfold setR; show A.agg [_, _, A.sl true 1 ((s.map i64).take (s.map i64).length)] = _; rw [List.take_length])
theorem pk_at {c : List Pck} {k : Int} (h : inB k 0 ((c.length : Int) - 1) = true) : 0 ≤ k ∧ k.toNat < c.length ∧ c[k.toNat]? = some (pk c k) ∧ pk c k ∈ c := by
  unfold inB at h
  simp only [Bool.and_eq_true, decide_eq_true_eq] at h
  have hk : k.toNat < c.length := by omega
  refine ⟨h.1, hk, ?_, ?_⟩
  · rw [pk, List.getD_eq_getElem?_getD, List.getElem?_eq_getElem hk]; rfl
  · rw [pk, List.getD_eq_getElem?_getD, List.getElem?_eq_getElem hk]; exact List.getElem_mem hk
theorem setF_in {c : List Pck} {s : List Int} (h : setF c s = 0) : ∀ k ∈ s, inB k 0 ((c.length : Int) - 1) = true := by
  unfold setF at h
  split at h
  · rename_i h0; exact absurd h h0
  · split at h
    · rename_i h1
      rw [setOk_eq, Bool.and_eq_true] at h1
      exact List.all_eq_true.1 h1.2
    · simp at h
end Go.Proofs.YtomfmdfamlmfiaaGreat

/- Helpers of the walks. Plain theorems. -/
set_option linter.unusedVariables false
set_option linter.unusedSimpArgs false
namespace Go.Proofs.YtomfmdfamlmfiaaGreat
open Go Go.Fw
set_option maxRecDepth 100000
def fill {α : Type} (f : α → A) (z : A) (cs : List α) (i : Nat) : List A := (cs.take i).map f ++ List.replicate (cs.length - i) z
theorem fill_set {α : Type} {f : α → A} {z : A} {cs : List α} {i : Nat} {c : α} (hc : cs[i]? = some c) : (fill f z cs i).set i (f c) = fill f z cs (i + 1) := by
  have hi : i < cs.length := (List.getElem?_eq_some_iff.1 hc).1
  unfold fill
  rw [List.take_add_one, hc, List.map_append, List.set_append]
  have e : cs.length - i = (cs.length - (i + 1)) + 1 := by omega
  simp [e, List.replicate_succ, Nat.min_eq_left (Nat.le_of_lt hi)]
theorem fill_length {α : Type} {f : α → A} {z : A} {cs : List α} {i : Nat} (hi : i ≤ cs.length) : (fill f z cs i).length = cs.length := by simp [fill]; omega
theorem fill_all {α : Type} {f : α → A} {z : A} {cs : List α} {i : Nat} {p : A → Prop} (h1 : ∀ c, p (f c)) (h2 : p z) : ∀ y ∈ fill f z cs i, p y := by
  intro y hy
  rcases List.mem_append.1 hy with hy | hy
  · obtain ⟨c, _, rfl⟩ := List.mem_map.1 hy; exact h1 c
  · rw [(List.mem_replicate.1 hy).2]; exact h2
theorem fill_zero {α : Type} {f : α → A} {z : A} {cs : List α} : fill f z cs 0 = List.replicate cs.length z := by simp [fill]
theorem fill_full {α : Type} {f : α → A} {z : A} {cs : List α} : fill f z cs cs.length = cs.map f := by simp [fill]
theorem roFAll {n : Nat} {xs : List A} (h : ∀ x ∈ xs, roFree x = true) : roFree (.sl true n xs) = true := by rw [roFree_sl, Bool.true_and, List.all_eq_true]; exact h
theorem roFTs (l : List Trm) : roFree (encTs true l) = true := roFAll fun x hx => by obtain ⟨c, _, rfl⟩ := List.mem_map.1 hx; rfl
theorem roFP (o : Pck) : roFree (o.enc true) = true := by
  show roFree (.agg _) = true
  rw [roFree_agg]
  have h1 : roFree (.sl true 1 (o.p.map str)) = true := roFAll fun x hx => by obtain ⟨c, _, rfl⟩ := List.mem_map.1 hx; rfl
  have h2 : roFree (.sl true 1 (o.d.map (encTs true))) = true := roFAll fun x hx => by obtain ⟨c, _, rfl⟩ := List.mem_map.1 hx; exact roFTs c
  have h3 : roFree (.sl true 7 (o.b.map Trm.enc)) = true := roFTs o.b
  simp only [Pck.cells, List.all_cons, List.all_nil, h1, h2, h3]
  rfl
theorem roFPs (l : List Pck) : roFree (.sl true 8 (l.map (Pck.enc true))) = true := roFAll fun x hx => by obtain ⟨c, _, rfl⟩ := List.mem_map.1 hx; exact roFP c
theorem enc_own (o : Pck) : ∃ ps ds bs, o.enc true = .agg [str o.n, i64 o.v.a, i64 o.v.b, i64 o.v.c, i64 o.s, .sl true 1 ps, .sl true 1 ds, .sl true 7 bs] ∧ ps = o.p.map str ∧ ds = o.d.map (encTs true) ∧ bs = o.b.map Trm.enc := ⟨_, _, _, rfl, rfl, rfl, rfl⟩
theorem addV {Ω : Opq} (hΩ : Ω = std) {y : Int} (h0 : 0 ≤ y) (h1 : y ≤ 4611686018427387904) : Ω.ar .add .i64 y 1 = y + 1 := by subst hΩ; exact wrap64 (by omega) (by omega)
theorem fitsE {k : Nat} {a b : List A} (h : a = b) : fitA.fitL k a b := h ▸ fits a
theorem addV7 {Ω : Opq} (hΩ : Ω = std) {y : Int} (h0 : 0 ≤ y) (h1 : y ≤ 4611686018427387800) :
    Ω.ar .add .i64 (Ω.ar .add .i64 (Ω.ar .add .i64 (Ω.ar .add .i64 (Ω.ar .add .i64 (Ω.ar .add .i64 (Ω.ar .add .i64 y 1) 1) 1) 1) 1) 1) 1 = y + 7 := by
  have e := fun z h0 h1 => addV hΩ (y := z) h0 h1
  rw [e y h0 (by omega), e (y + 1) (by omega) (by omega), e (y + 1 + 1) (by omega) (by omega), e (y + 1 + 1 + 1) (by omega) (by omega), e (y + 1 + 1 + 1 + 1) (by omega) (by omega), e (y + 1 + 1 + 1 + 1 + 1) (by omega) (by omega), e (y + 1 + 1 + 1 + 1 + 1 + 1) (by omega) (by omega)]
  omega
theorem addV5 {Ω : Opq} (hΩ : Ω = std) {y : Int} (h0 : 0 ≤ y) (h1 : y ≤ 4611686018427387800) :
    Ω.ar .add .i64 (Ω.ar .add .i64 (Ω.ar .add .i64 (Ω.ar .add .i64 (Ω.ar .add .i64 y 1) 1) 1) 1) 1 = y + 5 := by
  have e := fun z h0 h1 => addV hΩ (y := z) h0 h1
  rw [e y h0 (by omega), e (y + 1) (by omega) (by omega), e (y + 1 + 1) (by omega) (by omega), e (y + 1 + 1 + 1) (by omega) (by omega), e (y + 1 + 1 + 1 + 1) (by omega) (by omega)]
  omega
/-- ys is xs but for what stands up to i. -/
structure Like (xs : List A) (i : Nat) (ys : List A) : Prop where
  len : ys.length = xs.length
  at' : ∀ q, i < q → ys[q]? = xs[q]?
theorem Like.set {Ω : Opq} (hΩ : Ω = std) {xs ys : List A} {i : Nat} {z : A} (h : Like xs i ys) : Like xs i (Ω.set ys (Ω.plus 0 (Ω.nat (Ω.int i))) z) := by
  subst hΩ
  show Like xs i (ys.set (0 + i) z)
  rw [Nat.zero_add]
  exact ⟨by simpa using h.len, fun q hq => by rw [List.getElem?_set_ne (by omega)]; exact h.at' q hq⟩
def psum {α : Type} (f : α → Nat) (d : List α) (i : Nat) : Nat := ((d.take i).map f).sum
theorem psum_at {α : Type} {f : α → Nat} {d : List α} {i : Nat} {c : α} (h : d[i]? = some c) : psum f d (i + 1) = psum f d i + f c := by
  unfold psum
  rw [List.take_add_one, h, List.map_append, List.sum_append]
  simp
theorem psum_zero {α : Type} {f : α → Nat} {d : List α} : psum f d 0 = 0 := by simp [psum]
theorem psum_const {α : Type} (m : Nat) (d : List α) : psum (fun _ => m) d d.length = m * d.length := by
  unfold psum
  rw [List.take_length]
  induction d with
  | nil => rfl
  | cons x d ih => simp only [List.map_cons, List.sum_cons, List.length_cons, ih]; rw [Nat.mul_succ]; omega
theorem setNA {Ω : Opq} (hΩ : Ω = std) {ys : List A} {j : Nat} {z : A} (h : ∀ y ∈ ys, vStore.isAggA y = false) (hz : vStore.isAggA z = false) : ∀ y ∈ Ω.set ys j z, vStore.isAggA y = false := by
  subst hΩ
  intro y hy
  rcases List.mem_or_eq_of_mem_set hy with hy | rfl
  · exact h y hy
  · exact hz
theorem psum_le {α : Type} {f : α → Nat} {d : List α} : ∀ (i : Nat), psum f d i ≤ psum f d d.length := by
  intro i
  unfold psum
  rw [List.take_length]
  conv => rhs; rw [← List.take_append_drop i d, List.map_append, List.sum_append]
  omega
theorem neSame {Ω : Opq} (hΩ : Ω = std) {x y : Int} (h : Ω.cmp .neq x y = true) (e : x = y) : False := by subst hΩ; exact ne_t h e
theorem mutVw {S : State} {r len n : Nat} {ys zs : List A} (hr : Fw.rowAt S.rows r = some ⟨n, ys, false⟩) (hl : len = ys.length) (hl' : zs.length = ys.length) : Mut S (.vw r 0 len) (.sl true n ys) (.sl true n zs) [(r, zs)] := .row hr rfl hl hl'
theorem rdJ {Ω : Opq} (hΩ : Ω = std) {i : Nat} {xs : List A} {z : A} (h : xs[i]? = some z) : xs[(Ω.int i).toNat]? = some z := by subst hΩ; exact h
theorem takeI {Ω : Opq} (hΩ : Ω = std) {i : Nat} {xs : List A} (h : xs.length = i) : Ω.take i xs = xs := by subst hΩ; subst h; exact List.take_length
/-- The marks from k on. -/
def marksI (k : Int) (n : Nat) : List A := (List.range n).map fun i : Nat => i64 (k + i)
theorem marksI_at {k : Int} {n i : Nat} (h : i < n) : (marksI k n)[i]? = some (i64 (k + i)) := by
  unfold marksI
  rw [List.getElem?_map, List.getElem?_range h]; rfl
theorem marksI_length (k : Int) (n : Nat) : (marksI k n).length = n := by simp [marksI]
theorem marksI_frz (k : Int) (n : Nat) : (marksI k n).map frz = marksI k n := by
  unfold marksI
  rw [List.map_map]; exact List.map_congr_left fun c _ => rfl
theorem marksI_na (k : Int) (n : Nat) : ∀ y ∈ marksI k n, vStore.isAggA y = false := fun y hy => by
  obtain ⟨c, _, rfl⟩ := List.mem_map.1 hy; rfl
/-- The first i ones are marked. -/
def halfA (ms xs : List A) (i : Nat) : List A := ms.take i ++ xs.drop i
theorem halfA_set {ms xs : List A} {i : Nat} {m : A} (hl : ms.length = xs.length) (h : ms[i]? = some m) : (halfA ms xs i).set i m = halfA ms xs (i + 1) := by
  have hi := (List.getElem?_eq_some_iff.1 h).1
  unfold halfA
  rw [List.take_add_one, h, List.set_append]
  have e : xs.drop i = xs[i] :: xs.drop (i + 1) := List.drop_eq_getElem_cons (by omega)
  rw [e]
  simp only [List.length_take, Nat.min_eq_left (Nat.le_of_lt hi), Nat.lt_irrefl, if_false, Nat.sub_self, List.set_cons_zero]
  simp
theorem halfA_length {ms xs : List A} {i : Nat} (hl : ms.length = xs.length) (hi : i ≤ xs.length) : (halfA ms xs i).length = xs.length := by simp [halfA]; omega
theorem halfA_na {ms xs : List A} {i : Nat} (h1 : ∀ y ∈ ms, vStore.isAggA y = false) (h2 : ∀ y ∈ xs, vStore.isAggA y = false) : ∀ y ∈ halfA ms xs i, vStore.isAggA y = false := fun y hy => by
  rcases List.mem_append.1 hy with h | h
  · exact h1 y (List.mem_of_mem_take h)
  · exact h2 y (List.mem_of_mem_drop h)
theorem ro_vw {S : State} {k r len n : Nat} {ys zs : List A} (hr : Fw.rowAt S.rows r = some ⟨n, ys, false⟩) (hl : len = ys.length) (hf : ys.map frz = zs) : roO S (k + 1) (.vw r 0 len) = some (.sl false n zs) := by
  simp only [roO, hr]
  rw [hl, List.drop_zero, List.take_length, hf]
  rfl
theorem mapO2 {f : A → Option A} {x x' y y' : A} (h : f x = some x') (h2 : f y = some y') : mapO f [x, y] = some [x', y'] := by simp [mapO, h, h2]
theorem mapO3 {f : A → Option A} {x x' y y' z z' : A} (h : f x = some x') (h2 : f y = some y') (h3 : f z = some z') : mapO f [x, y, z] = some [x', y', z'] := by simp [mapO, h, h2, h3]
theorem ro_agg3 {S : State} {k : Nat} {a b c c' : A} (ha : roO S (k + 1) a = some a) (hb : roO S (k + 1) b = some b) (hc : roO S (k + 1) c = some c') : roO S (k + 2) (.agg [a, b, c]) = some (.agg [a, b, c']) := by
  show (mapO (roO S (k + 1)) [a, b, c]).map A.agg = _
  rw [mapO3 ha hb hc]; rfl
theorem frz_Pck (o : Pck) : frz (o.enc true) = o.enc false := by
  show frz (.agg _) = A.agg _
  rw [frz_agg]
  have h1 : (o.p.map str).map frz = o.p.map str := by rw [List.map_map]; exact List.map_congr_left fun c _ => rfl
  have h2 : (o.d.map (encTs true)).map frz = o.d.map (encTs false) := by
    rw [List.map_map]
    refine List.map_congr_left fun c _ => ?_
    show frz (A.sl true 7 _) = A.sl false 7 _
    rw [frz_sl, List.map_map]; rfl
  have h3 : (o.b.map Trm.enc).map frz = o.b.map Trm.enc := by rw [List.map_map]; exact List.map_congr_left fun c _ => rfl
  simp only [Pck.cells, List.map_cons, List.map_nil, frz_sl, h1, h2, h3]
  rfl
theorem frz_Pcks (l : List Pck) : (l.map (Pck.enc true)).map frz = l.map (Pck.enc false) := by rw [List.map_map]; exact List.map_congr_left fun c _ => frz_Pck c
theorem frz_I (l : List Int) : (l.map i64).map frz = l.map i64 := by rw [List.map_map]; exact List.map_congr_left fun c _ => rfl
theorem roF_I (l : List Int) : roFree (.sl true 1 (l.map i64)) = true := roFAll fun x hx => by obtain ⟨c, _, rfl⟩ := List.mem_map.1 hx; rfl
theorem roF_setR (k a : Int) (l : List Int) : roFree (.agg [i64 k, i64 a, .sl true 1 (l.map i64)]) = true := by
  rw [roFree_agg]
  simp only [List.all_cons, List.all_nil, roF_I]
  rfl
end Go.Proofs.YtomfmdfamlmfiaaGreat

/- Walks: sizes of packages. Plain theorems. -/
set_option linter.unusedVariables false
set_option linter.unusedSimpArgs false
namespace Go.Proofs.YtomfmdfamlmfiaaGreat
open Go Go.Fw
set_option maxRecDepth 100000
def szN (n : Nat) (l : Int) : Int := if l - n < 0 then -1 else l - n
def szT (t : Trm) (l : Int) : Int := szN t.n.length l
def szB (s : List UInt8) (l : Int) : Int := szN s.length l
def szP (o : Pck) (l : Int) : Int :=
  if szN o.n.length l < 0 then -1 else if szS szB o.p (szN o.n.length l) < 0 then -1 else
  if szS (szS szT) o.d (szS szB o.p (szN o.n.length l)) < 0 then -1 else
  if szS szT o.b (szS (szS szT) o.d (szS szB o.p (szN o.n.length l))) < 0 then -1 else szS szT o.b (szS (szS szT) o.d (szS szB o.p (szN o.n.length l)))
/-- What can stand in memory. -/
structure Pck.Fit (o : Pck) : Prop where
  n : o.n.length ≤ maxLen
  p : o.p.length ≤ maxLen ∧ ∀ s ∈ o.p, s.length ≤ maxLen
  d : o.d.length ≤ maxLen ∧ ∀ l ∈ o.d, l.length ≤ maxLen ∧ ∀ t ∈ l, t.n.length ≤ maxLen
  b : o.b.length ≤ maxLen ∧ ∀ t ∈ o.b, t.n.length ≤ maxLen
/-- f takes the cost g, or says -1. -/
def Costs {α : Type} (f : α → Int → Int) (g : α → Nat) : Prop := ∀ c l, f c l = if l - g c < 0 then -1 else l - g c
def costS {α : Type} (g : α → Nat) (cs : List α) : Nat := cs.length + (cs.map g).sum
theorem szLoop_cost {α : Type} {f : α → Int → Int} {g : α → Nat} (h : Costs f g) : ∀ (cs : List α) (l : Int), 0 ≤ l → szLoop f cs l = if l - (cs.map g).sum < 0 then -1 else l - (cs.map g).sum
  | [], l, h0 => by simp [szLoop]; omega
  | c :: cs, l, h0 => by
    rw [szLoop, h c l, List.map_cons, List.sum_cons]
    by_cases h1 : l - g c < 0
    · rw [if_pos h1, if_pos (by omega), if_pos (by omega)]
    · rw [if_neg h1, if_neg h1, szLoop_cost h cs _ (by omega)]
      by_cases h2 : l - g c - (cs.map g).sum < 0
      · rw [if_pos h2, if_pos (by omega)]
      · rw [if_neg h2, if_neg (by omega)]; omega
theorem szS_cost {α : Type} {f : α → Int → Int} {g : α → Nat} (h : Costs f g) : Costs (szS f) (costS g) := fun cs l => by
  unfold szS costS
  by_cases h1 : l - cs.length < 0
  · rw [if_pos h1, if_pos (by omega)]
  · rw [if_neg h1, szLoop_cost h cs _ (by omega)]
    by_cases h2 : l - cs.length - (cs.map g).sum < 0
    · rw [if_pos h2, if_pos (by omega)]
    · rw [if_neg h2, if_neg (by omega)]; omega
def cT (t : Trm) : Nat := t.n.length
def cB (s : List UInt8) : Nat := s.length
def cP (o : Pck) : Nat := o.n.length + (costS cB o.p + (costS (costS cT) o.d + costS cT o.b))
theorem szT_cost : Costs szT cT := fun _ _ => rfl
theorem szB_cost : Costs szB cB := fun _ _ => rfl
theorem szP_cost : Costs szP cP := fun o l => by
  unfold szP cP
  rw [show szN o.n.length l = if l - o.n.length < 0 then -1 else l - o.n.length from rfl, szS_cost (szS_cost szT_cost) o.d, szS_cost szT_cost o.b, szS_cost szB_cost o.p]
  generalize costS cB o.p = a
  generalize costS (costS cT) o.d = b
  generalize costS cT o.b = c
  generalize o.n.length = d
  repeat' split
  all_goals omega
theorem len_cost {α : Type} (g : α → Nat) (cs : List α) : cs.length ≤ costS g cs := by unfold costS; omega
theorem mem_cost {α : Type} (g : α → Nat) : ∀ (cs : List α), ∀ c ∈ cs, g c ≤ costS g cs
  | x :: cs, c, h => by
    unfold costS
    rw [List.map_cons, List.sum_cons, List.length_cons]
    rcases List.mem_cons.1 h with rfl | h
    · omega
    · have := mem_cost g cs c h; unfold costS at this; omega
theorem small_of {o : Pck} (h : cP o ≤ 1048576) : o.Small := by
  unfold cP at h
  refine ⟨?_, ?_, ?_, fun l hl => ?_⟩
  · have := len_cost cB o.p; omega
  · have := len_cost (costS cT) o.d; omega
  · have := len_cost cT o.b; omega
  · have h1 := mem_cost (costS cT) o.d l hl
    have h2 := len_cost cT l
    omega
theorem szN_w {n : Nat} {l : Int} (h0 : 0 ≤ l) (h1 : l ≤ 1048576) (hm : n ≤ maxLen) : IntKind.i64.wrap (l - n) = l - n := szw h0 h1 hm
theorem c_szTerm (t : Trm) (l : Int) (h0 : 0 ≤ l) (h1 : l ≤ 1048576) (hm : t.n.length ≤ maxLen) : PCtr PP n_laws_szTerm [t.enc, i64 l] (i64 (szT t l)) := by
  obtain ⟨Ω, hΩ⟩ : ∃ Ω, Ω = std := ⟨_, rfl⟩
  obtain ⟨r, hr⟩ : ∃ r, r = szT t l := ⟨_, rfl⟩
  rw [← hr]
  unfold szT szN at hr
  have hw := szN_w h0 h1 hm
  have htab := tab
  refine PCtr.walk tab hΩ fn_laws_szTerm rfl ?_
  generalize PP = P at *
  cbv
  refine br (fun h => ?_) (fun h => ?_) <;> cbv
  · refine .of (congrArg i64 ?_)
    subst hΩ
    have h : IntKind.i64.wrap (l - t.n.length) < 0 := lt_t h
    rw [hw] at h
    rw [hr, if_pos h]
  · refine .of (congrArg i64 ?_)
    subst hΩ
    have h : 0 ≤ IntKind.i64.wrap (l - t.n.length) := lt_f h
    show IntKind.i64.wrap (l - t.n.length) = r
    rw [hw] at h ⊢
    rw [hr, if_neg (by omega)]
theorem c_szTermS (cs : List (Trm)) (l : Int) (h0 : 0 ≤ l) (h1 : l ≤ 1048576) (hm : cs.length ≤ maxLen) (hc : ∀ c ∈ cs, c.n.length ≤ maxLen) : PCtr PP n_laws_szTermS [.sl false 7 (cs.map (Trm.enc)), i64 l] (i64 (szS szT cs l)) := by
  obtain ⟨Ω, hΩ⟩ : ∃ Ω, Ω = std := ⟨_, rfl⟩
  obtain ⟨r, hr⟩ : ∃ r, r = szS szT cs l := ⟨_, rfl⟩
  obtain ⟨xs, hxs⟩ : ∃ xs, xs = cs.map (Trm.enc) := ⟨_, rfl⟩
  have hlen : xs.length = cs.length := by rw [hxs, List.length_map]
  rw [← hxs, ← hr]
  have hel : ∀ c ∈ cs, ∀ y, 0 ≤ y → y ≤ 1048576 → PCtr PP n_laws_szTerm [c.enc, i64 y] (i64 (szT c y)) := fun c h y a b => c_szTerm c y a b (hc c h)
  have hle : ∀ c y, 0 ≤ szT c y → szT c y ≤ y := fun c y h => by
    have h2 := szT_cost c y
    rw [h2] at h ⊢
    split at h
    · omega
    · rename_i h3; rw [if_neg h3]; omega
  have htab := tab
  refine PCtr.walk tab hΩ fn_laws_szTermS rfl ?_
  generalize PP = P at *
  cbv
  refine br (fun h => ?_) (fun h => ?_)
  · replace h : r = -1 := by
      subst hΩ
      have h : IntKind.i64.wrap (l - xs.length) < 0 := lt_t h
      rw [hlen, szw h0 h1 hm] at h
      rw [hr, szS, if_pos h]
    cbv
    exact .of (congrArg i64 h.symm)
  obtain ⟨l', hl', h, hr⟩ : ∃ l', IntKind.i64.wrap (l - xs.length) = l' ∧ (0 ≤ l' ∧ l' ≤ 1048576) ∧ r = szLoop szT cs l' := by
    subst hΩ
    have h : 0 ≤ IntKind.i64.wrap (l - xs.length) := lt_f h
    rw [hlen, szw h0 h1 hm] at h ⊢
    exact ⟨_, rfl, ⟨h, by omega⟩, by rw [hr, szS, if_neg (by omega)]⟩
  cbv
  refine loopX htab hΩ (fun i : Nat × Int => ⟨[(0, .sl false 7 xs), (1, .sc (.int .i64 i.2)), (5, .sc (.int .i64 (Ω.int i.1)))], 27, []⟩) (fun i => i.1 ≤ cs.length ∧ (0 ≤ i.2 ∧ i.2 ≤ 1048576) ∧ r = szLoop szT (cs.drop i.1) i.2)
    (fun i => cs.length - i.1) (0, l') ⟨Nat.zero_le _, h, hr⟩ (Sbs.mk rfl rfl ⟨rfl, by subst hΩ; exact congrArg i64 hl', zeroI hΩ, trivial⟩) ?_
  rintro ⟨i, y⟩ ⟨hi, hy, he⟩
  dsimp only at hi hy he
  cbv
  refine br (fun h => ?_) (fun h => ?_)
  · replace h := ltI hΩ h
    obtain ⟨c, hcc⟩ := at_of (cs := cs) (by omega : i < cs.length)
    have hcm := List.mem_of_getElem? hcc
    rw [szLoop_at _ hcc] at he
    cbv
    have hcc' := hel c hcm y hy.1 hy.2
    refine ⟨⟨nnI hΩ⟩, _, rdI hΩ hxs hcc, ?_⟩
    cbv
    have hley := hle c y
    generalize szT c y = y' at he hcc' hley
    refine call_pure hΩ 3 hcc' rfl (fits _) rfl rfl ?_
    cbv
    refine br (fun h => ?_) (fun h => ?_) <;> cbv
    · exact .of (congrArg i64 (by rw [he, if_pos (ltI_t hΩ h)]))
    · have h := ltI_f hΩ h
      exact ⟨(i + 1, y'), ⟨by dsimp only; omega, ⟨h, by have := hley h; dsimp only; omega⟩, by rw [he, if_neg (by omega)]⟩, by dsimp only; omega, Sbs.mk rfl rfl ⟨rfl, rfl, incI hΩ (by simp only [maxLen] at hm; omega), trivial⟩⟩
  · replace h := geI hΩ h
    cbv
    exact .of (congrArg i64 (by rw [he, List.drop_of_length_le (by omega)]; rfl))
theorem c_szTermSS (cs : List (List Trm)) (l : Int) (h0 : 0 ≤ l) (h1 : l ≤ 1048576) (hm : cs.length ≤ maxLen) (hc : ∀ c ∈ cs, c.length ≤ maxLen ∧ ∀ t ∈ c, t.n.length ≤ maxLen) : PCtr PP n_laws_szTermSS [.sl false 1 (cs.map (encTs false)), i64 l] (i64 (szS (szS szT) cs l)) := by
  obtain ⟨Ω, hΩ⟩ : ∃ Ω, Ω = std := ⟨_, rfl⟩
  obtain ⟨r, hr⟩ : ∃ r, r = szS (szS szT) cs l := ⟨_, rfl⟩
  obtain ⟨xs, hxs⟩ : ∃ xs, xs = cs.map (encTs false) := ⟨_, rfl⟩
  have hlen : xs.length = cs.length := by rw [hxs, List.length_map]
  rw [← hxs, ← hr]
  have hel : ∀ c ∈ cs, ∀ y, 0 ≤ y → y ≤ 1048576 → PCtr PP n_laws_szTermS [.sl false 7 (c.map Trm.enc), i64 y] (i64 (szS szT c y)) := fun c h y a b => c_szTermS c y a b (hc c h).1 (hc c h).2
  have hle : ∀ c y, 0 ≤ (szS szT) c y → (szS szT) c y ≤ y := fun c y h => by
    have h2 := (szS_cost szT_cost) c y
    rw [h2] at h ⊢
    split at h
    · omega
    · rename_i h3; rw [if_neg h3]; omega
  have htab := tab
  refine PCtr.walk tab hΩ fn_laws_szTermSS rfl ?_
  generalize PP = P at *
  cbv
  refine br (fun h => ?_) (fun h => ?_)
  · replace h : r = -1 := by
      subst hΩ
      have h : IntKind.i64.wrap (l - xs.length) < 0 := lt_t h
      rw [hlen, szw h0 h1 hm] at h
      rw [hr, szS, if_pos h]
    cbv
    exact .of (congrArg i64 h.symm)
  obtain ⟨l', hl', h, hr⟩ : ∃ l', IntKind.i64.wrap (l - xs.length) = l' ∧ (0 ≤ l' ∧ l' ≤ 1048576) ∧ r = szLoop (szS szT) cs l' := by
    subst hΩ
    have h : 0 ≤ IntKind.i64.wrap (l - xs.length) := lt_f h
    rw [hlen, szw h0 h1 hm] at h ⊢
    exact ⟨_, rfl, ⟨h, by omega⟩, by rw [hr, szS, if_neg (by omega)]⟩
  cbv
  refine loopX htab hΩ (fun i : Nat × Int => ⟨[(0, .sl false 1 xs), (1, .sc (.int .i64 i.2)), (5, .sc (.int .i64 (Ω.int i.1)))], 27, []⟩) (fun i => i.1 ≤ cs.length ∧ (0 ≤ i.2 ∧ i.2 ≤ 1048576) ∧ r = szLoop (szS szT) (cs.drop i.1) i.2)
    (fun i => cs.length - i.1) (0, l') ⟨Nat.zero_le _, h, hr⟩ (Sbs.mk rfl rfl ⟨rfl, by subst hΩ; exact congrArg i64 hl', zeroI hΩ, trivial⟩) ?_
  rintro ⟨i, y⟩ ⟨hi, hy, he⟩
  dsimp only at hi hy he
  cbv
  refine br (fun h => ?_) (fun h => ?_)
  · replace h := ltI hΩ h
    obtain ⟨c, hcc⟩ := at_of (cs := cs) (by omega : i < cs.length)
    have hcm := List.mem_of_getElem? hcc
    rw [szLoop_at _ hcc] at he
    cbv
    have hcc' := hel c hcm y hy.1 hy.2
    obtain ⟨ts, hen2, hts⟩ : ∃ ts, encTs false c = .sl false 7 ts ∧ ts = c.map Trm.enc := ⟨_, rfl, rfl⟩
    rw [← hts] at hcc'
    refine ⟨⟨nnI hΩ⟩, _, (rdI hΩ hxs hcc).trans (congrArg some hen2), ?_⟩
    cbv
    have hley := hle c y
    generalize szS szT c y = y' at he hcc' hley
    refine call_pure hΩ 3 hcc' rfl (fits _) rfl rfl ?_
    cbv
    refine br (fun h => ?_) (fun h => ?_) <;> cbv
    · exact .of (congrArg i64 (by rw [he, if_pos (ltI_t hΩ h)]))
    · have h := ltI_f hΩ h
      exact ⟨(i + 1, y'), ⟨by dsimp only; omega, ⟨h, by have := hley h; dsimp only; omega⟩, by rw [he, if_neg (by omega)]⟩, by dsimp only; omega, Sbs.mk rfl rfl ⟨rfl, rfl, incI hΩ (by simp only [maxLen] at hm; omega), trivial⟩⟩
  · replace h := geI hΩ h
    cbv
    exact .of (congrArg i64 (by rw [he, List.drop_of_length_le (by omega)]; rfl))
theorem c_szStringS (cs : List (List UInt8)) (l : Int) (h0 : 0 ≤ l) (h1 : l ≤ 1048576) (hm : cs.length ≤ maxLen) (hc : ∀ c ∈ cs, c.length ≤ maxLen) : PCtr PP n_laws_szStringS [.sl false 1 (cs.map (str)), i64 l] (i64 (szS szB cs l)) := by
  obtain ⟨Ω, hΩ⟩ : ∃ Ω, Ω = std := ⟨_, rfl⟩
  obtain ⟨r, hr⟩ : ∃ r, r = szS szB cs l := ⟨_, rfl⟩
  obtain ⟨xs, hxs⟩ : ∃ xs, xs = cs.map (str) := ⟨_, rfl⟩
  have hlen : xs.length = cs.length := by rw [hxs, List.length_map]
  rw [← hxs, ← hr]
  have hel : ∀ c ∈ cs, ∀ y, 0 ≤ y → y ≤ 1048576 → True := fun _ _ _ _ _ => trivial
  have hle : ∀ c y, 0 ≤ szB c y → szB c y ≤ y := fun c y h => by
    have h2 := szB_cost c y
    rw [h2] at h ⊢
    split at h
    · omega
    · rename_i h3; rw [if_neg h3]; omega
  have htab := tab
  refine PCtr.walk tab hΩ fn_laws_szStringS rfl ?_
  generalize PP = P at *
  cbv
  refine br (fun h => ?_) (fun h => ?_)
  · replace h : r = -1 := by
      subst hΩ
      have h : IntKind.i64.wrap (l - xs.length) < 0 := lt_t h
      rw [hlen, szw h0 h1 hm] at h
      rw [hr, szS, if_pos h]
    cbv
    exact .of (congrArg i64 h.symm)
  obtain ⟨l', hl', h, hr⟩ : ∃ l', IntKind.i64.wrap (l - xs.length) = l' ∧ (0 ≤ l' ∧ l' ≤ 1048576) ∧ r = szLoop szB cs l' := by
    subst hΩ
    have h : 0 ≤ IntKind.i64.wrap (l - xs.length) := lt_f h
    rw [hlen, szw h0 h1 hm] at h ⊢
    exact ⟨_, rfl, ⟨h, by omega⟩, by rw [hr, szS, if_neg (by omega)]⟩
  cbv
  refine loopX htab hΩ (fun i : Nat × Int => ⟨[(0, .sl false 1 xs), (1, .sc (.int .i64 i.2)), (5, .sc (.int .i64 (Ω.int i.1)))], 28, []⟩) (fun i => i.1 ≤ cs.length ∧ (0 ≤ i.2 ∧ i.2 ≤ 1048576) ∧ r = szLoop szB (cs.drop i.1) i.2)
    (fun i => cs.length - i.1) (0, l') ⟨Nat.zero_le _, h, hr⟩ (Sbs.mk rfl rfl ⟨rfl, by subst hΩ; exact congrArg i64 hl', zeroI hΩ, trivial⟩) ?_
  rintro ⟨i, y⟩ ⟨hi, hy, he⟩
  dsimp only at hi hy he
  cbv
  refine br (fun h => ?_) (fun h => ?_)
  · replace h := ltI hΩ h
    obtain ⟨c, hcc⟩ := at_of (cs := cs) (by omega : i < cs.length)
    have hcm := List.mem_of_getElem? hcc
    rw [szLoop_at _ hcc] at he
    cbv
    obtain ⟨nc, hnc⟩ : ∃ nc : Int, (c.length : Int) = nc := ⟨_, rfl⟩
    have hn0 : 0 ≤ nc := by omega
    have hcw : IntKind.i64.wrap (y - nc) = y - nc := by rw [← hnc]; exact szw hy.1 hy.2 (hc c hcm)
    rw [show szB c y = if y - c.length < 0 then -1 else y - c.length from rfl, hnc] at he
    have hst : Ω.ar .sub .i64 y (Ω.int (Ω.lenS c)) = IntKind.i64.wrap (y - nc) := by subst hΩ; rw [← hnc]; rfl
    rw [hcw] at hst
    refine ⟨⟨nnI hΩ⟩, _, rdI hΩ hxs hcc, ?_⟩
    cbv
    refine br (fun h => ?_) (fun h => ?_) <;> cbv
    · refine .of (congrArg i64 ?_)
      have h : y - nc < 0 := by rw [← hst]; exact ltI_t hΩ h
      rw [he, if_pos h, if_pos (by omega)]
    · have h2 : 0 ≤ y - nc := by rw [← hst]; exact ltI_f hΩ h
      rw [if_neg (by omega), if_neg (by omega)] at he
      exact ⟨(i + 1, y - nc), ⟨by dsimp only; omega, ⟨h2, by dsimp only; omega⟩, he⟩, by dsimp only; omega, Sbs.mk rfl rfl ⟨rfl, congrArg i64 hst, incI hΩ (by simp only [maxLen] at hm; omega), trivial⟩⟩
  · replace h := geI hΩ h
    cbv
    exact .of (congrArg i64 (by rw [he, List.drop_of_length_le (by omega)]; rfl))
theorem c_szPack (o : Pck) (l : Int) (h0 : 0 ≤ l) (h1 : l ≤ 1048576) (hm : o.Fit) : PCtr PP n_laws_szPack [o.enc false, i64 l] (i64 (szP o l)) := by
  obtain ⟨Ω, hΩ⟩ : ∃ Ω, Ω = std := ⟨_, rfl⟩
  obtain ⟨r, hr⟩ : ∃ r, r = szP o l := ⟨_, rfl⟩
  rw [← hr]
  obtain ⟨ps, ds, bs, hen, hps, hds, hbs⟩ := enc_raw o
  rw [hen]
  have hw := szN_w h0 h1 hm.n
  have k1 : ∀ l, 0 ≤ l → l ≤ 1048576 → PCtr PP n_laws_szStringS [.sl false 1 ps, i64 l] (i64 (szS szB o.p l)) := fun l a b => by rw [hps]; exact c_szStringS o.p l a b hm.p.1 hm.p.2
  have k2 : ∀ l, 0 ≤ l → l ≤ 1048576 → PCtr PP n_laws_szTermSS [.sl false 1 ds, i64 l] (i64 (szS (szS szT) o.d l)) := fun l a b => by rw [hds]; exact c_szTermSS o.d l a b hm.d.1 hm.d.2
  have k3 : ∀ l, 0 ≤ l → l ≤ 1048576 → PCtr PP n_laws_szTermS [.sl false 7 bs, i64 l] (i64 (szS szT o.b l)) := fun l a b => by rw [hbs]; exact c_szTermS o.b l a b hm.b.1 hm.b.2
  have g1 : ∀ l, 0 ≤ szS szB o.p l → szS szB o.p l ≤ l := fun l h => by have := szS_cost szB_cost o.p l; split at this <;> omega
  have g2 : ∀ l, 0 ≤ szS (szS szT) o.d l → szS (szS szT) o.d l ≤ l := fun l h => by have := szS_cost (szS_cost szT_cost) o.d l; split at this <;> omega
  unfold szP at hr
  obtain ⟨nc, hnc⟩ : ∃ nc : Int, (o.n.length : Int) = nc := ⟨_, rfl⟩
  have hn0 : 0 ≤ nc := by omega
  rw [show szN o.n.length l = if l - o.n.length < 0 then -1 else l - o.n.length from rfl, hnc] at hr
  have hst : Ω.ar .sub .i64 l (Ω.int (Ω.lenS o.n)) = IntKind.i64.wrap (l - nc) := by subst hΩ; rw [← hnc]; rfl
  rw [hnc] at hw
  rw [hw] at hst
  generalize szS szB o.p = f1 at *
  generalize szS (szS szT) o.d = f2 at *
  generalize szS szT o.b = f3 at *
  have htab := tab
  refine PCtr.walk tab hΩ fn_laws_szPack rfl ?_
  generalize PP = P at *
  cbv
  refine br (fun h => ?_) (fun h => ?_) <;> cbv
  · refine .of (congrArg i64 ?_)
    have h : l - nc < 0 := by rw [← hst]; exact ltI_t hΩ h
    rw [hr, if_pos h]; rfl
  obtain ⟨l1, hl1, q0, q1, hr⟩ : ∃ l1, Ω.ar .sub .i64 l (Ω.int (Ω.lenS o.n)) = l1 ∧ 0 ≤ l1 ∧ l1 ≤ 1048576 ∧ r = if f1 l1 < 0 then -1 else if f2 (f1 l1) < 0 then -1 else if f3 (f2 (f1 l1)) < 0 then -1 else f3 (f2 (f1 l1)) := by
    have h : 0 ≤ l - nc := by rw [← hst]; exact ltI_f hΩ h
    have e : (if l - nc < 0 then -1 else l - nc) = l - nc := if_neg (by omega)
    refine ⟨l - nc, hst, h, by omega, ?_⟩
    rw [hr]
    simp only [e]
    rw [if_neg (by omega)]
  have k1' : PCtr P n_laws_szStringS [.sl false 1 ps, i64 (Ω.ar .sub .i64 l (Ω.int (Ω.lenS o.n)))] (i64 (f1 l1)) := by rw [hl1]; exact k1 l1 q0 q1
  have gg1 := g1 l1
  generalize f1 l1 = a1 at *
  refine call_pure hΩ 3 k1' rfl (fits _) rfl rfl ?_
  cbv
  refine br (fun h => ?_) (fun h => ?_) <;> cbv
  · exact .of (congrArg i64 (by rw [hr, if_pos (ltI_t hΩ h)]))
  have h := ltI_f hΩ h
  rw [if_neg (by omega)] at hr
  have k2' := k2 a1 h (by have := gg1 h; omega)
  have gg2 := g2 a1
  generalize f2 a1 = a2 at *
  refine call_pure hΩ 3 k2' rfl (fits _) rfl rfl ?_
  cbv
  refine br (fun h => ?_) (fun h => ?_) <;> cbv
  · exact .of (congrArg i64 (by rw [hr, if_pos (ltI_t hΩ h)]))
  have h' := ltI_f hΩ h
  rw [if_neg (by omega)] at hr
  have k3' := k3 a2 h' (by have := gg1 (by assumption); have := gg2 h'; omega)
  generalize f3 a2 = a3 at *
  refine call_pure hΩ 3 k3' rfl (fits _) rfl rfl ?_
  cbv
  refine br (fun h => ?_) (fun h => ?_) <;> cbv
  · exact .of (congrArg i64 (by rw [hr, if_pos (ltI_t hΩ h)]))
  have h3 := ltI_f hΩ h
  rw [if_neg (by omega)] at hr
  exact .of (congrArg i64 hr.symm)
theorem c_szPackS (cs : List (Pck)) (l : Int) (h0 : 0 ≤ l) (h1 : l ≤ 1048576) (hm : cs.length ≤ maxLen) (hc : ∀ c ∈ cs, c.Fit) : PCtr PP n_laws_szPackS [.sl false 8 (cs.map (Pck.enc false)), i64 l] (i64 (szS szP cs l)) := by
  obtain ⟨Ω, hΩ⟩ : ∃ Ω, Ω = std := ⟨_, rfl⟩
  obtain ⟨r, hr⟩ : ∃ r, r = szS szP cs l := ⟨_, rfl⟩
  obtain ⟨xs, hxs⟩ : ∃ xs, xs = cs.map (Pck.enc false) := ⟨_, rfl⟩
  have hlen : xs.length = cs.length := by rw [hxs, List.length_map]
  rw [← hxs, ← hr]
  have hel : ∀ c ∈ cs, ∀ y, 0 ≤ y → y ≤ 1048576 → PCtr PP n_laws_szPack [Pck.enc false c, i64 y] (i64 (szP c y)) := fun c h y a b => c_szPack c y a b (hc c h)
  have hle : ∀ c y, 0 ≤ szP c y → szP c y ≤ y := fun c y h => by
    have h2 := szP_cost c y
    rw [h2] at h ⊢
    split at h
    · omega
    · rename_i h3; rw [if_neg h3]; omega
  have htab := tab
  refine PCtr.walk tab hΩ fn_laws_szPackS rfl ?_
  generalize PP = P at *
  cbv
  refine br (fun h => ?_) (fun h => ?_)
  · replace h : r = -1 := by
      subst hΩ
      have h : IntKind.i64.wrap (l - xs.length) < 0 := lt_t h
      rw [hlen, szw h0 h1 hm] at h
      rw [hr, szS, if_pos h]
    cbv
    exact .of (congrArg i64 h.symm)
  obtain ⟨l', hl', h, hr⟩ : ∃ l', IntKind.i64.wrap (l - xs.length) = l' ∧ (0 ≤ l' ∧ l' ≤ 1048576) ∧ r = szLoop szP cs l' := by
    subst hΩ
    have h : 0 ≤ IntKind.i64.wrap (l - xs.length) := lt_f h
    rw [hlen, szw h0 h1 hm] at h ⊢
    exact ⟨_, rfl, ⟨h, by omega⟩, by rw [hr, szS, if_neg (by omega)]⟩
  cbv
  refine loopX htab hΩ (fun i : Nat × Int => ⟨[(0, .sl false 8 xs), (1, .sc (.int .i64 i.2)), (5, .sc (.int .i64 (Ω.int i.1)))], 27, []⟩) (fun i => i.1 ≤ cs.length ∧ (0 ≤ i.2 ∧ i.2 ≤ 1048576) ∧ r = szLoop szP (cs.drop i.1) i.2)
    (fun i => cs.length - i.1) (0, l') ⟨Nat.zero_le _, h, hr⟩ (Sbs.mk rfl rfl ⟨rfl, by subst hΩ; exact congrArg i64 hl', zeroI hΩ, trivial⟩) ?_
  rintro ⟨i, y⟩ ⟨hi, hy, he⟩
  dsimp only at hi hy he
  cbv
  refine br (fun h => ?_) (fun h => ?_)
  · replace h := ltI hΩ h
    obtain ⟨c, hcc⟩ := at_of (cs := cs) (by omega : i < cs.length)
    have hcm := List.mem_of_getElem? hcc
    rw [szLoop_at _ hcc] at he
    cbv
    have hcc' := hel c hcm y hy.1 hy.2
    obtain ⟨ps, ds, bs, hen, hps, hds, hbs⟩ := enc_raw c
    rw [hen] at hcc'
    refine ⟨⟨nnI hΩ⟩, _, (rdI hΩ hxs hcc).trans (congrArg some hen), ?_⟩
    cbv
    have hley := hle c y
    generalize szP c y = y' at he hcc' hley
    refine call_pure hΩ 3 hcc' rfl (fits _) rfl rfl ?_
    cbv
    refine br (fun h => ?_) (fun h => ?_) <;> cbv
    · exact .of (congrArg i64 (by rw [he, if_pos (ltI_t hΩ h)]))
    · have h := ltI_f hΩ h
      exact ⟨(i + 1, y'), ⟨by dsimp only; omega, ⟨h, by have := hley h; dsimp only; omega⟩, by rw [he, if_neg (by omega)]⟩, by dsimp only; omega, Sbs.mk rfl rfl ⟨rfl, rfl, incI hΩ (by simp only [maxLen] at hm; omega), trivial⟩⟩
  · replace h := geI hΩ h
    cbv
    exact .of (congrArg i64 (by rw [he, List.drop_of_length_le (by omega)]; rfl))
end Go.Proofs.YtomfmdfamlmfiaaGreat

/- Walks: copies. Plain theorems. -/
set_option linter.unusedVariables false
set_option linter.unusedSimpArgs false
namespace Go.Proofs.YtomfmdfamlmfiaaGreat
open Go Go.Fw
set_option maxRecDepth 100000
/-- A slice that is filled from the left. -/
theorem c_toVersion (v : Ver) : PCtr PP n_laws_toVersion [v.enc] v.enc := by
  obtain ⟨Ω, hΩ⟩ : ∃ Ω, Ω = std := ⟨_, rfl⟩
  refine PCtr.walk tab hΩ fn_laws_toVersion rfl ?_
  generalize PP = P
  cbv
  exact .same
theorem c_toTerm (t : Trm) : PCtr PP n_laws_toTerm [t.enc] t.enc := by
  obtain ⟨Ω, hΩ⟩ : ∃ Ω, Ω = std := ⟨_, rfl⟩
  have hc := c_toVersion
  refine PCtr.walk tab hΩ fn_laws_toTerm rfl ?_
  generalize PP = P at *
  cbv
  refine call_pure hΩ 3 (hc t.l) rfl (fits _) rfl rfl ?_
  cbv
  refine call_pure hΩ 3 (hc t.h) rfl (fits _) rfl rfl ?_
  cbv
  exact .same
theorem c_toStringS (cs : List (List UInt8)) (hb : cs.length ≤ 1048576) : PCtr PP n_laws_toStringS [.sl false 1 (cs.map (str))] (.sl true 1 (cs.map (str))) := by
  obtain ⟨Ω, hΩ⟩ : ∃ Ω, Ω = std := ⟨_, rfl⟩
  obtain ⟨xs, hxs⟩ : ∃ xs, xs = cs.map (str) := ⟨_, rfl⟩
  obtain ⟨zs, hzs⟩ : ∃ zs, zs = cs.map (str) := ⟨_, rfl⟩
  obtain ⟨n, hn⟩ : ∃ n, n = cs.length := ⟨_, rfl⟩
  have hlen : xs.length = n := by rw [hxs, hn, List.length_map]
  obtain ⟨ys, hys⟩ : ∃ ys : Nat → List A, ys = fill (str) (str []) cs := ⟨_, rfl⟩
  have hyl : ∀ i, i ≤ n → (ys i).length = n := fun i hi => by rw [hys, hn]; exact fill_length (by omega)
  have hya : ∀ i, ∀ z ∈ ys i, vStore.isAggA z = false := fun i => by rw [hys]; exact fill_all (fun _ => rfl) rfl
  have hy0 : List.replicate n (str []) = ys 0 := by rw [hys, fill_zero, hn]
  have hyn : ys n = zs := by rw [hys, hn, fill_full, hzs]
  have hyset : ∀ i c, cs[i]? = some c → (ys i).set i ((str) c) = ys (i + 1) := fun i c h => by rw [hys]; exact fill_set h
  clear hys
  rw [← hxs]
  rw [show A.sl true 1 xs = .sl true 1 zs by rw [hzs, hxs]]
  refine PCtr.walk tab hΩ fn_laws_toStringS rfl ?_
  have htab := tab
  have hmo := hmo
  generalize PP = P at *
  cbv
  refine ⟨⟨by subst hΩ; show _ ∧ (0 : Int) ≤ xs.length ∧ 16 * ((xs.length : Int).toNat) ≤ _ ∧ (xs.length : Int).toNat ≤ 9223372036854775807; rw [hlen]; refine ⟨rfl, ?_, ?_, ?_⟩ <;> omega⟩,
    loopX htab hΩ (fun i : Nat => ⟨[(0, .sl false 1 xs), (3, .vw 0 0 n), (4, .sc (.int .i64 (Ω.int i)))], 22, [some ⟨1, ys i, false⟩]⟩) (fun i => i ≤ n) (fun i => n - i) 0 (Nat.zero_le _) (Sbs.mk rfl ?_ ?_) (fun i hi => ?_)⟩
  · rw [← hy0]; subst hΩ; subst hlen; rfl
  · subst hΩ; subst hlen; exact ⟨rfl, rfl, rfl, trivial⟩
  have hyli := hyl i hi
  have hyai := hya i
  cbv
  refine br (fun h => ?_) (fun h => ?_)
  · replace h : i < n := by have := ltI hΩ h; omega
    obtain ⟨c, hcc⟩ := at_of (cs := cs) (by omega : i < cs.length)
    have hset := hyset i c hcc
    cbv
    refine ⟨⟨nnI hΩ⟩, _, rdI hΩ hxs hcc, ?_⟩
    cbv
    refine ⟨⟨ixI hΩ h⟩, ⟨by subst hΩ; show 0 + i < _; rw [hyli]; omega, hyai⟩, i + 1, by omega, by omega, Sbs.mk rfl (by rw [← hset]; subst hΩ; show [some (Row.mk 1 ((ys i).set (0 + i) _) false)] = _; rw [Nat.zero_add]; rfl) ⟨rfl, rfl, incI hΩ (by omega), trivial⟩⟩
  · replace h : i = n := by have := geI hΩ h; omega
    subst h
    cbv
    refine ⟨⟨rfl, by show i ≤ (ys i).length; omega⟩, .of ?_⟩
    rw [← hyn]
    subst hΩ
    show A.sl true 1 ((ys i).take i) = _
    rw [List.take_of_length_le (by omega)]
theorem c_toInt64S (cs : List (Int)) (hb : cs.length ≤ 1048576) : PCtr PP n_laws_toInt64S [.sl false 1 (cs.map (i64))] (.sl true 1 (cs.map (i64))) := by
  obtain ⟨Ω, hΩ⟩ : ∃ Ω, Ω = std := ⟨_, rfl⟩
  obtain ⟨xs, hxs⟩ : ∃ xs, xs = cs.map (i64) := ⟨_, rfl⟩
  obtain ⟨zs, hzs⟩ : ∃ zs, zs = cs.map (i64) := ⟨_, rfl⟩
  obtain ⟨n, hn⟩ : ∃ n, n = cs.length := ⟨_, rfl⟩
  have hlen : xs.length = n := by rw [hxs, hn, List.length_map]
  obtain ⟨ys, hys⟩ : ∃ ys : Nat → List A, ys = fill (i64) (i64 0) cs := ⟨_, rfl⟩
  have hyl : ∀ i, i ≤ n → (ys i).length = n := fun i hi => by rw [hys, hn]; exact fill_length (by omega)
  have hya : ∀ i, ∀ z ∈ ys i, vStore.isAggA z = false := fun i => by rw [hys]; exact fill_all (fun _ => rfl) rfl
  have hy0 : List.replicate n (i64 0) = ys 0 := by rw [hys, fill_zero, hn]
  have hyn : ys n = zs := by rw [hys, hn, fill_full, hzs]
  have hyset : ∀ i c, cs[i]? = some c → (ys i).set i ((i64) c) = ys (i + 1) := fun i c h => by rw [hys]; exact fill_set h
  clear hys
  rw [← hxs]
  rw [show A.sl true 1 xs = .sl true 1 zs by rw [hzs, hxs]]
  refine PCtr.walk tab hΩ fn_laws_toInt64S rfl ?_
  have htab := tab
  have hmo := hmo
  generalize PP = P at *
  cbv
  refine ⟨⟨by subst hΩ; show _ ∧ (0 : Int) ≤ xs.length ∧ 8 * ((xs.length : Int).toNat) ≤ _ ∧ (xs.length : Int).toNat ≤ 9223372036854775807; rw [hlen]; refine ⟨rfl, ?_, ?_, ?_⟩ <;> omega⟩,
    loopX htab hΩ (fun i : Nat => ⟨[(0, .sl false 1 xs), (3, .vw 0 0 n), (4, .sc (.int .i64 (Ω.int i)))], 22, [some ⟨1, ys i, false⟩]⟩) (fun i => i ≤ n) (fun i => n - i) 0 (Nat.zero_le _) (Sbs.mk rfl ?_ ?_) (fun i hi => ?_)⟩
  · rw [← hy0]; subst hΩ; subst hlen; rfl
  · subst hΩ; subst hlen; exact ⟨rfl, rfl, rfl, trivial⟩
  have hyli := hyl i hi
  have hyai := hya i
  cbv
  refine br (fun h => ?_) (fun h => ?_)
  · replace h : i < n := by have := ltI hΩ h; omega
    obtain ⟨c, hcc⟩ := at_of (cs := cs) (by omega : i < cs.length)
    have hset := hyset i c hcc
    cbv
    refine ⟨⟨nnI hΩ⟩, _, rdI hΩ hxs hcc, ?_⟩
    cbv
    refine ⟨⟨ixI hΩ h⟩, ⟨by subst hΩ; show 0 + i < _; rw [hyli]; omega, hyai⟩, i + 1, by omega, by omega, Sbs.mk rfl (by rw [← hset]; subst hΩ; show [some (Row.mk 1 ((ys i).set (0 + i) _) false)] = _; rw [Nat.zero_add]; rfl) ⟨rfl, rfl, incI hΩ (by omega), trivial⟩⟩
  · replace h : i = n := by have := geI hΩ h; omega
    subst h
    cbv
    refine ⟨⟨rfl, by show i ≤ (ys i).length; omega⟩, .of ?_⟩
    rw [← hyn]
    subst hΩ
    show A.sl true 1 ((ys i).take i) = _
    rw [List.take_of_length_le (by omega)]
theorem c_toTermS (cs : List (Trm)) (hb : cs.length ≤ 1048576) : PCtr PP n_laws_toTermS [.sl false 7 (cs.map (Trm.enc))] (.sl true 7 (cs.map (Trm.enc))) := by
  obtain ⟨Ω, hΩ⟩ : ∃ Ω, Ω = std := ⟨_, rfl⟩
  obtain ⟨xs, hxs⟩ : ∃ xs, xs = cs.map (Trm.enc) := ⟨_, rfl⟩
  obtain ⟨zs, hzs⟩ : ∃ zs, zs = cs.map (Trm.enc) := ⟨_, rfl⟩
  obtain ⟨n, hn⟩ : ∃ n, n = cs.length := ⟨_, rfl⟩
  have hlen : xs.length = n := by rw [hxs, hn, List.length_map]
  obtain ⟨ys, hys⟩ : ∃ ys : Nat → List A, ys = fill (Trm.enc) (Trm.zero.enc) cs := ⟨_, rfl⟩
  have hyl : ∀ i, i ≤ n → (ys i).length = n := fun i hi => by rw [hys, hn]; exact fill_length (by omega)
  have hya : ∀ i, ∀ z ∈ ys i, isAggN 7 z = true := fun i => by rw [hys]; exact fill_all (fun _ => rfl) rfl
  have hy0 : List.replicate n (Trm.zero.enc) = ys 0 := by rw [hys, fill_zero, hn]
  have hyn : ys n = zs := by rw [hys, hn, fill_full, hzs]
  have hyset : ∀ i c, cs[i]? = some c → (ys i).set i ((Trm.enc) c) = ys (i + 1) := fun i c h => by rw [hys]; exact fill_set h
  clear hys
  rw [← hxs]
  rw [show A.sl true 7 xs = .sl true 7 zs by rw [hzs, hxs]]
  have hc := c_toTerm
  refine PCtr.walk tab hΩ fn_laws_toTermS rfl ?_
  have htab := tab
  have hmo := hmo
  generalize PP = P at *
  cbv
  refine ⟨⟨by subst hΩ; show _ ∧ (0 : Int) ≤ xs.length ∧ 64 * ((xs.length : Int).toNat) ≤ _ ∧ (xs.length : Int).toNat ≤ 9223372036854775807; rw [hlen]; refine ⟨rfl, ?_, ?_, ?_⟩ <;> omega⟩,
    loopX htab hΩ (fun i : Nat => ⟨[(0, .sl false 7 xs), (3, .vw 0 0 n), (4, .sc (.int .i64 (Ω.int i)))], 23, [some ⟨7, ys i, false⟩]⟩) (fun i => i ≤ n) (fun i => n - i) 0 (Nat.zero_le _) (Sbs.mk rfl ?_ ?_) (fun i hi => ?_)⟩
  · rw [← hy0]; subst hΩ; subst hlen; rfl
  · subst hΩ; subst hlen; exact ⟨rfl, rfl, rfl, trivial⟩
  have hyli := hyl i hi
  have hyai := hya i
  cbv
  refine br (fun h => ?_) (fun h => ?_)
  · replace h : i < n := by have := ltI hΩ h; omega
    obtain ⟨c, hcc⟩ := at_of (cs := cs) (by omega : i < cs.length)
    have hset := hyset i c hcc
    cbv
    refine ⟨⟨nnI hΩ⟩, _, rdI hΩ hxs hcc, ?_⟩
    cbv
    refine call_pure hΩ 3 (hc c) rfl (fits _) rfl rfl ?_
    cbv
    refine ⟨⟨ixI hΩ h⟩, ⟨by subst hΩ; show 0 + i < _; rw [hyli]; omega, hyai⟩, i + 1, by omega, by omega, Sbs.mk rfl (by rw [← hset]; subst hΩ; show [some (Row.mk 7 ((ys i).set (0 + i) _) false)] = _; rw [Nat.zero_add]; rfl) ⟨rfl, rfl, incI hΩ (by omega), trivial⟩⟩
  · replace h : i = n := by have := geI hΩ h; omega
    subst h
    cbv
    refine ⟨⟨rfl, by show i ≤ (ys i).length; omega⟩, .of ?_⟩
    rw [← hyn]
    subst hΩ
    show A.sl true 7 ((ys i).take i) = _
    rw [List.take_of_length_le (by omega)]
theorem c_toTermSS (cs : List (List Trm)) (hb : cs.length ≤ 1048576) (hl : ∀ l ∈ cs, l.length ≤ 1048576) : PCtr PP n_laws_toTermSS [.sl false 1 (cs.map (encTs false))] (.sl true 1 (cs.map (encTs true))) := by
  obtain ⟨Ω, hΩ⟩ : ∃ Ω, Ω = std := ⟨_, rfl⟩
  obtain ⟨xs, hxs⟩ : ∃ xs, xs = cs.map (encTs false) := ⟨_, rfl⟩
  obtain ⟨zs, hzs⟩ : ∃ zs, zs = cs.map (encTs true) := ⟨_, rfl⟩
  obtain ⟨n, hn⟩ : ∃ n, n = cs.length := ⟨_, rfl⟩
  have hlen : xs.length = n := by rw [hxs, hn, List.length_map]
  obtain ⟨ys, hys⟩ : ∃ ys : Nat → List A, ys = fill (encTs true) (.nil) cs := ⟨_, rfl⟩
  have hyl : ∀ i, i ≤ n → (ys i).length = n := fun i hi => by rw [hys, hn]; exact fill_length (by omega)
  have hya : ∀ i, ∀ z ∈ ys i, vStore.isAggA z = false := fun i => by rw [hys]; exact fill_all (fun _ => rfl) rfl
  have hy0 : List.replicate n (.nil) = ys 0 := by rw [hys, fill_zero, hn]
  have hyn : ys n = zs := by rw [hys, hn, fill_full, hzs]
  have hyset : ∀ i c, cs[i]? = some c → (ys i).set i ((encTs true) c) = ys (i + 1) := fun i c h => by rw [hys]; exact fill_set h
  clear hys
  rw [← hxs, ← hzs]
  have hcl : ∀ c ∈ cs, PCtr PP n_laws_toTermS [.sl false 7 (c.map Trm.enc)] (.sl true 7 (c.map Trm.enc)) := fun c h => c_toTermS c (hl c h)
  refine PCtr.walk tab hΩ fn_laws_toTermSS rfl ?_
  have htab := tab
  have hmo := hmo
  generalize PP = P at *
  cbv
  refine ⟨⟨by subst hΩ; show _ ∧ (0 : Int) ≤ xs.length ∧ 24 * ((xs.length : Int).toNat) ≤ _ ∧ (xs.length : Int).toNat ≤ 9223372036854775807; rw [hlen]; refine ⟨rfl, ?_, ?_, ?_⟩ <;> omega⟩,
    loopX htab hΩ (fun i : Nat => ⟨[(0, .sl false 1 xs), (3, .vw 0 0 n), (4, .sc (.int .i64 (Ω.int i)))], 23, [some ⟨1, ys i, false⟩]⟩) (fun i => i ≤ n) (fun i => n - i) 0 (Nat.zero_le _) (Sbs.mk rfl ?_ ?_) (fun i hi => ?_)⟩
  · rw [← hy0]; subst hΩ; subst hlen; rfl
  · subst hΩ; subst hlen; exact ⟨rfl, rfl, rfl, trivial⟩
  have hyli := hyl i hi
  have hyai := hya i
  cbv
  refine br (fun h => ?_) (fun h => ?_)
  · replace h : i < n := by have := ltI hΩ h; omega
    obtain ⟨c, hcc⟩ := at_of (cs := cs) (by omega : i < cs.length)
    have hset := hyset i c hcc
    cbv
    obtain ⟨ts, hen, hts⟩ : ∃ ts, encTs false c = .sl false 7 ts ∧ ts = c.map Trm.enc := ⟨_, rfl, rfl⟩
    have hcc' := hcl c (List.mem_of_getElem? hcc)
    have hrf := roFTs c
    rw [show encTs true c = .sl true 7 ts by rw [hts]; rfl] at hrf hset
    rw [← hts] at hcc'
    refine ⟨⟨nnI hΩ⟩, _, (rdI hΩ hxs hcc).trans (congrArg some hen), ?_⟩
    cbv
    refine call_pure hΩ 3 hcc' rfl (fits _) hrf rfl ?_
    cbv
    refine ⟨⟨ixI hΩ h⟩, ⟨rfl, by subst hΩ; exact Nat.le_refl _⟩, ⟨by subst hΩ; show 0 + i < _; rw [hyli]; omega, hyai⟩, i + 1, by omega, by omega, Sbs.trans (Sbs.lastN (rows := [_]) rfl)
      (Sbs.mk rfl (by rw [← hset]; subst hΩ; show [some (Row.mk 1 ((ys i).set (0 + i) (A.sl true 7 (ts.take ts.length))) false)] = _; rw [List.take_length, Nat.zero_add]) ⟨rfl, rfl, incI hΩ (by omega), trivial⟩)⟩
  · replace h : i = n := by have := geI hΩ h; omega
    subst h
    cbv
    refine ⟨⟨rfl, by show i ≤ (ys i).length; omega⟩, .of ?_⟩
    rw [← hyn]
    subst hΩ
    show A.sl true 1 ((ys i).take i) = _
    rw [List.take_of_length_le (by omega)]
theorem c_toPack (o : Pck) (hs : o.Small) : PCtr PP n_laws_toPack [o.enc false] (o.enc true) := by
  obtain ⟨Ω, hΩ⟩ : ∃ Ω, Ω = std := ⟨_, rfl⟩
  obtain ⟨ps, ds, bs, hen, hps, hds, hbs⟩ := enc_raw o
  obtain ⟨ps', es, bs', hen2, hps2, hes2, hbs2⟩ := enc_own o
  have h1 := c_toVersion o.v
  have h2 := c_toStringS o.p hs.p
  have h3 := c_toTermSS o.d hs.d hs.e
  have h4 := c_toTermS o.b hs.b
  have r1 := roFAll (n := 1) (xs := o.p.map str) fun x hx => by obtain ⟨c, _, rfl⟩ := List.mem_map.1 hx; rfl
  have r2 := roFAll (n := 1) (xs := o.d.map (encTs true)) fun x hx => by obtain ⟨c, _, rfl⟩ := List.mem_map.1 hx; exact roFTs c
  have r3 : roFree (.sl true 7 (o.b.map Trm.enc)) = true := roFTs o.b
  rw [← hps] at hps2 h2 r1
  rw [← hes2] at h3 r2
  rw [← hbs] at hbs2 h4 r3
  rw [← hds] at h3
  rw [hps2, hbs2] at hen2
  rw [hen, hen2]
  refine PCtr.walk tab hΩ fn_laws_toPack rfl ?_
  have htab := tab
  have hmo := hmo
  generalize PP = P at *
  cbv
  refine call_pure hΩ 3 h1 rfl (fits _) rfl rfl ?_
  cbv
  refine call_pure hΩ 3 h2 rfl (fits _) r1 rfl ?_
  cbv
  refine call_pure hΩ 3 h3 rfl (fits _) r2 rfl ?_
  cbv
  refine call_pure hΩ 3 h4 rfl (fits _) r3 rfl ?_
  cbv
  refine ⟨⟨rfl, by subst hΩ; exact Nat.le_refl _⟩, ⟨rfl, by subst hΩ; exact Nat.le_refl _⟩, ⟨rfl, by subst hΩ; exact Nat.le_refl _⟩, .of ?_⟩
  subst hΩ
  show A.agg [str o.n, i64 o.v.a, i64 o.v.b, i64 o.v.c, i64 o.s, A.sl true 1 (ps.take ps.length), A.sl true 1 (es.take es.length), A.sl true 7 (bs.take bs.length)] = _
  rw [List.take_length, List.take_length, List.take_length]
  rfl
theorem c_toPackS (cs : List (Pck)) (hb : cs.length ≤ 1048576) (hl : ∀ l ∈ cs, l.Small) : PCtr PP n_laws_toPackS [.sl false 8 (cs.map (Pck.enc false))] (.sl true 8 (cs.map (Pck.enc true))) := by
  obtain ⟨Ω, hΩ⟩ : ∃ Ω, Ω = std := ⟨_, rfl⟩
  obtain ⟨xs, hxs⟩ : ∃ xs, xs = cs.map (Pck.enc false) := ⟨_, rfl⟩
  obtain ⟨zs, hzs⟩ : ∃ zs, zs = cs.map (Pck.enc true) := ⟨_, rfl⟩
  obtain ⟨n, hn⟩ : ∃ n, n = cs.length := ⟨_, rfl⟩
  have hlen : xs.length = n := by rw [hxs, hn, List.length_map]
  obtain ⟨ys, hys⟩ : ∃ ys : Nat → List A, ys = fill (Pck.enc true) (.agg [str [], i64 0, i64 0, i64 0, i64 0, .nil, .nil, .nil]) cs := ⟨_, rfl⟩
  have hyl : ∀ i, i ≤ n → (ys i).length = n := fun i hi => by rw [hys, hn]; exact fill_length (by omega)
  have hya : ∀ i, ∀ z ∈ ys i, isAggN 8 z = true := fun i => by rw [hys]; exact fill_all (fun _ => rfl) rfl
  have hy0 : List.replicate n (.agg [str [], i64 0, i64 0, i64 0, i64 0, .nil, .nil, .nil]) = ys 0 := by rw [hys, fill_zero, hn]
  have hyn : ys n = zs := by rw [hys, hn, fill_full, hzs]
  have hyset : ∀ i c, cs[i]? = some c → (ys i).set i ((Pck.enc true) c) = ys (i + 1) := fun i c h => by rw [hys]; exact fill_set h
  clear hys
  rw [← hxs, ← hzs]
  have hcl : ∀ c ∈ cs, PCtr PP n_laws_toPack [Pck.enc false c] (Pck.enc true c) := fun c h => c_toPack c (hl c h)
  refine PCtr.walk tab hΩ fn_laws_toPackS rfl ?_
  have htab := tab
  have hmo := hmo
  generalize PP = P at *
  cbv
  refine ⟨⟨by subst hΩ; show _ ∧ (0 : Int) ≤ xs.length ∧ 120 * ((xs.length : Int).toNat) ≤ _ ∧ (xs.length : Int).toNat ≤ 9223372036854775807; rw [hlen]; refine ⟨rfl, ?_, ?_, ?_⟩ <;> omega⟩,
    loopX htab hΩ (fun i : Nat => ⟨[(0, .sl false 8 xs), (3, .vw 0 0 n), (4, .sc (.int .i64 (Ω.int i)))], 23, [some ⟨8, ys i, false⟩]⟩) (fun i => i ≤ n) (fun i => n - i) 0 (Nat.zero_le _) (Sbs.mk rfl ?_ ?_) (fun i hi => ?_)⟩
  · rw [← hy0]; subst hΩ; subst hlen; rfl
  · subst hΩ; subst hlen; exact ⟨rfl, rfl, rfl, trivial⟩
  have hyli := hyl i hi
  have hyai := hya i
  cbv
  refine br (fun h => ?_) (fun h => ?_)
  · replace h : i < n := by have := ltI hΩ h; omega
    obtain ⟨c, hcc⟩ := at_of (cs := cs) (by omega : i < cs.length)
    have hset := hyset i c hcc
    cbv
    obtain ⟨ps, ds, bs, hen, hps, hds, hbs⟩ := enc_raw c
    obtain ⟨ps2, ds2, bs2, hen2, hps2, hds2, hbs2⟩ := enc_own c
    have hcc' := hcl c (List.mem_of_getElem? hcc)
    have hrf := roFP c
    rw [hen2] at hrf hset
    rw [hen, hen2] at hcc'
    refine ⟨⟨nnI hΩ⟩, _, (rdI hΩ hxs hcc).trans (congrArg some hen), ?_⟩
    cbv
    refine call_pure hΩ 3 hcc' rfl (fits _) hrf rfl ?_
    cbv
    refine ⟨⟨ixI hΩ h⟩, ⟨rfl, by subst hΩ; exact Nat.le_refl _⟩, ⟨rfl, by subst hΩ; exact Nat.le_refl _⟩, ⟨rfl, by subst hΩ; exact Nat.le_refl _⟩, ⟨by subst hΩ; show 0 + i < _; rw [hyli]; omega, hyai⟩, i + 1, by omega, by omega,
      Sbs.trans (Sbs.lastN (rows := [_, none, none]) rfl) (Sbs.trans (Sbs.lastN (rows := [_, none]) rfl) (Sbs.trans (Sbs.lastN (rows := [_]) rfl) (Sbs.mk rfl ?_ ⟨rfl, rfl, incI hΩ (by omega), trivial⟩)))⟩
    rw [← hset]
    subst hΩ
    show [some (Row.mk 8 ((ys i).set (0 + i) (A.agg [str c.n, i64 c.v.a, i64 c.v.b, i64 c.v.c, i64 c.s, A.sl true 1 (ps2.take ps2.length), A.sl true 1 (ds2.take ds2.length), A.sl true 7 (bs2.take bs2.length)])) false)] = _
    rw [List.take_length, List.take_length, List.take_length, Nat.zero_add]
  · replace h : i = n := by have := geI hΩ h; omega
    subst h
    cbv
    refine ⟨⟨rfl, by show i ≤ (ys i).length; omega⟩, .of ?_⟩
    rw [← hyn]
    subst hΩ
    show A.sl true 8 ((ys i).take i) = _
    rw [List.take_of_length_le (by omega)]
end Go.Proofs.YtomfmdfamlmfiaaGreat

/- Walks: what is equal is told so. Plain theorems. -/
set_option linter.unusedVariables false
set_option linter.unusedSimpArgs false
namespace Go.Proofs.YtomfmdfamlmfiaaGreat
open Go Go.Fw
set_option maxRecDepth 100000
theorem c_eqVersion (v : Ver) : PCtr PP n_laws_eqVersion [v.enc, v.enc] (boo true) := by
  obtain ⟨Ω, hΩ⟩ : ∃ Ω, Ω = std := ⟨_, rfl⟩
  have htab := tab
  have hmo := hmo
  refine PCtr.walk tab hΩ fn_laws_eqVersion rfl ?_
  generalize PP = P at *
  cbv
  repeat' (first | (refine br (fun h => (notT hΩ h).elim) (fun h => ?_); cbv) | (refine br (fun h => (ne_self hΩ h).elim) (fun h => ?_); cbv) | (refine br (fun h => (sne_self hΩ h).elim) (fun h => ?_); cbv) | (refine ⟨VC_drawn htab hΩ hmo (by kernel_rfl) ?_⟩; cbv))
  exact .same
theorem c_eqTerm (t : Trm) : PCtr PP n_laws_eqTerm [t.enc, t.enc] (boo true) := by
  obtain ⟨Ω, hΩ⟩ : ∃ Ω, Ω = std := ⟨_, rfl⟩
  have h1 := c_eqVersion t.l
  have h2 := c_eqVersion t.h
  have htab := tab
  have hmo := hmo
  refine PCtr.walk tab hΩ fn_laws_eqTerm rfl ?_
  generalize PP = P at *
  cbv
  repeat' (first | (refine br (fun h => (notT hΩ h).elim) (fun h => ?_); cbv) | (refine br (fun h => (ne_self hΩ h).elim) (fun h => ?_); cbv) | (refine br (fun h => (sne_self hΩ h).elim) (fun h => ?_); cbv) | (refine ⟨VC_drawn htab hΩ hmo (by kernel_rfl) ?_⟩; cbv) | (refine call_pure hΩ 3 h1 rfl (fits _) rfl rfl ?_; cbv) | (refine QCall_pure (k := 3) h1 rfl (fits _) rfl ?_; cbv) | (refine call_pure hΩ 3 h2 rfl (fits _) rfl rfl ?_; cbv) | (refine QCall_pure (k := 3) h2 rfl (fits _) rfl ?_; cbv))
  exact .same
theorem c_eqStringS (cs : List (List UInt8)) (hb : cs.length ≤ 1048576) : PCtr PP n_laws_eqStringS [.sl false 1 (cs.map (str)), .sl false 1 (cs.map (str))] (boo true) := by
  obtain ⟨Ω, hΩ⟩ : ∃ Ω, Ω = std := ⟨_, rfl⟩
  obtain ⟨xs, hxs⟩ : ∃ xs, xs = cs.map (str) := ⟨_, rfl⟩
  have hlen : xs.length = cs.length := by rw [hxs, List.length_map]
  rw [← hxs]
  have htab := tab
  have hmo := hmo
  refine PCtr.walk tab hΩ fn_laws_eqStringS rfl ?_
  generalize PP = P at *
  cbv
  refine br (fun h => (ne_self hΩ h).elim) (fun h => ?_)
  cbv
  refine loopX htab hΩ (fun i : Nat => ⟨[(0, .sl false 1 xs), (1, .sl false 1 xs), (5, .sc (.int .i64 (Ω.int i)))], 26, []⟩) (fun i => i ≤ cs.length) (fun i => cs.length - i) 0 (Nat.zero_le _) (Sbs.mk rfl rfl ⟨rfl, rfl, zeroI hΩ, trivial⟩) (fun i hi => ?_)
  cbv
  refine br (fun h => ?_) (fun h => ?_)
  · replace h := ltI hΩ h
    obtain ⟨c, hcc⟩ := at_of (cs := cs) (by omega : i < _)
    have hcm := List.mem_of_getElem? hcc
    cbv
    repeat' (first | (refine br (fun h => (notT hΩ h).elim) (fun h => ?_); cbv) | (refine br (fun h => (ne_self hΩ h).elim) (fun h => ?_); cbv) | (refine br (fun h => (sne_self hΩ h).elim) (fun h => ?_); cbv) | (refine ⟨VC_drawn htab hΩ hmo (by kernel_rfl) ?_⟩; cbv) | (refine ⟨⟨nnI hΩ⟩, _, rdI hΩ hxs hcc, ?_⟩; cbv))
    exact ⟨i + 1, by omega, by omega, Sbs.mk rfl rfl ⟨rfl, rfl, incI hΩ (by omega), trivial⟩⟩
  · cbv
    exact .same
theorem c_eqInt64S (cs : List (Int)) (hb : cs.length ≤ 1048576) : PCtr PP n_laws_eqInt64S [.sl false 1 (cs.map (i64)), .sl false 1 (cs.map (i64))] (boo true) := by
  obtain ⟨Ω, hΩ⟩ : ∃ Ω, Ω = std := ⟨_, rfl⟩
  obtain ⟨xs, hxs⟩ : ∃ xs, xs = cs.map (i64) := ⟨_, rfl⟩
  have hlen : xs.length = cs.length := by rw [hxs, List.length_map]
  rw [← hxs]
  have htab := tab
  have hmo := hmo
  refine PCtr.walk tab hΩ fn_laws_eqInt64S rfl ?_
  generalize PP = P at *
  cbv
  refine br (fun h => (ne_self hΩ h).elim) (fun h => ?_)
  cbv
  refine loopX htab hΩ (fun i : Nat => ⟨[(0, .sl false 1 xs), (1, .sl false 1 xs), (5, .sc (.int .i64 (Ω.int i)))], 26, []⟩) (fun i => i ≤ cs.length) (fun i => cs.length - i) 0 (Nat.zero_le _) (Sbs.mk rfl rfl ⟨rfl, rfl, zeroI hΩ, trivial⟩) (fun i hi => ?_)
  cbv
  refine br (fun h => ?_) (fun h => ?_)
  · replace h := ltI hΩ h
    obtain ⟨c, hcc⟩ := at_of (cs := cs) (by omega : i < _)
    have hcm := List.mem_of_getElem? hcc
    cbv
    repeat' (first | (refine br (fun h => (notT hΩ h).elim) (fun h => ?_); cbv) | (refine br (fun h => (ne_self hΩ h).elim) (fun h => ?_); cbv) | (refine br (fun h => (sne_self hΩ h).elim) (fun h => ?_); cbv) | (refine ⟨VC_drawn htab hΩ hmo (by kernel_rfl) ?_⟩; cbv) | (refine ⟨⟨nnI hΩ⟩, _, rdI hΩ hxs hcc, ?_⟩; cbv))
    exact ⟨i + 1, by omega, by omega, Sbs.mk rfl rfl ⟨rfl, rfl, incI hΩ (by omega), trivial⟩⟩
  · cbv
    exact .same
theorem c_eqTermS (cs : List (Trm)) (hb : cs.length ≤ 1048576) : PCtr PP n_laws_eqTermS [.sl false 7 (cs.map (Trm.enc)), .sl false 7 (cs.map (Trm.enc))] (boo true) := by
  obtain ⟨Ω, hΩ⟩ : ∃ Ω, Ω = std := ⟨_, rfl⟩
  obtain ⟨xs, hxs⟩ : ∃ xs, xs = cs.map (Trm.enc) := ⟨_, rfl⟩
  have hlen : xs.length = cs.length := by rw [hxs, List.length_map]
  rw [← hxs]
  have hc := c_eqTerm
  have htab := tab
  have hmo := hmo
  refine PCtr.walk tab hΩ fn_laws_eqTermS rfl ?_
  generalize PP = P at *
  cbv
  refine br (fun h => (ne_self hΩ h).elim) (fun h => ?_)
  cbv
  refine loopX htab hΩ (fun i : Nat => ⟨[(0, .sl false 7 xs), (1, .sl false 7 xs), (5, .sc (.int .i64 (Ω.int i)))], 27, []⟩) (fun i => i ≤ cs.length) (fun i => cs.length - i) 0 (Nat.zero_le _) (Sbs.mk rfl rfl ⟨rfl, rfl, zeroI hΩ, trivial⟩) (fun i hi => ?_)
  cbv
  refine br (fun h => ?_) (fun h => ?_)
  · replace h := ltI hΩ h
    obtain ⟨c, hcc⟩ := at_of (cs := cs) (by omega : i < _)
    have hcm := List.mem_of_getElem? hcc
    have hcc1 := hc c
    cbv
    repeat' (first | (refine br (fun h => (notT hΩ h).elim) (fun h => ?_); cbv) | (refine br (fun h => (ne_self hΩ h).elim) (fun h => ?_); cbv) | (refine br (fun h => (sne_self hΩ h).elim) (fun h => ?_); cbv) | (refine ⟨VC_drawn htab hΩ hmo (by kernel_rfl) ?_⟩; cbv) | (refine ⟨⟨nnI hΩ⟩, _, rdI hΩ hxs hcc, ?_⟩; cbv) | (refine call_pure hΩ 3 hcc1 rfl (fits _) rfl rfl ?_; cbv) | (refine QCall_pure (k := 3) hcc1 rfl (fits _) rfl ?_; cbv))
    exact ⟨i + 1, by omega, by omega, Sbs.mk rfl rfl ⟨rfl, rfl, incI hΩ (by omega), trivial⟩⟩
  · cbv
    exact .same
theorem c_eqTermSS (cs : List (List Trm)) (hb : cs.length ≤ 1048576) (hl : ∀ l ∈ cs, l.length ≤ 1048576) : PCtr PP n_laws_eqTermSS [.sl false 1 (cs.map (encTs false)), .sl false 1 (cs.map (encTs false))] (boo true) := by
  obtain ⟨Ω, hΩ⟩ : ∃ Ω, Ω = std := ⟨_, rfl⟩
  obtain ⟨xs, hxs⟩ : ∃ xs, xs = cs.map (encTs false) := ⟨_, rfl⟩
  have hlen : xs.length = cs.length := by rw [hxs, List.length_map]
  rw [← hxs]
  have hc : ∀ c ∈ cs, PCtr PP n_laws_eqTermS [.sl false 7 (c.map Trm.enc), .sl false 7 (c.map Trm.enc)] (boo true) := fun c h => c_eqTermS c (hl c h)
  have htab := tab
  have hmo := hmo
  refine PCtr.walk tab hΩ fn_laws_eqTermSS rfl ?_
  generalize PP = P at *
  cbv
  refine br (fun h => (ne_self hΩ h).elim) (fun h => ?_)
  cbv
  refine loopX htab hΩ (fun i : Nat => ⟨[(0, .sl false 1 xs), (1, .sl false 1 xs), (5, .sc (.int .i64 (Ω.int i)))], 27, []⟩) (fun i => i ≤ cs.length) (fun i => cs.length - i) 0 (Nat.zero_le _) (Sbs.mk rfl rfl ⟨rfl, rfl, zeroI hΩ, trivial⟩) (fun i hi => ?_)
  cbv
  refine br (fun h => ?_) (fun h => ?_)
  · replace h := ltI hΩ h
    obtain ⟨c, hcc⟩ := at_of (cs := cs) (by omega : i < _)
    have hcm := List.mem_of_getElem? hcc
    obtain ⟨ts, hen2, hts⟩ : ∃ ts, encTs false c = .sl false 7 ts ∧ ts = c.map Trm.enc := ⟨_, rfl, rfl⟩
    have hcc1 := hc c hcm
    rw [← hts] at hcc1
    cbv
    repeat' (first | (refine br (fun h => (notT hΩ h).elim) (fun h => ?_); cbv) | (refine br (fun h => (ne_self hΩ h).elim) (fun h => ?_); cbv) | (refine br (fun h => (sne_self hΩ h).elim) (fun h => ?_); cbv) | (refine ⟨VC_drawn htab hΩ hmo (by kernel_rfl) ?_⟩; cbv) | (refine ⟨⟨nnI hΩ⟩, _, (rdI hΩ hxs hcc).trans (congrArg some hen2), ?_⟩; cbv) | (refine call_pure hΩ 3 hcc1 rfl (fits _) rfl rfl ?_; cbv) | (refine QCall_pure (k := 3) hcc1 rfl (fits _) rfl ?_; cbv))
    exact ⟨i + 1, by omega, by omega, Sbs.mk rfl rfl ⟨rfl, rfl, incI hΩ (by omega), trivial⟩⟩
  · cbv
    exact .same
theorem c_eqPack (o : Pck) (hs : o.Small) : PCtr PP n_laws_eqPack [o.enc false, o.enc false] (boo true) := by
  obtain ⟨Ω, hΩ⟩ : ∃ Ω, Ω = std := ⟨_, rfl⟩
  obtain ⟨ps, ds, bs, hen, hps, hds, hbs⟩ := enc_raw o
  rw [hen]
  have h1 := c_eqVersion o.v
  have h2 := c_eqStringS o.p hs.p
  have h3 := c_eqTermSS o.d hs.d hs.e
  have h4 := c_eqTermS o.b hs.b
  rw [← hps] at h2
  rw [← hds] at h3
  rw [← hbs] at h4
  have htab := tab
  have hmo := hmo
  refine PCtr.walk tab hΩ fn_laws_eqPack rfl ?_
  generalize PP = P at *
  cbv
  repeat' (first | (refine br (fun h => (notT hΩ h).elim) (fun h => ?_); cbv) | (refine br (fun h => (ne_self hΩ h).elim) (fun h => ?_); cbv) | (refine br (fun h => (sne_self hΩ h).elim) (fun h => ?_); cbv) | (refine ⟨VC_drawn htab hΩ hmo (by kernel_rfl) ?_⟩; cbv) | (refine call_pure hΩ 3 h1 rfl (fits _) rfl rfl ?_; cbv) | (refine QCall_pure (k := 3) h1 rfl (fits _) rfl ?_; cbv) | (refine call_pure hΩ 3 h2 rfl (fits _) rfl rfl ?_; cbv) | (refine QCall_pure (k := 3) h2 rfl (fits _) rfl ?_; cbv) | (refine call_pure hΩ 3 h3 rfl (fits _) rfl rfl ?_; cbv) | (refine QCall_pure (k := 3) h3 rfl (fits _) rfl ?_; cbv) | (refine call_pure hΩ 3 h4 rfl (fits _) rfl rfl ?_; cbv) | (refine QCall_pure (k := 3) h4 rfl (fits _) rfl ?_; cbv))
  exact .same
theorem c_eqPackS (cs : List (Pck)) (hb : cs.length ≤ 1048576) (hl : ∀ l ∈ cs, l.Small) : PCtr PP n_laws_eqPackS [.sl false 8 (cs.map (Pck.enc false)), .sl false 8 (cs.map (Pck.enc false))] (boo true) := by
  obtain ⟨Ω, hΩ⟩ : ∃ Ω, Ω = std := ⟨_, rfl⟩
  obtain ⟨xs, hxs⟩ : ∃ xs, xs = cs.map (Pck.enc false) := ⟨_, rfl⟩
  have hlen : xs.length = cs.length := by rw [hxs, List.length_map]
  rw [← hxs]
  have hc : ∀ c ∈ cs, PCtr PP n_laws_eqPack [Pck.enc false c, Pck.enc false c] (boo true) := fun c h => c_eqPack c (hl c h)
  have htab := tab
  have hmo := hmo
  refine PCtr.walk tab hΩ fn_laws_eqPackS rfl ?_
  generalize PP = P at *
  cbv
  refine br (fun h => (ne_self hΩ h).elim) (fun h => ?_)
  cbv
  refine loopX htab hΩ (fun i : Nat => ⟨[(0, .sl false 8 xs), (1, .sl false 8 xs), (5, .sc (.int .i64 (Ω.int i)))], 27, []⟩) (fun i => i ≤ cs.length) (fun i => cs.length - i) 0 (Nat.zero_le _) (Sbs.mk rfl rfl ⟨rfl, rfl, zeroI hΩ, trivial⟩) (fun i hi => ?_)
  cbv
  refine br (fun h => ?_) (fun h => ?_)
  · replace h := ltI hΩ h
    obtain ⟨c, hcc⟩ := at_of (cs := cs) (by omega : i < _)
    have hcm := List.mem_of_getElem? hcc
    obtain ⟨ps, ds, bs, hen, hps, hds, hbs⟩ := enc_raw c
    have hcc1 := hc c hcm
    rw [hen] at hcc1
    cbv
    repeat' (first | (refine br (fun h => (notT hΩ h).elim) (fun h => ?_); cbv) | (refine br (fun h => (ne_self hΩ h).elim) (fun h => ?_); cbv) | (refine br (fun h => (sne_self hΩ h).elim) (fun h => ?_); cbv) | (refine ⟨VC_drawn htab hΩ hmo (by kernel_rfl) ?_⟩; cbv) | (refine ⟨⟨nnI hΩ⟩, _, (rdI hΩ hxs hcc).trans (congrArg some hen), ?_⟩; cbv) | (refine call_pure hΩ 3 hcc1 rfl (fits _) rfl rfl ?_; cbv) | (refine QCall_pure (k := 3) hcc1 rfl (fits _) rfl ?_; cbv))
    exact ⟨i + 1, by omega, by omega, Sbs.mk rfl rfl ⟨rfl, rfl, incI hΩ (by omega), trivial⟩⟩
  · cbv
    exact .same
theorem c_eqSetResult (k a : Int) (s : List Int) (hs : s.length ≤ 1048576) : PCtr PP n_laws_eqSetResult [.agg [i64 k, i64 a, .sl false 1 (s.map i64)], .agg [i64 k, i64 a, .sl false 1 (s.map i64)]] (boo true) := by
  obtain ⟨Ω, hΩ⟩ : ∃ Ω, Ω = std := ⟨_, rfl⟩
  have h1 := c_eqInt64S s hs
  generalize s.map i64 = xs at *
  have htab := tab
  have hmo := hmo
  refine PCtr.walk tab hΩ fn_laws_eqSetResult rfl ?_
  generalize PP = P at *
  cbv
  repeat' (first | (refine br (fun h => (notT hΩ h).elim) (fun h => ?_); cbv) | (refine br (fun h => (ne_self hΩ h).elim) (fun h => ?_); cbv) | (refine br (fun h => (sne_self hΩ h).elim) (fun h => ?_); cbv) | (refine ⟨VC_drawn htab hΩ hmo (by kernel_rfl) ?_⟩; cbv) | (refine call_pure hΩ 3 h1 rfl (fits _) rfl rfl ?_; cbv) | (refine QCall_pure (k := 3) h1 rfl (fits _) rfl ?_; cbv))
  exact .same
end Go.Proofs.YtomfmdfamlmfiaaGreat

/- Walks: the marks' text. Plain theorems. -/
set_option linter.unusedVariables false
set_option linter.unusedSimpArgs false
namespace Go.Proofs.YtomfmdfamlmfiaaGreat
open Go Go.Fw
set_option maxRecDepth 100000
def mkL (k : Nat) (out : List UInt8) : List UInt8 := if k = 0 then out else mkL (k / 10) (UInt8.ofNat (48 + k % 10) :: out)
termination_by k
decreasing_by omega
def markT (k : Int) : List UInt8 := if k ≤ 0 then [109, 48] else 109 :: mkL k.toNat []
theorem mark_byte (k : Nat) : IntKind.u8.wrap (IntKind.i64.wrap (48 + Int.tmod (k : Int) 10)) = ((UInt8.ofNat (48 + k % 10)).toNat : Int) := by
  have h1 : Int.tmod (k : Int) 10 = ((k % 10 : Nat) : Int) := by rw [Int.tmod_eq_emod_of_nonneg (by omega)]; omega
  have h2 : k % 10 < 10 := Nat.mod_lt _ (by omega)
  have h3 : (UInt8.ofNat (48 + k % 10)).toNat = 48 + k % 10 := by simp; omega
  rw [h1, wrap64 (by omega) (by omega), h3]
  have h4 : ∀ y : Int, IntKind.u8.wrap y = y % 256 := fun y => rfl
  rw [h4]
  omega
theorem c_markText (k : Int) (hk : k ≤ 1152921504606846976) : PCtr PP n_laws_markText [i64 k] (str (markT k)) := by
  obtain ⟨Ω, hΩ⟩ : ∃ Ω, Ω = std := ⟨_, rfl⟩
  obtain ⟨r, hr⟩ : ∃ r, r = markT k := ⟨_, rfl⟩
  rw [← hr]
  have htab := tab
  refine PCtr.walk tab hΩ fn_laws_markText rfl ?_
  generalize PP = P at *
  cbv
  refine br (fun h => ?_) (fun h => ?_)
  · replace h : r = [109, 48] := by rw [hr, markT, if_pos (leI_t hΩ h)]
    cbv
    exact .of (congrArg str h.symm)
  obtain ⟨n, hn, hrn, hnb⟩ : ∃ n : Nat, k = Ω.int n ∧ r = 109 :: mkL n [] ∧ n ≤ 1152921504606846976 := by
    have h := leI_f hΩ h
    refine ⟨k.toNat, ?_, by rw [hr, markT, if_neg (by omega)], by omega⟩
    subst hΩ
    exact (Int.toNat_of_nonneg (by omega)).symm
  subst hn
  cbv
  refine loopX htab hΩ (fun i : Nat × List UInt8 => ⟨[(0, .sc (.int .i64 (Ω.int i.1))), (3, .sc (.string (mkS i.2)))], 20, []⟩) (fun i => i.1 + i.2.length ≤ 1152921504606846976 ∧ r = 109 :: mkL i.1 i.2) (fun i => i.1) (n, []) ⟨by simpa using hnb, hrn⟩
    (Sbs.mk rfl rfl ⟨rfl, rfl, trivial⟩) ?_
  rintro ⟨m, out⟩ ⟨hm, he⟩
  dsimp only at hm he
  cbv
  refine br (fun h => ?_) (fun h => ?_)
  · have hm0 : m ≠ 0 := by subst hΩ; have h : (0 : Int) < (m : Int) := gt_t h; omega
    rw [mkL, if_neg hm0] at he
    obtain ⟨b, hb⟩ : ∃ b, b = UInt8.ofNat (48 + m % 10) := ⟨_, rfl⟩
    rw [← hb] at he
    have hb2 : Ω.wrap .u8 (Ω.ar .add .i64 48 (Ω.ar .rem .i64 (Ω.int m) 10)) = (b.toNat : Int) := by subst hΩ; rw [hb]; exact mark_byte m
    have hq : i64 (Ω.ar .quo .i64 (Ω.int m) 10) = i64 (Ω.int (m / 10)) := by
      subst hΩ
      show i64 (IntKind.i64.wrap ((m : Int).tdiv 10)) = i64 ((m / 10 : Nat) : Int)
      rw [show (m : Int).tdiv 10 = ((m / 10 : Nat) : Int) by rw [Int.tdiv_eq_ediv_of_nonneg (by omega)]; omega, wrap64 (by omega) (by omega)]
    have hm2 : m / 10 + (b :: out).length ≤ 1152921504606846976 := by simp only [List.length_cons]; omega
    have hm3 : m / 10 < m := by omega
    have hl : (([b] : List UInt8).length + out.length : Nat) ≤ 9223372036854775807 := by simp only [List.length_singleton]; omega
    have hl2 : ((([b] : List UInt8).length + out.length : Nat) : Int) ≤ 9223372036854775807 := by omega
    cbv
    refine ⟨⟨by decide⟩, [b], ⟨Nat.le_refl 1, congrArg (fun v => [A.sc (.int .u8 v)]) hb2⟩, ?_⟩
    cbv
    refine ⟨⟨hl2⟩, ⟨by decide⟩, (m / 10, b :: out), ⟨hm2, he⟩, hm3, Sbs.mkL (rows := []) rfl rfl rfl ⟨hq, ?_, trivial⟩⟩
    subst hΩ; rfl
  · have hm0 : m = 0 := by subst hΩ; have h : (m : Int) ≤ 0 := gt_f h; omega
    rw [mkL, if_pos hm0] at he
    have hl2 : ((([109] : List UInt8).length + out.length : Nat) : Int) ≤ 9223372036854775807 := by simp only [List.length_singleton]; omega
    cbv
    refine ⟨⟨hl2⟩, .of ?_⟩
    rw [he]; subst hΩ; rfl
end Go.Proofs.YtomfmdfamlmfiaaGreat

/- Walks: marks. Plain theorems. -/
set_option linter.unusedVariables false
set_option linter.unusedSimpArgs false
namespace Go.Proofs.YtomfmdfamlmfiaaGreat
open Go Go.Fw
set_option maxRecDepth 100000
theorem c_markStringS (cs : List (List UInt8)) (k : Int) (h0 : 0 ≤ k) (h1 : k + psum (fun _ => 1) cs cs.length ≤ 1099511627776) (hb : cs.length ≤ 1048576) : ECtr PP n_laws_markStringS [.sl true 1 (cs.map (str)), i64 k] (i64 (k + psum (fun _ => 1) cs cs.length)) := by
  obtain ⟨Ω, hΩ⟩ : ∃ Ω, Ω = std := ⟨_, rfl⟩
  obtain ⟨xs, hxs⟩ : ∃ xs, xs = cs.map (str) := ⟨_, rfl⟩
  have hlen : xs.length = cs.length := by rw [hxs, List.length_map]
  have hna : ∀ y ∈ xs, vStore.isAggA y = false := fun y hy => by rw [hxs] at hy; obtain ⟨c, _, rfl⟩ := List.mem_map.1 hy; rfl
  obtain ⟨kf, hkf⟩ : ∃ kf : Nat → Int, kf = fun i => k + psum (fun _ => 1) cs i := ⟨_, rfl⟩
  have hk0 : kf 0 = k := by rw [hkf]; simp [psum_zero]
  have hkn : kf cs.length = k + psum (fun _ => 1) cs cs.length := by rw [hkf]
  have hkp : ∀ i, 0 ≤ kf i ∧ kf i ≤ 1099511627776 := fun i => by rw [hkf]; have := psum_le (f := fun _ => 1) (d := cs) i; simp only; omega
  have hks : ∀ i c, cs[i]? = some c → kf (i + 1) = kf i + ((fun _ => 1) c : Nat) := fun i c h => by rw [hkf]; simp only; rw [psum_at h]; omega
  clear hkf
  rw [← hkn, ← hxs]
  have hle : Ω.len xs = xs.length := by subst hΩ; rfl
  have hc := c_markText
  have htab := tab
  have hmo := hmo
  refine ECtr.walk tab hΩ 3 fn_laws_markStringS rfl rfl ?_
  generalize PP = P at *
  cbv
  refine loopX htab hΩ (fun i : Nat × List A => ⟨[(0, .vw 0 0 (Ω.len xs)), (1, .sc (.int .i64 (kf i.1))), (5, .sc (.int .i64 (Ω.int i.1)))], 20, [some ⟨1, i.2, false⟩]⟩)
    (fun i => i.1 ≤ cs.length ∧ i.2.length = cs.length ∧ (∀ q, i.1 ≤ q → i.2[q]? = xs[q]?) ∧ (∀ y ∈ i.2, vStore.isAggA y = false)) (fun i => cs.length - i.1) (0, xs) ⟨Nat.zero_le _, hlen, fun _ _ => rfl, hna⟩ (Sbs.mk rfl rfl ⟨rfl, congrArg i64 hk0.symm, zeroI hΩ, trivial⟩) ?_
  rintro ⟨i, ys⟩ ⟨hi, hyl, hya, hyn⟩
  dsimp only at hi hyl hya hyn
  dsimp only
  have hki := hkp i
  have hki1 := hkp (i + 1)
  cbv
  refine br (fun h => ?_) (fun h => ?_) <;> cbv
  · replace h := ltI hΩ h
    obtain ⟨c, hcc⟩ := at_of (cs := cs) (by omega : i < cs.length)
    have hcm := List.mem_of_getElem? hcc
    have hkc := hks i c hcc
    have hlk : Like xs i ys := ⟨by omega, fun q hq => hya q (by omega)⟩
    have hyi : ys[i]? = some ((str) c) := by rw [hya i (Nat.le_refl _), hxs, List.getElem?_map, hcc]; rfl
    have hil : i < Ω.len xs := by rw [hle]; exact h
    replace hkc : kf (i + 1) = kf i + 1 := by simpa using hkc
    have hy1 := (addV hΩ hki.1 (by omega)).trans hkc.symm
    refine call_pure hΩ 3 (hc (kf i) (by omega)) rfl (fits _) rfl rfl ?_
    generalize markT (kf i) = mt
    cbv
    have hL := hlk.set hΩ (z := str mt)
    have hLl := hL.len
    refine ⟨⟨ixI hΩ hil⟩, ⟨by subst hΩ; show 0 + i < ys.length; omega, hyn⟩, (i + 1, Ω.set ys (Ω.plus 0 (Ω.nat (Ω.int i))) (str mt)), ⟨by dsimp only; omega, by dsimp only; omega, fun q hq => hL.at' q hq, setNA hΩ hyn rfl⟩, by dsimp only; omega,
      Sbs.mk rfl rfl ⟨rfl, congrArg i64 hy1, incI hΩ (by omega), trivial⟩⟩
  · have hj : i = cs.length := by have := geI hΩ h; omega
    subst hj
    exact .same
theorem c_markTermS (cs : List (Trm)) (k : Int) (h0 : 0 ≤ k) (h1 : k + psum (fun _ => 7) cs cs.length ≤ 1099511627776) (hb : cs.length ≤ 1048576) : ECtr PP n_laws_markTermS [.sl true 7 (cs.map (Trm.enc)), i64 k] (i64 (k + psum (fun _ => 7) cs cs.length)) := by
  obtain ⟨Ω, hΩ⟩ : ∃ Ω, Ω = std := ⟨_, rfl⟩
  obtain ⟨xs, hxs⟩ : ∃ xs, xs = cs.map (Trm.enc) := ⟨_, rfl⟩
  have hlen : xs.length = cs.length := by rw [hxs, List.length_map]
  have hna : ∀ y ∈ xs, True := fun y hy => by trivial
  obtain ⟨kf, hkf⟩ : ∃ kf : Nat → Int, kf = fun i => k + psum (fun _ => 7) cs i := ⟨_, rfl⟩
  have hk0 : kf 0 = k := by rw [hkf]; simp [psum_zero]
  have hkn : kf cs.length = k + psum (fun _ => 7) cs cs.length := by rw [hkf]
  have hkp : ∀ i, 0 ≤ kf i ∧ kf i ≤ 1099511627776 := fun i => by rw [hkf]; have := psum_le (f := fun _ => 7) (d := cs) i; simp only; omega
  have hks : ∀ i c, cs[i]? = some c → kf (i + 1) = kf i + ((fun _ => 7) c : Nat) := fun i c h => by rw [hkf]; simp only; rw [psum_at h]; omega
  clear hkf
  rw [← hkn, ← hxs]
  have hle : Ω.len xs = xs.length := by subst hΩ; rfl
  have hc := c_markText
  have htab := tab
  have hmo := hmo
  refine ECtr.walk tab hΩ 3 fn_laws_markTermS rfl rfl ?_
  generalize PP = P at *
  cbv
  refine loopX htab hΩ (fun i : Nat × List A => ⟨[(0, .vw 0 0 (Ω.len xs)), (1, .sc (.int .i64 (kf i.1))), (5, .sc (.int .i64 (Ω.int i.1)))], 69, [some ⟨7, i.2, false⟩]⟩)
    (fun i => i.1 ≤ cs.length ∧ i.2.length = cs.length ∧ (∀ q, i.1 ≤ q → i.2[q]? = xs[q]?)) (fun i => cs.length - i.1) (0, xs) ⟨Nat.zero_le _, hlen, fun _ _ => rfl⟩ (Sbs.mk rfl rfl ⟨rfl, congrArg i64 hk0.symm, zeroI hΩ, trivial⟩) ?_
  rintro ⟨i, ys⟩ ⟨hi, hyl, hya⟩
  dsimp only at hi hyl hya
  dsimp only
  have hki := hkp i
  have hki1 := hkp (i + 1)
  cbv
  refine br (fun h => ?_) (fun h => ?_) <;> cbv
  · replace h := ltI hΩ h
    obtain ⟨c, hcc⟩ := at_of (cs := cs) (by omega : i < cs.length)
    have hcm := List.mem_of_getElem? hcc
    have hkc := hks i c hcc
    have hlk : Like xs i ys := ⟨by omega, fun q hq => hya q (by omega)⟩
    have hyi : ys[i]? = some ((Trm.enc) c) := by rw [hya i (Nat.le_refl _), hxs, List.getElem?_map, hcc]; rfl
    have hil : i < Ω.len xs := by rw [hle]; exact h
    replace hkc : kf (i + 1) = kf i + 7 := by simpa using hkc
    have hy1 := (addV7 hΩ hki.1 (by omega)).trans hkc.symm
    have hlt : i < ys.length := by omega
    refine call_pure hΩ 3 (hc (kf i) (by omega)) rfl (fits _) rfl rfl ?_
    generalize markT (kf i) = mt
    cbv
    refine ⟨⟨ixI hΩ hil⟩, _, atI hΩ hyi, ?_⟩
    cbv
    refine ⟨⟨ixI hΩ hil⟩, _, setI hΩ hlt, ?_⟩
    cbv
    refine ⟨⟨ixI hΩ hil⟩, _, setI hΩ (setI_lt hΩ hlt), ?_⟩
    cbv
    refine ⟨⟨ixI hΩ hil⟩, _, setI hΩ (setI_lt hΩ (setI_lt hΩ hlt)), ?_⟩
    cbv
    refine ⟨⟨ixI hΩ hil⟩, _, setI hΩ (setI_lt hΩ (setI_lt hΩ (setI_lt hΩ hlt))), ?_⟩
    cbv
    refine ⟨⟨ixI hΩ hil⟩, _, setI hΩ (setI_lt hΩ (setI_lt hΩ (setI_lt hΩ (setI_lt hΩ hlt)))), ?_⟩
    cbv
    refine ⟨⟨ixI hΩ hil⟩, _, setI hΩ (setI_lt hΩ (setI_lt hΩ (setI_lt hΩ (setI_lt hΩ (setI_lt hΩ hlt))))), ?_⟩
    cbv
    refine ⟨(i + 1, _), ⟨?pa, ?pb, ?pc⟩, ?pd, Sbs.mk rfl rfl ⟨rfl, congrArg i64 hy1, incI hΩ (by omega), trivial⟩⟩
    case pa => dsimp only; omega
    case pd => dsimp only; omega
    case pb => exact (((((((hlk.set hΩ).set hΩ).set hΩ).set hΩ).set hΩ).set hΩ).set hΩ).len.trans hlen
    case pc => exact fun q hq => (((((((hlk.set hΩ).set hΩ).set hΩ).set hΩ).set hΩ).set hΩ).set hΩ).at' q hq
  · have hj : i = cs.length := by have := geI hΩ h; omega
    subst hj
    exact .same
theorem c_markTermSS (cs : List (List Trm)) (k : Int) (h0 : 0 ≤ k) (h1 : k + psum (fun l => 7 * l.length) cs cs.length ≤ 1099511627776) (hb : cs.length ≤ 1048576) (hl : ∀ l ∈ cs, l.length ≤ 1048576) : ECtr PP n_laws_markTermSS [.sl true 1 (cs.map (encTs true)), i64 k] (i64 (k + psum (fun l => 7 * l.length) cs cs.length)) := by
  obtain ⟨Ω, hΩ⟩ : ∃ Ω, Ω = std := ⟨_, rfl⟩
  obtain ⟨xs, hxs⟩ : ∃ xs, xs = cs.map (encTs true) := ⟨_, rfl⟩
  have hlen : xs.length = cs.length := by rw [hxs, List.length_map]
  have hna : ∀ y ∈ xs, vStore.isAggA y = false := fun y hy => by rw [hxs] at hy; obtain ⟨c, _, rfl⟩ := List.mem_map.1 hy; rfl
  obtain ⟨kf, hkf⟩ : ∃ kf : Nat → Int, kf = fun i => k + psum (fun l => 7 * l.length) cs i := ⟨_, rfl⟩
  have hk0 : kf 0 = k := by rw [hkf]; simp [psum_zero]
  have hkn : kf cs.length = k + psum (fun l => 7 * l.length) cs cs.length := by rw [hkf]
  have hkp : ∀ i, 0 ≤ kf i ∧ kf i ≤ 1099511627776 := fun i => by rw [hkf]; have := psum_le (f := fun l => 7 * l.length) (d := cs) i; simp only; omega
  have hks : ∀ i c, cs[i]? = some c → kf (i + 1) = kf i + ((fun l => 7 * l.length) c : Nat) := fun i c h => by rw [hkf]; simp only; rw [psum_at h]; omega
  clear hkf
  rw [← hkn, ← hxs]
  have hle : Ω.len xs = xs.length := by subst hΩ; rfl
  have hc := c_markText
  have hmT := c_markTermS
  have htab := tab
  have hmo := hmo
  refine ECtr.walk tab hΩ 3 fn_laws_markTermSS rfl rfl ?_
  generalize PP = P at *
  cbv
  refine loopX htab hΩ (fun i : Nat × List A => ⟨[(0, .vw 0 0 (Ω.len xs)), (1, .sc (.int .i64 (kf i.1))), (5, .sc (.int .i64 (Ω.int i.1)))], 19, [some ⟨1, i.2, false⟩]⟩)
    (fun i => i.1 ≤ cs.length ∧ i.2.length = cs.length ∧ (∀ q, i.1 ≤ q → i.2[q]? = xs[q]?) ∧ (∀ y ∈ i.2, vStore.isAggA y = false)) (fun i => cs.length - i.1) (0, xs) ⟨Nat.zero_le _, hlen, fun _ _ => rfl, hna⟩ (Sbs.mk rfl rfl ⟨rfl, congrArg i64 hk0.symm, zeroI hΩ, trivial⟩) ?_
  rintro ⟨i, ys⟩ ⟨hi, hyl, hya, hyn⟩
  dsimp only at hi hyl hya hyn
  dsimp only
  have hki := hkp i
  have hki1 := hkp (i + 1)
  cbv
  refine br (fun h => ?_) (fun h => ?_) <;> cbv
  · replace h := ltI hΩ h
    obtain ⟨c, hcc⟩ := at_of (cs := cs) (by omega : i < cs.length)
    have hcm := List.mem_of_getElem? hcc
    have hkc := hks i c hcc
    have hlk : Like xs i ys := ⟨by omega, fun q hq => hya q (by omega)⟩
    have hyi : ys[i]? = some ((encTs true) c) := by rw [hya i (Nat.le_refl _), hxs, List.getElem?_map, hcc]; rfl
    have hil : i < Ω.len xs := by rw [hle]; exact h
    obtain ⟨ts, hen, hts⟩ : ∃ ts, encTs true c = .sl true 7 ts ∧ ts = c.map Trm.enc := ⟨_, rfl, rfl⟩
    replace hkc : kf (i + 1) = kf i + (7 * c.length : Nat) := hkc
    have hm := hmT c (kf i) hki.1 (by rw [psum_const]; show kf i + ((7 * c.length : Nat) : Int) ≤ _; omega) (hl c hcm)
    rw [psum_const, ← hkc, ← hts] at hm
    refine ⟨⟨ixI hΩ hil⟩, _, (atI hΩ hyi).trans (congrArg some hen), ?_⟩
    cbv
    refine call_eat2 (row := ⟨7, ts, false⟩) hΩ 3 hm rfl rfl (by subst hΩ; rfl) rfl (fits _) rfl rfl ?_
    cbv
    have hL := hlk.set hΩ (z := .un)
    have hLl := hL.len
    exact ⟨(i + 1, Ω.set ys (Ω.plus 0 (Ω.nat (Ω.int i))) .un), ⟨by dsimp only; omega, by dsimp only; omega, fun q hq => hL.at' q hq, setNA hΩ hyn rfl⟩, by dsimp only; omega,
      Sbs.trans (Sbs.lastN (rows := [_]) rfl) (Sbs.mk rfl rfl ⟨rfl, rfl, incI hΩ (by omega), trivial⟩)⟩
  · have hj : i = cs.length := by have := geI hΩ h; omega
    subst hj
    exact .same
/-- How many marks a package takes. -/
def Pck.cnt (o : Pck) : Nat := 5 + psum (fun _ => 1) o.p o.p.length + psum (fun l : List Trm => 7 * l.length) o.d o.d.length + psum (fun _ => 7) o.b o.b.length
theorem cnt_split {y z : Int} {o : Pck} (h : z = y + (o.cnt : Nat)) : ∃ y1 y2 y3 : Int, y1 = y + 5 ∧ y2 = y1 + (psum (fun _ => 1) o.p o.p.length : Nat) ∧ y3 = y2 + (psum (fun l : List Trm => 7 * l.length) o.d o.d.length : Nat) ∧ z = y3 + (psum (fun _ => 7) o.b o.b.length : Nat) ∧ y ≤ y1 ∧ y1 ≤ y2 ∧ y2 ≤ y3 ∧ y3 ≤ z :=
  ⟨_, _, _, rfl, rfl, rfl, by rw [h]; unfold Pck.cnt; omega, by omega, by omega, by omega, by rw [h]; unfold Pck.cnt; omega⟩
theorem c_markPackS (cs : List (Pck)) (k : Int) (h0 : 0 ≤ k) (h1 : k + psum (Pck.cnt) cs cs.length ≤ 1099511627776) (hb : cs.length ≤ 1048576) (hl : ∀ l ∈ cs, l.Small) : ECtr PP n_laws_markPackS [.sl true 8 (cs.map (Pck.enc true)), i64 k] (i64 (k + psum (Pck.cnt) cs cs.length)) := by
  obtain ⟨Ω, hΩ⟩ : ∃ Ω, Ω = std := ⟨_, rfl⟩
  obtain ⟨xs, hxs⟩ : ∃ xs, xs = cs.map (Pck.enc true) := ⟨_, rfl⟩
  have hlen : xs.length = cs.length := by rw [hxs, List.length_map]
  have hna : ∀ y ∈ xs, True := fun y hy => by trivial
  obtain ⟨kf, hkf⟩ : ∃ kf : Nat → Int, kf = fun i => k + psum (Pck.cnt) cs i := ⟨_, rfl⟩
  have hk0 : kf 0 = k := by rw [hkf]; simp [psum_zero]
  have hkn : kf cs.length = k + psum (Pck.cnt) cs cs.length := by rw [hkf]
  have hkp : ∀ i, 0 ≤ kf i ∧ kf i ≤ 1099511627776 := fun i => by rw [hkf]; have := psum_le (f := Pck.cnt) (d := cs) i; simp only; omega
  have hks : ∀ i c, cs[i]? = some c → kf (i + 1) = kf i + ((Pck.cnt) c : Nat) := fun i c h => by rw [hkf]; simp only; rw [psum_at h]; omega
  clear hkf
  rw [← hkn, ← hxs]
  have hle : Ω.len xs = xs.length := by subst hΩ; rfl
  have hc := c_markText
  have hcl : ∀ i c, cs[i]? = some c → ∃ y1 y2 y3 : Int, kf i + 5 = y1 ∧ ECtr PP n_laws_markStringS [.sl true 1 (c.p.map str), i64 y1] (i64 y2) ∧ ECtr PP n_laws_markTermSS [.sl true 1 (c.d.map (encTs true)), i64 y2] (i64 y3) ∧ ECtr PP n_laws_markTermS [.sl true 7 (c.b.map Trm.enc), i64 y3] (i64 (kf (i + 1))) := fun i c h => by
    obtain ⟨y1, y2, y3, hy1, hy2, hy3, hy4, hb1, hb2, hb3, hb4⟩ := cnt_split (hks i c h)
    have hsm := hl c (List.mem_of_getElem? h)
    have hki := hkp i
    have hki1 := hkp (i + 1)
    have hmp := c_markStringS c.p y1 (by omega) (by omega) hsm.p
    have hmd := c_markTermSS c.d y2 (by omega) (by omega) hsm.d hsm.e
    have hmb := c_markTermS c.b y3 (by omega) (by omega) hsm.b
    rw [← hy2] at hmp
    rw [← hy3] at hmd
    rw [← hy4] at hmb
    exact ⟨y1, y2, y3, hy1.symm, hmp, hmd, hmb⟩
  have htab := tab
  have hmo := hmo
  refine ECtr.walk tab hΩ 3 fn_laws_markPackS rfl rfl ?_
  generalize PP = P at *
  cbv
  refine loopX htab hΩ (fun i : Nat × List A => ⟨[(0, .vw 0 0 (Ω.len xs)), (1, .sc (.int .i64 (kf i.1))), (5, .sc (.int .i64 (Ω.int i.1)))], 73, [some ⟨8, i.2, false⟩]⟩)
    (fun i => i.1 ≤ cs.length ∧ i.2.length = cs.length ∧ (∀ q, i.1 ≤ q → i.2[q]? = xs[q]?)) (fun i => cs.length - i.1) (0, xs) ⟨Nat.zero_le _, hlen, fun _ _ => rfl⟩ (Sbs.mk rfl rfl ⟨rfl, congrArg i64 hk0.symm, zeroI hΩ, trivial⟩) ?_
  rintro ⟨i, ys⟩ ⟨hi, hyl, hya⟩
  dsimp only at hi hyl hya
  dsimp only
  have hki := hkp i
  have hki1 := hkp (i + 1)
  cbv
  refine br (fun h => ?_) (fun h => ?_) <;> cbv
  · replace h := ltI hΩ h
    obtain ⟨c, hcc⟩ := at_of (cs := cs) (by omega : i < cs.length)
    have hcm := List.mem_of_getElem? hcc
    have hkc := hks i c hcc
    have hlk : Like xs i ys := ⟨by omega, fun q hq => hya q (by omega)⟩
    have hyi : ys[i]? = some ((Pck.enc true) c) := by rw [hya i (Nat.le_refl _), hxs, List.getElem?_map, hcc]; rfl
    have hil : i < Ω.len xs := by rw [hle]; exact h
    obtain ⟨y1, y2, y3, hy1, hmp, hmd, hmb⟩ := hcl i c hcc
    have hlt : i < ys.length := by omega
    have hy1' := (addV5 hΩ hki.1 (by omega)).trans hy1
    refine call_pure hΩ 3 (hc (kf i) (by omega)) rfl (fits _) rfl rfl ?_
    generalize markT (kf i) = mt
    obtain ⟨ps, ds, bs, hen, hps, hds, hbs⟩ := enc_own c
    rw [← hps] at hmp
    rw [← hds] at hmd
    rw [← hbs] at hmb
    cbv
    refine ⟨⟨ixI hΩ hil⟩, _, (atI hΩ hyi).trans (congrArg some hen), ?_⟩
    cbv
    refine ⟨⟨ixI hΩ hil⟩, _, setI hΩ hlt, ?_⟩
    cbv
    refine ⟨⟨ixI hΩ hil⟩, _, setI hΩ (setI_lt hΩ hlt), ?_⟩
    cbv
    refine ⟨⟨ixI hΩ hil⟩, _, setI hΩ (setI_lt hΩ (setI_lt hΩ hlt)), ?_⟩
    cbv
    refine ⟨⟨ixI hΩ hil⟩, _, setI hΩ (setI_lt hΩ (setI_lt hΩ (setI_lt hΩ hlt))), ?_⟩
    cbv
    refine ⟨⟨ixI hΩ hil⟩, _, setI hΩ (setI_lt hΩ (setI_lt hΩ (setI_lt hΩ (setI_lt hΩ hlt)))), ?_⟩
    cbv
    refine call_eat2 (row := ⟨1, ps, false⟩) hΩ 3 hmp rfl rfl (by subst hΩ; rfl) rfl (fitsE (congrArg (fun z => [i64 z]) hy1')) rfl rfl ?_
    cbv
    refine ⟨⟨ixI hΩ hil⟩, _, setI hΩ (setI_lt hΩ (setI_lt hΩ (setI_lt hΩ (setI_lt hΩ (setI_lt hΩ hlt))))), ?_⟩
    cbv
    refine call_eat2 (row := ⟨1, ds, false⟩) hΩ 3 hmd rfl rfl (by subst hΩ; rfl) rfl (fits _) rfl rfl ?_
    cbv
    refine ⟨⟨ixI hΩ hil⟩, _, setI hΩ (setI_lt hΩ (setI_lt hΩ (setI_lt hΩ (setI_lt hΩ (setI_lt hΩ (setI_lt hΩ hlt)))))), ?_⟩
    cbv
    refine call_eat2 (row := ⟨7, bs, false⟩) hΩ 3 hmb rfl rfl (by subst hΩ; rfl) rfl (fits _) rfl rfl ?_
    cbv
    refine ⟨(i + 1, _), ⟨?pa, ?pb, ?pc⟩, ?pd, Sbs.trans (Sbs.lastN (rows := [_, none, none]) rfl) (Sbs.trans (Sbs.lastN (rows := [_, none]) rfl) (Sbs.trans (Sbs.lastN (rows := [_]) rfl) (Sbs.mk rfl rfl ⟨rfl, rfl, incI hΩ (by omega), trivial⟩)))⟩
    case pa => dsimp only; omega
    case pd => dsimp only; omega
    case pb => exact ((((((((hlk.set hΩ).set hΩ).set hΩ).set hΩ).set hΩ).set hΩ).set hΩ).set hΩ).len.trans hlen
    case pc => exact fun q hq => ((((((((hlk.set hΩ).set hΩ).set hΩ).set hΩ).set hΩ).set hΩ).set hΩ).set hΩ).at' q hq

  · have hj : i = cs.length := by have := geI hΩ h; omega
    subst hj
    exact .same
end Go.Proofs.YtomfmdfamlmfiaaGreat

/- Walks: numbers are marked and held. Plain theorems. -/
set_option linter.unusedVariables false
set_option linter.unusedSimpArgs false
namespace Go.Proofs.YtomfmdfamlmfiaaGreat
open Go Go.Fw
set_option maxRecDepth 100000
theorem c_markInt64S (cs : List Int) (k : Int) (h0 : 0 ≤ k) (h1 : k ≤ 2199023255552) (hb : cs.length ≤ 1048576) :
    MCtr PP n_laws_markInt64S [.sl true 1 (cs.map i64), i64 k] (i64 (k + cs.length)) [.sl true 1 (marksI k cs.length), i64 k] := by
  obtain ⟨Ω, hΩ⟩ : ∃ Ω, Ω = std := ⟨_, rfl⟩
  obtain ⟨n, hn⟩ : ∃ n, n = cs.length := ⟨_, rfl⟩
  obtain ⟨ms, hms⟩ : ∃ ms, ms = marksI k n := ⟨_, rfl⟩
  obtain ⟨xs, hxs⟩ : ∃ xs, xs = cs.map i64 := ⟨_, rfl⟩
  have hlen : xs.length = n := by rw [hxs, hn, List.length_map]
  have hml : ms.length = xs.length := by rw [hms, marksI_length, hlen]
  obtain ⟨ys, hys⟩ : ∃ ys, ys = halfA ms xs := ⟨_, rfl⟩
  have hyl : ∀ i, i ≤ n → (ys i).length = n := fun i hi => by rw [hys, halfA_length hml (by omega)]; exact hlen
  have hyn : ∀ i, ∀ y ∈ ys i, vStore.isAggA y = false := fun i => by rw [hys, hms, hxs]; exact halfA_na (marksI_na _ _) fun y hy => by obtain ⟨c, _, rfl⟩ := List.mem_map.1 hy; rfl
  have hx0 : xs = ys 0 := by rw [hys]; rfl
  obtain ⟨kf, hk0, hkn, hkb, hks, hkm⟩ : ∃ kf : Nat → Int, kf 0 = k ∧ kf n = k + n ∧ (∀ i, i ≤ n → 0 ≤ kf i ∧ kf i ≤ 2199024304128) ∧ (∀ i, kf (i + 1) = kf i + 1) ∧ (∀ i, i < n → ms[i]? = some (i64 (kf i))) :=
    ⟨fun i => k + i, by simp, rfl, fun i hi => by simp only; omega, fun i => by simp only; omega, fun i hi => by rw [hms]; exact marksI_at hi⟩
  have hset : ∀ i, i < n → (ys i).set i (i64 (kf i)) = ys (i + 1) := fun i hi => by rw [hys]; exact halfA_set hml (hkm i hi)
  have hzn : ms = ys n := by rw [hys, halfA, ← hlen, ← hml, List.take_length, hml, List.drop_length, List.append_nil]
  clear hkm hys
  rw [← hxs, ← hn, ← hms, hzn, ← hkn]
  have htab := tab
  refine MCtr.walkO tab hΩ 3 fn_laws_markInt64S rfl rfl rfl ?_
  have hlo : Ω.len xs = n := by subst hΩ; exact hlen
  generalize PP = P at *
  cbv
  refine loopX htab hΩ (fun i : Nat => ⟨[(0, .vw 0 0 n), (1, .sc (.int .i64 (kf i))), (5, .sc (.int .i64 (Ω.int i))), (19, .vw 0 0 n), (20, .sc (.int .i64 k))], 19, [some ⟨1, ys i, false⟩]⟩) (fun i => i ≤ n) (fun i => n - i) 0 (Nat.zero_le _)
    (Sbs.mk rfl (by rw [← hx0]) ⟨congrArg (A.vw 0 0) hlo, congrArg i64 hk0.symm, zeroI hΩ, congrArg (A.vw 0 0) hlo, rfl, trivial⟩) (fun i hi => ?_)
  have hyli := hyl i hi
  have hyni := hyn i
  have hkbi := hkb i hi
  have hse := hset i
  have hks1 := hks i
  cbv
  refine br (fun h => ?_) (fun h => ?_) <;> cbv
  · replace h : i < n := by have := ltN hΩ h; omega
    refine ⟨⟨ixI hΩ h⟩, ⟨by subst hΩ; show 0 + i < (ys i).length; omega, hyni⟩, i + 1, by omega, by omega, Sbs.mk rfl ?_ ⟨rfl, congrArg i64 ((addV hΩ hkbi.1 (by omega)).trans hks1.symm), incI hΩ (by omega), rfl, rfl, trivial⟩⟩
    rw [← hse h]
    subst hΩ
    show [some (Row.mk 1 ((ys i).set (0 + i) _) false)] = _
    rw [Nat.zero_add]
    rfl
  · replace h : i = n := by have := geN hΩ h; omega
    subst h
    exact ⟨⟨rfl, Nat.le_of_eq (hyl i hi).symm⟩, .same, .of (congrArg (fun z => [A.sl true 1 z, i64 k]) (takeI hΩ (hyl i hi)))⟩
theorem c_markSetResult (a b : Int) (cs : List Int) (k : Int) (h0 : 0 ≤ k) (h1 : k ≤ 2199023255552) (hb : cs.length ≤ 1048576) :
    MCtr PP n_laws_markSetResult [.agg [i64 a, i64 b, .sl true 1 (cs.map i64)], i64 k] (i64 (k + cs.length)) [.agg [i64 a, i64 b, .sl true 1 (marksI k cs.length)], i64 k] := by
  obtain ⟨Ω, hΩ⟩ : ∃ Ω, Ω = std := ⟨_, rfl⟩
  have h := c_markInt64S cs k h0 h1 hb
  have hml : (marksI k cs.length).length = (cs.map i64).length := by rw [marksI_length, List.length_map]
  generalize marksI k cs.length = ms at *
  generalize cs.map i64 = xs at *
  generalize k + (cs.length : Int) = kk at *
  have hl : Ω.len xs = xs.length := by subst hΩ; rfl
  have hlm : Ω.len xs = ms.length := by omega
  have htab := tab
  refine MCtr.walkO tab hΩ 3 fn_laws_markSetResult rfl rfl rfl ?_
  generalize PP = P at *
  cbv
  refine call_mut hΩ 3 (l := [(0, ms)] ++ ([] ++ [])) h (.cons (mutVw rfl hl hml) (.cons (.data rfl rfl) .nil)) (by simp) rfl ?_
  cbv
  exact ⟨⟨rfl, Nat.le_of_eq hlm⟩, .same, .of (congrArg (fun z => [A.agg [i64 a, i64 b, A.sl true 1 z], i64 k]) (takeI hΩ hlm.symm))⟩
theorem c_heldInt64S (n : Nat) (k : Int) (h0 : 0 ≤ k) (h1 : k ≤ 2199023255552) (hb : n ≤ 1048576) :
    PCtr PP n_laws_heldInt64S [.sl false 1 (marksI k n), i64 k] (i64 (k + n)) := by
  obtain ⟨Ω, hΩ⟩ : ∃ Ω, Ω = std := ⟨_, rfl⟩
  obtain ⟨ms, hms⟩ : ∃ ms, ms = marksI k n := ⟨_, rfl⟩
  have hml : ms.length = n := by rw [hms, marksI_length]
  obtain ⟨kf, hk0, hkn, hkb, hks, hkm⟩ : ∃ kf : Nat → Int, kf 0 = k ∧ kf n = k + n ∧ (∀ i, i ≤ n → 0 ≤ kf i ∧ kf i ≤ 2199024304128) ∧ (∀ i, kf (i + 1) = kf i + 1) ∧ (∀ i, i < n → ms[i]? = some (i64 (kf i))) :=
    ⟨fun i => k + i, by simp, rfl, fun i hi => by simp only; omega, fun i => by simp only; omega, fun i hi => by rw [hms]; exact marksI_at hi⟩
  rw [← hms, ← hkn]
  have htab := tab
  have hmo := hmo
  refine PCtr.walk tab hΩ fn_laws_heldInt64S rfl ?_
  generalize PP = P at *
  cbv
  refine loopX htab hΩ (fun i : Nat => ⟨[(0, .sl false 1 ms), (1, .sc (.int .i64 (kf i))), (5, .sc (.int .i64 (Ω.int i)))], 21, []⟩) (fun i => i ≤ n) (fun i => n - i) 0 (Nat.zero_le _)
    (Sbs.mk rfl rfl ⟨rfl, congrArg i64 hk0.symm, zeroI hΩ, trivial⟩) (fun i hi => ?_)
  have hkbi := hkb i hi
  have hks1 := hks i
  have hat := hkm i
  cbv
  refine br (fun h => ?_) (fun h => ?_) <;> cbv
  · replace h : i < n := by have := ltI hΩ h; omega
    refine ⟨⟨nnI hΩ⟩, _, rdJ hΩ (hat h), ?_⟩
    cbv
    refine br (fun h => (neSame hΩ h rfl).elim) (fun h => ?_)
    cbv
    exact ⟨i + 1, by omega, by omega, Sbs.mk rfl rfl ⟨rfl, congrArg i64 ((addV hΩ hkbi.1 (by omega)).trans hks1.symm), incI hΩ (by omega), trivial⟩⟩
  · replace h : i = n := by have := geI hΩ h; omega
    subst h
    exact .same
theorem c_heldSetResult (a b : Int) (n : Nat) (k : Int) (h0 : 0 ≤ k) (h1 : k ≤ 2199023255552) (hb : n ≤ 1048576) :
    PCtr PP n_laws_heldSetResult [.agg [i64 a, i64 b, .sl false 1 (marksI k n)], i64 k] (i64 (k + n)) := by
  obtain ⟨Ω, hΩ⟩ : ∃ Ω, Ω = std := ⟨_, rfl⟩
  have h := c_heldInt64S n k h0 h1 hb
  generalize marksI k n = ms at *
  obtain ⟨kk, hkk, hk0⟩ : ∃ kk : Int, kk = k + n ∧ 0 ≤ kk := ⟨_, rfl, by omega⟩
  rw [← hkk] at h ⊢
  clear hkk
  have htab := tab
  have hmo := hmo
  refine PCtr.walk tab hΩ fn_laws_heldSetResult rfl ?_
  generalize PP = P at *
  cbv
  refine call_pure hΩ 3 h rfl (fits _) rfl rfl ?_
  cbv
  refine br (fun h => absurd (ltI_t hΩ h) (Int.not_lt.2 hk0)) (fun h => ?_)
  cbv
  exact .same
end Go.Proofs.YtomfmdfamlmfiaaGreat

/- Helpers of the laws of sets. Plain theorems. -/
set_option linter.unusedVariables false
set_option linter.unusedSimpArgs false
namespace Go.Proofs.YtomfmdfamlmfiaaGreat
open Go Go.Fw
set_option maxRecDepth 100000
theorem sum_le_cost : ∀ (l : List Pck), (l.map Pck.cnt).sum ≤ 12 * costS cP l
  | [] => Nat.zero_le _
  | o :: l => by
    have ih := sum_le_cost l
    have h : o.cnt ≤ 5 + 7 * cP o := by
      have h1 : ∀ d : List (List Trm), psum (fun l => 7 * l.length) d d.length ≤ 7 * costS (costS cT) d := fun d => by
        unfold psum
        rw [List.take_length]
        induction d with
        | nil => exact Nat.zero_le _
        | cons x d ih =>
          have := len_cost cT x
          unfold costS at ih ⊢
          simp only [List.map_cons, List.sum_cons, List.length_cons] at ih ⊢
          unfold costS at this
          omega
      have h2 := h1 o.d
      have h3 := len_cost cB o.p
      have h4 := len_cost cT o.b
      unfold Pck.cnt
      rw [psum_const, psum_const]
      unfold cP
      omega
    unfold costS at ih ⊢
    simp only [List.map_cons, List.sum_cons, List.length_cons] at ih ⊢
    omega
theorem psum_cnt_le (l : List Pck) : psum Pck.cnt l l.length ≤ 12 * costS cP l := by
  unfold psum
  rw [List.take_length]
  exact sum_le_cost l
theorem szP_le (cs : List Pck) (h : 0 ≤ szS szP cs 1048576) : szS szP cs 1048576 ≤ 1048576 := by
  rw [szS_cost szP_cost] at h ⊢
  split
  · omega
  · omega
theorem sz_facts2 {t : List Trm} {l : Int} (hl : l ≤ 1048576) (h : 0 ≤ szS szT t l) : t.length ≤ 1048576 := by
  rw [szS_cost szT_cost] at h
  split at h
  · omega
  · have := len_cost cT t
    omega
/-- What the size check tells. -/
theorem sz_facts {cs : List Pck} (h : 0 ≤ szS szP cs 1048576) : cs.length ≤ 1048576 ∧ (∀ o ∈ cs, o.Small) ∧ psum Pck.cnt cs cs.length ≤ 12582912 := by
  rw [szS_cost szP_cost] at h
  split at h
  · omega
  · have hc : costS cP cs ≤ 1048576 := by omega
    exact ⟨Nat.le_trans (len_cost _ _) hc, fun o ho => small_of (Nat.le_trans (mem_cost _ _ o ho) hc), Nat.le_trans (psum_cnt_le cs) (by omega)⟩
end Go.Proofs.YtomfmdfamlmfiaaGreat

/- Walks: who holds what is asked. Plain theorems. -/
set_option linter.unusedVariables false
set_option linter.unusedSimpArgs false
namespace Go.Proofs.YtomfmdfamlmfiaaGreat
open Go Go.Fw
set_option maxRecDepth 100000
def askC (c : List Pck) (s : List Int) (a : List Trm) : Int := if setF c s ≠ 0 then setF c s else if 8 < a.length then 2 else firstF trmF a
theorem c_asksCode (l : List Pck) (s : List Int) (a : List Trm) (hl : l.length ≤ 1048576) (hs : s.length ≤ 1048576) (ha : a.length ≤ 1048576) (ho : ∀ o ∈ l, o.Small) : PCtr PP n_impl_asksCode [encP l, .sl false 1 (s.map i64), .sl false 7 (a.map Trm.enc)] (i64 (askC l s a)) := by
  obtain ⟨Ω, hΩ⟩ : ∃ Ω, Ω = std := ⟨_, rfl⟩
  have h1 := c_implSetFault l s hl ho hs
  have h2 := c_termsFault a (by omega)
  obtain ⟨r, hr⟩ : ∃ r, r = askC l s a := ⟨_, rfl⟩
  rw [← hr]
  unfold askC at hr
  unfold encP at *
  obtain ⟨zs, hzs⟩ : ∃ zs, zs = a.map Trm.enc := ⟨_, rfl⟩
  have hlen : zs.length = a.length := by rw [hzs, List.length_map]
  rw [← hzs] at h2 ⊢
  rw [← hlen] at hr
  generalize setF l s = k1 at *
  generalize firstF trmF a = k2 at *
  generalize l.map (Pck.enc false) = xs at *
  generalize s.map i64 = ys at *
  clear hlen hzs
  have htab := tab
  have hmo := hmo
  refine PCtr.walk tab hΩ fn_impl_asksCode rfl ?_
  generalize PP = P at *
  cbv
  refine call_pure hΩ 3 h1 rfl (fits _) rfl rfl ?_
  cbv
  repeat' (first | (refine br (fun h => ?_) (fun h => ?_) <;> cbv) | (refine call_pure hΩ 3 h2 rfl (fits _) rfl rfl ?_; cbv))
  all_goals (refine .of (congrArg i64 ?_); clear h1 h2 htab hmo; subst hΩ; subst hr; simp_all [cmpIS])
  all_goals (intros; omega)
theorem c_l13Asked (l : List Pck) (s : List Int) (a : List Trm) (hl : l.length ≤ 1048576) (hs : s.length ≤ 1048576) (ha : a.length ≤ 1048576) (ho : ∀ o ∈ l, o.Small) : PCtr PP n_spec_l13Asked [encP l, .sl false 1 (s.map i64), .sl false 7 (a.map Trm.enc)] (i64 (askC l s a)) := by
  obtain ⟨Ω, hΩ⟩ : ∃ Ω, Ω = std := ⟨_, rfl⟩
  have h1 := c_specSetFault l s hl ho hs
  have h2 := c_l2Terms a (by omega)
  obtain ⟨r, hr⟩ : ∃ r, r = askC l s a := ⟨_, rfl⟩
  rw [← hr]
  unfold askC at hr
  unfold encP at *
  obtain ⟨zs, hzs⟩ : ∃ zs, zs = a.map Trm.enc := ⟨_, rfl⟩
  have hlen : zs.length = a.length := by rw [hzs, List.length_map]
  rw [← hzs] at h2 ⊢
  rw [← hlen] at hr
  generalize setF l s = k1 at *
  generalize firstF trmF a = k2 at *
  generalize l.map (Pck.enc false) = xs at *
  generalize s.map i64 = ys at *
  clear hlen hzs
  have htab := tab
  have hmo := hmo
  refine PCtr.walk tab hΩ fn_spec_l13Asked rfl ?_
  generalize PP = P at *
  cbv
  refine call_pure hΩ 3 h1 rfl (fits _) rfl rfl ?_
  cbv
  repeat' (first | (refine br (fun h => ?_) (fun h => ?_) <;> cbv) | (refine call_pure hΩ 3 h2 rfl (fits _) rfl rfl ?_; cbv))
  all_goals (refine .of (congrArg i64 ?_); clear h1 h2 htab hmo; subst hΩ; subst hr; simp_all [cmpIS])
  all_goals (intros; omega)
end Go.Proofs.YtomfmdfamlmfiaaGreat

/- Walks: who leans on one. Plain theorems. -/
set_option linter.unusedVariables false
set_option linter.unusedSimpArgs false
namespace Go.Proofs.YtomfmdfamlmfiaaGreat
open Go Go.Fw
set_option maxRecDepth 100000
/-- k leans on t. -/
def nedB (c : List Pck) (t k : Int) : Bool := !decide (k = t) && (pk c k).d.any fun l => l.any (givesB (pk c t))
theorem c_leans (l : List Pck) (k t : Int) (hl : l.length ≤ 1048576) (hs : ∀ o ∈ l, o.Small) (hk : inB k 0 ((l.length : Int) - 1) = true) (ht : inB t 0 ((l.length : Int) - 1) = true) : PCtr PP n_impl_leans [encP l, i64 k, i64 t] (boo (nedB l t k)) := by
  obtain ⟨Ω, hΩ⟩ : ∃ Ω, Ω = std := ⟨_, rfl⟩
  obtain ⟨r, hr⟩ : ∃ r, r = nedB l t k := ⟨_, rfl⟩
  rw [← hr]
  obtain ⟨xs, hxs⟩ : ∃ xs, xs = l.map (Pck.enc false) := ⟨_, rfl⟩
  have hlen : xs.length = l.length := by rw [hxs, List.length_map]
  unfold encP at *
  rw [← hxs]
  obtain ⟨ht0, htl, hta, htm⟩ := pk_at ht
  obtain ⟨hk0, hkl, hka, hkm⟩ := pk_at hk
  obtain ⟨ps1, ds1, bs1, hen1, hps1, hds1, hbs1⟩ := enc_raw (pk l t)
  obtain ⟨ps2, ds2, bs2, hen2, hps2, hds2, hbs2⟩ := enc_raw (pk l k)
  have hx1 : xs[t.toNat]? = some (Pck.enc false (pk l t)) := by rw [hxs, List.getElem?_map, hta]; rfl
  have hx2 : xs[k.toNat]? = some (Pck.enc false (pk l k)) := by rw [hxs, List.getElem?_map, hka]; rfl
  have hcf : PCtr PP n_slices_ContainsFunc_L_L_impl_Term_L_impl_Term [.sl false 1 ((pk l k).d.map (encTs false)), .clo (1000000 + n_impl_Pack_givesOne) [(pk l t).enc false]] (boo ((pk l k).d.any fun u => u.any (givesB (pk l t)))) :=
    c_ContainsFuncL _ (by have := (hs _ hkm).d; omega) _ _ _ ⟨fun S k => by rw [hen1]; rfl, by rw [hen1]; rfl, fun _ => by rw [hen1]; rfl, fun u hu => c_givesOne (pk l t) u (hs _ htm).p ((hs _ hkm).e u hu)⟩
  rw [hen1] at hx1 hcf
  rw [hen2] at hx2
  rw [← hds2] at hcf
  unfold nedB at hr
  generalize ((pk l k).d.any fun u => u.any (givesB (pk l t))) = B1 at *
  clear hbs1 hbs2 hps1 hps2 hds1 hds2 hen1 hen2 hs hk ht htm hkm hta hka hxs
  generalize pk l t = p1 at *
  generalize pk l k = p2 at *
  have htab := tab
  have hmo := hmo
  have hve := verEq
  refine PCtr.walk tab hΩ fn_impl_leans rfl ?_
  generalize PP = P at *
  cbv
  refine ⟨VC_drawn htab hΩ hmo (by kernel_rfl) ?_⟩
  cbv
  repeat' (first | (refine br (fun h => ?_) (fun h => ?_) <;> cbv) | (refine ⟨⟨ht0⟩, _, hx1, ?_⟩; cbv) | (refine ⟨⟨hk0⟩, _, hx2, ?_⟩; cbv) | (refine QCall_pure (k := 5) hcf (ro_clo2 rfl rfl) (fits _) rfl ?_; cbv))
  all_goals (refine .of (congrArg boo ?_); subst hΩ; subst hr; clear hcf htab hmo hve; simp_all)
theorem c_l13Leans (l : List Pck) (k t : Int) (hl : l.length ≤ 1048576) (hs : ∀ o ∈ l, o.Small) (hk : inB k 0 ((l.length : Int) - 1) = true) (ht : inB t 0 ((l.length : Int) - 1) = true) : PCtr PP n_spec_l13Leans [encP l, i64 k, i64 t] (boo (nedB l t k)) := by
  obtain ⟨Ω, hΩ⟩ : ∃ Ω, Ω = std := ⟨_, rfl⟩
  obtain ⟨r, hr⟩ : ∃ r, r = nedB l t k := ⟨_, rfl⟩
  rw [← hr]
  obtain ⟨xs, hxs⟩ : ∃ xs, xs = l.map (Pck.enc false) := ⟨_, rfl⟩
  have hlen : xs.length = l.length := by rw [hxs, List.length_map]
  unfold encP at *
  rw [← hxs]
  obtain ⟨ht0, htl, hta, htm⟩ := pk_at ht
  obtain ⟨hk0, hkl, hka, hkm⟩ := pk_at hk
  obtain ⟨ps1, ds1, bs1, hen1, hps1, hds1, hbs1⟩ := enc_raw (pk l t)
  obtain ⟨ps2, ds2, bs2, hen2, hps2, hds2, hbs2⟩ := enc_raw (pk l k)
  have hx1 : xs[t.toNat]? = some (Pck.enc false (pk l t)) := by rw [hxs, List.getElem?_map, hta]; rfl
  have hx2 : xs[k.toNat]? = some (Pck.enc false (pk l k)) := by rw [hxs, List.getElem?_map, hka]; rfl
  have hg := fun t' => c_l2Gives (pk l t) t' (by have := (hs _ htm).p; omega)
  rw [hen1] at hx1 hg
  rw [hen2] at hx2
  unfold nedB at hr
  have hdl : (pk l k).d.length ≤ 1048576 := (hs _ hkm).d
  have hdd := (hs _ hkm).e
  generalize (pk l k).d = d at *
  generalize givesB (pk l t) = G at *
  have hdlen : ds2.length = d.length := by rw [hds2, List.length_map]
  clear hbs1 hbs2 hps1 hps2 hds1 hen1 hs hk ht htm hkm hta hka hen2
  generalize pk l t = p1 at *
  generalize pk l k = p2 at *
  rw [show ((!decide (k = t)) && d.any fun l => l.any G) = ((d.any fun l => l.any G) && !decide (k = t)) from Bool.and_comm _ _] at hr
  obtain ⟨B, hB⟩ : ∃ B, B = !decide (k = t) := ⟨_, rfl⟩
  rw [← hB] at hr
  have htab := tab
  have hmo := hmo
  refine PCtr.walk tab hΩ fn_spec_l13Leans rfl ?_
  generalize PP = P at *
  cbv
  refine ⟨⟨hk0⟩, _, hx2, ?_⟩
  cbv
  refine loopX htab hΩ (fun i : Nat => ⟨[(0, .sl false 8 xs), (1, .sc (.int .i64 k)), (2, .sc (.int .i64 t)), (7, .sl false 1 ds2), (8, .sc (.int .i64 (Ω.int i)))], 45, []⟩) (fun i => i ≤ d.length ∧ r = (((d.drop i).any fun l => l.any G) && B)) (fun i => d.length - i) 0
    ⟨Nat.zero_le _, hr⟩ (Sbs.mk rfl rfl ⟨rfl, rfl, rfl, rfl, zeroI hΩ, trivial⟩) ?_
  rintro i ⟨hi, he⟩
  cbv
  refine br (fun h => ?_) (fun h => ?_) <;> cbv
  · replace h := ltI hΩ h
    obtain ⟨c, hcc⟩ := at_of (cs := d) (by omega : i < d.length)
    rw [any_at _ hcc] at he
    obtain ⟨ts, hts⟩ : ∃ ts, ts = c.map Trm.enc := ⟨_, rfl⟩
    have hcl := hdd c (List.mem_of_getElem? hcc)
    have htl : ts.length = c.length := by rw [hts, List.length_map]
    have hrd : ds2[(Ω.int i).toNat]? = some (.sl false 7 ts) := (rdI hΩ hds2 hcc).trans (by rw [hts]; rfl)
    refine loopX htab hΩ (fun j : Nat => ⟨[(0, .sl false 8 xs), (1, .sc (.int .i64 k)), (2, .sc (.int .i64 t)), (7, .sl false 1 ds2), (8, .sc (.int .i64 (Ω.int i))), (9, .sc (.int .i64 (Ω.int j)))], 45, []⟩) (fun j => j ≤ c.length ∧ r = (((c.drop j).any G || ((d.drop (i + 1)).any fun l => l.any G)) && B)) (fun j => c.length - j) 0
      ⟨Nat.zero_le _, he⟩ (Sbs.mk rfl rfl ⟨rfl, rfl, rfl, rfl, rfl, zeroI hΩ, trivial⟩) ?_
    rintro j ⟨hj, he⟩
    cbv
    refine ⟨⟨nnI hΩ⟩, _, hrd, ?_⟩
    cbv
    refine br (fun h => ?_) (fun h => ?_) <;> cbv
    · replace h := ltI hΩ h
      obtain ⟨e, hee⟩ := at_of (cs := c) (by omega : j < c.length)
      rw [any_at _ hee] at he
      refine ⟨VC_drawn htab hΩ hmo (by kernel_rfl) ?_⟩
      cbv
      refine ⟨⟨ht0⟩, _, hx1, ?_⟩
      cbv
      refine ⟨⟨nnI hΩ⟩, _, hrd, ?_⟩
      cbv
      refine ⟨⟨nnI hΩ⟩, _, rdI hΩ hts hee, ?_⟩
      cbv
      refine QCall_pure (k := 3) (hg e) rfl (fits _) rfl ?_
      cbv
      refine br (fun g => ?_) (fun g => ?_) <;> cbv
      · exact .of (congrArg boo (by rw [he, show G e = true from g, hB]; clear hg; subst hΩ; by_cases q : k = t <;> simp [q, cmpIS]))
      · rw [show G e = false from g, Bool.false_or] at he
        exact ⟨j + 1, ⟨by omega, he⟩, by omega, Sbs.mk rfl rfl ⟨rfl, rfl, rfl, rfl, rfl, incI hΩ (by omega), trivial⟩⟩
    · replace h := geI hΩ h
      rw [List.drop_of_length_le (by omega : c.length ≤ j), List.any_nil, Bool.false_or] at he
      exact ⟨i + 1, ⟨by omega, he⟩, by omega, Sbs.mk rfl rfl ⟨rfl, rfl, rfl, rfl, incI hΩ (by omega), trivial⟩⟩
  · replace h := geI hΩ h
    exact .of (congrArg boo (by rw [he, List.drop_of_length_le (by omega)]; rfl))
end Go.Proofs.YtomfmdfamlmfiaaGreat

/- Ways: levels, the least way, the program's table of ways. Plain theorems. -/
set_option linter.unusedVariables false
set_option linter.unusedSimpArgs false
namespace Go.Proofs.YtomfmdfamlmfiaaGreat
/-- Which of two lists of numbers is less, as the reference tells it. -/
def lessL : List Int → List Int → Bool
  | a :: l, b :: m => if a = b then lessL l m else decide (a < b)
  | _, _ => false
theorem lessL_irr : ∀ l : List Int, lessL l l = false
  | [] => rfl
  | a :: l => by simp [lessL, lessL_irr l]
theorem lessL_asy : ∀ {l m : List Int}, lessL l m = true → lessL m l = false
  | [], _, h => by simp [lessL] at h
  | _ :: _, [], h => by simp [lessL] at h
  | a :: l, b :: m, h => by
    simp only [lessL] at h ⊢
    by_cases hab : a = b
    · subst hab
      simp only [if_pos] at h ⊢
      exact lessL_asy h
    · rw [if_neg hab] at h
      rw [if_neg (Ne.symm hab)]
      have : a < b := by simpa using h
      simpa using by omega
theorem lessL_trans : ∀ {l m n : List Int}, lessL l m = true → lessL m n = true → lessL l n = true
  | [], _, _, h, _ => by simp [lessL] at h
  | _ :: _, [], _, h, _ => by simp [lessL] at h
  | _ :: _, _ :: _, [], _, h => by simp [lessL] at h
  | a :: l, b :: m, c :: n, h1, h2 => by
    simp only [lessL] at h1 h2 ⊢
    by_cases hab : a = b
    · subst hab
      simp only [if_pos] at h1
      by_cases hac : a = c
      · subst hac
        simp only [if_pos] at h2 ⊢
        exact lessL_trans h1 h2
      · rw [if_neg hac] at h2 ⊢; exact h2
    · rw [if_neg hab] at h1
      have h1 : a < b := by simpa using h1
      by_cases hbc : b = c
      · subst hbc
        rw [if_neg hab]; simpa using h1
      · rw [if_neg hbc] at h2
        have h2 : b < c := by simpa using h2
        rw [if_neg (by omega)]
        simpa using by omega
theorem lessL_tot : ∀ {l m : List Int}, l.length = m.length → lessL l m = false → l = m ∨ lessL m l = true
  | [], [], _, _ => .inl rfl
  | [], _ :: _, h, _ => by simp at h
  | _ :: _, [], h, _ => by simp at h
  | a :: l, b :: m, hl, h => by
    simp only [lessL] at h ⊢
    by_cases hab : a = b
    · subst hab
      simp only [if_pos] at h ⊢
      rcases lessL_tot (by simpa using hl) h with h | h
      · exact .inl (by rw [h])
      · exact .inr h
    · rw [if_neg hab] at h
      rw [if_neg (Ne.symm hab)]
      have : ¬ a < b := by simpa using h
      exact .inr (by simpa using by omega)
theorem lessL_app : ∀ {l m : List Int} (x y : List Int), l.length = m.length → lessL l m = true → lessL (l ++ x) (m ++ y) = true
  | [], _, _, _, _, h => by simp [lessL] at h
  | _ :: _, [], _, _, h, _ => by simp at h
  | a :: l, b :: m, x, y, hl, h => by
    simp only [lessL, List.cons_append] at h ⊢
    by_cases hab : a = b
    · subst hab
      simp only [if_pos] at h ⊢
      exact lessL_app x y (by simpa using hl) h
    · rw [if_neg hab] at h ⊢; exact h
theorem lessL_same : ∀ (l : List Int) (a b : Int), a < b → lessL (l ++ [a]) (l ++ [b]) = true
  | [], a, b, h => by simp [lessL, show a ≠ b by omega, h]
  | c :: l, a, b, h => by simp [lessL, lessL_same l a b h]
/-- The least of some ways. -/
def bestW (p : Int → Bool) (W : Int → List Int) : List Int → List Int → List Int
  | b, [] => b
  | b, j :: js => bestW p W (if p j then (if b.length = 0 ∨ lessL (W j) b = true then W j else b) else b) js
structure BestOf (p : Int → Bool) (W : Int → List Int) (js : List Int) (b : List Int) : Prop where
  none : (∀ j ∈ js, p j = false) → b = []
  ex : (∃ j ∈ js, p j = true) → ∃ j ∈ js, p j = true ∧ b = W j
  le : ∀ j ∈ js, p j = true → b = W j ∨ lessL b (W j) = true
theorem bestW_of {p : Int → Bool} {W : Int → List Int} {n : Nat} (hn : ∀ j, p j = true → (W j).length = n + 1) : ∀ (js ds : List Int) (b : List Int), BestOf p W ds b → BestOf p W (ds ++ js) (bestW p W b js)
  | [], ds, b, h => by simpa [bestW] using h
  | j :: js, ds, b, h => by
    have key : BestOf p W (ds ++ [j]) (if p j then (if b.length = 0 ∨ lessL (W j) b = true then W j else b) else b) := by
      by_cases hp : p j = true
      · rw [if_pos hp]
        have hnone : ¬ (∀ i ∈ ds ++ [j], p i = false) := fun h => by
          have := h j (by simp)
          rw [hp] at this; cases this
        by_cases hb : b.length = 0 ∨ lessL (W j) b = true
        · rw [if_pos hb]
          refine ⟨fun h => absurd h hnone, fun _ => ⟨j, by simp, hp, rfl⟩, fun i hi hpi => ?_⟩
          rcases List.mem_append.1 hi with hi | hi
          · rcases hb with hb | hb
            · obtain ⟨i', hi', hp', e⟩ := h.ex ⟨i, hi, hpi⟩
              have := hn i' hp'
              rw [← e, hb] at this; cases this
            · rcases h.le i hi hpi with e | e
              · rw [← e]; exact .inr hb
              · exact .inr (lessL_trans hb e)
          · obtain rfl : i = j := by simpa using hi
            exact .inl rfl
        · rw [if_neg hb]
          have hb0 : b.length ≠ 0 := fun h => hb (.inl h)
          have hb1 : lessL (W j) b = false := by
            cases e : lessL (W j) b with
            | true => exact absurd (.inr e) hb
            | false => rfl
          have hex : ∃ i ∈ ds, p i = true := by
            rcases Classical.em (∃ i ∈ ds, p i = true) with h' | h'
            · exact h'
            · have := h.none fun i hi => by
                cases e : p i with
                | true => exact absurd ⟨i, hi, e⟩ h'
                | false => rfl
              rw [this] at hb0; exact absurd rfl hb0
          obtain ⟨i, hi, hpi, e⟩ := h.ex hex
          refine ⟨fun h => absurd h hnone, fun _ => ⟨i, by simp [hi], hpi, e⟩, fun i' hi' hpi' => ?_⟩
          rcases List.mem_append.1 hi' with hi' | hi'
          · exact h.le i' hi' hpi'
          · obtain rfl : i' = j := by simpa using hi'
            rcases lessL_tot (by rw [e, hn _ hp, hn _ hpi]) hb1 with e' | e'
            · exact .inl e'.symm
            · exact .inr e'
      · rw [if_neg hp]
        have hp' : p j = false := by simpa using hp
        refine ⟨fun h' => h.none fun i hi => h' i (by simp [hi]), fun ⟨i, hi, hpi⟩ => ?_, fun i hi hpi => ?_⟩
        · rcases List.mem_append.1 hi with hi | hi
          · obtain ⟨i', q1, q2, q3⟩ := h.ex ⟨i, hi, hpi⟩
            exact ⟨i', by simp [q1], q2, q3⟩
          · obtain rfl : i = j := by simpa using hi
            exact absurd hpi hp
        · rcases List.mem_append.1 hi with hi | hi
          · exact h.le i hi hpi
          · obtain rfl : i = j := by simpa using hi
            exact absurd hpi hp
    have := bestW_of hn js (ds ++ [j]) _ key
    rw [List.append_assoc] at this
    exact this
theorem bestW_ok {p : Int → Bool} {W : Int → List Int} {n : Nat} (hn : ∀ j, p j = true → (W j).length = n + 1) (js : List Int) : BestOf p W js (bestW p W [] js) := by
  simpa using bestW_of hn js [] [] ⟨fun _ => rfl, fun ⟨_, h, _⟩ => by simp at h, fun _ h => by simp at h⟩
section
variable (asks : Int → Bool) (lea : Int → Int → Bool) (set : List Int)
/-- Is k of level n; was it met up to level n. -/
def lvD : Nat → Int → Bool × Bool
  | 0, k => (asks k, asks k)
  | n + 1, k => (!(lvD n k).2 && set.any fun j => (lvD n j).1 && lea j k, (lvD n k).2 || (!(lvD n k).2 && set.any fun j => (lvD n j).1 && lea j k))
/-- The least way to k of level n. -/
def wayD : Nat → Int → List Int
  | 0, k => [k]
  | n + 1, k => bestW (fun j => (lvD asks lea set n j).1 && lea j k) (wayD n) [] set ++ [k]
/-- How far k is after n rounds. -/
def farV : Nat → Int → Int
  | 0, k => if asks k then 1 else -1
  | n + 1, k => if farV n k < 0 ∧ set.any (fun j => decide (farV n j = n + 1) && lea j k) = true then n + 2 else farV n k
end
section
variable {asks : Int → Bool} {lea : Int → Int → Bool} {set : List Int}
theorem lvD_seen : ∀ {n : Nat} {k : Int}, (lvD asks lea set n k).1 = true → (lvD asks lea set n k).2 = true
  | 0, k, h => h
  | n + 1, k, h => by simp only [lvD] at h ⊢; rw [h]; simp
theorem lvD_mono {n : Nat} {k : Int} (h : (lvD asks lea set n k).2 = true) : ∀ d : Nat, (lvD asks lea set (n + d) k).2 = true
  | 0 => h
  | d + 1 => by
    have := lvD_mono h d
    show (lvD asks lea set (n + d + 1) k).2 = true
    simp only [lvD, this, Bool.true_or]
theorem lvD_seen_iff : ∀ {n : Nat} {k : Int}, (lvD asks lea set n k).2 = true ↔ ∃ m, m ≤ n ∧ (lvD asks lea set m k).1 = true
  | 0, k => ⟨fun h => ⟨0, Nat.le_refl _, h⟩, fun ⟨m, hm, h⟩ => by
      obtain rfl : m = 0 := by omega
      exact lvD_seen h⟩
  | n + 1, k => by
    have ih := lvD_seen_iff (n := n) (k := k)
    constructor
    · intro h
      have h' : ((lvD asks lea set n k).2 || (lvD asks lea set (n + 1) k).1) = true := h
      rcases (Bool.or_eq_true _ _).mp h' with h' | h'
      · obtain ⟨m, h1, h2⟩ := ih.1 h'
        exact ⟨m, by omega, h2⟩
      · exact ⟨n + 1, Nat.le_refl _, h'⟩
    · rintro ⟨m, h1, h2⟩
      have := lvD_mono (lvD_seen h2) (n + 1 - m)
      rw [show m + (n + 1 - m) = n + 1 by omega] at this
      exact this
theorem lvD_one {m n : Nat} {k : Int} (h1 : (lvD asks lea set m k).1 = true) (h2 : (lvD asks lea set n k).1 = true) : m = n := by
  have key : ∀ {m n : Nat}, (lvD asks lea set m k).1 = true → (lvD asks lea set n k).1 = true → ¬ m < n := fun {m n} h1 h2 h => by
    obtain ⟨d, rfl⟩ : ∃ d, n = m + d + 1 := ⟨n - m - 1, by omega⟩
    have := lvD_mono (lvD_seen h1) d
    simp only [lvD, this, Bool.not_true, Bool.false_and] at h2
    cases h2
  have := key h1 h2
  have := key h2 h1
  omega
theorem wayD_len : ∀ {n : Nat} {k : Int}, (lvD asks lea set n k).1 = true → (wayD asks lea set n k).length = n + 1
  | 0, k, _ => rfl
  | n + 1, k, h => by
    have hb := bestW_ok (p := fun j => (lvD asks lea set n j).1 && lea j k) (W := wayD asks lea set n) (n := n) (fun j hj => wayD_len (by simp at hj; exact hj.1)) set
    simp only [lvD, Bool.and_eq_true, List.any_eq_true] at h
    obtain ⟨_, j, hj, hj2⟩ := h
    obtain ⟨i, hi, hp, e⟩ := hb.ex ⟨j, hj, by simpa using hj2⟩
    show (bestW _ _ [] set ++ [k]).length = _
    rw [e]
    have := wayD_len (n := n) (k := i) (by simp at hp; exact hp.1)
    simp [this]
theorem wayD_last (n : Nat) (k : Int) : (wayD asks lea set n k).getLast? = some k := by
  cases n with
  | zero => rfl
  | succ n => simp [wayD]
/-- A way goes on from one of the level ahead. -/
theorem wayD_succ {n : Nat} {k : Int} (h : (lvD asks lea set (n + 1) k).1 = true) : ∃ j ∈ set, (lvD asks lea set n j).1 = true ∧ lea j k = true ∧ wayD asks lea set (n + 1) k = wayD asks lea set n j ++ [k] := by
  have hb := bestW_ok (p := fun j => (lvD asks lea set n j).1 && lea j k) (W := wayD asks lea set n) (n := n) (fun j hj => wayD_len (by simp at hj; exact hj.1)) set
  simp only [lvD, Bool.and_eq_true, List.any_eq_true] at h
  obtain ⟨_, j, hj, hj2⟩ := h
  obtain ⟨i, hi, hp, e⟩ := hb.ex ⟨j, hj, by simpa using hj2⟩
  simp only [Bool.and_eq_true] at hp
  refine ⟨i, hi, hp.1, hp.2, ?_⟩
  show bestW _ _ [] set ++ [k] = _
  rw [e]
theorem farV_eq : ∀ {n : Nat} {k : Int}, (∀ m, m ≤ n → (farV asks lea set n k = m + 1 ↔ (lvD asks lea set m k).1 = true)) ∧ ((lvD asks lea set n k).2 = false → farV asks lea set n k = -1)
  | 0, k => by
    refine ⟨fun m hm => ?_, fun h => ?_⟩
    · obtain rfl : m = 0 := by omega
      simp only [farV, lvD]
      cases asks k <;> simp
    · have h : asks k = false := h
      simp [farV, h]
  | n + 1, k => by
    have ih := fun k => farV_eq (n := n) (k := k)
    have hany : set.any (fun j => decide (farV asks lea set n j = n + 1) && lea j k) = set.any (fun j => (lvD asks lea set n j).1 && lea j k) := by
      congr 1
      funext j
      have := (ih j).1 n (Nat.le_refl _)
      congr 1
      cases e : (lvD asks lea set n j).1 with
      | true => simpa using this.2 e
      | false => simpa using fun h => by rw [this.1 h] at e; cases e
    cases hs : (lvD asks lea set n k).2 with
    | true =>
      obtain ⟨m, hm, hd⟩ := lvD_seen_iff.1 hs
      have hf := ((ih k).1 m hm).2 hd
      have hfar : farV asks lea set (n + 1) k = m + 1 := by
        simp only [farV]
        rw [if_neg (fun h => by rw [hf] at h; omega), hf]
      refine ⟨fun m' hm' => ?_, fun h => ?_⟩
      · rw [hfar]
        constructor
        · intro h
          obtain rfl : m = m' := by omega
          exact hd
        · intro h
          obtain rfl := lvD_one hd h
          rfl
      · have := lvD_mono hs 1
        rw [this] at h; cases h
    | false =>
      have hf := (ih k).2 hs
      have hd1 : (lvD asks lea set (n + 1) k).1 = set.any (fun j => (lvD asks lea set n j).1 && lea j k) := by simp [lvD, hs]
      have hfar : farV asks lea set (n + 1) k = if (lvD asks lea set (n + 1) k).1 = true then ((n + 1 : Nat) : Int) + 1 else -1 := by
        simp only [farV]
        rw [hany, ← hd1, hf]
        by_cases h : (lvD asks lea set (n + 1) k).1 = true
        · rw [if_pos ⟨by omega, h⟩, if_pos h]; omega
        · rw [if_neg (fun h' => h h'.2), if_neg h]
      have hno : ∀ m, m ≤ n → (lvD asks lea set m k).1 = false := fun m hm => by
        cases e : (lvD asks lea set m k).1 with
        | false => rfl
        | true => rw [lvD_seen_iff.2 ⟨m, hm, e⟩] at hs; cases hs
      refine ⟨fun m hm => ?_, fun h => ?_⟩
      · rw [hfar]
        by_cases h : (lvD asks lea set (n + 1) k).1 = true
        · rw [if_pos h]
          constructor
          · intro h'
            obtain rfl : m = n + 1 := by omega
            exact h
          · intro h'
            rw [lvD_one h' h]
        · rw [if_neg h]
          constructor
          · intro h'; omega
          · intro h'
            exfalso
            rcases Nat.lt_or_ge n m with q | q
            · obtain rfl : m = n + 1 := by omega
              exact h h'
            · rw [hno m q] at h'; cases h'
      · rw [hfar, if_neg]
        intro h'
        rw [lvD_seen h'] at h; cases h
/-- A level has one of the set at the least. -/
theorem count_lt {p q : Int → Bool} : ∀ {l : List Int}, (∀ x ∈ l, p x = true → q x = true) → (∃ x ∈ l, q x = true ∧ p x = false) → (l.filter p).length + 1 ≤ (l.filter q).length
  | [], _, h => by obtain ⟨_, h, _⟩ := h; simp at h
  | y :: l, h1, h2 => by
    have mono : (l.filter p).length ≤ (l.filter q).length := by
      clear h2
      induction l with
      | nil => simp
      | cons z l ih =>
        have ih := ih fun x hx => h1 x (by rcases List.mem_cons.1 hx with rfl | hx <;> simp [*])
        simp only [List.filter_cons]
        cases hp : p z with
        | true => rw [if_pos rfl, if_pos (h1 z (by simp) hp)]; simpa using ih
        | false => rw [if_neg (by simp)]; split <;> simp <;> omega
    simp only [List.filter_cons]
    by_cases hy : q y = true ∧ p y = false
    · rw [if_pos hy.1, if_neg (by simp [hy.2])]; simp; omega
    · have h2' : ∃ x ∈ l, q x = true ∧ p x = false := by
        obtain ⟨x, hx, hq⟩ := h2
        rcases List.mem_cons.1 hx with rfl | hx
        · exact absurd hq hy
        · exact ⟨x, hx, hq⟩
      have ih := count_lt (l := l) (fun x hx => h1 x (.tail _ hx)) h2'
      cases hp : p y with
      | true => rw [if_pos rfl, if_pos (h1 y (by simp) hp)]; simp; omega
      | false => rw [if_neg (by simp)]; split <;> simp <;> omega
theorem lvD_count : ∀ {n : Nat}, (∃ k ∈ set, (lvD asks lea set n k).1 = true) → n + 1 ≤ (set.filter fun k => (lvD asks lea set n k).2).length
  | 0, ⟨k, hk, h⟩ => by
    have : k ∈ set.filter fun k => (lvD asks lea set 0 k).2 := by simp [hk, lvD_seen h]
    exact List.length_pos_of_mem this
  | n + 1, ⟨k, hk, h⟩ => by
    obtain ⟨j, hj, hd, _⟩ := wayD_succ h
    have ih := lvD_count (n := n) ⟨j, hj, hd⟩
    have := count_lt (l := set) (p := fun k => (lvD asks lea set n k).2) (q := fun k => (lvD asks lea set (n + 1) k).2) (fun x _ hx => lvD_mono hx 1) ⟨k, hk, lvD_seen h, by
      cases e : (lvD asks lea set n k).2 with
      | false => rfl
      | true => simp [lvD, e] at h⟩
    omega
theorem lvD_lt {n : Nat} {k : Int} (hk : k ∈ set) (h : (lvD asks lea set n k).1 = true) : n < set.length := by
  have h1 := lvD_count ⟨k, hk, h⟩
  have h2 := List.length_filter_le (fun k => (lvD asks lea set n k).2) set
  omega
theorem lvD_end {n : Nat} (h : ∀ k ∈ set, (lvD asks lea set n k).1 = false) : ∀ (d : Nat) (k : Int), k ∈ set → (lvD asks lea set (n + d) k).1 = false
  | 0, k, hk => h k hk
  | d + 1, k, hk => by
    cases e : (lvD asks lea set (n + (d + 1)) k).1 with
    | false => rfl
    | true =>
      obtain ⟨j, hj, hd, _⟩ := wayD_succ (n := n + d) e
      rw [lvD_end h d j hj] at hd; cases hd
end
/-- The end of a way. -/
def lastW (w : List Int) : Int := w.getLast?.getD 0
def getK : List (Int × List Int) → Int → Option (List Int)
  | [], _ => none
  | p :: l, k => if k = p.1 then some p.2 else getK l k
theorem getK_append : ∀ (a b : List (Int × List Int)) (k : Int), getK (a ++ b) k = (getK a k).or (getK b k)
  | [], b, k => rfl
  | p :: a, b, k => by
    simp only [List.cons_append, getK]
    split
    · rfl
    · exact getK_append a b k
theorem getK_map (f : Int → List Int) : ∀ (ks : List Int) (k : Int), getK (ks.map fun k => (k, f k)) k = if k ∈ ks then some (f k) else none
  | [], k => by simp [getK]
  | j :: ks, k => by
    simp only [List.map_cons, getK, getK_map f ks k, List.mem_cons]
    by_cases h : k = j
    · subst h; simp
    · simp [h]
/-- To whom a way goes on. -/
def newK (lea : Int → Int → Bool) (set : List Int) (out : List (Int × List Int)) (way : List Int) : List Int := set.filter fun k => (getK out k).isNone && lea (lastW way) k
def rowW (lea : Int → Int → Bool) (set : List Int) (st : List (Int × List Int) × List (List Int)) (way : List Int) : List (Int × List Int) × List (List Int) :=
  (st.1 ++ (newK lea set st.1 way).map (fun k => (k, way ++ [k])), st.2 ++ (newK lea set st.1 way).map (fun k => way ++ [k]))
/-- The program's table of ways and its level. -/
def tabW (asks : Int → Bool) (lea : Int → Int → Bool) (set : List Int) : Nat → List (Int × List Int) × List (List Int)
  | 0 => ((set.filter asks).map fun k => (k, [k]), (set.filter asks).map fun k => [k])
  | n + 1 => (tabW asks lea set n).2.foldl (rowW lea set) ((tabW asks lea set n).1, [])
def fstW (lea : Int → Int → Bool) (ws : List (List Int)) (k : Int) : Option (List Int) := ws.find? fun w => lea (lastW w) k
structure LInv (lea : Int → Int → Bool) (set : List Int) (out : List (Int × List Int)) (ws : List (List Int)) (st : List (Int × List Int) × List (List Int)) : Prop where
  get : ∀ k v, getK st.1 k = some v ↔ getK out k = some v ∨ (getK out k = none ∧ k ∈ set ∧ ∃ w, fstW lea ws k = some w ∧ v = w ++ [k])
  mem : ∀ v, v ∈ st.2 ↔ ∃ k, k ∈ set ∧ getK out k = none ∧ ∃ w, fstW lea ws k = some w ∧ v = w ++ [k]
  sort : st.2.Pairwise fun a b => lessL a b = true
section
variable {asks : Int → Bool} {lea : Int → Int → Bool} {set : List Int}
theorem LInv.nn {out : List (Int × List Int)} {ws : List (List Int)} {st : List (Int × List Int) × List (List Int)} (h : LInv lea set out ws st) (k : Int) (hk : k ∈ set) : getK st.1 k = none ↔ getK out k = none ∧ fstW lea ws k = none := by
  constructor
  · intro h0
    have h1 : getK out k = none := by
      cases e : getK out k with
      | none => rfl
      | some v => rw [(h.get k v).2 (.inl e)] at h0; cases h0
    refine ⟨h1, ?_⟩
    cases e : fstW lea ws k with
    | none => rfl
    | some w => rw [(h.get k _).2 (.inr ⟨h1, hk, w, e, rfl⟩)] at h0; cases h0
  · rintro ⟨h1, h2⟩
    cases e : getK st.1 k with
    | none => rfl
    | some v =>
      rcases (h.get k v).1 e with h3 | ⟨_, _, w, h3, _⟩
      · rw [h1] at h3; cases h3
      · rw [h2] at h3; cases h3
theorem fstW_snoc (ws : List (List Int)) (way : List Int) (k : Int) : fstW lea (ws ++ [way]) k = (fstW lea ws k).or (if lea (lastW way) k = true then some way else none) := by
  unfold fstW
  rw [List.find?_append]
  congr 1
  simp only [List.find?_cons, List.find?_nil]
  cases lea (lastW way) k <;> rfl
theorem LInv.step {out : List (Int × List Int)} {ws : List (List Int)} {way : List Int} {st : List (Int × List Int) × List (List Int)} (h : LInv lea set out ws st) (hset : set.Pairwise (· < ·)) {n : Nat} (hn : ∀ w ∈ ws ++ [way], w.length = n)
    (hs : (ws ++ [way]).Pairwise fun a b => lessL a b = true) : LInv lea set out (ws ++ [way]) (rowW lea set st way) := by
  have hnew : ∀ k, k ∈ newK lea set st.1 way ↔ k ∈ set ∧ (getK out k = none ∧ fstW lea ws k = none) ∧ lea (lastW way) k = true := fun k => by
    unfold newK
    rw [List.mem_filter, Bool.and_eq_true, Option.isNone_iff_eq_none]
    constructor
    · rintro ⟨a, b, c⟩; exact ⟨a, (h.nn k a).1 b, c⟩
    · rintro ⟨a, b, c⟩; exact ⟨a, (h.nn k a).2 b, c⟩
  refine ⟨fun k v => ?_, fun v => ?_, ?_⟩
  · show getK (st.1 ++ (newK lea set st.1 way).map (fun k => (k, way ++ [k]))) k = some v ↔ _
    rw [getK_append, getK_map (fun k => way ++ [k]), fstW_snoc]
    cases e : getK st.1 k with
    | some u =>
      have := (h.get k u).1 e
      simp only [Option.some_or, Option.some.injEq]
      constructor
      · rintro rfl
        rcases this with q | ⟨q1, q2, w, q3, q4⟩
        · exact .inl q
        · exact .inr ⟨q1, q2, w, by rw [q3]; rfl, q4⟩
      · intro hv
        rcases this with q | ⟨q1, q2, w, q3, q4⟩
        · rcases hv with hv | ⟨hv, _⟩
          · rw [q] at hv; exact Option.some.inj hv
          · rw [q] at hv; cases hv
        · rcases hv with hv | ⟨_, _, w', hv, rfl⟩
          · rw [q1] at hv; cases hv
          · rw [q3] at hv
            obtain rfl := Option.some.inj hv
            exact q4
    | none =>
      simp only [Option.none_or]
      by_cases hk : k ∈ newK lea set st.1 way
      · rw [if_pos hk]
        obtain ⟨a, ⟨b1, b2⟩, c⟩ := (hnew k).1 hk
        rw [b2, if_pos c, b1]
        simp [a, eq_comm]
      · rw [if_neg hk]
        constructor
        · intro h0; cases h0
        · rintro (h0 | ⟨h1, h2, w, h3, rfl⟩)
          · rw [(h.get k v).2 (.inl h0)] at e; cases e
          · exfalso
            have hn' := (h.nn k h2).1 e
            rw [hn'.2] at h3
            simp only [Option.none_or] at h3
            split at h3
            · rename_i hl; exact hk ((hnew k).2 ⟨h2, hn', hl⟩)
            · cases h3
  · show v ∈ st.2 ++ (newK lea set st.1 way).map (fun k => way ++ [k]) ↔ _
    rw [List.mem_append, h.mem v]
    constructor
    · rintro (⟨k, a, b, w, c, d⟩ | hv)
      · exact ⟨k, a, b, w, by rw [fstW_snoc, c]; rfl, d⟩
      · obtain ⟨k, hk, rfl⟩ := List.mem_map.1 hv
        obtain ⟨a, ⟨b1, b2⟩, c⟩ := (hnew k).1 hk
        exact ⟨k, a, b1, way, by rw [fstW_snoc, b2, if_pos c]; rfl, rfl⟩
    · rintro ⟨k, a, b, w, c, rfl⟩
      rw [fstW_snoc] at c
      cases e : fstW lea ws k with
      | some w' =>
        rw [e] at c
        obtain rfl := Option.some.inj c
        exact .inl ⟨k, a, b, _, e, rfl⟩
      | none =>
        rw [e] at c
        simp only [Option.none_or] at c
        split at c
        · rename_i hl
          obtain rfl := Option.some.inj c
          exact .inr (List.mem_map.2 ⟨k, (hnew k).2 ⟨a, ⟨b, e⟩, hl⟩, rfl⟩)
        · cases c
  · show (st.2 ++ (newK lea set st.1 way).map (fun k => way ++ [k])).Pairwise _
    rw [List.pairwise_append] at hs ⊢
    refine ⟨h.sort, ?_, ?_⟩
    · rw [List.pairwise_map]
      exact (hset.sublist List.filter_sublist).imp fun hab => lessL_same way _ _ hab
    · intro v hv u hu
      obtain ⟨k, _, _, w, hw, rfl⟩ := (h.mem v).1 hv
      obtain ⟨k', _, rfl⟩ := List.mem_map.1 hu
      have hwm : w ∈ ws := List.mem_of_find?_eq_some hw
      exact lessL_app _ _ (by rw [hn w (by simp [hwm]), hn way (by simp)]) (hs.2.2 w hwm way (by simp))
theorem LInv.all {out : List (Int × List Int)} (hset : set.Pairwise (· < ·)) {n : Nat} : ∀ (post ws : List (List Int)) (st : List (Int × List Int) × List (List Int)), LInv lea set out ws st → (∀ w ∈ ws ++ post, w.length = n) →
    (ws ++ post).Pairwise (fun a b => lessL a b = true) → LInv lea set out (ws ++ post) (post.foldl (rowW lea set) st)
  | [], ws, st, h, _, _ => by simpa using h
  | way :: post, ws, st, h, hn, hs => by
    have e : ws ++ way :: post = (ws ++ [way]) ++ post := by simp
    rw [e] at hn hs ⊢
    exact LInv.all hset post (ws ++ [way]) _ (h.step hset (fun w hw => hn w (by simp only [List.mem_append] at hw ⊢; exact .inl hw)) (List.pairwise_append.1 hs).1) hn hs
theorem LInv.init (out : List (Int × List Int)) : LInv lea set out [] (out, []) := by
  refine ⟨fun k v => ⟨.inl, ?_⟩, fun v => ⟨fun h => by simp at h, ?_⟩, by simp⟩
  · rintro (h | ⟨_, _, w, h, _⟩)
    · exact h
    · simp [fstW] at h
  · rintro ⟨_, _, _, w, h, _⟩
    simp [fstW] at h
theorem find_min {R : List Int → List Int → Prop} {p : List Int → Bool} {w : List Int} : ∀ {l : List (List Int)}, l.Pairwise R → l.find? p = some w → ∀ v ∈ l, p v = true → v = w ∨ R w v
  | [], _, h, _, _, _ => by simp at h
  | u :: l, hs, h, v, hv, hp => by
    rw [List.pairwise_cons] at hs
    rw [List.find?_cons] at h
    split at h
    · obtain rfl := Option.some.inj h
      rcases List.mem_cons.1 hv with rfl | hv
      · exact .inl rfl
      · exact .inr (hs.1 v hv)
    · rename_i hu
      rcases List.mem_cons.1 hv with rfl | hv
      · rw [hp] at hu; cases hu
      · exact find_min hs.2 h v hv hp
structure TabWOK (asks : Int → Bool) (lea : Int → Int → Bool) (set : List Int) (n : Nat) : Prop where
  sort : (tabW asks lea set n).2.Pairwise fun a b => lessL a b = true
  mem : ∀ v, v ∈ (tabW asks lea set n).2 ↔ ∃ k ∈ set, (lvD asks lea set n k).1 = true ∧ v = wayD asks lea set n k
  get : ∀ k v, getK (tabW asks lea set n).1 k = some v ↔ ∃ m, m ≤ n ∧ k ∈ set ∧ (lvD asks lea set m k).1 = true ∧ v = wayD asks lea set m k
theorem lastW_wayD (n : Nat) (k : Int) : lastW (wayD asks lea set n k) = k := by unfold lastW; rw [wayD_last]; rfl
theorem tabW_ok (hset : set.Pairwise (· < ·)) : ∀ n, TabWOK asks lea set n
  | 0 => by
    refine ⟨?_, fun v => ?_, fun k v => ?_⟩
    · show ((set.filter asks).map fun k => [k]).Pairwise _
      rw [List.pairwise_map]
      exact (hset.sublist List.filter_sublist).imp fun {a b} hab => by simpa using lessL_same [] a b hab
    · show v ∈ (set.filter asks).map (fun k => [k]) ↔ _
      simp only [List.mem_map, List.mem_filter, lvD, wayD]
      constructor
      · rintro ⟨k, ⟨a, b⟩, rfl⟩; exact ⟨k, a, b, rfl⟩
      · rintro ⟨k, a, b, rfl⟩; exact ⟨k, ⟨a, b⟩, rfl⟩
    · show getK ((set.filter asks).map fun k => (k, [k])) k = some v ↔ _
      rw [getK_map (fun k => [k])]
      constructor
      · intro h
        split at h
        · rename_i hk
          rw [List.mem_filter] at hk
          exact ⟨0, Nat.le_refl _, hk.1, hk.2, (Option.some.inj h).symm⟩
        · cases h
      · rintro ⟨m, hm, h1, h2, rfl⟩
        obtain rfl : m = 0 := by omega
        rw [if_pos (by rw [List.mem_filter]; exact ⟨h1, h2⟩)]
        rfl
  | n + 1 => by
    have ih := tabW_ok hset n
    have hlen : ∀ w ∈ [] ++ (tabW asks lea set n).2, w.length = n + 1 := fun w hw => by
      obtain ⟨k, hk, hd, rfl⟩ := (ih.mem w).1 (by simpa using hw)
      exact wayD_len hd
    have hl := LInv.all (out := (tabW asks lea set n).1) hset (n := n + 1) (tabW asks lea set n).2 [] _ (LInv.init (lea := lea) (set := set) _) hlen (by simpa using ih.sort)
    rw [List.nil_append] at hl
    have hnone : ∀ k ∈ set, (getK (tabW asks lea set n).1 k = none ↔ (lvD asks lea set n k).2 = false) := fun k hk => by
      constructor
      · intro h
        cases e : (lvD asks lea set n k).2 with
        | false => rfl
        | true =>
          obtain ⟨m, h1, h2⟩ := lvD_seen_iff.1 e
          rw [(ih.get k _).2 ⟨m, h1, hk, h2, rfl⟩] at h; cases h
      · intro h
        cases e : getK (tabW asks lea set n).1 k with
        | none => rfl
        | some v =>
          obtain ⟨m, h1, _, h2, _⟩ := (ih.get k v).1 e
          rw [lvD_seen_iff.2 ⟨m, h1, h2⟩] at h; cases h
    have key : ∀ k v, (k ∈ set ∧ getK (tabW asks lea set n).1 k = none ∧ ∃ w, fstW lea (tabW asks lea set n).2 k = some w ∧ v = w ++ [k]) ↔ (k ∈ set ∧ (lvD asks lea set (n + 1) k).1 = true ∧ v = wayD asks lea set (n + 1) k) := fun k v => by
      have hb := bestW_ok (p := fun j => (lvD asks lea set n j).1 && lea j k) (W := wayD asks lea set n) (n := n) (fun j hj => wayD_len (by simp at hj; exact hj.1)) set
      have hsame : ∀ w, fstW lea (tabW asks lea set n).2 k = some w → bestW (fun j => (lvD asks lea set n j).1 && lea j k) (wayD asks lea set n) [] set = w ∧ ∃ j ∈ set, ((lvD asks lea set n j).1 && lea j k) = true := fun w hw => by
        obtain ⟨j, hj, hd, e⟩ := (ih.mem w).1 (List.mem_of_find?_eq_some hw)
        have hl' : lea (lastW w) k = true := by
          unfold fstW at hw
          simpa using List.find?_some hw
        rw [e, lastW_wayD] at hl'
        have hp : ((lvD asks lea set n j).1 && lea j k) = true := by rw [hd, hl']; rfl
        refine ⟨?_, j, hj, hp⟩
        obtain ⟨i, hi, hpi, ei⟩ := hb.ex ⟨j, hj, hp⟩
        rw [Bool.and_eq_true] at hpi
        have h1 := find_min ih.sort hw (wayD asks lea set n i) ((ih.mem _).2 ⟨i, hi, hpi.1, rfl⟩) (by rw [lastW_wayD]; exact hpi.2)
        have h2 := hb.le j hj hp
        rw [← e] at h2
        rw [← ei] at h1
        rcases h1 with h1 | h1
        · exact h1
        · rcases h2 with h2 | h2
          · exact h2
          · rw [lessL_asy h1] at h2; cases h2
      constructor
      · rintro ⟨a, b, w, c, rfl⟩
        obtain ⟨q1, j, q2, q3⟩ := hsame w c
        refine ⟨a, ?_, ?_⟩
        · simp only [lvD, (hnone k a).1 b, Bool.not_false, Bool.true_and, List.any_eq_true]
          exact ⟨j, q2, q3⟩
        · show _ = bestW _ _ [] set ++ [k]
          rw [q1]
      · rintro ⟨a, b, rfl⟩
        have hs : (lvD asks lea set n k).2 = false := by
          cases e : (lvD asks lea set n k).2 with
          | false => rfl
          | true => simp [lvD, e] at b
        obtain ⟨j, hj, hd, hlj, e⟩ := wayD_succ b
        cases hf : fstW lea (tabW asks lea set n).2 k with
        | none =>
          have := List.find?_eq_none.1 hf (wayD asks lea set n j) ((ih.mem _).2 ⟨j, hj, hd, rfl⟩)
          rw [lastW_wayD] at this
          exact absurd hlj this
        | some w =>
          refine ⟨a, (hnone k a).2 hs, w, rfl, ?_⟩
          show bestW _ _ [] set ++ [k] = _
          rw [(hsame w hf).1]
    refine ⟨hl.sort, fun v => ?_, fun k v => ?_⟩
    · refine (hl.mem v).trans ⟨?_, ?_⟩
      · rintro ⟨k, h⟩; exact ⟨k, (key k v).1 h⟩
      · rintro ⟨k, h⟩; exact ⟨k, (key k v).2 h⟩
    · refine (hl.get k v).trans ?_
      rw [ih.get k v]
      constructor
      · rintro (⟨m, h1, h2, h3, h4⟩ | ⟨h1, h2, h3⟩)
        · exact ⟨m, by omega, h2, h3, h4⟩
        · obtain ⟨q1, q2, q3⟩ := (key k v).1 ⟨h2, h1, h3⟩
          exact ⟨n + 1, Nat.le_refl _, q1, q2, q3⟩
      · rintro ⟨m, h1, h2, h3, h4⟩
        rcases Nat.lt_or_ge n m with q | q
        · obtain rfl : m = n + 1 := by omega
          obtain ⟨q1, q2, q3⟩ := (key k v).2 ⟨h2, h3, h4⟩
          exact .inr ⟨q2, q1, q3⟩
        · exact .inl ⟨m, q, h2, h3, h4⟩
/-- As the reference tells the way to k: none is the empty one. -/
def whyV (asks : Int → Bool) (lea : Int → Int → Bool) (set : List Int) (k : Int) : List Int := if farV asks lea set set.length k < 0 then [] else wayD asks lea set (farV asks lea set set.length k - 1).toNat k
theorem whyV_of {k : Int} (hk : k ∈ set) {m : Nat} (h : (lvD asks lea set m k).1 = true) : whyV asks lea set k = wayD asks lea set m k := by
  have := ((farV_eq (asks := asks) (lea := lea) (set := set) (n := set.length) (k := k)).1 m (Nat.le_of_lt (lvD_lt hk h))).2 h
  unfold whyV
  rw [this, if_neg (by omega)]
  congr 1
  omega
theorem farV_neg {k : Int} (hk : k ∈ set) : farV asks lea set set.length k < 0 ↔ (∀ m, (lvD asks lea set m k).1 = false) := by
  have hf := farV_eq (asks := asks) (lea := lea) (set := set) (n := set.length) (k := k)
  constructor
  · intro h m
    cases e : (lvD asks lea set m k).1 with
    | false => rfl
    | true =>
      rw [(hf.1 m (Nat.le_of_lt (lvD_lt hk e))).2 e] at h
      omega
  · intro h
    rw [hf.2 ?_]
    · omega
    · cases e : (lvD asks lea set set.length k).2 with
      | false => rfl
      | true =>
        obtain ⟨m, _, hm⟩ := lvD_seen_iff.1 e
        rw [h m] at hm; cases hm
theorem whyV_nil {k : Int} (hk : k ∈ set) : (whyV asks lea set k).length = 0 ↔ farV asks lea set set.length k < 0 := by
  constructor
  · intro h
    rw [farV_neg hk]
    intro m
    cases e : (lvD asks lea set m k).1 with
    | false => rfl
    | true =>
      rw [whyV_of hk e, wayD_len e] at h
      cases h
  · intro h
    unfold whyV
    rw [if_pos h]; rfl
/-- The table at the end. -/
theorem getK_why (hset : set.Pairwise (· < ·)) {n : Nat} (he : (tabW asks lea set n).2 = []) {k : Int} (hk : k ∈ set) : (getK (tabW asks lea set n).1 k).getD [] = whyV asks lea set k := by
  have ht := tabW_ok (asks := asks) (lea := lea) hset n
  have h0 : ∀ k ∈ set, (lvD asks lea set n k).1 = false := fun k hk => by
    cases e : (lvD asks lea set n k).1 with
    | false => rfl
    | true =>
      have := (ht.mem _).2 ⟨k, hk, e, rfl⟩
      rw [he] at this
      simp at this
  cases e : getK (tabW asks lea set n).1 k with
  | some v =>
    obtain ⟨m, h1, h2, h3, rfl⟩ := (ht.get k v).1 e
    rw [whyV_of hk h3]; rfl
  | none =>
    have hneg : farV asks lea set set.length k < 0 := (farV_neg hk).2 fun m => by
      cases e2 : (lvD asks lea set m k).1 with
      | false => rfl
      | true =>
        have hm : m ≤ n := by
          rcases Nat.lt_or_ge n m with q | q
          · have := lvD_end h0 (m - n) k hk
            rw [show n + (m - n) = m by omega, e2] at this; cases this
          · exact q
        rw [(ht.get k _).2 ⟨m, hm, hk, e2, rfl⟩] at e; cases e
    unfold whyV
    rw [if_pos hneg]; rfl
theorem tabW_lt (hset : set.Pairwise (· < ·)) {n : Nat} (he : (tabW asks lea set n).2 ≠ []) : n < set.length := by
  have ht := tabW_ok (asks := asks) (lea := lea) hset n
  obtain ⟨v, hv⟩ := List.exists_mem_of_ne_nil _ he
  obtain ⟨k, hk, hd, _⟩ := (ht.mem v).1 hv
  exact lvD_lt hk hd
end
end Go.Proofs.YtomfmdfamlmfiaaGreat

/- Regions that draw their order, of which some operations only read what nobody in it writes, and the others stand in one order. Plain theorems, no condition. -/
set_option linter.unusedVariables false
set_option linter.unusedSimpArgs false
namespace Go.Fw
section
variable {P : Program} {T : Nat → Option TI} {S : State} {o : Oper}
def Agree (G : Nat → Prop) (w w' : World) : Prop := ∀ b, G b → w'.heap[b]? = w.heap[b]?
/-- The operation yields a value told by x, the same one as long as what may be read stands. -/
def VOG (P : Program) (o : Oper) (S : State) (x : A) : Prop :=
  ∀ (E : Env P) (G : Nat → Prop) (gs : Gh) (a : Act) (w : World), Inv E G gs S a.tmps w →
    ∃ v, (∀ w', Agree G w w' → (execOp a.eval o).run P w' = .ok (.value v) w') ∧ TRel w G S.rows gs x v []
theorem VOG_move {x : Operand} (ho : o.op = .move x ∨ o.op = .assign x) (hx : okO x = true) : VOG P o S (ev S x) :=
  fun E G gs a w hi => ⟨a.eval x, fun w' hw' => by rcases ho with h | h <;> simp [execOp, h], ev_rel hi x hx⟩
theorem VOG_load_rp {t : TypeId} {x : Operand} {xs : List A} {z : A} (ho : o.op = .load t x) (hx : okO x = true) (he : ev S x = .rp xs)
    (ha : aggT P t = some false) (hz : xs[0]? = some z) : VOG P o S z := by
  refine fun E G gs a w hi => ?_
  have h1 := ev_rel hi x hx
  rw [he] at h1
  obtain ⟨b, k, cur, e, fr, hv, hh, hg, hl⟩ := rp_inv h1
  obtain ⟨v, hv1, hv2⟩ := hl.get 0 z hz
  have hcur : cur[k]? = some v := by
    have h0 : 0 < xs.length := by
      rcases Nat.eq_zero_or_pos xs.length with h | h
      · rw [List.eq_nil_of_length_eq_zero h] at hz; simp at hz
      · exact h
    rw [List.getElem?_take_of_lt h0, List.getElem?_drop] at hv1
    simpa using hv1
  exact ⟨v, fun w' hw' => by simp [execOp, ho, Instr.loadAt, hv, Instr.sureAddr, run_loadVar_cell ha ((hw' b hg).trans hh) hcur], .of hv2⟩
theorem VOG_load_rpAgg {t : TypeId} {x : Operand} {xs : List A} {s : Nat} (ho : o.op = .load t x) (hx : okO x = true) (he : ev S x = .rp xs)
    (ha : aggT P t = some true) (hs : szT P t = some s) (hq : s ≤ xs.length) : VOG P o S (.agg (xs.take s)) := by
  refine fun E G gs a w hi => ?_
  have h1 := ev_rel hi x hx
  rw [he] at h1
  obtain ⟨b, k, cur, e, fr, hv, hh, hg, hl⟩ := rp_inv h1
  have h2 := hl.take0 s
  have h3 := h2.length
  rw [List.take_take, Nat.min_eq_left hq] at h2 h3
  exact ⟨.agg ((cur.toList.drop k).take s).toArray, by
    intro w' hw'
    simp [execOp, ho, Instr.loadAt, hv, Instr.sureAddr, run_loadVar_agg ha hs ((hw' b hg).trans hh) rfl (by rw [h3]; simp; omega)], .of (.agg h2)⟩
theorem VOG_slice_sl {t e : TypeId} {x : Operand} {lo hi : Option Operand} {n : Nat} {xs : List A} {l h : Nat} (ho : o.op = .slice t x lo hi none) (hx : okO x = true) (hlo : okOpt lo = true) (hhi : okOpt hi = true)
    (he : ev S x = .sl false n xs) (ht : elemT P t = some e) (hs : szT P e = some n) (h1 : bnd (lo.map (ev S)) 0 = some (l : Int)) (h2 : bnd (hi.map (ev S)) xs.length = some (h : Int)) (hlh : l ≤ h) (hhl : h ≤ xs.length)
    : VOG P o S (.sl false n ((xs.take h).drop l)) := by
  refine fun E G gs a w hinv => ?_
  have e1 := ev_rel hinv x hx
  rw [he] at e1
  obtain ⟨a1, a2⟩ := opt_rel hinv lo hlo
  obtain ⟨b1, b2⟩ := opt_rel hinv hi hhi
  have hu := elemT_inv ht
  rcases slf_inv e1 with ⟨⟨oa, hv⟩, rfl⟩ | ⟨b, k, cap, cur, et, fr, hv, hh, hg, hw, hrel, hcap, hm⟩
  · simp at hhl
    subst hhl
    have : l = 0 := by omega
    subst this
    have hb := slice_bounds (P := P) (isS := true) (lo.map a.eval) (hi.map a.eval) _ _ h1 h2 a1 a2 b1 b2 (by omega) (by simp) (cap := 0) (by simp)
    simp only [List.length_nil] at hb
    refine ⟨.slice oa 0 0, ?_, .of (by cases oa with | none => simpa using Rel.nils | some ad => simpa using Rel.roz)⟩
    intro w' hw'
    cases oa <;>
    simp [execOp, ho, hv, Instr.sliceAt, run_underlying hu, Instr.slice, hb, run_sizeOf hs]
  · have hb := slice_bounds (P := P) (isS := true) (lo.map a.eval) (hi.map a.eval) _ _ h1 h2 a1 a2 b1 b2 hlh hhl hcap
    have hlen : h - l = ((xs.take h).drop l).length := by simp; omega
    refine ⟨.slice (some ⟨b, if cap = l then k else k + l * n, none⟩) (h - l) (cap - l), ?_, .of (.ro hh hg (fun x hx => hw x (List.mem_of_mem_take (List.mem_of_mem_drop hx))) hlen rfl ?_ (by omega) (by omega))⟩
    · intro w' hw'
      simp [execOp, ho, hv, Instr.sliceAt, run_underlying hu, Instr.slice, hb, run_sizeOf hs]
      split <;> simp [add_none]
    · have h3 := (hrel.take0 (h * n)).drop0 (l * n)
      rw [flat_take h hw, flat_drop l (fun x hx => hw x (List.mem_of_mem_take hx))] at h3
      have hle : h * n ≤ xs.length * n := Nat.mul_le_mul_right _ hhl
      have e4 : List.drop (l * n) (List.take (h * n) (List.take (xs.length * n) (cur.toList.drop k))) = (cur.toList.drop (k + l * n)).take ((h - l) * n) := by
        rw [List.take_take, Nat.min_eq_left hle, List.drop_take, List.drop_drop, ← Nat.sub_mul]
      rw [e4] at h3
      split
      · rename_i hc
        have h0 : h - l = 0 := by omega
        rw [h0] at h3 ⊢
        simpa using h3
      · exact h3
theorem VOG_binOp {op : BinOp} {t t' : TypeId} {x y : Operand} {u v : Value} (ho : o.op = .binOp op t x y t') (hx : okO x = true) (hy : okO y = true)
    (h1 : ev S x = .sc u) (h2 : ev S y = .sc v) (h : (binS P op t u v).1) : VOG P o S (.sc (binS P op t u v).2) := by
  refine fun E G gs a w hi => ?_
  have e1 := ev_rel hi x hx
  have e2 := ev_rel hi y hy
  rw [h1] at e1
  rw [h2] at e2
  have v1 := (sc_inv e1).1
  have v2 := (sc_inv e2).1
  refine ⟨_, fun w' hw' => ?_, .of (.sc (binS_run h x y w).2)⟩
  have hr := (binS_run h x y w').1
  simp only [execOp, ho, v1, v2, Sem.run_bind] at hr ⊢
  rw [hr]
  rfl
theorem VOG_makeFunc {fn : FuncId} {first caps : Array Operand} (ho : o.op = .makeFunc (.func fn) first caps) (hf : first.toList = []) (hg : fn < 1000000) : VOG P o S (.clo fn (caps.toList.map (ev S))) := by
  refine fun E G gs a w hi => ⟨mkFn fn (caps.toList.map a.eval), fun w' hw' => ?_, .clo (evs_rel hi caps.toList)⟩
  have : first = #[] := by apply Array.toList_inj.1; simpa using hf
  subst this
  have e : (caps.toList.map a.eval).toArray = caps.map a.eval := by apply Array.toList_inj.1; simp
  unfold mkFn
  rw [if_pos hg, e]
  simp [execOp, ho, Instr.makeFunc]
theorem vBin_sc (hT : TabOK P T) {k : A → Prop} {op : BinOp} {t : TypeId} {x y : A} (h : vBin std T op t x y k) : ∃ u v, x = .sc u ∧ y = .sc v ∧ (binS P op t u v).1 ∧ k (.sc (binS P op t u v).2) := by
  unfold vBin at h
  split at h <;> try exact h.elim
  · rename_i ka a kb b
    have go : (binS P op t (.int ka a) (.int kb b)).1 → k (.sc (binS P op t (.int ka a) (.int kb b)).2) → ∃ u v, A.sc (.int ka a) = .sc u ∧ A.sc (.int kb b) = .sc v ∧ (binS P op t u v).1 ∧ k (.sc (binS P op t u v).2) := fun hc hk => ⟨_, _, rfl, rfl, hc, hk⟩
    unfold vBinI at h
    split at h
    · exact go h.1.h h.2
    · exact go h.1.h h.2
    · split at h <;> try exact h.elim
      rename_i hk
      subst hk
      split at h
      · exact go rfl h
      · exact go rfl h
      · exact go rfl h
      · exact go rfl h
      · exact go rfl h
      · exact go rfl h
      · exact go rfl h
      · exact go ⟨rfl, h.1.h⟩ h.2
      · exact go ⟨rfl, h.1.h⟩ h.2
      · cases op <;> first | exact go rfl h | simp_all
  · rename_i a b
    have go : (binS P op t (.string a) (.string b)).1 → k (.sc (binS P op t (.string a) (.string b)).2) → ∃ u v, A.sc (.string a) = .sc u ∧ A.sc (.string b) = .sc v ∧ (binS P op t u v).1 ∧ k (.sc (binS P op t u v).2) := fun hc hk => ⟨_, _, rfl, rfl, hc, hk⟩
    unfold vBinS at h
    split at h <;> try exact h.elim
    · exact go h.1.h h.2
    all_goals exact go trivial h
  · rename_i a b
    split at h <;> try exact h.elim
    · rename_i i hi
      split at h <;> try exact h.elim
      rename_i hb
      exact ⟨_, _, rfl, rfl, by rw [← (tiOf_ok (hT _ _ hi)).bool] at hb; exact hb, h⟩
    · rename_i i hi
      split at h <;> try exact h.elim
      rename_i hb
      exact ⟨_, _, rfl, rfl, by rw [← (tiOf_ok (hT _ _ hi)).bool] at hb; exact hb, h⟩
/-- What an operation reads that nobody writes. -/
def vGOp (Ω : Opq) (T : Nat → Option TI) (o : Oper) (S : State) (k : A → Prop) : Prop :=
  match o.op with
  | .move x => k (ev S x)
  | .assign x => k (ev S x)
  | .binOp op t x y _ => vBin Ω T op t (ev S x) (ev S y) k
  | .load t x => (match T t, ev S x with
    | some i, .rp xs => if i.ag then (if i.sz ≤ xs.length then k (.agg (xs.take i.sz)) else False) else (match xs[0]? with
      | some z => k z
      | none => False)
    | _, _ => False)
  | .slice t x lo hi none => (match ev S x, szEl T t with
    | .sl false n xs, some (_, ei) => if ei.sz = n then vLo Ω (lo.map (ev S)) 0 fun c1 l => vLo Ω (hi.map (ev S)) (Ω.len xs) fun c2 h => Ob (fun _ => c1 () ∧ c2 () ∧ l ≤ h ∧ h ≤ xs.length) ∧ k (.sl false n (Ω.seg l h xs)) else False
    | _, _ => False)
  | .makeFunc (.func g) first caps => (match first.toList with
    | [] => if g < 1000000 then k (.clo g (caps.toList.map (ev S))) else False
    | _ => False)
  | _ => False
theorem vGOp_ok (hT : TabOK P T) {k : A → Prop} (h : vGOp std T o S k) : ∃ z, VOG P o S z ∧ k z := by
  have ok : ∀ x : Option Operand, okOpt x = true := fun x => by cases x <;> rfl
  unfold vGOp at h
  split at h
  · rename_i x ho; exact ⟨_, VOG_move (.inl ho) rfl, h⟩
  · rename_i x ho; exact ⟨_, VOG_move (.inr ho) rfl, h⟩
  · rename_i ho
    obtain ⟨u, v, h1, h2, h3, h4⟩ := vBin_sc hT h
    exact ⟨_, VOG_binOp ho rfl rfl h1 h2 h3, h4⟩
  · rename_i t x ho
    split at h <;> try exact h.elim
    rename_i i xs hi hx
    have hti := tiOf_ok (hT _ _ hi)
    split at h
    · rename_i hag
      split at h <;> try exact h.elim
      rename_i hle
      exact ⟨_, VOG_load_rpAgg ho rfl hx (by rw [hti.ag, hag]) hti.sz hle, h⟩
    · rename_i hag
      split at h <;> try exact h.elim
      rename_i z hz
      exact ⟨_, VOG_load_rp ho rfl hx (by rw [hti.ag]; simpa using hag) hz, h⟩
  · rename_i t x lo hi ho
    split at h <;> try exact h.elim
    rename_i n xs e ei hx hs
    obtain ⟨he, hei⟩ := szEl_ok hT hs
    split at h <;> try exact h.elim
    rename_i hn
    obtain ⟨c1, l, h, g1⟩ := vLo_ok h
    obtain ⟨c2, u, h, g2⟩ := vLo_ok h
    obtain ⟨h0, h⟩ := h
    obtain ⟨h1, h2, h3, h4⟩ := h0.h
    exact ⟨_, VOG_slice_sl ho rfl (ok _) (ok _) hx he (by rw [hei.sz, hn]) (g1 h1) (g2 h2) h3 h4, h⟩
  · rename_i g first caps ho
    split at h <;> try exact h.elim
    rename_i hf
    split at h <;> try exact h.elim
    rename_i hg
    exact ⟨_, VOG_makeFunc ho hf hg, h⟩
  · exact h.elim
/-- The surroundings from the region's own beginning on. -/
def envAt (E : Env P) (G : Nat → Prop) (gs : Gh) (S : State) (w : World) : Env P :=
  ⟨w, G, fun b => ∃ r row, rowAt S.rows r = some row ∧ b ∈ gs.all r, E.gv⟩
theorem Inv.at {E : Env P} {G : Nat → Prop} {gs : Gh} {tmps : Array Value} {w : World} (hi : Inv E G gs S tmps w) : Inv (envAt E G gs S w) G gs S tmps w :=
  ⟨fun _ _ _ => rfl, rfl, rfl, rfl, Nat.le_refl _, hi.sz, fun _ h => h, fun _ h => .inl h, hi.glt, hi.row, hi.nod, fun r row hr b hb => ⟨(hi.own r row hr b hb).1, .inl ⟨r, row, hr, hb⟩⟩, hi.dis, hi.tmp⟩
theorem Inv.back {E : Env P} {G G' : Nat → Prop} {gs gs' : Gh} {S' : State} {tmps tmps' : Array Value} {w w' : World} (hi : Inv E G gs S tmps w) (hi' : Inv (envAt E G gs S w) G' gs' S' tmps' w') : Inv E G' gs' S' tmps' w' := by
  have hfin : ∀ b, (∃ r row, rowAt S.rows r = some row ∧ b ∈ gs.all r) → E.Fin b ∨ E.w0.heap.size ≤ b := fun b ⟨r, row, hr, hb⟩ => (hi.own r row hr b hb).2
  refine ⟨fun b h hf => ?_, hi'.os.trans hi.os, hi'.tape.trans hi.tape, hi'.output.trans hi.output, Nat.le_trans hi.size hi'.size, hi'.sz, fun b h => hi'.gsub b (hi.gsub b h), fun b h => ?_, hi'.glt, hi'.row, hi'.nod, fun r row hr b hb => ?_, hi'.dis, hi'.tmp⟩
  · rw [hi'.keep b (Nat.lt_of_lt_of_le h hi.size) fun hb => by
      rcases hfin b hb with h1 | h1
      · exact hf h1
      · omega]
    exact hi.keep b h hf
  · rcases hi'.gnew b h with h1 | ⟨r, row, hr, hb⟩ | h1
    · exact hi.gnew b h1
    · exact .inr (hi.own r row hr b hb).2
    · exact .inr (.inr (Nat.le_trans hi.size h1))
  · refine ⟨(hi'.own r row hr b hb).1, ?_⟩
    rcases (hi'.own r row hr b hb).2 with h1 | h1
    · exact hfin b h1
    · exact .inr (Nat.le_trans hi.size h1)
theorem Inv.agree {E : Env P} {G G' : Nat → Prop} {gs gs' : Gh} {S' : State} {tmps tmps' : Array Value} {w w' : World} (hi : Inv E G gs S tmps w) (hi' : Inv (envAt E G gs S w) G' gs' S' tmps' w') : Agree G w w' := fun b hb =>
  hi'.keep b (hi.glt b hb) fun ⟨r, row, hr, h⟩ => (hi.own r row hr b h).1 hb
end
end Go.Fw

/- Regions that draw their order, in which operations read rows that others leave alone for a while. Plain theorems, no condition. -/
set_option linter.unusedVariables false
set_option linter.unusedSimpArgs false
namespace Go.Fw

/-! The order of a region: what keeps a condition on the world, and what need not. -/
section
variable {P : Program} {ops : Array Oper} {Q : Exit → Act → World → Prop} {md : Region.Mode} {kp : Nat → Bool} {Sc : World → Prop}
end

/-! Rows that are lent: for a while nothing is told of them but that they stand. -/
mutual
/-- It leads into rows rs alone. -/
def onlyR (rs : List Nat) : A → Bool
  | .vw r _ _ => rs.contains r
  | .pt r _ _ => rs.contains r
  | .agg xs => onlyRL rs xs
  | .tup xs => onlyRL rs xs
  | .clo _ xs => onlyRL rs xs
  | .un => true
  | .sc _ => true
  | .nil => true
  | .sl _ _ _ => true
  | .rp _ => true
  | .bx _ => true
  | .mp r => rs.contains r
  | .rmp _ => true
  | .al _ x => onlyR rs x
def onlyRL (rs : List Nat) : List A → Bool
  | [] => true
  | x :: xs => onlyR rs x && onlyRL rs xs
end
theorem onlyRL_eq (rs : List Nat) : ∀ xs : List A, onlyRL rs xs = xs.all (onlyR rs)
  | [] => rfl
  | x :: xs => by rw [onlyRL, onlyRL_eq rs xs, List.all_cons]
theorem TRel.on {w w' : World} {G G' : Nat → Prop} {rows rows' : List (Option Row)} {gs gs' : Gh} {rs : List Nat} (hG : ∀ b, G b → G' b ∧ w'.heap[b]? = w.heap[b]?) (hR : ∀ r ∈ rs, RowLe w w' rows rows' gs gs' r)
    {x : A} {v : Value} {F : List Nat} (h : TRel w G rows gs x v F) (ho : onlyR rs x = true) (hF : ∀ b ∈ F, w'.heap[b]? = w.heap[b]?) : TRel w' G' rows' gs' x v F := by
  refine TRel.rec (motive_1 := fun x v F _ => onlyR rs x = true → (∀ b ∈ F, w'.heap[b]? = w.heap[b]?) → TRel w' G' rows' gs' x v F)
    (motive_2 := fun xs vs F _ => xs.all (onlyR rs) = true → (∀ b ∈ F, w'.heap[b]? = w.heap[b]?) → TRelL w' G' rows' gs' xs vs F) ?_ ?_ ?_ ?_ ?_ ?_ ?_ ?_ ?_ ?_ ?_ ?_ h ho hF
  · intros; exact .un
  · intro x v F h _ hF; exact .of (h.move_ hG hF)
  · intro r off len k cap b row cur e hr hob hl hh hs hm hc hk ho _
    obtain ⟨row', hr', hg, hn, hx, hb⟩ := (hR r (by simpa [onlyR] using ho)).le row hr
    obtain ⟨cur', e', hh', hs'⟩ := hb b cur e hob hh
    exact .vw hr' (by rw [hg]; exact hob) (by omega) hh' (by rw [hs', hs, hn]) hm (by omega) (by rw [hn]; exact hk)
  · intro r row hr hob hxs ho _
    obtain ⟨row', hr', hg, hn, hx, hb⟩ := (hR r (by simpa [onlyR] using ho)).le row hr
    exact .vwn hr' (by rw [(hR r (by simpa [onlyR] using ho)).nn row hr (by rw [hob])]; exact hob) (by rw [hxs] at hx; exact List.eq_nil_of_length_eq_zero hx)
  · intro r j o k b row hr hob hk ho _
    obtain ⟨row', hr', hg, hn, hx, hb⟩ := (hR r (by simpa [onlyR] using ho)).le row hr
    exact .pt hr' (by rw [hg]; exact hob) (by rw [hn]; exact hk)
  · intro xs cs F hl ih ho hF; exact .agg (ih (by rw [← onlyRL_eq]; simpa [onlyR] using ho) hF)
  · intro xs cs F hl ih ho hF; exact .tup (ih (by rw [← onlyRL_eq]; simpa [onlyR] using ho) hF)
  · intro g caps cs F hl ih ho hF; exact .clo (ih (by rw [← onlyRL_eq]; simpa [onlyR] using ho) hF)
  · intro r b row hr hob ho _
    obtain ⟨row', hr', hg, hn, hx, hb⟩ := (hR r (by simpa [onlyR] using ho)).le row hr
    exact .mp hr' (by rw [(hR r (by simpa [onlyR] using ho)).nn row hr (by rw [hob])]; exact hob)
  · intro x v F h ih ho hF; exact .al (ih (by simpa [onlyR] using ho) hF)
  · intro _ _; exact .nil
  · intro x v F xs vs Fs h hl ih ih' ho hF
    rw [List.all_cons, Bool.and_eq_true] at ho
    exact .cons (ih ho.1 fun b hb => hF b (by simp [hb])) (ih' ho.2 fun b hb => hF b (by simp [hb]))
theorem TRelL.on {w w' : World} {G G' : Nat → Prop} {rows rows' : List (Option Row)} {gs gs' : Gh} {rs : List Nat} (hG : ∀ b, G b → G' b ∧ w'.heap[b]? = w.heap[b]?) (hR : ∀ r ∈ rs, RowLe w w' rows rows' gs gs' r) :
    ∀ {xs : List A} {vs : List Value} {F : List Nat}, TRelL w G rows gs xs vs F → xs.all (onlyR rs) = true → (∀ b ∈ F, w'.heap[b]? = w.heap[b]?) → TRelL w' G' rows' gs' xs vs F
  | _, _, _, .nil, _, _ => .nil
  | _, _, _, .cons h hl, ho, hF => by
    rw [List.all_cons, Bool.and_eq_true] at ho
    exact .cons (h.on hG hR ho.1 fun b hb => hF b (by simp [hb])) (hl.on hG hR ho.2 fun b hb => hF b (by simp [hb]))
def rowOnly (rs : List Nat) (row : Row) : Bool := !row.lk || (flat row.xs).all (onlyR rs)
theorem RowRel.on {w w' : World} {G G' : Nat → Prop} {rows rows' : List (Option Row)} {gs gs' : Gh} {rs : List Nat} (hG : ∀ b, G b → G' b ∧ w'.heap[b]? = w.heap[b]?) (hR : ∀ r ∈ rs, RowLe w w' rows rows' gs gs' r)
    {row : Row} {ob : Option Nat} {F : List Nat} (h : RowRel w G rows gs row ob F) (ho : rowOnly rs row = true) (hF : ∀ b ∈ ob.toList ++ F, w'.heap[b]? = w.heap[b]?) : RowRel w' G' rows' gs' row ob F := by
  cases ob with
  | none => exact h.imp id fun h => h.step hG hF
  | some b =>
    obtain ⟨cur, e, cap, h1, h2, h3, h4, h5, h6, h7⟩ := h.ex
    have hF' : ∀ c ∈ F, w'.heap[c]? = w.heap[c]? := fun c hc => hF c (by simp [hc])
    refine ⟨cur, e, cap, by rw [hF b (by simp)]; exact h1, h2, h3, h4, h5, h6, ?_⟩
    unfold CellsRel at h7 ⊢
    split
    · rename_i hl
      rw [if_pos hl] at h7
      exact h7.on hG hR (by simpa [rowOnly, hl] using ho) hF'
    · rename_i hl
      rw [if_neg hl] at h7
      exact h7.move_ hG hF'

section
variable {P : Program} {T : Nat → Option TI} {E : Env P} {G : Nat → Prop} {gs : Gh} {S : State} {a : Act} {w : World} {tmps : Array Value}
def AgreeR (G : Nat → Prop) (gs : Gh) (rs : List Nat) (w w' : World) : Prop := ∀ b, (G b ∨ ∃ r ∈ rs, b ∈ gs.all r) → w'.heap[b]? = w.heap[b]?
end
end Go.Fw

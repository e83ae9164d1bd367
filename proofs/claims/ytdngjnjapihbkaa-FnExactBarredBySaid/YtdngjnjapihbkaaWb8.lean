/- Walks: faults of catalogs and sets. Plain theorems. -/
import Derived.Test.YtdngjnjapihbkaaWb7
set_option linter.unusedVariables false
set_option linter.unusedSimpArgs false
namespace Go.Proofs.Ytdngjnjapihbkaa
open Go Go.Fw
set_option maxRecDepth 100000
def isP (n : List UInt8) (v : Ver) (p : Pck) : Bool := p.n == n && decide (p.v = v)
def findF (c : List Pck) (n : List UInt8) (v : Ver) : Int := idx (isP n v) c
def catFrom (all : List Pck) : Nat → List Pck → Int
  | _, [] => 0
  | i, x :: xs => if packF x ≠ 0 then packF x else if 0 ≤ findF (all.take i) x.n x.v then 6 else catFrom all (i + 1) xs
theorem catFrom_at {cs : List Pck} {i : Nat} {c : Pck} (h : cs[i]? = some c) : catFrom cs i (cs.drop i) = if packF c ≠ 0 then packF c else if 0 ≤ findF (cs.take i) c.n c.v then 6 else catFrom cs (i + 1) (cs.drop (i + 1)) := by
  obtain ⟨h1, h2⟩ := List.getElem?_eq_some_iff.1 h
  conv => lhs; rw [List.drop_eq_getElem_cons h1, h2, catFrom]
def catF (c : List Pck) : Int := if 24 < c.length then 2 else catFrom c 0 c
def riseAll (s : List Int) : Nat → List Int → Bool
  | _, [] => true
  | i, x :: xs => (i == 0 || decide (s.getD (i - 1) 0 < x)) && riseAll s (i + 1) xs
def setOk (m : Int) (s : List Int) : Nat → List Int → Bool
  | _, [] => true
  | i, x :: xs => (inB x 0 m && (i == 0 || decide (s.getD (i - 1) 0 < x))) && setOk m s (i + 1) xs
theorem setOk_eq (m : Int) (s : List Int) : ∀ (l : List Int) (i : Nat), setOk m s i l = (riseAll s i l && l.all fun x => inB x 0 m)
  | [], i => rfl
  | x :: xs, i => by
    rw [setOk, riseAll, List.all_cons, setOk_eq m s xs (i + 1)]
    generalize inB x 0 m = a
    generalize (i == 0 || decide (s.getD (i - 1) 0 < x)) = b
    generalize riseAll s (i + 1) xs = c
    generalize (xs.all fun x => inB x 0 m) = d
    revert a b c d
    decide
theorem setOk_at (m : Int) {s : List Int} {i : Nat} {c : Int} (h : s[i]? = some c) : setOk m s i (s.drop i) = ((inB c 0 m && (i == 0 || decide (s.getD (i - 1) 0 < c))) && setOk m s (i + 1) (s.drop (i + 1))) := by
  obtain ⟨h1, h2⟩ := List.getElem?_eq_some_iff.1 h
  conv => lhs; rw [List.drop_eq_getElem_cons h1, h2, setOk]
theorem riseAll_at {s : List Int} {i : Nat} {c : Int} (h : s[i]? = some c) : riseAll s i (s.drop i) = ((i == 0 || decide (s.getD (i - 1) 0 < c)) && riseAll s (i + 1) (s.drop (i + 1))) := by
  obtain ⟨h1, h2⟩ := List.getElem?_eq_some_iff.1 h
  conv => lhs; rw [List.drop_eq_getElem_cons h1, h2, riseAll]
theorem rise0 (s : List Int) : riseAll s 0 s = riseAll s 1 (s.drop 1) := by
  cases s with
  | nil => rfl
  | cons x xs => simp [riseAll]
theorem subI {Ω : Opq} (hΩ : Ω = std) {i : Nat} (h0 : 0 < i) (h : i ≤ 4611686018427387904) : 0 ≤ Ω.ar .sub .i64 (Ω.int i) 1 ∧ (Ω.ar .sub .i64 (Ω.int i) 1).toNat = i - 1 := by
  subst hΩ
  show 0 ≤ IntKind.i64.wrap ((i : Int) - 1) ∧ (IntKind.i64.wrap ((i : Int) - 1)).toNat = i - 1
  rw [wrap64 (by omega) (by omega)]
  omega
def setF (c : List Pck) (s : List Int) : Int := if catF c ≠ 0 then catF c else if setOk ((c.length : Int) - 1) s 0 s then 0 else 1
def encP (c : List Pck) : A := .sl false 8 (c.map (Pck.enc false))
theorem c_find1 (o : Pck) (n : List UInt8) (v : Ver) : PCtr PP n_impl_find_1 [o.enc false, .rp [str n], .rp v.cells] (boo (isP n v o)) := by
  obtain ⟨Ω, hΩ⟩ : ∃ Ω, Ω = std := ⟨_, rfl⟩
  obtain ⟨r, hr⟩ : ∃ r, r = isP n v o := ⟨_, rfl⟩
  rw [← hr]
  obtain ⟨ps, ds, bs, hen, hps, hds, hbs⟩ := enc_raw o
  rw [hen]
  unfold isP at hr
  obtain ⟨D, hD⟩ : ∃ x, decide (o.v = v) = x := ⟨_, rfl⟩
  rw [hD] at hr
  have htab := tab
  have hmo := hmo
  have hve := verEq
  refine PCtr.walk tab hΩ fn_impl_find_1 rfl ?_
  generalize PP = P at *
  cbv
  refine br (fun g => ?_) (fun g => ?_) <;> cbv
  · refine eqX_eql hve o.v v ?_
    rw [hD]
    cbv
    exact .of (congrArg boo (by rw [hr, show (o.n == n) = true by subst hΩ; exact g, Bool.true_and]; subst hΩ; rfl))
  · exact .of (congrArg boo (by rw [hr, show (o.n == n) = false by subst hΩ; exact g, Bool.false_and]))
theorem c_find (l : List Pck) (n : List UInt8) (v : Ver) (hl : l.length ≤ 1048576) : PCtr PP n_impl_find [encP l, str n, v.enc] (i64 (findF l n v)) := by
  obtain ⟨Ω, hΩ⟩ : ∃ Ω, Ω = std := ⟨_, rfl⟩
  obtain ⟨r, hr⟩ : ∃ r, r = findF l n v := ⟨_, rfl⟩
  rw [← hr]
  have hc := c_IndexFuncP l (by omega) n_impl_find_1 [.rp [str n], .rp v.cells] (isP n v) ⟨fun _ _ => rfl, rfl, fun _ => rfl, fun o _ => c_find1 o n v⟩
  unfold encP
  rw [show idx (isP n v) l = r from hr.symm] at hc
  generalize l.map (Pck.enc false) = xs at *
  have htab := tab
  have hmo := hmo
  have hve := verEq
  refine PCtr.walk tab hΩ fn_impl_find rfl ?_
  generalize PP = P at *
  cbv
  refine call_pure hΩ 5 hc (ro_clo2 rfl rfl) (fits _) rfl rfl ?_
  cbv
  exact .same
theorem c_l2Find (l : List Pck) (n : List UInt8) (v : Ver) (hl : l.length ≤ 1048576) : PCtr PP n_spec_l2Find [encP l, str n, v.enc] (i64 (findF l n v)) := by
  obtain ⟨Ω, hΩ⟩ : ∃ Ω, Ω = std := ⟨_, rfl⟩
  obtain ⟨r, hr⟩ : ∃ r, r = findF l n v := ⟨_, rfl⟩
  rw [← hr]
  obtain ⟨xs, hxs⟩ : ∃ xs, xs = l.map (Pck.enc false) := ⟨_, rfl⟩
  have hlen : xs.length = l.length := by rw [hxs, List.length_map]
  unfold encP
  rw [← hxs]
  have hcv := c_CompareVersions
  have htab := tab
  have hmo := hmo
  have hve := verEq
  refine PCtr.walk tab hΩ fn_spec_l2Find rfl ?_
  generalize PP = P at *
  cbv
  refine loopX htab hΩ (fun i : Nat => ⟨[(0, .sl false 8 xs), (1, .sc (.string (mkS n))), (5, .pt 0 0 0), (7, .sc (.int .i64 (Ω.int i)))], 32, [some ⟨3, [v.enc], true⟩]⟩) (fun i => i ≤ l.length ∧ r = idxFrom (isP n v) i (l.drop i)) (fun i => l.length - i) 0
    ⟨Nat.zero_le _, hr⟩ (Sbs.mk rfl rfl ⟨rfl, rfl, rfl, zeroI hΩ, trivial⟩) ?_
  rintro i ⟨hi, he⟩
  cbv
  refine br (fun h => ?_) (fun h => ?_) <;> cbv
  · replace h := ltI hΩ h
    obtain ⟨c, hcc⟩ := at_of (cs := l) (by omega : i < l.length)
    rw [idxFrom_at _ hcc] at he
    refine ⟨VC_drawn htab hΩ hmo (by kernel_rfl) ?_⟩
    cbv
    obtain ⟨ps, ds, bs, hen, hps, hds, hbs⟩ := enc_raw c
    refine ⟨⟨nnI hΩ⟩, _, (rdI hΩ hxs hcc).trans (congrArg some hen), ?_⟩
    cbv
    refine br (fun g => ?_) (fun g => ?_) <;> cbv
    · have g : (c.n == n) = true := by subst hΩ; exact g
      refine ⟨⟨nnI hΩ⟩, _, (rdI hΩ hxs hcc).trans (congrArg some hen), ?_⟩
      cbv
      have hcv := hcv c.v v
      have hp : isP n v c = decide (cmpV c.v v = 0) := by rw [isP, g, Bool.true_and]; congr 1; rw [cmpV_zero]
      generalize cmpV c.v v = k at *
      rw [hp] at he
      refine QCall_pure (k := 3) hcv rfl (fits _) rfl ?_
      cbv
      refine br (fun g2 => ?_) (fun g2 => ?_) <;> cbv
      · exact .of (congrArg i64 (by rw [he, if_pos (by subst hΩ; have := eq_t g2; simp [this])]; subst hΩ; rfl))
      · rw [if_neg (by subst hΩ; have := eq_f g2; simp [this])] at he
        exact ⟨i + 1, ⟨by omega, he⟩, by omega, Sbs.mk rfl rfl ⟨rfl, rfl, rfl, incI hΩ (by omega), trivial⟩⟩
    · have g : (c.n == n) = false := by subst hΩ; exact g
      rw [if_neg (by rw [isP, g]; simp)] at he
      exact ⟨i + 1, ⟨by omega, he⟩, by omega, Sbs.mk rfl rfl ⟨rfl, rfl, rfl, incI hΩ (by omega), trivial⟩⟩
  · replace h := geI hΩ h
    exact .of (congrArg i64 (by rw [he, List.drop_of_length_le (by omega)]; rfl))
theorem c_implCatalogFault (l : List Pck) (hl : l.length ≤ 1048576) (hs : ∀ o ∈ l, o.Small) : PCtr PP n_impl_CatalogFault [encP l] (i64 (catF l)) := by
  obtain ⟨Ω, hΩ⟩ : ∃ Ω, Ω = std := ⟨_, rfl⟩
  obtain ⟨r, hr⟩ : ∃ r, r = catF l := ⟨_, rfl⟩
  rw [← hr]
  have hpk : ∀ o ∈ l, PCtr PP n_impl_PackFault [o.enc false] (i64 (packF o)) := fun o ho => c_implPackFault o (hs o ho)
  have hfi := fun (i : Nat) n v => c_find (l.take i) n v (by simp; omega)
  unfold encP at hfi
  obtain ⟨xs, hxs⟩ : ∃ xs, xs = l.map (Pck.enc false) := ⟨_, rfl⟩
  have hlen : xs.length = l.length := by rw [hxs, List.length_map]
  unfold encP
  rw [← hxs]
  rw [show (∀ (i : Nat) n v, PCtr PP n_impl_find [.sl false 8 ((l.take i).map (Pck.enc false)), str n, Ver.enc v] (i64 (findF (l.take i) n v))) = (∀ (i : Nat) n v, PCtr PP n_impl_find [.sl false 8 (xs.take i), str n, Ver.enc v] (i64 (findF (l.take i) n v))) by simp only [List.map_take, ← hxs]] at hfi
  unfold catF at hr
  have htab := tab
  have hmo := hmo
  have hve := verEq
  refine PCtr.walk tab hΩ fn_impl_CatalogFault rfl ?_
  generalize PP = P at *
  cbv
  refine br (fun g => ?_) (fun g => ?_) <;> cbv
  · exact .of (congrArg i64 (by rw [hr, if_pos (by subst hΩ; have g : (24 : Int) < xs.length := gt_t g; omega)]))
  rw [if_neg (by subst hΩ; have g : (xs.length : Int) ≤ 24 := gt_f g; omega)] at hr
  refine loopX htab hΩ (fun i : Nat => ⟨[(0, .sl false 8 xs), (9, .sl false 8 xs), (10, .sc (.int .i64 (Ω.int (Ω.len xs)))), (11, .sc (.int .i64 (Ω.int i)))], 31, []⟩) (fun i => i ≤ l.length ∧ r = catFrom l i (l.drop i)) (fun i => l.length - i) 0
    ⟨Nat.zero_le _, hr⟩ (Sbs.mk rfl rfl ⟨rfl, rfl, rfl, zeroI hΩ, trivial⟩) ?_
  rintro i ⟨hi, he⟩
  cbv
  refine br (fun h => ?_) (fun h => ?_) <;> cbv
  · replace h := ltI hΩ h
    obtain ⟨c, hcc⟩ := at_of (cs := l) (by omega : i < l.length)
    rw [catFrom_at hcc] at he
    obtain ⟨ps, ds, bs, hen, hps, hds, hbs⟩ := enc_raw c
    refine ⟨⟨nnI hΩ⟩, _, (rdI hΩ hxs hcc).trans (congrArg some hen), ?_⟩
    cbv
    have hp := hpk c (List.mem_of_getElem? hcc)
    rw [hen] at hp
    generalize packF c = kc at *
    refine call_pure hΩ 3 hp rfl (fits _) rfl rfl ?_
    cbv
    refine br (fun g => ?_) (fun g => ?_) <;> cbv
    · exact .of (congrArg i64 (by rw [he, if_pos (neI_t hΩ g)]))
    rw [if_neg (by rw [neI_f hΩ g]; simp)] at he
    refine ⟨VC_drawn htab hΩ hmo (by kernel_rfl) ?_⟩
    cbv
    refine ⟨⟨trivial, nnI hΩ, Nat.zero_le _, by subst hΩ; show i ≤ xs.length; omega⟩, ?_⟩
    have hf : PCtr P 81 [.sl false 8 (Ω.seg 0 (Ω.nat (Ω.int i)) xs), str c.n, c.v.enc] (i64 (findF (l.take i) c.n c.v)) := by subst hΩ; exact hfi i c.n c.v
    generalize findF (l.take i) c.n c.v = kf at *
    refine QCall_pure (k := 3) hf rfl (fits _) rfl ?_
    cbv
    refine br (fun g2 => ?_) (fun g2 => ?_) <;> cbv
    · exact .of (congrArg i64 (by rw [he, if_pos (geI_t hΩ g2)]))
    · rw [if_neg (Int.not_le.2 (geI_f hΩ g2))] at he
      exact ⟨i + 1, ⟨by omega, he⟩, by omega, Sbs.mkL (rows := []) rfl rfl rfl ⟨rfl, rfl, rfl, incI hΩ (by omega), trivial⟩⟩
  · replace h := geI hΩ h
    exact .of (congrArg i64 (by rw [he, List.drop_of_length_le (by omega)]; rfl))
theorem c_specCatalogFault (l : List Pck) (hl : l.length ≤ 1048576) (hs : ∀ o ∈ l, o.Small) : PCtr PP n_spec_CatalogFault [encP l] (i64 (catF l)) := by
  obtain ⟨Ω, hΩ⟩ : ∃ Ω, Ω = std := ⟨_, rfl⟩
  obtain ⟨r, hr⟩ : ∃ r, r = catF l := ⟨_, rfl⟩
  rw [← hr]
  have hpk : ∀ o ∈ l, PCtr PP n_spec_PackFault [o.enc false] (i64 (packF o)) := fun o ho => c_specPackFault o (hs o ho)
  have hfi := fun (i : Nat) n v => c_l2Find (l.take i) n v (by simp; omega)
  unfold encP at hfi
  obtain ⟨xs, hxs⟩ : ∃ xs, xs = l.map (Pck.enc false) := ⟨_, rfl⟩
  have hlen : xs.length = l.length := by rw [hxs, List.length_map]
  unfold encP
  rw [← hxs]
  rw [show (∀ (i : Nat) n v, PCtr PP n_spec_l2Find [.sl false 8 ((l.take i).map (Pck.enc false)), str n, Ver.enc v] (i64 (findF (l.take i) n v))) = (∀ (i : Nat) n v, PCtr PP n_spec_l2Find [.sl false 8 (xs.take i), str n, Ver.enc v] (i64 (findF (l.take i) n v))) by simp only [List.map_take, ← hxs]] at hfi
  unfold catF at hr
  have htab := tab
  have hmo := hmo
  have hve := verEq
  refine PCtr.walk tab hΩ fn_spec_CatalogFault rfl ?_
  generalize PP = P at *
  cbv
  refine br (fun g => ?_) (fun g => ?_) <;> cbv
  · exact .of (congrArg i64 (by rw [hr, if_pos (by subst hΩ; have g : (24 : Int) < xs.length := gt_t g; omega)]))
  rw [if_neg (by subst hΩ; have g : (xs.length : Int) ≤ 24 := gt_f g; omega)] at hr
  refine loopX htab hΩ (fun i : Nat => ⟨[(0, .sl false 8 xs), (3, .sc (.int .i64 (Ω.int i)))], 37, []⟩) (fun i => i ≤ l.length ∧ r = catFrom l i (l.drop i)) (fun i => l.length - i) 0
    ⟨Nat.zero_le _, hr⟩ (Sbs.mk rfl rfl ⟨rfl, zeroI hΩ, trivial⟩) ?_
  rintro i ⟨hi, he⟩
  cbv
  refine br (fun h => ?_) (fun h => ?_) <;> cbv
  · replace h := ltI hΩ h
    obtain ⟨c, hcc⟩ := at_of (cs := l) (by omega : i < l.length)
    rw [catFrom_at hcc] at he
    obtain ⟨ps, ds, bs, hen, hps, hds, hbs⟩ := enc_raw c
    refine ⟨⟨nnI hΩ⟩, _, (rdI hΩ hxs hcc).trans (congrArg some hen), ?_⟩
    cbv
    have hp := hpk c (List.mem_of_getElem? hcc)
    rw [hen] at hp
    generalize packF c = kc at *
    refine call_pure hΩ 3 hp rfl (fits _) rfl rfl ?_
    cbv
    refine br (fun g => ?_) (fun g => ?_) <;> cbv
    · exact .of (congrArg i64 (by rw [he, if_pos (neI_t hΩ g)]))
    rw [if_neg (by rw [neI_f hΩ g]; simp)] at he
    refine ⟨VC_drawn htab hΩ hmo (by kernel_rfl) ?_⟩
    cbv
    refine ⟨⟨trivial, nnI hΩ, Nat.zero_le _, by subst hΩ; show i ≤ xs.length; omega⟩, ?_⟩
    have hf : PCtr P 86 [.sl false 8 (Ω.seg 0 (Ω.nat (Ω.int i)) xs), str c.n, c.v.enc] (i64 (findF (l.take i) c.n c.v)) := by subst hΩ; exact hfi i c.n c.v
    generalize findF (l.take i) c.n c.v = kf at *
    refine ⟨⟨nnI hΩ⟩, _, (rdI hΩ hxs hcc).trans (congrArg some hen), ?_⟩
    cbv
    refine ⟨⟨nnI hΩ⟩, _, (rdI hΩ hxs hcc).trans (congrArg some hen), ?_⟩
    cbv
    refine QCall_pure (k := 3) hf rfl (fits _) rfl ?_
    cbv
    refine br (fun g2 => ?_) (fun g2 => ?_) <;> cbv
    · exact .of (congrArg i64 (by rw [he, if_pos (geI_t hΩ g2)]))
    · rw [if_neg (Int.not_le.2 (geI_f hΩ g2))] at he
      exact ⟨i + 1, ⟨by omega, he⟩, by omega, Sbs.mk rfl rfl ⟨rfl, incI hΩ (by omega), trivial⟩⟩
  · replace h := geI hΩ h
    exact .of (congrArg i64 (by rw [he, List.drop_of_length_le (by omega)]; rfl))
theorem c_arePlaces1 (k : Int) (l : List Pck) (hl : l.length ≤ 1048576) : PCtr PP n_impl_arePlaces_1 [i64 k, .rp [encP l]] (boo (!inB k 0 ((l.length : Int) - 1))) := by
  obtain ⟨Ω, hΩ⟩ : ∃ Ω, Ω = std := ⟨_, rfl⟩
  obtain ⟨r, hr⟩ : ∃ r, r = !inB k 0 ((l.length : Int) - 1) := ⟨_, rfl⟩
  rw [← hr]
  obtain ⟨xs, hxs⟩ : ∃ xs, xs = l.map (Pck.enc false) := ⟨_, rfl⟩
  have hlen : xs.length = l.length := by rw [hxs, List.length_map]
  unfold encP
  rw [← hxs]
  have hw : PCtr PP n_impl_within [i64 k, i64 0, i64 (Ω.ar .sub .i64 (Ω.int (Ω.len xs)) 1)] (boo (inB k 0 ((l.length : Int) - 1))) := by
    have := c_within k 0 ((l.length : Int) - 1)
    rw [show ((l.length : Int) - 1) = IntKind.i64.wrap ((xs.length : Int) - 1) by rw [wrap64 (by omega) (by omega), hlen]] at this ⊢
    subst hΩ
    exact this
  generalize inB k 0 ((l.length : Int) - 1) = b at *
  have htab := tab
  have hmo := hmo
  have hve := verEq
  refine PCtr.walk tab hΩ fn_impl_arePlaces_1 rfl ?_
  generalize PP = P at *
  cbv
  refine call_pure hΩ 3 hw rfl (fits _) rfl rfl ?_
  cbv
  exact .of (congrArg boo (by rw [hr]; subst hΩ; rfl))
theorem c_arePlaces (l : List Pck) (s : List Int) (hl : l.length ≤ 1048576) (hs : s.length ≤ 1048576) : PCtr PP n_impl_arePlaces [encP l, .sl false 1 (s.map i64)] (boo (s.all fun x => inB x 0 ((l.length : Int) - 1))) := by
  obtain ⟨Ω, hΩ⟩ : ∃ Ω, Ω = std := ⟨_, rfl⟩
  obtain ⟨r, hr⟩ : ∃ r, r = s.all fun x => inB x 0 ((l.length : Int) - 1) := ⟨_, rfl⟩
  rw [← hr]
  have hc := c_ContainsFuncI s (by omega) n_impl_arePlaces_1 [.rp [encP l]] (fun x => !inB x 0 ((l.length : Int) - 1)) ⟨fun _ _ => rfl, rfl, fun _ => rfl, fun k _ => c_arePlaces1 k l hl⟩
  rw [show (s.all fun x => inB x 0 ((l.length : Int) - 1)) = !(s.any fun x => !inB x 0 ((l.length : Int) - 1)) by rw [List.any_eq_not_all_not]; simp] at hr
  generalize (s.any fun x => !inB x 0 ((l.length : Int) - 1)) = b at *
  unfold encP at *
  generalize l.map (Pck.enc false) = xs at *
  generalize s.map i64 = ys at *
  have htab := tab
  have hmo := hmo
  have hve := verEq
  refine PCtr.walk tab hΩ fn_impl_arePlaces rfl ?_
  generalize PP = P at *
  cbv
  refine call_pure hΩ 5 hc (ro_clo2 rfl rfl) (fits _) rfl rfl ?_
  cbv
  exact .of (congrArg boo (by rw [hr]; subst hΩ; rfl))
theorem c_l3Set (l : List Pck) (s : List Int) (hl : l.length ≤ 1048576) (hs : s.length ≤ 1048576) : PCtr PP n_spec_l3Set [encP l, .sl false 1 (s.map i64)] (boo (setOk ((l.length : Int) - 1) s 0 s)) := by
  obtain ⟨Ω, hΩ⟩ : ∃ Ω, Ω = std := ⟨_, rfl⟩
  obtain ⟨r, hr⟩ : ∃ r, r = setOk ((l.length : Int) - 1) s 0 s := ⟨_, rfl⟩
  rw [← hr]
  obtain ⟨xs, hxs⟩ : ∃ xs, xs = s.map i64 := ⟨_, rfl⟩
  have hlen : xs.length = s.length := by rw [hxs, List.length_map]
  obtain ⟨cs, hcs⟩ : ∃ cs, cs = l.map (Pck.enc false) := ⟨_, rfl⟩
  have hcl : cs.length = l.length := by rw [hcs, List.length_map]
  unfold encP
  rw [← hcs]
  rw [← hxs]
  have hLm : Ω.ar .sub .i64 (Ω.int (Ω.len cs)) 1 = (l.length : Int) - 1 := by subst hΩ; show IntKind.i64.wrap ((cs.length : Int) - 1) = _; rw [hcl]; exact wrap64 (by omega) (by omega)
  have hw : ∀ k, PCtr PP n_spec_l1In [i64 k, i64 0, i64 (Ω.ar .sub .i64 (Ω.int (Ω.len cs)) 1)] (boo (inB k 0 ((l.length : Int) - 1))) := fun k => by rw [hLm]; exact c_l1In k 0 _
  generalize ((l.length : Int) - 1) = m at *
  have htab := tab
  have hmo := hmo
  have hve := verEq
  refine PCtr.walk tab hΩ fn_spec_l3Set rfl ?_
  generalize PP = P at *
  cbv
  refine loopX htab hΩ (fun i : Nat => ⟨[(0, .sl false 8 cs), (1, .sl false 1 xs), (5, .sc (.int .i64 (Ω.int i)))], 37, []⟩) (fun i => i ≤ s.length ∧ r = setOk m s i (s.drop i)) (fun i => s.length - i) 0
    ⟨Nat.zero_le _, hr⟩ (Sbs.mk rfl rfl ⟨rfl, rfl, zeroI hΩ, trivial⟩) ?_
  rintro i ⟨hi, he⟩
  cbv
  refine br (fun h => ?_) (fun h => ?_) <;> cbv
  · replace h := ltI hΩ h
    obtain ⟨c, hcc⟩ := at_of (cs := s) (by omega : i < s.length)
    rw [setOk_at _ hcc] at he
    refine ⟨VC_drawn htab hΩ hmo (by kernel_rfl) ?_⟩
    cbv
    refine ⟨⟨nnI hΩ⟩, _, rdI hΩ hxs hcc, ?_⟩
    cbv
    have hw1 := hw c
    generalize inB c 0 m = B at *
    refine QCall_pure (k := 3) hw1 rfl (fits _) rfl ?_
    cbv
    refine br (fun g => ?_) (fun g => ?_) <;> cbv
    · exact .of (congrArg boo (by rw [he, notT' hΩ g]; rfl))
    rw [notF' hΩ g, Bool.true_and] at he
    refine br (fun g2 => ?_) (fun g2 => ?_) <;> cbv
    · have hi0 : 0 < i := by subst hΩ; have g2 : (0 : Int) < i := gt_t g2; omega
      have hs1 := subI hΩ hi0 (by omega)
      obtain ⟨d, hd⟩ := at_of (cs := s) (by omega : i - 1 < s.length)
      rw [show (i == 0) = false by simp; omega, Bool.false_or, List.getD_eq_getElem?_getD, hd] at he
      refine ⟨⟨nnI hΩ⟩, _, rdI hΩ hxs hcc, ?_⟩
      cbv
      refine ⟨⟨hs1.1⟩, i64 d, by rw [hs1.2, hxs, List.getElem?_map, hd]; rfl, ?_⟩
      cbv
      refine br (fun g3 => ?_) (fun g3 => ?_) <;> cbv
      · exact .of (congrArg boo (by rw [he]; subst hΩ; have g3 : c ≤ d := le_t g3; rw [show decide ((some d).getD 0 < c) = false by simp; omega]; rfl))
      · rw [show decide ((some d).getD 0 < c) = true by subst hΩ; have g3 : d < c := le_f g3; simpa using g3, Bool.true_and] at he
        exact ⟨i + 1, ⟨by omega, he⟩, by omega, Sbs.mk rfl rfl ⟨rfl, rfl, incI hΩ (by omega), trivial⟩⟩
    · have hi0 : i = 0 := by subst hΩ; have g2 : (i : Int) ≤ 0 := gt_f g2; omega
      rw [show (i == 0) = true by simpa using hi0, Bool.true_or, Bool.true_and] at he
      refine br (fun g4 => ?_) (fun g4 => ?_)
      · subst hΩ; cases (show false = true from g4)
      cbv
      exact ⟨i + 1, ⟨by omega, he⟩, by omega, Sbs.mk rfl rfl ⟨rfl, rfl, incI hΩ (by omega), trivial⟩⟩
  · replace h := geI hΩ h
    exact .of (congrArg boo (by rw [he, List.drop_of_length_le (by omega)]; rfl))
theorem c_implSetFault (l : List Pck) (s : List Int) (hl : l.length ≤ 1048576) (ho : ∀ o ∈ l, o.Small) (hs : s.length ≤ 1048576) : PCtr PP n_impl_SetFault [encP l, .sl false 1 (s.map i64)] (i64 (setF l s)) := by
  obtain ⟨Ω, hΩ⟩ : ∃ Ω, Ω = std := ⟨_, rfl⟩
  obtain ⟨r, hr⟩ : ∃ r, r = setF l s := ⟨_, rfl⟩
  rw [← hr]
  have hc := c_implCatalogFault l hl ho
  have hp := c_arePlaces l s hl hs
  unfold setF at hr
  generalize catF l = k at *
  obtain ⟨xs, hxs⟩ : ∃ xs, xs = s.map i64 := ⟨_, rfl⟩
  have hlen : xs.length = s.length := by rw [hxs, List.length_map]
  obtain ⟨cs, hcs⟩ : ∃ cs, cs = l.map (Pck.enc false) := ⟨_, rfl⟩
  have hcl : cs.length = l.length := by rw [hcs, List.length_map]
  unfold encP at hc hp ⊢
  rw [← hcs] at hc hp ⊢
  rw [← hxs] at hp ⊢
  have htab := tab
  have hmo := hmo
  have hve := verEq
  refine PCtr.walk tab hΩ fn_impl_SetFault rfl ?_
  generalize PP = P at *
  cbv
  refine call_pure hΩ 3 hc rfl (fits _) rfl rfl ?_
  cbv
  refine br (fun g => ?_) (fun g => ?_) <;> cbv
  · exact .of (congrArg i64 (by rw [hr, if_pos (neI_t hΩ g)]))
  rw [if_neg (by rw [neI_f hΩ g]; simp)] at hr
  rw [setOk_eq, rise0] at hr
  generalize (s.all fun x => inB x 0 _) = B at *
  have fin : ∀ i, r = (if (riseAll s i (s.drop i) && B) = true then 0 else 1) → s.length ≤ i → r = if B = true then 0 else 1 := fun i he h => by
    rw [he, List.drop_of_length_le h, riseAll, Bool.true_and]
  refine loopX htab hΩ (fun i : Nat => ⟨[(0, .sl false 8 cs), (1, .sl false 1 xs), (6, .sc (.int .i64 (Ω.int i)))], 32, []⟩) (fun i => 1 ≤ i ∧ i ≤ s.length + 1 ∧ r = if (riseAll s i (s.drop i) && B) = true then 0 else 1) (fun i => s.length + 1 - i) 1
    ⟨Nat.le_refl _, by omega, hr⟩ (Sbs.mk rfl rfl ⟨rfl, rfl, by subst hΩ; rfl, trivial⟩) ?_
  rintro i ⟨hi0, hi, he⟩
  cbv
  refine br (fun h => ?_) (fun h => ?_) <;> cbv
  · replace h := ltI hΩ h
    obtain ⟨c, hcc⟩ := at_of (cs := s) (by omega : i < s.length)
    obtain ⟨d, hd⟩ := at_of (cs := s) (by omega : i - 1 < s.length)
    have hs1 := subI hΩ hi0 (by omega)
    rw [riseAll_at hcc, show (i == 0) = false by simp; omega, Bool.false_or, List.getD_eq_getElem?_getD, hd] at he
    refine ⟨VC_drawn htab hΩ hmo (by kernel_rfl) ?_⟩
    cbv
    refine ⟨⟨nnI hΩ⟩, _, rdI hΩ hxs hcc, ?_⟩
    cbv
    refine ⟨⟨hs1.1⟩, i64 d, by rw [hs1.2, hxs, List.getElem?_map, hd]; rfl, ?_⟩
    cbv
    refine br (fun g3 => ?_) (fun g3 => ?_) <;> cbv
    · exact .of (congrArg i64 (by rw [he]; subst hΩ; have g3 : c ≤ d := le_t g3; rw [show decide ((some d).getD 0 < c) = false by simp; omega]; rfl))
    · rw [show decide ((some d).getD 0 < c) = true by subst hΩ; have g3 : d < c := le_f g3; simpa using g3, Bool.true_and] at he
      exact ⟨i + 1, ⟨by omega, by omega, he⟩, by omega, Sbs.mk rfl rfl ⟨rfl, rfl, incI hΩ (by omega), trivial⟩⟩
  · replace h := geI hΩ h
    have hr := fin i he (by omega)
    refine call_pure hΩ 3 hp rfl (fits _) rfl rfl ?_
    cbv
    refine br (fun g => ?_) (fun g => ?_) <;> cbv
    · exact .of (congrArg i64 (by rw [hr, notT' hΩ g]; rfl))
    · exact .of (congrArg i64 (by rw [hr, notF' hΩ g]; rfl))
theorem c_specSetFault (l : List Pck) (s : List Int) (hl : l.length ≤ 1048576) (ho : ∀ o ∈ l, o.Small) (hs : s.length ≤ 1048576) : PCtr PP n_spec_SetFault [encP l, .sl false 1 (s.map i64)] (i64 (setF l s)) := by
  obtain ⟨Ω, hΩ⟩ : ∃ Ω, Ω = std := ⟨_, rfl⟩
  obtain ⟨r, hr⟩ : ∃ r, r = setF l s := ⟨_, rfl⟩
  rw [← hr]
  have hc := c_specCatalogFault l hl ho
  have hp := c_l3Set l s hl hs
  unfold setF at hr
  generalize catF l = k at *
  obtain ⟨xs, hxs⟩ : ∃ xs, xs = s.map i64 := ⟨_, rfl⟩
  have hlen : xs.length = s.length := by rw [hxs, List.length_map]
  obtain ⟨cs, hcs⟩ : ∃ cs, cs = l.map (Pck.enc false) := ⟨_, rfl⟩
  have hcl : cs.length = l.length := by rw [hcs, List.length_map]
  unfold encP at hc hp ⊢
  rw [← hcs] at hc hp ⊢
  rw [← hxs] at hp ⊢
  generalize setOk ((l.length : Int) - 1) s 0 s = b at *
  have htab := tab
  have hmo := hmo
  have hve := verEq
  refine PCtr.walk tab hΩ fn_spec_SetFault rfl ?_
  generalize PP = P at *
  cbv
  refine call_pure hΩ 3 hc rfl (fits _) rfl rfl ?_
  cbv
  refine br (fun g => ?_) (fun g => ?_) <;> cbv
  · exact .of (congrArg i64 (by rw [hr, if_pos (neI_t hΩ g)]))
  rw [if_neg (by rw [neI_f hΩ g]; simp)] at hr
  refine call_pure hΩ 3 hp rfl (fits _) rfl rfl ?_
  cbv
  refine br (fun g => ?_) (fun g => ?_) <;> cbv
  · exact .of (congrArg i64 (by rw [hr, notT' hΩ g]; rfl))
  · exact .of (congrArg i64 (by rw [hr, notF' hΩ g]; rfl))
end Go.Proofs.Ytdngjnjapihbkaa

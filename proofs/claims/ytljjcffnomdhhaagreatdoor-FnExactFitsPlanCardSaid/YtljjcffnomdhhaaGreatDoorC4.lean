/- Walks: faults of catalogs and sets. Plain theorems. -/
import Derived.Test.YtljjcffnomdhhaaGreatDoorC3
import Derived.OrdersHeld
import Derived.Shelf.Strconv.Itoa4
import Derived.Shelf.Strings.OnBuilder
import Derived.Ground.NamesProg
set_option linter.unusedVariables false
set_option linter.unusedSimpArgs false
namespace Go.Proofs.YtljjcffnomdhhaaGreatDoor
open Go Go.Fw
set_option maxRecDepth 100000
def isP (n : List UInt8) (v : Ver) (p : Pck) : Bool := p.n == n && decide (p.v = v)
def findF (c : List Pck) (n : List UInt8) (v : Ver) : Int := idx (isP n v) c
def catFrom (all : List Pck) : Nat → List Pck → Int
  | _, [] => 0
  | i, x :: xs => if packF x ≠ 0 then packF x else if 0 ≤ findF (all.take i) x.n x.v then 6 else catFrom all (i + 1) xs
theorem catFrom_at {cs : List Pck} {i : Nat} {c : Pck} (h : cs[i]? = some c) : catFrom cs i (cs.drop i) = if packF c ≠ 0 then packF c else if 0 ≤ findF (cs.take i) c.n c.v then 6 else catFrom cs (i + 1) (cs.drop (i + 1)) := by
  obtain ⟨h1, h2⟩ := List.getElem?_eq_some_iff.1 h
  conv => lhs; rw [List.drop_eq_getElem_cons h1, h2, catFrom]
def catF (c : List Pck) : Int := if 24 < c.length then 2 else catFrom c 0 c
def riseAll (s : List Int) : Nat → List Int → Bool
  | _, [] => true
  | i, x :: xs => (i == 0 || decide (s.getD (i - 1) 0 < x)) && riseAll s (i + 1) xs
def setOk (m : Int) (s : List Int) : Nat → List Int → Bool
  | _, [] => true
  | i, x :: xs => (inB x 0 m && (i == 0 || decide (s.getD (i - 1) 0 < x))) && setOk m s (i + 1) xs
theorem setOk_eq (m : Int) (s : List Int) : ∀ (l : List Int) (i : Nat), setOk m s i l = (riseAll s i l && l.all fun x => inB x 0 m)
  | [], i => rfl
  | x :: xs, i => by
    rw [setOk, riseAll, List.all_cons, setOk_eq m s xs (i + 1)]
    generalize inB x 0 m = a
    generalize (i == 0 || decide (s.getD (i - 1) 0 < x)) = b
    generalize riseAll s (i + 1) xs = c
    generalize (xs.all fun x => inB x 0 m) = d
    revert a b c d
    decide
theorem setOk_at (m : Int) {s : List Int} {i : Nat} {c : Int} (h : s[i]? = some c) : setOk m s i (s.drop i) = ((inB c 0 m && (i == 0 || decide (s.getD (i - 1) 0 < c))) && setOk m s (i + 1) (s.drop (i + 1))) := by
  obtain ⟨h1, h2⟩ := List.getElem?_eq_some_iff.1 h
  conv => lhs; rw [List.drop_eq_getElem_cons h1, h2, setOk]
theorem riseAll_at {s : List Int} {i : Nat} {c : Int} (h : s[i]? = some c) : riseAll s i (s.drop i) = ((i == 0 || decide (s.getD (i - 1) 0 < c)) && riseAll s (i + 1) (s.drop (i + 1))) := by
  obtain ⟨h1, h2⟩ := List.getElem?_eq_some_iff.1 h
  conv => lhs; rw [List.drop_eq_getElem_cons h1, h2, riseAll]
theorem rise0 (s : List Int) : riseAll s 0 s = riseAll s 1 (s.drop 1) := by
  cases s with
  | nil => rfl
  | cons x xs => simp [riseAll]
theorem subI {Ω : Opq} (hΩ : Ω = std) {i : Nat} (h0 : 0 < i) (h : i ≤ 4611686018427387904) : 0 ≤ Ω.ar .sub .i64 (Ω.int i) 1 ∧ (Ω.ar .sub .i64 (Ω.int i) 1).toNat = i - 1 := by
  subst hΩ
  show 0 ≤ IntKind.i64.wrap ((i : Int) - 1) ∧ (IntKind.i64.wrap ((i : Int) - 1)).toNat = i - 1
  rw [wrap64 (by omega) (by omega)]
  omega
def setF (c : List Pck) (s : List Int) : Int := if catF c ≠ 0 then catF c else if setOk ((c.length : Int) - 1) s 0 s then 0 else 1
def encP (c : List Pck) : A := .sl false 8 (c.map (Pck.enc false))
theorem c_find1 (o : Pck) (n : List UInt8) (v : Ver) : PCtr PP n_impl_find_1 [o.enc false, .rp [str n], .rp v.cells] (boo (isP n v o)) := by
  obtain ⟨Ω, hΩ⟩ : ∃ Ω, Ω = std := ⟨_, rfl⟩
  obtain ⟨r, hr⟩ : ∃ r, r = isP n v o := ⟨_, rfl⟩
  rw [← hr]
  obtain ⟨ps, ds, bs, hen, hps, hds, hbs⟩ := enc_raw o
  rw [hen]
  unfold isP at hr
  obtain ⟨D, hD⟩ : ∃ x, decide (o.v = v) = x := ⟨_, rfl⟩
  rw [hD] at hr
  have htab := tab
  have hmo := hmo
  have hve := verEq
  refine PCtr.walk tab hΩ fn_impl_find_1 rfl ?_
  generalize PP = P at *
  cbv
  refine br (fun g => ?_) (fun g => ?_) <;> cbv
  · refine eqX_eql hve o.v v ?_
    rw [hD]
    cbv
    exact .of (congrArg boo (by rw [hr, show (o.n == n) = true by subst hΩ; exact g, Bool.true_and]; subst hΩ; rfl))
  · exact .of (congrArg boo (by rw [hr, show (o.n == n) = false by subst hΩ; exact g, Bool.false_and]))
theorem c_find (l : List Pck) (n : List UInt8) (v : Ver) (hl : l.length ≤ 1048576) : PCtr PP n_impl_find [encP l, str n, v.enc] (i64 (findF l n v)) := by
  obtain ⟨Ω, hΩ⟩ : ∃ Ω, Ω = std := ⟨_, rfl⟩
  obtain ⟨r, hr⟩ : ∃ r, r = findF l n v := ⟨_, rfl⟩
  rw [← hr]
  have hc := c_IndexFuncP l (by omega) n_impl_find_1 [.rp [str n], .rp v.cells] (isP n v) ⟨fun _ _ => rfl, rfl, fun _ => rfl, fun o _ => c_find1 o n v⟩
  unfold encP
  rw [show idx (isP n v) l = r from hr.symm] at hc
  generalize l.map (Pck.enc false) = xs at *
  have htab := tab
  have hmo := hmo
  have hve := verEq
  refine PCtr.walk tab hΩ fn_impl_find rfl ?_
  generalize PP = P at *
  cbv
  refine call_pure hΩ 5 hc (ro_clo2 rfl rfl) (fits _) rfl rfl ?_
  cbv
  exact .same
theorem c_l2Find (l : List Pck) (n : List UInt8) (v : Ver) (hl : l.length ≤ 1048576) : PCtr PP n_spec_l2Find [encP l, str n, v.enc] (i64 (findF l n v)) := by
  obtain ⟨Ω, hΩ⟩ : ∃ Ω, Ω = std := ⟨_, rfl⟩
  obtain ⟨r, hr⟩ : ∃ r, r = findF l n v := ⟨_, rfl⟩
  rw [← hr]
  obtain ⟨xs, hxs⟩ : ∃ xs, xs = l.map (Pck.enc false) := ⟨_, rfl⟩
  have hlen : xs.length = l.length := by rw [hxs, List.length_map]
  unfold encP
  rw [← hxs]
  have hcv := c_CompareVersions
  have htab := tab
  have hmo := hmo
  have hve := verEq
  refine PCtr.walk tab hΩ fn_spec_l2Find rfl ?_
  generalize PP = P at *
  cbv
  refine loopX htab hΩ (fun i : Nat => ⟨[(0, .sl false 8 xs), (1, .sc (.string (mkS n))), (5, .pt 0 0 0), (7, .sc (.int .i64 (Ω.int i)))], 32, [some ⟨3, [v.enc], true⟩]⟩) (fun i => i ≤ l.length ∧ r = idxFrom (isP n v) i (l.drop i)) (fun i => l.length - i) 0
    ⟨Nat.zero_le _, hr⟩ (Sbs.mk rfl rfl ⟨rfl, rfl, rfl, zeroI hΩ, trivial⟩) ?_
  rintro i ⟨hi, he⟩
  cbv
  refine br (fun h => ?_) (fun h => ?_) <;> cbv
  · replace h := ltI hΩ h
    obtain ⟨c, hcc⟩ := at_of (cs := l) (by omega : i < l.length)
    rw [idxFrom_at _ hcc] at he
    refine ⟨VC_drawn htab hΩ hmo (by kernel_rfl) ?_⟩
    cbv
    obtain ⟨ps, ds, bs, hen, hps, hds, hbs⟩ := enc_raw c
    refine ⟨⟨nnI hΩ⟩, _, (rdI hΩ hxs hcc).trans (congrArg some hen), ?_⟩
    cbv
    refine br (fun g => ?_) (fun g => ?_) <;> cbv
    · have g : (c.n == n) = true := by subst hΩ; exact g
      refine ⟨⟨nnI hΩ⟩, _, (rdI hΩ hxs hcc).trans (congrArg some hen), ?_⟩
      cbv
      have hcv := hcv c.v v
      have hp : isP n v c = decide (cmpV c.v v = 0) := by rw [isP, g, Bool.true_and]; congr 1; rw [cmpV_zero]
      generalize cmpV c.v v = k at *
      rw [hp] at he
      refine QCall_pure (k := 3) hcv rfl (fits _) rfl ?_
      cbv
      refine br (fun g2 => ?_) (fun g2 => ?_) <;> cbv
      · exact .of (congrArg i64 (by rw [he, if_pos (by subst hΩ; have := eq_t g2; simp [this])]; subst hΩ; rfl))
      · rw [if_neg (by subst hΩ; have := eq_f g2; simp [this])] at he
        exact ⟨i + 1, ⟨by omega, he⟩, by omega, Sbs.mk rfl rfl ⟨rfl, rfl, rfl, incI hΩ (by omega), trivial⟩⟩
    · have g : (c.n == n) = false := by subst hΩ; exact g
      rw [if_neg (by rw [isP, g]; simp)] at he
      exact ⟨i + 1, ⟨by omega, he⟩, by omega, Sbs.mk rfl rfl ⟨rfl, rfl, rfl, incI hΩ (by omega), trivial⟩⟩
  · replace h := geI hΩ h
    exact .of (congrArg i64 (by rw [he, List.drop_of_length_le (by omega)]; rfl))
theorem c_implCatalogFault (l : List Pck) (hl : l.length ≤ 1048576) (hs : ∀ o ∈ l, o.Small) : PCtr PP n_impl_CatalogFault [encP l] (i64 (catF l)) := by
  obtain ⟨Ω, hΩ⟩ : ∃ Ω, Ω = std := ⟨_, rfl⟩
  obtain ⟨r, hr⟩ : ∃ r, r = catF l := ⟨_, rfl⟩
  rw [← hr]
  have hpk : ∀ o ∈ l, PCtr PP n_impl_PackFault [o.enc false] (i64 (packF o)) := fun o ho => c_implPackFault o (hs o ho)
  have hfi := fun (i : Nat) n v => c_find (l.take i) n v (by simp; omega)
  unfold encP at hfi
  obtain ⟨xs, hxs⟩ : ∃ xs, xs = l.map (Pck.enc false) := ⟨_, rfl⟩
  have hlen : xs.length = l.length := by rw [hxs, List.length_map]
  unfold encP
  rw [← hxs]
  rw [show (∀ (i : Nat) n v, PCtr PP n_impl_find [.sl false 8 ((l.take i).map (Pck.enc false)), str n, Ver.enc v] (i64 (findF (l.take i) n v))) = (∀ (i : Nat) n v, PCtr PP n_impl_find [.sl false 8 (xs.take i), str n, Ver.enc v] (i64 (findF (l.take i) n v))) by simp only [List.map_take, ← hxs]] at hfi
  unfold catF at hr
  have htab := tab
  have hmo := hmo
  have hve := verEq
  refine PCtr.walk tab hΩ fn_impl_CatalogFault rfl ?_
  generalize PP = P at *
  cbv
  refine br (fun g => ?_) (fun g => ?_) <;> cbv
  · exact .of (congrArg i64 (by rw [hr, if_pos (by subst hΩ; have g : (24 : Int) < xs.length := gt_t g; omega)]))
  rw [if_neg (by subst hΩ; have g : (xs.length : Int) ≤ 24 := gt_f g; omega)] at hr
  refine loopX htab hΩ (fun i : Nat => ⟨[(0, .sl false 8 xs), (9, .sl false 8 xs), (10, .sc (.int .i64 (Ω.int (Ω.len xs)))), (11, .sc (.int .i64 (Ω.int i)))], 31, []⟩) (fun i => i ≤ l.length ∧ r = catFrom l i (l.drop i)) (fun i => l.length - i) 0
    ⟨Nat.zero_le _, hr⟩ (Sbs.mk rfl rfl ⟨rfl, rfl, rfl, zeroI hΩ, trivial⟩) ?_
  rintro i ⟨hi, he⟩
  cbv
  refine br (fun h => ?_) (fun h => ?_) <;> cbv
  · replace h := ltI hΩ h
    obtain ⟨c, hcc⟩ := at_of (cs := l) (by omega : i < l.length)
    rw [catFrom_at hcc] at he
    obtain ⟨ps, ds, bs, hen, hps, hds, hbs⟩ := enc_raw c
    refine ⟨⟨nnI hΩ⟩, _, (rdI hΩ hxs hcc).trans (congrArg some hen), ?_⟩
    cbv
    have hp := hpk c (List.mem_of_getElem? hcc)
    rw [hen] at hp
    generalize packF c = kc at *
    refine call_pure hΩ 3 hp rfl (fits _) rfl rfl ?_
    cbv
    refine br (fun g => ?_) (fun g => ?_) <;> cbv
    · exact .of (congrArg i64 (by rw [he, if_pos (neI_t hΩ g)]))
    rw [if_neg (by rw [neI_f hΩ g]; simp)] at he
    refine ⟨VC_drawn htab hΩ hmo (by kernel_rfl) ?_⟩
    cbv
    refine ⟨⟨trivial, nnI hΩ, Nat.zero_le _, by subst hΩ; show i ≤ xs.length; omega⟩, ?_⟩
    have hf : PCtr P n_impl_find [.sl false 8 (Ω.seg 0 (Ω.nat (Ω.int i)) xs), str c.n, c.v.enc] (i64 (findF (l.take i) c.n c.v)) := by subst hΩ; exact hfi i c.n c.v
    generalize findF (l.take i) c.n c.v = kf at *
    refine QCall_pure (k := 3) hf rfl (fits _) rfl ?_
    cbv
    refine br (fun g2 => ?_) (fun g2 => ?_) <;> cbv
    · exact .of (congrArg i64 (by rw [he, if_pos (geI_t hΩ g2)]))
    · rw [if_neg (Int.not_le.2 (geI_f hΩ g2))] at he
      exact ⟨i + 1, ⟨by omega, he⟩, by omega, Sbs.mkL (rows := []) rfl rfl rfl ⟨rfl, rfl, rfl, incI hΩ (by omega), trivial⟩⟩
  · replace h := geI hΩ h
    exact .of (congrArg i64 (by rw [he, List.drop_of_length_le (by omega)]; rfl))
theorem c_specCatalogFault (l : List Pck) (hl : l.length ≤ 1048576) (hs : ∀ o ∈ l, o.Small) : PCtr PP n_spec_CatalogFault [encP l] (i64 (catF l)) := by
  obtain ⟨Ω, hΩ⟩ : ∃ Ω, Ω = std := ⟨_, rfl⟩
  obtain ⟨r, hr⟩ : ∃ r, r = catF l := ⟨_, rfl⟩
  rw [← hr]
  have hpk : ∀ o ∈ l, PCtr PP n_spec_PackFault [o.enc false] (i64 (packF o)) := fun o ho => c_specPackFault o (hs o ho)
  have hfi := fun (i : Nat) n v => c_l2Find (l.take i) n v (by simp; omega)
  unfold encP at hfi
  obtain ⟨xs, hxs⟩ : ∃ xs, xs = l.map (Pck.enc false) := ⟨_, rfl⟩
  have hlen : xs.length = l.length := by rw [hxs, List.length_map]
  unfold encP
  rw [← hxs]
  rw [show (∀ (i : Nat) n v, PCtr PP n_spec_l2Find [.sl false 8 ((l.take i).map (Pck.enc false)), str n, Ver.enc v] (i64 (findF (l.take i) n v))) = (∀ (i : Nat) n v, PCtr PP n_spec_l2Find [.sl false 8 (xs.take i), str n, Ver.enc v] (i64 (findF (l.take i) n v))) by simp only [List.map_take, ← hxs]] at hfi
  unfold catF at hr
  have htab := tab
  have hmo := hmo
  have hve := verEq
  refine PCtr.walk tab hΩ fn_spec_CatalogFault rfl ?_
  generalize PP = P at *
  cbv
  refine br (fun g => ?_) (fun g => ?_) <;> cbv
  · exact .of (congrArg i64 (by rw [hr, if_pos (by subst hΩ; have g : (24 : Int) < xs.length := gt_t g; omega)]))
  rw [if_neg (by subst hΩ; have g : (xs.length : Int) ≤ 24 := gt_f g; omega)] at hr
  refine loopX htab hΩ (fun i : Nat => ⟨[(0, .sl false 8 xs), (3, .sc (.int .i64 (Ω.int i)))], 37, []⟩) (fun i => i ≤ l.length ∧ r = catFrom l i (l.drop i)) (fun i => l.length - i) 0
    ⟨Nat.zero_le _, hr⟩ (Sbs.mk rfl rfl ⟨rfl, zeroI hΩ, trivial⟩) ?_
  rintro i ⟨hi, he⟩
  cbv
  refine br (fun h => ?_) (fun h => ?_) <;> cbv
  · replace h := ltI hΩ h
    obtain ⟨c, hcc⟩ := at_of (cs := l) (by omega : i < l.length)
    rw [catFrom_at hcc] at he
    obtain ⟨ps, ds, bs, hen, hps, hds, hbs⟩ := enc_raw c
    refine ⟨⟨nnI hΩ⟩, _, (rdI hΩ hxs hcc).trans (congrArg some hen), ?_⟩
    cbv
    have hp := hpk c (List.mem_of_getElem? hcc)
    rw [hen] at hp
    generalize packF c = kc at *
    refine call_pure hΩ 3 hp rfl (fits _) rfl rfl ?_
    cbv
    refine br (fun g => ?_) (fun g => ?_) <;> cbv
    · exact .of (congrArg i64 (by rw [he, if_pos (neI_t hΩ g)]))
    rw [if_neg (by rw [neI_f hΩ g]; simp)] at he
    refine ⟨VC_drawn htab hΩ hmo (by kernel_rfl) ?_⟩
    cbv
    refine ⟨⟨trivial, nnI hΩ, Nat.zero_le _, by subst hΩ; show i ≤ xs.length; omega⟩, ?_⟩
    have hf : PCtr P n_spec_l2Find [.sl false 8 (Ω.seg 0 (Ω.nat (Ω.int i)) xs), str c.n, c.v.enc] (i64 (findF (l.take i) c.n c.v)) := by subst hΩ; exact hfi i c.n c.v
    generalize findF (l.take i) c.n c.v = kf at *
    refine ⟨⟨nnI hΩ⟩, _, (rdI hΩ hxs hcc).trans (congrArg some hen), ?_⟩
    cbv
    refine ⟨⟨nnI hΩ⟩, _, (rdI hΩ hxs hcc).trans (congrArg some hen), ?_⟩
    cbv
    refine QCall_pure (k := 3) hf rfl (fits _) rfl ?_
    cbv
    refine br (fun g2 => ?_) (fun g2 => ?_) <;> cbv
    · exact .of (congrArg i64 (by rw [he, if_pos (geI_t hΩ g2)]))
    · rw [if_neg (Int.not_le.2 (geI_f hΩ g2))] at he
      exact ⟨i + 1, ⟨by omega, he⟩, by omega, Sbs.mk rfl rfl ⟨rfl, incI hΩ (by omega), trivial⟩⟩
  · replace h := geI hΩ h
    exact .of (congrArg i64 (by rw [he, List.drop_of_length_le (by omega)]; rfl))
theorem c_arePlaces1 (k : Int) (l : List Pck) (hl : l.length ≤ 1048576) : PCtr PP n_impl_arePlaces_1 [i64 k, .rp [encP l]] (boo (!inB k 0 ((l.length : Int) - 1))) := by
  obtain ⟨Ω, hΩ⟩ : ∃ Ω, Ω = std := ⟨_, rfl⟩
  obtain ⟨r, hr⟩ : ∃ r, r = !inB k 0 ((l.length : Int) - 1) := ⟨_, rfl⟩
  rw [← hr]
  obtain ⟨xs, hxs⟩ : ∃ xs, xs = l.map (Pck.enc false) := ⟨_, rfl⟩
  have hlen : xs.length = l.length := by rw [hxs, List.length_map]
  unfold encP
  rw [← hxs]
  have hw : PCtr PP n_impl_within [i64 k, i64 0, i64 (Ω.ar .sub .i64 (Ω.int (Ω.len xs)) 1)] (boo (inB k 0 ((l.length : Int) - 1))) := by
    have := c_within k 0 ((l.length : Int) - 1)
    rw [show ((l.length : Int) - 1) = IntKind.i64.wrap ((xs.length : Int) - 1) by rw [wrap64 (by omega) (by omega), hlen]] at this ⊢
    subst hΩ
    exact this
  generalize inB k 0 ((l.length : Int) - 1) = b at *
  have htab := tab
  have hmo := hmo
  have hve := verEq
  refine PCtr.walk tab hΩ fn_impl_arePlaces_1 rfl ?_
  generalize PP = P at *
  cbv
  refine call_pure hΩ 3 hw rfl (fits _) rfl rfl ?_
  cbv
  exact .of (congrArg boo (by rw [hr]; subst hΩ; rfl))
theorem c_arePlaces (l : List Pck) (s : List Int) (hl : l.length ≤ 1048576) (hs : s.length ≤ 1048576) : PCtr PP n_impl_arePlaces [encP l, .sl false 1 (s.map i64)] (boo (s.all fun x => inB x 0 ((l.length : Int) - 1))) := by
  obtain ⟨Ω, hΩ⟩ : ∃ Ω, Ω = std := ⟨_, rfl⟩
  obtain ⟨r, hr⟩ : ∃ r, r = s.all fun x => inB x 0 ((l.length : Int) - 1) := ⟨_, rfl⟩
  rw [← hr]
  have hc := c_ContainsFuncI s (by omega) n_impl_arePlaces_1 [.rp [encP l]] (fun x => !inB x 0 ((l.length : Int) - 1)) ⟨fun _ _ => rfl, rfl, fun _ => rfl, fun k _ => c_arePlaces1 k l hl⟩
  rw [show (s.all fun x => inB x 0 ((l.length : Int) - 1)) = !(s.any fun x => !inB x 0 ((l.length : Int) - 1)) by rw [List.any_eq_not_all_not]; simp] at hr
  generalize (s.any fun x => !inB x 0 ((l.length : Int) - 1)) = b at *
  unfold encP at *
  generalize l.map (Pck.enc false) = xs at *
  generalize s.map i64 = ys at *
  have htab := tab
  have hmo := hmo
  have hve := verEq
  refine PCtr.walk tab hΩ fn_impl_arePlaces rfl ?_
  generalize PP = P at *
  cbv
  refine call_pure hΩ 5 hc (ro_clo2 rfl rfl) (fits _) rfl rfl ?_
  cbv
  exact .of (congrArg boo (by rw [hr]; subst hΩ; rfl))
theorem c_l3Set (l : List Pck) (s : List Int) (hl : l.length ≤ 1048576) (hs : s.length ≤ 1048576) : PCtr PP n_spec_l3Set [encP l, .sl false 1 (s.map i64)] (boo (setOk ((l.length : Int) - 1) s 0 s)) := by
  obtain ⟨Ω, hΩ⟩ : ∃ Ω, Ω = std := ⟨_, rfl⟩
  obtain ⟨r, hr⟩ : ∃ r, r = setOk ((l.length : Int) - 1) s 0 s := ⟨_, rfl⟩
  rw [← hr]
  obtain ⟨xs, hxs⟩ : ∃ xs, xs = s.map i64 := ⟨_, rfl⟩
  have hlen : xs.length = s.length := by rw [hxs, List.length_map]
  obtain ⟨cs, hcs⟩ : ∃ cs, cs = l.map (Pck.enc false) := ⟨_, rfl⟩
  have hcl : cs.length = l.length := by rw [hcs, List.length_map]
  unfold encP
  rw [← hcs]
  rw [← hxs]
  have hLm : Ω.ar .sub .i64 (Ω.int (Ω.len cs)) 1 = (l.length : Int) - 1 := by subst hΩ; show IntKind.i64.wrap ((cs.length : Int) - 1) = _; rw [hcl]; exact wrap64 (by omega) (by omega)
  have hw : ∀ k, PCtr PP n_spec_l1In [i64 k, i64 0, i64 (Ω.ar .sub .i64 (Ω.int (Ω.len cs)) 1)] (boo (inB k 0 ((l.length : Int) - 1))) := fun k => by rw [hLm]; exact c_l1In k 0 _
  generalize ((l.length : Int) - 1) = m at *
  have htab := tab
  have hmo := hmo
  have hve := verEq
  refine PCtr.walk tab hΩ fn_spec_l3Set rfl ?_
  generalize PP = P at *
  cbv
  refine loopX htab hΩ (fun i : Nat => ⟨[(0, .sl false 8 cs), (1, .sl false 1 xs), (5, .sc (.int .i64 (Ω.int i)))], 37, []⟩) (fun i => i ≤ s.length ∧ r = setOk m s i (s.drop i)) (fun i => s.length - i) 0
    ⟨Nat.zero_le _, hr⟩ (Sbs.mk rfl rfl ⟨rfl, rfl, zeroI hΩ, trivial⟩) ?_
  rintro i ⟨hi, he⟩
  cbv
  refine br (fun h => ?_) (fun h => ?_) <;> cbv
  · replace h := ltI hΩ h
    obtain ⟨c, hcc⟩ := at_of (cs := s) (by omega : i < s.length)
    rw [setOk_at _ hcc] at he
    refine ⟨VC_drawn htab hΩ hmo (by kernel_rfl) ?_⟩
    cbv
    refine ⟨⟨nnI hΩ⟩, _, rdI hΩ hxs hcc, ?_⟩
    cbv
    have hw1 := hw c
    generalize inB c 0 m = B at *
    refine QCall_pure (k := 3) hw1 rfl (fits _) rfl ?_
    cbv
    refine br (fun g => ?_) (fun g => ?_) <;> cbv
    · exact .of (congrArg boo (by rw [he, notT' hΩ g]; rfl))
    rw [notF' hΩ g, Bool.true_and] at he
    refine br (fun g2 => ?_) (fun g2 => ?_) <;> cbv
    · have hi0 : 0 < i := by subst hΩ; have g2 : (0 : Int) < i := gt_t g2; omega
      have hs1 := subI hΩ hi0 (by omega)
      obtain ⟨d, hd⟩ := at_of (cs := s) (by omega : i - 1 < s.length)
      rw [show (i == 0) = false by simp; omega, Bool.false_or, List.getD_eq_getElem?_getD, hd] at he
      refine ⟨⟨nnI hΩ⟩, _, rdI hΩ hxs hcc, ?_⟩
      cbv
      refine ⟨⟨hs1.1⟩, i64 d, by rw [hs1.2, hxs, List.getElem?_map, hd]; rfl, ?_⟩
      cbv
      refine br (fun g3 => ?_) (fun g3 => ?_) <;> cbv
      · exact .of (congrArg boo (by rw [he]; subst hΩ; have g3 : c ≤ d := le_t g3; rw [show decide ((some d).getD 0 < c) = false by simp; omega]; rfl))
      · rw [show decide ((some d).getD 0 < c) = true by subst hΩ; have g3 : d < c := le_f g3; simpa using g3, Bool.true_and] at he
        exact ⟨i + 1, ⟨by omega, he⟩, by omega, Sbs.mk rfl rfl ⟨rfl, rfl, incI hΩ (by omega), trivial⟩⟩
    · have hi0 : i = 0 := by subst hΩ; have g2 : (i : Int) ≤ 0 := gt_f g2; omega
      rw [show (i == 0) = true by simpa using hi0, Bool.true_or, Bool.true_and] at he
      refine br (fun g4 => ?_) (fun g4 => ?_)
      · subst hΩ; cases (show false = true from g4)
      cbv
      exact ⟨i + 1, ⟨by omega, he⟩, by omega, Sbs.mk rfl rfl ⟨rfl, rfl, incI hΩ (by omega), trivial⟩⟩
  · replace h := geI hΩ h
    exact .of (congrArg boo (by rw [he, List.drop_of_length_le (by omega)]; rfl))
theorem c_implSetFault (l : List Pck) (s : List Int) (hl : l.length ≤ 1048576) (ho : ∀ o ∈ l, o.Small) (hs : s.length ≤ 1048576) : PCtr PP n_impl_SetFault [encP l, .sl false 1 (s.map i64)] (i64 (setF l s)) := by
  obtain ⟨Ω, hΩ⟩ : ∃ Ω, Ω = std := ⟨_, rfl⟩
  obtain ⟨r, hr⟩ : ∃ r, r = setF l s := ⟨_, rfl⟩
  rw [← hr]
  have hc := c_implCatalogFault l hl ho
  have hp := c_arePlaces l s hl hs
  unfold setF at hr
  generalize catF l = k at *
  obtain ⟨xs, hxs⟩ : ∃ xs, xs = s.map i64 := ⟨_, rfl⟩
  have hlen : xs.length = s.length := by rw [hxs, List.length_map]
  obtain ⟨cs, hcs⟩ : ∃ cs, cs = l.map (Pck.enc false) := ⟨_, rfl⟩
  have hcl : cs.length = l.length := by rw [hcs, List.length_map]
  unfold encP at hc hp ⊢
  rw [← hcs] at hc hp ⊢
  rw [← hxs] at hp ⊢
  have htab := tab
  have hmo := hmo
  have hve := verEq
  refine PCtr.walk tab hΩ fn_impl_SetFault rfl ?_
  generalize PP = P at *
  cbv
  refine call_pure hΩ 3 hc rfl (fits _) rfl rfl ?_
  cbv
  refine br (fun g => ?_) (fun g => ?_) <;> cbv
  · exact .of (congrArg i64 (by rw [hr, if_pos (neI_t hΩ g)]))
  rw [if_neg (by rw [neI_f hΩ g]; simp)] at hr
  rw [setOk_eq, rise0] at hr
  generalize (s.all fun x => inB x 0 _) = B at *
  have fin : ∀ i, r = (if (riseAll s i (s.drop i) && B) = true then 0 else 1) → s.length ≤ i → r = if B = true then 0 else 1 := fun i he h => by
    rw [he, List.drop_of_length_le h, riseAll, Bool.true_and]
  refine loopX htab hΩ (fun i : Nat => ⟨[(0, .sl false 8 cs), (1, .sl false 1 xs), (6, .sc (.int .i64 (Ω.int i)))], 32, []⟩) (fun i => 1 ≤ i ∧ i ≤ s.length + 1 ∧ r = if (riseAll s i (s.drop i) && B) = true then 0 else 1) (fun i => s.length + 1 - i) 1
    ⟨Nat.le_refl _, by omega, hr⟩ (Sbs.mk rfl rfl ⟨rfl, rfl, by subst hΩ; rfl, trivial⟩) ?_
  rintro i ⟨hi0, hi, he⟩
  cbv
  refine br (fun h => ?_) (fun h => ?_) <;> cbv
  · replace h := ltI hΩ h
    obtain ⟨c, hcc⟩ := at_of (cs := s) (by omega : i < s.length)
    obtain ⟨d, hd⟩ := at_of (cs := s) (by omega : i - 1 < s.length)
    have hs1 := subI hΩ hi0 (by omega)
    rw [riseAll_at hcc, show (i == 0) = false by simp; omega, Bool.false_or, List.getD_eq_getElem?_getD, hd] at he
    refine ⟨VC_drawn htab hΩ hmo (by kernel_rfl) ?_⟩
    cbv
    refine ⟨⟨nnI hΩ⟩, _, rdI hΩ hxs hcc, ?_⟩
    cbv
    refine ⟨⟨hs1.1⟩, i64 d, by rw [hs1.2, hxs, List.getElem?_map, hd]; rfl, ?_⟩
    cbv
    refine br (fun g3 => ?_) (fun g3 => ?_) <;> cbv
    · exact .of (congrArg i64 (by rw [he]; subst hΩ; have g3 : c ≤ d := le_t g3; rw [show decide ((some d).getD 0 < c) = false by simp; omega]; rfl))
    · rw [show decide ((some d).getD 0 < c) = true by subst hΩ; have g3 : d < c := le_f g3; simpa using g3, Bool.true_and] at he
      exact ⟨i + 1, ⟨by omega, by omega, he⟩, by omega, Sbs.mk rfl rfl ⟨rfl, rfl, incI hΩ (by omega), trivial⟩⟩
  · replace h := geI hΩ h
    have hr := fin i he (by omega)
    refine call_pure hΩ 3 hp rfl (fits _) rfl rfl ?_
    cbv
    refine br (fun g => ?_) (fun g => ?_) <;> cbv
    · exact .of (congrArg i64 (by rw [hr, notT' hΩ g]; rfl))
    · exact .of (congrArg i64 (by rw [hr, notF' hΩ g]; rfl))
end Go.Proofs.YtljjcffnomdhhaaGreatDoor

/- Walks: sets by a function value; who is barred. Plain theorems. -/
set_option linter.unusedVariables false
set_option linter.unusedSimpArgs false
namespace Go.Proofs.YtljjcffnomdhhaaGreatDoor
open Go Go.Fw
set_option maxRecDepth 100000
def ints (l : List Int) : A := .sl true 1 (l.map i64)
theorem frzInt (l : List Int) : (l.map i64).map frz = l.map i64 := by
  rw [List.map_map]; exact List.map_congr_left fun c _ => rfl
theorem noInt (l : List Int) : (∀ y ∈ l.map i64, noOwn y = true) ∧ (∀ c ∈ flat (l.map i64), okCell c = true) ∧ (∀ y ∈ l.map i64, isAggB y = false) ∧ (∀ y ∈ l.map i64, vStore.isAggA y = false) := by
  refine ⟨fun y hy => ?_, fun y hy => ?_, fun y hy => ?_, fun y hy => ?_⟩
  · obtain ⟨c, _, rfl⟩ := List.mem_map.1 hy; rfl
  · obtain ⟨x, hx, hy⟩ := List.mem_flatMap.1 hy
    obtain ⟨c, _, rfl⟩ := List.mem_map.1 hx
    have : y = i64 c := by simpa [i64, A.cells] using hy
    rw [this]; rfl
  · obtain ⟨c, _, rfl⟩ := List.mem_map.1 hy; rfl
  · obtain ⟨c, _, rfl⟩ := List.mem_map.1 hy; rfl
theorem roFInt (l : List Int) : roFree (.sl true 1 (l.map i64)) = true := by
  rw [roFree_sl, Bool.true_and, List.all_eq_true]
  intro x hx
  obtain ⟨c, _, rfl⟩ := List.mem_map.1 hx
  rfl
theorem idx_spec (p : Int → Bool) : ∀ (l : List Int) (i : Nat), (idxFrom p i l = -1 ∧ (l.filter fun x => !p x) = l) ∨ ∃ m, idxFrom p i l = ((i + m : Nat) : Int) ∧ m < l.length ∧ ((l.take (m + 1)).filter fun x => !p x) = l.take m
  | [], i => .inl ⟨rfl, rfl⟩
  | x :: xs, i => by
    rw [idxFrom]
    by_cases h : p x = true
    · right
      refine ⟨0, by rw [if_pos h]; simp, by simp, by simp [h]⟩
    · rw [if_neg h]
      rcases idx_spec p xs (i + 1) with ⟨h1, h2⟩ | ⟨m, h1, h2, h3⟩
      · left
        refine ⟨h1, ?_⟩
        rw [List.filter_cons_of_pos (by simpa using h), h2]
      · right
        refine ⟨m + 1, by rw [h1]; congr 1; omega, by simp; omega, ?_⟩
        rw [List.take_succ_cons, List.filter_cons_of_pos (by simpa using h), h3, List.take_succ_cons]
theorem filter_at {p : Int → Bool} {s : List Int} {j : Nat} {c : Int} (h : s[j]? = some c) : ((s.take (j + 1)).filter fun x => !p x) = ((s.take j).filter fun x => !p x) ++ (if p c then [] else [c]) := by
  rw [List.take_add_one, h, List.filter_append]
  congr 1
  by_cases hc : p c <;> simp [hc]
theorem take_set_add {ys : List A} {i : Nat} {z : A} (h : i < ys.length) : (ys.set i z).take (i + 1) = ys.take i ++ [z] := by
  rw [List.take_add_one, List.getElem?_set_self h, List.take_set_of_le (Nat.le_refl _)]; rfl
theorem c_Clone (s : List Int) (hs : s.length ≤ 1048576) : PCtr PP n_slices_Clone_L_int64_int64 [.sl false 1 (s.map i64)] (ints s) := by
  obtain ⟨Ω, hΩ⟩ : ∃ Ω, Ω = std := ⟨_, rfl⟩
  unfold ints
  obtain ⟨xs, hxs⟩ : ∃ xs, xs = s.map i64 := ⟨_, rfl⟩
  have hlen : xs.length = s.length := by rw [hxs, List.length_map]
  have hno := noInt s
  have hfz := frzInt s
  rw [← hxs] at hno hfz ⊢
  have htab := tab
  refine PCtr.walk tab hΩ fn_slices_Clone_L_int64_int64 rfl ?_
  generalize PP = P at *
  cbv
  intro b hb
  refine br (fun g => ?_) (fun g => ?_) <;> cbv
  · exact ⟨1, hb g⟩
  refine ⟨⟨hno.1, hno.2.1, ?_, ?_⟩, ⟨rfl, ?_⟩, .of ?_⟩
  · show (0 + xs.length) * 8 ≤ 140737488355328
    omega
  · show 0 + xs.length ≤ 9223372036854775807
    omega
  · subst hΩ; show 0 + xs.length ≤ (List.take 0 [] ++ xs).length; simp
  · subst hΩ; show A.sl true 1 ((List.take 0 [] ++ xs).take (0 + xs.length)) = _; rw [List.take_of_length_le (by simp)]; rfl
theorem c_DeleteFunc (s : List Int) (hs : s.length ≤ 1048576) (g : Nat) (caps : List A) (p : Int → Bool) (hf : CloB PP i64 s g caps p) : ECtr PP n_slices_DeleteFunc_L_int64_int64 [.sl true 1 (s.map i64), .clo g caps] (ints (s.filter fun x => !p x)) := by
  obtain ⟨Ω, hΩ⟩ : ∃ Ω, Ω = std := ⟨_, rfl⟩
  unfold ints
  have hc := c_IndexFuncI s (by omega) g caps p hf
  have hro := hf.ro
  have hcn := hf.no
  have hrun : ∀ x ∈ s, PCtr PP (Ω.cloN g) (Ω.cloA g [i64 x] caps) (boo (p x)) := by subst hΩ; exact hf.run
  obtain ⟨k, hk⟩ : ∃ k, idx p s = k := ⟨_, rfl⟩
  rw [hk] at hc
  obtain ⟨xs, hxs⟩ : ∃ xs, xs = s.map i64 := ⟨_, rfl⟩
  have hlen : xs.length = s.length := by rw [hxs, List.length_map]
  have hno := noInt s
  have hfz := frzInt s
  rw [← hxs] at hno hfz hc ⊢
  have hle : Ω.len xs = xs.length := by subst hΩ; rfl
  obtain ⟨zs, hzs⟩ : ∃ zs, zs = (s.filter fun x => !p x).map i64 := ⟨_, rfl⟩
  rw [← hzs]
  have htab := tab
  refine ECtr.walk tab hΩ 3 fn_slices_DeleteFunc_L_int64_int64 rfl (by simp only [rootO, rootO.rootOL, List.all_cons, List.all_nil, noOwn_vw, noOwn_clo, hcn]; rfl) ?_
  generalize PP = P at *
  cbv
  refine call_pure hΩ 5 hc (ro_clo2 (roV rfl hle hfz) (hro _ 0)) (fits _) rfl rfl ?_
  cbv
  refine br (fun g1 => ?_) (fun g1 => ?_) <;> cbv
  · have g1 : k = -1 := eqI_t hΩ g1
    rcases idx_spec p s 0 with ⟨h1, h2⟩ | ⟨m, h1, _⟩
    · refine ⟨⟨rfl, by subst hΩ; exact Nat.le_refl _⟩, .of ?_⟩
      rw [hzs, h2, ← hxs]
      subst hΩ
      show A.sl true 1 (xs.take xs.length) = _
      rw [List.take_length]
    · have : k = ((0 + m : Nat) : Int) := by rw [← hk]; exact h1
      omega
  have g1 : k ≠ -1 := eqI_f hΩ g1
  obtain ⟨m, hkm, hml, hfm⟩ : ∃ m : Nat, k = Ω.int m ∧ m < s.length ∧ ((s.take (m + 1)).filter fun x => !p x) = s.take m := by
    rcases idx_spec p s 0 with ⟨h1, _⟩ | ⟨m, h1, h2, h3⟩
    · exact absurd (hk.symm.trans h1) g1
    · rw [Nat.zero_add] at h1
      exact ⟨m, by subst hΩ; exact hk.symm.trans h1, h2, h3⟩
  subst hkm
  obtain ⟨F, hF⟩ : ∃ F : Nat → List Int, F = fun j => (s.take j).filter fun x => !p x := ⟨_, rfl⟩
  have hFat : ∀ j c, s[j]? = some c → F (j + 1) = F j ++ (if p c then [] else [c]) := fun j c h => by rw [hF]; exact filter_at h
  have hFm : F (m + 1) = s.take m := by rw [hF]; exact hfm
  have hFml : (F (m + 1)).length = m := by rw [hFm]; simp; omega
  have hFn : F s.length = s.filter fun x => !p x := by rw [hF]; simp only; rw [List.take_length]
  refine loopX htab hΩ (fun i : Nat × List A => ⟨[(0, .vw 0 0 (Ω.len xs)), (1, .clo g caps), (5, .sc (.int .i64 (Ω.int (F i.1).length))), (6, .sc (.int .i64 (Ω.int i.1)))], 42, [some ⟨1, i.2, false⟩]⟩)
    (fun i => (F i.1).length < i.1 ∧ i.1 ≤ s.length ∧ i.2.length = s.length ∧ i.2.take (F i.1).length = (F i.1).map i64 ∧ (∀ q, i.1 ≤ q → i.2[q]? = xs[q]?) ∧ (∀ y ∈ i.2, isAggB y = false) ∧ (∀ y ∈ i.2, vStore.isAggA y = false))
    (fun i => s.length - i.1) (m + 1, xs) ⟨by dsimp only; omega, by dsimp only; omega, hlen, ?_, fun _ _ => rfl, hno.2.2.1, hno.2.2.2⟩ (Sbs.mk rfl rfl ⟨rfl, rfl, by rw [hFml]; rfl, incI hΩ (by omega), trivial⟩) ?_
  · dsimp only
    rw [hFml, hFm, hxs, List.map_take]
  rintro ⟨j, ys⟩ ⟨h1, h2, h3, h4, h5, h6, h7⟩
  dsimp only at h1 h2 h3 h4 h5 h6 h7
  obtain ⟨f, hf2⟩ : ∃ f, f = (F j).length := ⟨_, rfl⟩
  rw [← hf2] at h1 h4
  dsimp only
  rw [← hf2]
  cbv
  refine br (fun h => ?_) (fun h => ?_) <;> cbv
  · replace h := ltI hΩ h
    obtain ⟨c, hcc⟩ := at_of (cs := s) (by omega : j < s.length)
    have hyj : ys[j]? = some (i64 c) := by rw [h5 j (Nat.le_refl _), hxs, List.getElem?_map, hcc]; rfl
    have hFj := hFat j c hcc
    have hr1 := hrun c (List.mem_of_getElem? hcc)
    refine ⟨⟨ixI hΩ (by show j < Ω.len xs; rw [hle]; exact h)⟩, i64 c, atI hΩ hyj, ?_⟩
    cbv
    refine call_pure hΩ 4 hr1 (ro_cloA hΩ rfl (hro _ 0)) (fits _) rfl rfl ?_
    cbv
    refine br (fun g => ?_) (fun g => ?_) <;> cbv
    · have g := notT' hΩ g
      rw [g] at hFj
      have hFl : (F (j + 1)).length = f + 1 := by rw [hFj, hf2]; simp
      have hfl : f < ys.length := by omega
      refine ⟨⟨ixI hΩ (by show f < Ω.len xs; rw [hle]; omega)⟩, ⟨by subst hΩ; show 0 + f < ys.length; omega, h7⟩, ?_⟩
      refine ⟨(j + 1, ys.set f (i64 c)), ⟨by dsimp only; omega, by dsimp only; omega, by simpa using h3, ?_, fun q hq => ?_, fun y hy => ?_, fun y hy => ?_⟩, by dsimp only; omega, Sbs.mk rfl ?_ ⟨rfl, rfl, ?_, incI hΩ (by omega), trivial⟩⟩
      · dsimp only; rw [hFl, take_set_add hfl, h4, hFj, List.map_append]; rfl
      · dsimp only at hq ⊢; rw [List.getElem?_set_ne (by omega)]; exact h5 q (by omega)
      · rcases List.mem_or_eq_of_mem_set hy with hy | rfl
        · exact h6 y hy
        · rfl
      · rcases List.mem_or_eq_of_mem_set hy with hy | rfl
        · exact h7 y hy
        · rfl
      · subst hΩ; show [some (Row.mk 1 (ys.set (0 + f) (i64 c)) false)] = _; rw [Nat.zero_add]
      · dsimp only; rw [hFl]; exact incI hΩ (by omega)
    · have g : p c = true := notF' hΩ g
      rw [g] at hFj
      have hFl : (F (j + 1)).length = f := by rw [hFj, hf2]; simp
      exact ⟨(j + 1, ys), ⟨by dsimp only; omega, by dsimp only; omega, h3, by dsimp only; rw [hFl, h4, hFj]; simp, fun q hq => h5 q (by dsimp only at hq; omega), h6, h7⟩, by dsimp only; omega, Sbs.mk rfl rfl ⟨rfl, rfl, by dsimp only; rw [hFl]; rfl, incI hΩ (by omega), trivial⟩⟩
  · have hj : j = s.length := by have := geI hΩ h; omega
    subst hj
    refine ⟨⟨nnI hΩ, trivial, ?_, Nat.le_refl _⟩, ⟨?_, h6⟩, ⟨trivial, nnI hΩ, Nat.zero_le _, ?_⟩, ⟨?_, ?_⟩, .of ?_⟩
    · subst hΩ; show f ≤ xs.length; omega
    · subst hΩ; show 0 + f + (xs.length - f) = ys.length; omega
    · subst hΩ; show f ≤ xs.length; omega
    · subst hΩ; rfl
    · subst hΩ; show f - 0 ≤ (ys.take (0 + f) ++ List.replicate (xs.length - f) (A.sc (Value.int IntKind.i64 0))).length; simp; omega
    · subst hΩ
      show A.sl true 1 ((ys.take (0 + f) ++ List.replicate (xs.length - f) (A.sc (Value.int IntKind.i64 0))).take (f - 0)) = _
      rw [Nat.zero_add, Nat.sub_zero, List.take_append_of_le_length (by simp; omega), List.take_take, Nat.min_self, h4, hzs, hFn]
theorem c_those1 (g : Nat) (caps : List A) (b : Bool) (k : Int) (hro : ∀ S k, mapO (roO S (k + 4)) caps = some caps) (hf : PCtr PP (Fw.cloN g) (Fw.cloA g [i64 k] caps) (boo b)) : PCtr PP n_impl_those_1 [i64 k, .rp [.clo g caps]] (boo (!b)) := by
  obtain ⟨Ω, hΩ⟩ : ∃ Ω, Ω = std := ⟨_, rfl⟩
  have hrun : PCtr PP (Ω.cloN g) (Ω.cloA g [i64 k] caps) (boo b) := by subst hΩ; exact hf
  have htab := tab
  refine PCtr.walk tab hΩ fn_impl_those_1 rfl ?_
  generalize PP = P at *
  cbv
  refine call_pure hΩ 4 hrun (ro_cloA hΩ rfl (hro _ 0)) (fits _) rfl rfl ?_
  cbv
  exact .of (congrArg boo (by subst hΩ; rfl))
theorem c_those (s : List Int) (hs : s.length ≤ 1048576) (g : Nat) (caps : List A) (p : Int → Bool) (hf : CloB PP i64 s g caps p) : PCtr PP n_impl_those [.sl false 1 (s.map i64), .clo g caps] (ints (s.filter p)) := by
  obtain ⟨Ω, hΩ⟩ : ∃ Ω, Ω = std := ⟨_, rfl⟩
  have hcl := c_Clone s hs
  have hd := c_DeleteFunc s hs n_impl_those_1 [.rp [.clo g caps]] (fun x => !p x) ⟨fun S k => by rfl, rfl, fun _ => rfl, fun x hx => c_those1 g caps (p x) x hf.ro (hf.run x hx)⟩
  have hro := hf.ro
  have hcn := hf.no
  have hkl := hf.kl
  have hroF := roFInt s
  have hroZ := roFInt (s.filter p)
  rw [show (s.filter fun x => !!p x) = s.filter p by congr 1; funext x; simp] at hd
  unfold ints at hcl hd ⊢
  generalize s.map i64 = xs at *
  generalize (s.filter p).map i64 = zs at *
  have htab := tab
  refine PCtr.walk tab hΩ fn_impl_those rfl ?_
  generalize PP = P at *
  cbv
  refine call_pure hΩ 3 hcl rfl (fits _) hroF rfl ?_
  cbv
  refine call_eat2 (row := ⟨1, xs, false⟩) hΩ 8 hd rfl rfl (by subst hΩ; rfl) (ro_clo1 (mapOne (roPt (x := .clo g caps) (by show some (Row.mk 1 [A.clo g (killL 1 caps)] true) = _; rw [hkl]) (ro_clo1 (hro _ 1))))) (fits _) hroZ rfl ?_
  cbv
  refine ⟨⟨rfl, by subst hΩ; exact Nat.le_refl _⟩, .of ?_⟩
  subst hΩ
  show A.sl true 1 (zs.take zs.length) = _
  rw [List.take_length]
end Go.Proofs.YtljjcffnomdhhaaGreatDoor

/- Sets with a code. Plain theorems. -/
set_option linter.unusedVariables false
set_option linter.unusedSimpArgs false
namespace Go.Proofs.YtljjcffnomdhhaaGreatDoor
open Go Go.Fw
set_option maxRecDepth 100000
def Pck.zero : Pck := ⟨[], Ver.zero, 0, [], [], []⟩
def pk (c : List Pck) (k : Int) : Pck := c.getD k.toNat Pck.zero
theorem pk_at {c : List Pck} {k : Int} (h : inB k 0 ((c.length : Int) - 1) = true) : 0 ≤ k ∧ k.toNat < c.length ∧ c[k.toNat]? = some (pk c k) ∧ pk c k ∈ c := by
  unfold inB at h
  simp only [Bool.and_eq_true, decide_eq_true_eq] at h
  have hk : k.toNat < c.length := by omega
  refine ⟨h.1, hk, ?_, ?_⟩
  · rw [pk, List.getD_eq_getElem?_getD, List.getElem?_eq_getElem hk]; rfl
  · rw [pk, List.getD_eq_getElem?_getD, List.getElem?_eq_getElem hk]; exact List.getElem_mem hk
theorem setF_in {c : List Pck} {s : List Int} (h : setF c s = 0) : ∀ k ∈ s, inB k 0 ((c.length : Int) - 1) = true := by
  unfold setF at h
  split at h
  · rename_i h0; exact absurd h h0
  · split at h
    · rename_i h1
      rw [setOk_eq, Bool.and_eq_true] at h1
      exact List.all_eq_true.1 h1.2
    · simp at h
end Go.Proofs.YtljjcffnomdhhaaGreatDoor

/- Helpers of the walks. Plain theorems. -/
set_option linter.unusedVariables false
set_option linter.unusedSimpArgs false
namespace Go.Proofs.YtljjcffnomdhhaaGreatDoor
open Go Go.Fw
set_option maxRecDepth 100000
def fill {α : Type} (f : α → A) (z : A) (cs : List α) (i : Nat) : List A := (cs.take i).map f ++ List.replicate (cs.length - i) z
theorem fill_set {α : Type} {f : α → A} {z : A} {cs : List α} {i : Nat} {c : α} (hc : cs[i]? = some c) : (fill f z cs i).set i (f c) = fill f z cs (i + 1) := by
  have hi : i < cs.length := (List.getElem?_eq_some_iff.1 hc).1
  unfold fill
  rw [List.take_add_one, hc, List.map_append, List.set_append]
  have e : cs.length - i = (cs.length - (i + 1)) + 1 := by omega
  simp [e, List.replicate_succ, Nat.min_eq_left (Nat.le_of_lt hi)]
theorem fill_length {α : Type} {f : α → A} {z : A} {cs : List α} {i : Nat} (hi : i ≤ cs.length) : (fill f z cs i).length = cs.length := by simp [fill]; omega
theorem fill_all {α : Type} {f : α → A} {z : A} {cs : List α} {i : Nat} {p : A → Prop} (h1 : ∀ c, p (f c)) (h2 : p z) : ∀ y ∈ fill f z cs i, p y := by
  intro y hy
  rcases List.mem_append.1 hy with hy | hy
  · obtain ⟨c, _, rfl⟩ := List.mem_map.1 hy; exact h1 c
  · rw [(List.mem_replicate.1 hy).2]; exact h2
theorem fill_zero {α : Type} {f : α → A} {z : A} {cs : List α} : fill f z cs 0 = List.replicate cs.length z := by simp [fill]
theorem fill_full {α : Type} {f : α → A} {z : A} {cs : List α} : fill f z cs cs.length = cs.map f := by simp [fill]
theorem takeAll {Ω : Opq} (hΩ : Ω = std) (xs : List A) : Ω.take (Ω.len xs) xs = xs := by subst hΩ; exact List.take_length
theorem roFAll {n : Nat} {xs : List A} (h : ∀ x ∈ xs, roFree x = true) : roFree (.sl true n xs) = true := by rw [roFree_sl, Bool.true_and, List.all_eq_true]; exact h
theorem roFTs (l : List Trm) : roFree (encTs true l) = true := roFAll fun x hx => by obtain ⟨c, _, rfl⟩ := List.mem_map.1 hx; rfl
theorem roFP (o : Pck) : roFree (o.enc true) = true := by
  show roFree (.agg _) = true
  rw [roFree_agg]
  have h1 : roFree (.sl true 1 (o.p.map str)) = true := roFAll fun x hx => by obtain ⟨c, _, rfl⟩ := List.mem_map.1 hx; rfl
  have h2 : roFree (.sl true 1 (o.d.map (encTs true))) = true := roFAll fun x hx => by obtain ⟨c, _, rfl⟩ := List.mem_map.1 hx; exact roFTs c
  have h3 : roFree (.sl true 7 (o.b.map Trm.enc)) = true := roFTs o.b
  simp only [Pck.cells, List.all_cons, List.all_nil, h1, h2, h3]
  rfl
theorem roFPs (l : List Pck) : roFree (.sl true 8 (l.map (Pck.enc true))) = true := roFAll fun x hx => by obtain ⟨c, _, rfl⟩ := List.mem_map.1 hx; exact roFP c
theorem enc_own (o : Pck) : ∃ ps ds bs, o.enc true = .agg [str o.n, i64 o.v.a, i64 o.v.b, i64 o.v.c, i64 o.s, .sl true 1 ps, .sl true 1 ds, .sl true 7 bs] ∧ ps = o.p.map str ∧ ds = o.d.map (encTs true) ∧ bs = o.b.map Trm.enc := ⟨_, _, _, rfl, rfl, rfl, rfl⟩
theorem fitsE {k : Nat} {a b : List A} (h : a = b) : fitA.fitL k a b := h ▸ fits a
def psum {α : Type} (f : α → Nat) (d : List α) (i : Nat) : Nat := ((d.take i).map f).sum
theorem psum_const {α : Type} (m : Nat) (d : List α) : psum (fun _ => m) d d.length = m * d.length := by
  unfold psum
  rw [List.take_length]
  induction d with
  | nil => rfl
  | cons x d ih => simp only [List.map_cons, List.sum_cons, List.length_cons, ih]; rw [Nat.mul_succ]; omega
theorem mutVw {S : State} {r len n : Nat} {ys zs : List A} (hr : Fw.rowAt S.rows r = some ⟨n, ys, false⟩) (hl : len = ys.length) (hl' : zs.length = ys.length) : Mut S (.vw r 0 len) (.sl true n ys) (.sl true n zs) [(r, zs)] := .row hr rfl hl hl'
theorem ro_vw {S : State} {k r len n : Nat} {ys zs : List A} (hr : Fw.rowAt S.rows r = some ⟨n, ys, false⟩) (hl : len = ys.length) (hf : ys.map frz = zs) : roO S (k + 1) (.vw r 0 len) = some (.sl false n zs) := by
  simp only [roO, hr]
  rw [hl, List.drop_zero, List.take_length, hf]
  rfl
theorem mapO1 {f : A → Option A} {x x' : A} (h : f x = some x') : mapO f [x] = some [x'] := by simp [mapO, h]
theorem mapO2 {f : A → Option A} {x x' y y' : A} (h : f x = some x') (h2 : f y = some y') : mapO f [x, y] = some [x', y'] := by simp [mapO, h, h2]
theorem mapO3 {f : A → Option A} {x x' y y' z z' : A} (h : f x = some x') (h2 : f y = some y') (h3 : f z = some z') : mapO f [x, y, z] = some [x', y', z'] := by simp [mapO, h, h2, h3]
theorem frz_Pck (o : Pck) : frz (o.enc true) = o.enc false := by
  show frz (.agg _) = A.agg _
  rw [frz_agg]
  have h1 : (o.p.map str).map frz = o.p.map str := by rw [List.map_map]; exact List.map_congr_left fun c _ => rfl
  have h2 : (o.d.map (encTs true)).map frz = o.d.map (encTs false) := by
    rw [List.map_map]
    refine List.map_congr_left fun c _ => ?_
    show frz (A.sl true 7 _) = A.sl false 7 _
    rw [frz_sl, List.map_map]; rfl
  have h3 : (o.b.map Trm.enc).map frz = o.b.map Trm.enc := by rw [List.map_map]; exact List.map_congr_left fun c _ => rfl
  simp only [Pck.cells, List.map_cons, List.map_nil, frz_sl, h1, h2, h3]
  rfl
theorem frz_Pcks (l : List Pck) : (l.map (Pck.enc true)).map frz = l.map (Pck.enc false) := by rw [List.map_map]; exact List.map_congr_left fun c _ => frz_Pck c
theorem roF_I (l : List Int) : roFree (.sl true 1 (l.map i64)) = true := roFAll fun x hx => by obtain ⟨c, _, rfl⟩ := List.mem_map.1 hx; rfl
end Go.Proofs.YtljjcffnomdhhaaGreatDoor

/- Walks: sizes of packages. Plain theorems. -/
set_option linter.unusedVariables false
set_option linter.unusedSimpArgs false
namespace Go.Proofs.YtljjcffnomdhhaaGreatDoor
open Go Go.Fw
set_option maxRecDepth 100000
def szN (n : Nat) (l : Int) : Int := if l - n < 0 then -1 else l - n
def szT (t : Trm) (l : Int) : Int := szN t.n.length l
def szB (s : List UInt8) (l : Int) : Int := szN s.length l
def szP (o : Pck) (l : Int) : Int :=
  if szN o.n.length l < 0 then -1 else if szS szB o.p (szN o.n.length l) < 0 then -1 else
  if szS (szS szT) o.d (szS szB o.p (szN o.n.length l)) < 0 then -1 else
  if szS szT o.b (szS (szS szT) o.d (szS szB o.p (szN o.n.length l))) < 0 then -1 else szS szT o.b (szS (szS szT) o.d (szS szB o.p (szN o.n.length l)))
/-- What can stand in memory. -/
structure Pck.Fit (o : Pck) : Prop where
  n : o.n.length ≤ maxLen
  p : o.p.length ≤ maxLen ∧ ∀ s ∈ o.p, s.length ≤ maxLen
  d : o.d.length ≤ maxLen ∧ ∀ l ∈ o.d, l.length ≤ maxLen ∧ ∀ t ∈ l, t.n.length ≤ maxLen
  b : o.b.length ≤ maxLen ∧ ∀ t ∈ o.b, t.n.length ≤ maxLen
/-- f takes the cost g, or says -1. -/
def Costs {α : Type} (f : α → Int → Int) (g : α → Nat) : Prop := ∀ c l, f c l = if l - g c < 0 then -1 else l - g c
def costS {α : Type} (g : α → Nat) (cs : List α) : Nat := cs.length + (cs.map g).sum
theorem szLoop_cost {α : Type} {f : α → Int → Int} {g : α → Nat} (h : Costs f g) : ∀ (cs : List α) (l : Int), 0 ≤ l → szLoop f cs l = if l - (cs.map g).sum < 0 then -1 else l - (cs.map g).sum
  | [], l, h0 => by simp [szLoop]; omega
  | c :: cs, l, h0 => by
    rw [szLoop, h c l, List.map_cons, List.sum_cons]
    by_cases h1 : l - g c < 0
    · rw [if_pos h1, if_pos (by omega), if_pos (by omega)]
    · rw [if_neg h1, if_neg h1, szLoop_cost h cs _ (by omega)]
      by_cases h2 : l - g c - (cs.map g).sum < 0
      · rw [if_pos h2, if_pos (by omega)]
      · rw [if_neg h2, if_neg (by omega)]; omega
theorem szS_cost {α : Type} {f : α → Int → Int} {g : α → Nat} (h : Costs f g) : Costs (szS f) (costS g) := fun cs l => by
  unfold szS costS
  by_cases h1 : l - cs.length < 0
  · rw [if_pos h1, if_pos (by omega)]
  · rw [if_neg h1, szLoop_cost h cs _ (by omega)]
    by_cases h2 : l - cs.length - (cs.map g).sum < 0
    · rw [if_pos h2, if_pos (by omega)]
    · rw [if_neg h2, if_neg (by omega)]; omega
def cT (t : Trm) : Nat := t.n.length
def cB (s : List UInt8) : Nat := s.length
def cP (o : Pck) : Nat := o.n.length + (costS cB o.p + (costS (costS cT) o.d + costS cT o.b))
theorem szT_cost : Costs szT cT := fun _ _ => rfl
theorem szB_cost : Costs szB cB := fun _ _ => rfl
theorem szP_cost : Costs szP cP := fun o l => by
  unfold szP cP
  rw [show szN o.n.length l = if l - o.n.length < 0 then -1 else l - o.n.length from rfl, szS_cost (szS_cost szT_cost) o.d, szS_cost szT_cost o.b, szS_cost szB_cost o.p]
  generalize costS cB o.p = a
  generalize costS (costS cT) o.d = b
  generalize costS cT o.b = c
  generalize o.n.length = d
  repeat' split
  all_goals omega
theorem len_cost {α : Type} (g : α → Nat) (cs : List α) : cs.length ≤ costS g cs := by unfold costS; omega
theorem mem_cost {α : Type} (g : α → Nat) : ∀ (cs : List α), ∀ c ∈ cs, g c ≤ costS g cs
  | x :: cs, c, h => by
    unfold costS
    rw [List.map_cons, List.sum_cons, List.length_cons]
    rcases List.mem_cons.1 h with rfl | h
    · omega
    · have := mem_cost g cs c h; unfold costS at this; omega
theorem small_of {o : Pck} (h : cP o ≤ 1048576) : o.Small := by
  unfold cP at h
  refine ⟨?_, ?_, ?_, fun l hl => ?_⟩
  · have := len_cost cB o.p; omega
  · have := len_cost (costS cT) o.d; omega
  · have := len_cost cT o.b; omega
  · have h1 := mem_cost (costS cT) o.d l hl
    have h2 := len_cost cT l
    omega
theorem szN_w {n : Nat} {l : Int} (h0 : 0 ≤ l) (h1 : l ≤ 1048576) (hm : n ≤ maxLen) : IntKind.i64.wrap (l - n) = l - n := szw h0 h1 hm
theorem c_szTerm (t : Trm) (l : Int) (h0 : 0 ≤ l) (h1 : l ≤ 1048576) (hm : t.n.length ≤ maxLen) : PCtr PP n_laws_szTerm [t.enc, i64 l] (i64 (szT t l)) := by
  obtain ⟨Ω, hΩ⟩ : ∃ Ω, Ω = std := ⟨_, rfl⟩
  obtain ⟨r, hr⟩ : ∃ r, r = szT t l := ⟨_, rfl⟩
  rw [← hr]
  unfold szT szN at hr
  have hw := szN_w h0 h1 hm
  have htab := tab
  refine PCtr.walk tab hΩ fn_laws_szTerm rfl ?_
  generalize PP = P at *
  cbv
  refine br (fun h => ?_) (fun h => ?_) <;> cbv
  · refine .of (congrArg i64 ?_)
    subst hΩ
    have h : IntKind.i64.wrap (l - t.n.length) < 0 := lt_t h
    rw [hw] at h
    rw [hr, if_pos h]
  · refine .of (congrArg i64 ?_)
    subst hΩ
    have h : 0 ≤ IntKind.i64.wrap (l - t.n.length) := lt_f h
    show IntKind.i64.wrap (l - t.n.length) = r
    rw [hw] at h ⊢
    rw [hr, if_neg (by omega)]
theorem c_szTermS (cs : List (Trm)) (l : Int) (h0 : 0 ≤ l) (h1 : l ≤ 1048576) (hm : cs.length ≤ maxLen) (hc : ∀ c ∈ cs, c.n.length ≤ maxLen) : PCtr PP n_laws_szTermS [.sl false 7 (cs.map (Trm.enc)), i64 l] (i64 (szS szT cs l)) := by
  obtain ⟨Ω, hΩ⟩ : ∃ Ω, Ω = std := ⟨_, rfl⟩
  obtain ⟨r, hr⟩ : ∃ r, r = szS szT cs l := ⟨_, rfl⟩
  obtain ⟨xs, hxs⟩ : ∃ xs, xs = cs.map (Trm.enc) := ⟨_, rfl⟩
  have hlen : xs.length = cs.length := by rw [hxs, List.length_map]
  rw [← hxs, ← hr]
  have hel : ∀ c ∈ cs, ∀ y, 0 ≤ y → y ≤ 1048576 → PCtr PP n_laws_szTerm [c.enc, i64 y] (i64 (szT c y)) := fun c h y a b => c_szTerm c y a b (hc c h)
  have hle : ∀ c y, 0 ≤ szT c y → szT c y ≤ y := fun c y h => by
    have h2 := szT_cost c y
    rw [h2] at h ⊢
    split at h
    · omega
    · rename_i h3; rw [if_neg h3]; omega
  have htab := tab
  refine PCtr.walk tab hΩ fn_laws_szTermS rfl ?_
  generalize PP = P at *
  cbv
  refine br (fun h => ?_) (fun h => ?_)
  · replace h : r = -1 := by
      subst hΩ
      have h : IntKind.i64.wrap (l - xs.length) < 0 := lt_t h
      rw [hlen, szw h0 h1 hm] at h
      rw [hr, szS, if_pos h]
    cbv
    exact .of (congrArg i64 h.symm)
  obtain ⟨l', hl', h, hr⟩ : ∃ l', IntKind.i64.wrap (l - xs.length) = l' ∧ (0 ≤ l' ∧ l' ≤ 1048576) ∧ r = szLoop szT cs l' := by
    subst hΩ
    have h : 0 ≤ IntKind.i64.wrap (l - xs.length) := lt_f h
    rw [hlen, szw h0 h1 hm] at h ⊢
    exact ⟨_, rfl, ⟨h, by omega⟩, by rw [hr, szS, if_neg (by omega)]⟩
  cbv
  refine loopX htab hΩ (fun i : Nat × Int => ⟨[(0, .sl false 7 xs), (1, .sc (.int .i64 i.2)), (5, .sc (.int .i64 (Ω.int i.1)))], 27, []⟩) (fun i => i.1 ≤ cs.length ∧ (0 ≤ i.2 ∧ i.2 ≤ 1048576) ∧ r = szLoop szT (cs.drop i.1) i.2)
    (fun i => cs.length - i.1) (0, l') ⟨Nat.zero_le _, h, hr⟩ (Sbs.mk rfl rfl ⟨rfl, by subst hΩ; exact congrArg i64 hl', zeroI hΩ, trivial⟩) ?_
  rintro ⟨i, y⟩ ⟨hi, hy, he⟩
  dsimp only at hi hy he
  cbv
  refine br (fun h => ?_) (fun h => ?_)
  · replace h := ltI hΩ h
    obtain ⟨c, hcc⟩ := at_of (cs := cs) (by omega : i < cs.length)
    have hcm := List.mem_of_getElem? hcc
    rw [szLoop_at _ hcc] at he
    cbv
    have hcc' := hel c hcm y hy.1 hy.2
    refine ⟨⟨nnI hΩ⟩, _, rdI hΩ hxs hcc, ?_⟩
    cbv
    have hley := hle c y
    generalize szT c y = y' at he hcc' hley
    refine call_pure hΩ 3 hcc' rfl (fits _) rfl rfl ?_
    cbv
    refine br (fun h => ?_) (fun h => ?_) <;> cbv
    · exact .of (congrArg i64 (by rw [he, if_pos (ltI_t hΩ h)]))
    · have h := ltI_f hΩ h
      exact ⟨(i + 1, y'), ⟨by dsimp only; omega, ⟨h, by have := hley h; dsimp only; omega⟩, by rw [he, if_neg (by omega)]⟩, by dsimp only; omega, Sbs.mk rfl rfl ⟨rfl, rfl, incI hΩ (by simp only [maxLen] at hm; omega), trivial⟩⟩
  · replace h := geI hΩ h
    cbv
    exact .of (congrArg i64 (by rw [he, List.drop_of_length_le (by omega)]; rfl))
theorem c_szTermSS (cs : List (List Trm)) (l : Int) (h0 : 0 ≤ l) (h1 : l ≤ 1048576) (hm : cs.length ≤ maxLen) (hc : ∀ c ∈ cs, c.length ≤ maxLen ∧ ∀ t ∈ c, t.n.length ≤ maxLen) : PCtr PP n_laws_szTermSS [.sl false 1 (cs.map (encTs false)), i64 l] (i64 (szS (szS szT) cs l)) := by
  obtain ⟨Ω, hΩ⟩ : ∃ Ω, Ω = std := ⟨_, rfl⟩
  obtain ⟨r, hr⟩ : ∃ r, r = szS (szS szT) cs l := ⟨_, rfl⟩
  obtain ⟨xs, hxs⟩ : ∃ xs, xs = cs.map (encTs false) := ⟨_, rfl⟩
  have hlen : xs.length = cs.length := by rw [hxs, List.length_map]
  rw [← hxs, ← hr]
  have hel : ∀ c ∈ cs, ∀ y, 0 ≤ y → y ≤ 1048576 → PCtr PP n_laws_szTermS [.sl false 7 (c.map Trm.enc), i64 y] (i64 (szS szT c y)) := fun c h y a b => c_szTermS c y a b (hc c h).1 (hc c h).2
  have hle : ∀ c y, 0 ≤ (szS szT) c y → (szS szT) c y ≤ y := fun c y h => by
    have h2 := (szS_cost szT_cost) c y
    rw [h2] at h ⊢
    split at h
    · omega
    · rename_i h3; rw [if_neg h3]; omega
  have htab := tab
  refine PCtr.walk tab hΩ fn_laws_szTermSS rfl ?_
  generalize PP = P at *
  cbv
  refine br (fun h => ?_) (fun h => ?_)
  · replace h : r = -1 := by
      subst hΩ
      have h : IntKind.i64.wrap (l - xs.length) < 0 := lt_t h
      rw [hlen, szw h0 h1 hm] at h
      rw [hr, szS, if_pos h]
    cbv
    exact .of (congrArg i64 h.symm)
  obtain ⟨l', hl', h, hr⟩ : ∃ l', IntKind.i64.wrap (l - xs.length) = l' ∧ (0 ≤ l' ∧ l' ≤ 1048576) ∧ r = szLoop (szS szT) cs l' := by
    subst hΩ
    have h : 0 ≤ IntKind.i64.wrap (l - xs.length) := lt_f h
    rw [hlen, szw h0 h1 hm] at h ⊢
    exact ⟨_, rfl, ⟨h, by omega⟩, by rw [hr, szS, if_neg (by omega)]⟩
  cbv
  refine loopX htab hΩ (fun i : Nat × Int => ⟨[(0, .sl false 1 xs), (1, .sc (.int .i64 i.2)), (5, .sc (.int .i64 (Ω.int i.1)))], 27, []⟩) (fun i => i.1 ≤ cs.length ∧ (0 ≤ i.2 ∧ i.2 ≤ 1048576) ∧ r = szLoop (szS szT) (cs.drop i.1) i.2)
    (fun i => cs.length - i.1) (0, l') ⟨Nat.zero_le _, h, hr⟩ (Sbs.mk rfl rfl ⟨rfl, by subst hΩ; exact congrArg i64 hl', zeroI hΩ, trivial⟩) ?_
  rintro ⟨i, y⟩ ⟨hi, hy, he⟩
  dsimp only at hi hy he
  cbv
  refine br (fun h => ?_) (fun h => ?_)
  · replace h := ltI hΩ h
    obtain ⟨c, hcc⟩ := at_of (cs := cs) (by omega : i < cs.length)
    have hcm := List.mem_of_getElem? hcc
    rw [szLoop_at _ hcc] at he
    cbv
    have hcc' := hel c hcm y hy.1 hy.2
    obtain ⟨ts, hen2, hts⟩ : ∃ ts, encTs false c = .sl false 7 ts ∧ ts = c.map Trm.enc := ⟨_, rfl, rfl⟩
    rw [← hts] at hcc'
    refine ⟨⟨nnI hΩ⟩, _, (rdI hΩ hxs hcc).trans (congrArg some hen2), ?_⟩
    cbv
    have hley := hle c y
    generalize szS szT c y = y' at he hcc' hley
    refine call_pure hΩ 3 hcc' rfl (fits _) rfl rfl ?_
    cbv
    refine br (fun h => ?_) (fun h => ?_) <;> cbv
    · exact .of (congrArg i64 (by rw [he, if_pos (ltI_t hΩ h)]))
    · have h := ltI_f hΩ h
      exact ⟨(i + 1, y'), ⟨by dsimp only; omega, ⟨h, by have := hley h; dsimp only; omega⟩, by rw [he, if_neg (by omega)]⟩, by dsimp only; omega, Sbs.mk rfl rfl ⟨rfl, rfl, incI hΩ (by simp only [maxLen] at hm; omega), trivial⟩⟩
  · replace h := geI hΩ h
    cbv
    exact .of (congrArg i64 (by rw [he, List.drop_of_length_le (by omega)]; rfl))
theorem c_szStringS (cs : List (List UInt8)) (l : Int) (h0 : 0 ≤ l) (h1 : l ≤ 1048576) (hm : cs.length ≤ maxLen) (hc : ∀ c ∈ cs, c.length ≤ maxLen) : PCtr PP n_laws_szStringS [.sl false 1 (cs.map (str)), i64 l] (i64 (szS szB cs l)) := by
  obtain ⟨Ω, hΩ⟩ : ∃ Ω, Ω = std := ⟨_, rfl⟩
  obtain ⟨r, hr⟩ : ∃ r, r = szS szB cs l := ⟨_, rfl⟩
  obtain ⟨xs, hxs⟩ : ∃ xs, xs = cs.map (str) := ⟨_, rfl⟩
  have hlen : xs.length = cs.length := by rw [hxs, List.length_map]
  rw [← hxs, ← hr]
  have hel : ∀ c ∈ cs, ∀ y, 0 ≤ y → y ≤ 1048576 → True := fun _ _ _ _ _ => trivial
  have hle : ∀ c y, 0 ≤ szB c y → szB c y ≤ y := fun c y h => by
    have h2 := szB_cost c y
    rw [h2] at h ⊢
    split at h
    · omega
    · rename_i h3; rw [if_neg h3]; omega
  have htab := tab
  refine PCtr.walk tab hΩ fn_laws_szStringS rfl ?_
  generalize PP = P at *
  cbv
  refine br (fun h => ?_) (fun h => ?_)
  · replace h : r = -1 := by
      subst hΩ
      have h : IntKind.i64.wrap (l - xs.length) < 0 := lt_t h
      rw [hlen, szw h0 h1 hm] at h
      rw [hr, szS, if_pos h]
    cbv
    exact .of (congrArg i64 h.symm)
  obtain ⟨l', hl', h, hr⟩ : ∃ l', IntKind.i64.wrap (l - xs.length) = l' ∧ (0 ≤ l' ∧ l' ≤ 1048576) ∧ r = szLoop szB cs l' := by
    subst hΩ
    have h : 0 ≤ IntKind.i64.wrap (l - xs.length) := lt_f h
    rw [hlen, szw h0 h1 hm] at h ⊢
    exact ⟨_, rfl, ⟨h, by omega⟩, by rw [hr, szS, if_neg (by omega)]⟩
  cbv
  refine loopX htab hΩ (fun i : Nat × Int => ⟨[(0, .sl false 1 xs), (1, .sc (.int .i64 i.2)), (5, .sc (.int .i64 (Ω.int i.1)))], 28, []⟩) (fun i => i.1 ≤ cs.length ∧ (0 ≤ i.2 ∧ i.2 ≤ 1048576) ∧ r = szLoop szB (cs.drop i.1) i.2)
    (fun i => cs.length - i.1) (0, l') ⟨Nat.zero_le _, h, hr⟩ (Sbs.mk rfl rfl ⟨rfl, by subst hΩ; exact congrArg i64 hl', zeroI hΩ, trivial⟩) ?_
  rintro ⟨i, y⟩ ⟨hi, hy, he⟩
  dsimp only at hi hy he
  cbv
  refine br (fun h => ?_) (fun h => ?_)
  · replace h := ltI hΩ h
    obtain ⟨c, hcc⟩ := at_of (cs := cs) (by omega : i < cs.length)
    have hcm := List.mem_of_getElem? hcc
    rw [szLoop_at _ hcc] at he
    cbv
    obtain ⟨nc, hnc⟩ : ∃ nc : Int, (c.length : Int) = nc := ⟨_, rfl⟩
    have hn0 : 0 ≤ nc := by omega
    have hcw : IntKind.i64.wrap (y - nc) = y - nc := by rw [← hnc]; exact szw hy.1 hy.2 (hc c hcm)
    rw [show szB c y = if y - c.length < 0 then -1 else y - c.length from rfl, hnc] at he
    have hst : Ω.ar .sub .i64 y (Ω.int (Ω.lenS c)) = IntKind.i64.wrap (y - nc) := by subst hΩ; rw [← hnc]; rfl
    rw [hcw] at hst
    refine ⟨⟨nnI hΩ⟩, _, rdI hΩ hxs hcc, ?_⟩
    cbv
    refine br (fun h => ?_) (fun h => ?_) <;> cbv
    · refine .of (congrArg i64 ?_)
      have h : y - nc < 0 := by rw [← hst]; exact ltI_t hΩ h
      rw [he, if_pos h, if_pos (by omega)]
    · have h2 : 0 ≤ y - nc := by rw [← hst]; exact ltI_f hΩ h
      rw [if_neg (by omega), if_neg (by omega)] at he
      exact ⟨(i + 1, y - nc), ⟨by dsimp only; omega, ⟨h2, by dsimp only; omega⟩, he⟩, by dsimp only; omega, Sbs.mk rfl rfl ⟨rfl, congrArg i64 hst, incI hΩ (by simp only [maxLen] at hm; omega), trivial⟩⟩
  · replace h := geI hΩ h
    cbv
    exact .of (congrArg i64 (by rw [he, List.drop_of_length_le (by omega)]; rfl))
theorem c_szPack (o : Pck) (l : Int) (h0 : 0 ≤ l) (h1 : l ≤ 1048576) (hm : o.Fit) : PCtr PP n_laws_szPack [o.enc false, i64 l] (i64 (szP o l)) := by
  obtain ⟨Ω, hΩ⟩ : ∃ Ω, Ω = std := ⟨_, rfl⟩
  obtain ⟨r, hr⟩ : ∃ r, r = szP o l := ⟨_, rfl⟩
  rw [← hr]
  obtain ⟨ps, ds, bs, hen, hps, hds, hbs⟩ := enc_raw o
  rw [hen]
  have hw := szN_w h0 h1 hm.n
  have k1 : ∀ l, 0 ≤ l → l ≤ 1048576 → PCtr PP n_laws_szStringS [.sl false 1 ps, i64 l] (i64 (szS szB o.p l)) := fun l a b => by rw [hps]; exact c_szStringS o.p l a b hm.p.1 hm.p.2
  have k2 : ∀ l, 0 ≤ l → l ≤ 1048576 → PCtr PP n_laws_szTermSS [.sl false 1 ds, i64 l] (i64 (szS (szS szT) o.d l)) := fun l a b => by rw [hds]; exact c_szTermSS o.d l a b hm.d.1 hm.d.2
  have k3 : ∀ l, 0 ≤ l → l ≤ 1048576 → PCtr PP n_laws_szTermS [.sl false 7 bs, i64 l] (i64 (szS szT o.b l)) := fun l a b => by rw [hbs]; exact c_szTermS o.b l a b hm.b.1 hm.b.2
  have g1 : ∀ l, 0 ≤ szS szB o.p l → szS szB o.p l ≤ l := fun l h => by have := szS_cost szB_cost o.p l; split at this <;> omega
  have g2 : ∀ l, 0 ≤ szS (szS szT) o.d l → szS (szS szT) o.d l ≤ l := fun l h => by have := szS_cost (szS_cost szT_cost) o.d l; split at this <;> omega
  unfold szP at hr
  obtain ⟨nc, hnc⟩ : ∃ nc : Int, (o.n.length : Int) = nc := ⟨_, rfl⟩
  have hn0 : 0 ≤ nc := by omega
  rw [show szN o.n.length l = if l - o.n.length < 0 then -1 else l - o.n.length from rfl, hnc] at hr
  have hst : Ω.ar .sub .i64 l (Ω.int (Ω.lenS o.n)) = IntKind.i64.wrap (l - nc) := by subst hΩ; rw [← hnc]; rfl
  rw [hnc] at hw
  rw [hw] at hst
  generalize szS szB o.p = f1 at *
  generalize szS (szS szT) o.d = f2 at *
  generalize szS szT o.b = f3 at *
  have htab := tab
  refine PCtr.walk tab hΩ fn_laws_szPack rfl ?_
  generalize PP = P at *
  cbv
  refine br (fun h => ?_) (fun h => ?_) <;> cbv
  · refine .of (congrArg i64 ?_)
    have h : l - nc < 0 := by rw [← hst]; exact ltI_t hΩ h
    rw [hr, if_pos h]; rfl
  obtain ⟨l1, hl1, q0, q1, hr⟩ : ∃ l1, Ω.ar .sub .i64 l (Ω.int (Ω.lenS o.n)) = l1 ∧ 0 ≤ l1 ∧ l1 ≤ 1048576 ∧ r = if f1 l1 < 0 then -1 else if f2 (f1 l1) < 0 then -1 else if f3 (f2 (f1 l1)) < 0 then -1 else f3 (f2 (f1 l1)) := by
    have h : 0 ≤ l - nc := by rw [← hst]; exact ltI_f hΩ h
    have e : (if l - nc < 0 then -1 else l - nc) = l - nc := if_neg (by omega)
    refine ⟨l - nc, hst, h, by omega, ?_⟩
    rw [hr]
    simp only [e]
    rw [if_neg (by omega)]
  have k1' : PCtr P n_laws_szStringS [.sl false 1 ps, i64 (Ω.ar .sub .i64 l (Ω.int (Ω.lenS o.n)))] (i64 (f1 l1)) := by rw [hl1]; exact k1 l1 q0 q1
  have gg1 := g1 l1
  generalize f1 l1 = a1 at *
  refine call_pure hΩ 3 k1' rfl (fits _) rfl rfl ?_
  cbv
  refine br (fun h => ?_) (fun h => ?_) <;> cbv
  · exact .of (congrArg i64 (by rw [hr, if_pos (ltI_t hΩ h)]))
  have h := ltI_f hΩ h
  rw [if_neg (by omega)] at hr
  have k2' := k2 a1 h (by have := gg1 h; omega)
  have gg2 := g2 a1
  generalize f2 a1 = a2 at *
  refine call_pure hΩ 3 k2' rfl (fits _) rfl rfl ?_
  cbv
  refine br (fun h => ?_) (fun h => ?_) <;> cbv
  · exact .of (congrArg i64 (by rw [hr, if_pos (ltI_t hΩ h)]))
  have h' := ltI_f hΩ h
  rw [if_neg (by omega)] at hr
  have k3' := k3 a2 h' (by have := gg1 (by assumption); have := gg2 h'; omega)
  generalize f3 a2 = a3 at *
  refine call_pure hΩ 3 k3' rfl (fits _) rfl rfl ?_
  cbv
  refine br (fun h => ?_) (fun h => ?_) <;> cbv
  · exact .of (congrArg i64 (by rw [hr, if_pos (ltI_t hΩ h)]))
  have h3 := ltI_f hΩ h
  rw [if_neg (by omega)] at hr
  exact .of (congrArg i64 hr.symm)
theorem c_szPackS (cs : List (Pck)) (l : Int) (h0 : 0 ≤ l) (h1 : l ≤ 1048576) (hm : cs.length ≤ maxLen) (hc : ∀ c ∈ cs, c.Fit) : PCtr PP n_laws_szPackS [.sl false 8 (cs.map (Pck.enc false)), i64 l] (i64 (szS szP cs l)) := by
  obtain ⟨Ω, hΩ⟩ : ∃ Ω, Ω = std := ⟨_, rfl⟩
  obtain ⟨r, hr⟩ : ∃ r, r = szS szP cs l := ⟨_, rfl⟩
  obtain ⟨xs, hxs⟩ : ∃ xs, xs = cs.map (Pck.enc false) := ⟨_, rfl⟩
  have hlen : xs.length = cs.length := by rw [hxs, List.length_map]
  rw [← hxs, ← hr]
  have hel : ∀ c ∈ cs, ∀ y, 0 ≤ y → y ≤ 1048576 → PCtr PP n_laws_szPack [Pck.enc false c, i64 y] (i64 (szP c y)) := fun c h y a b => c_szPack c y a b (hc c h)
  have hle : ∀ c y, 0 ≤ szP c y → szP c y ≤ y := fun c y h => by
    have h2 := szP_cost c y
    rw [h2] at h ⊢
    split at h
    · omega
    · rename_i h3; rw [if_neg h3]; omega
  have htab := tab
  refine PCtr.walk tab hΩ fn_laws_szPackS rfl ?_
  generalize PP = P at *
  cbv
  refine br (fun h => ?_) (fun h => ?_)
  · replace h : r = -1 := by
      subst hΩ
      have h : IntKind.i64.wrap (l - xs.length) < 0 := lt_t h
      rw [hlen, szw h0 h1 hm] at h
      rw [hr, szS, if_pos h]
    cbv
    exact .of (congrArg i64 h.symm)
  obtain ⟨l', hl', h, hr⟩ : ∃ l', IntKind.i64.wrap (l - xs.length) = l' ∧ (0 ≤ l' ∧ l' ≤ 1048576) ∧ r = szLoop szP cs l' := by
    subst hΩ
    have h : 0 ≤ IntKind.i64.wrap (l - xs.length) := lt_f h
    rw [hlen, szw h0 h1 hm] at h ⊢
    exact ⟨_, rfl, ⟨h, by omega⟩, by rw [hr, szS, if_neg (by omega)]⟩
  cbv
  refine loopX htab hΩ (fun i : Nat × Int => ⟨[(0, .sl false 8 xs), (1, .sc (.int .i64 i.2)), (5, .sc (.int .i64 (Ω.int i.1)))], 27, []⟩) (fun i => i.1 ≤ cs.length ∧ (0 ≤ i.2 ∧ i.2 ≤ 1048576) ∧ r = szLoop szP (cs.drop i.1) i.2)
    (fun i => cs.length - i.1) (0, l') ⟨Nat.zero_le _, h, hr⟩ (Sbs.mk rfl rfl ⟨rfl, by subst hΩ; exact congrArg i64 hl', zeroI hΩ, trivial⟩) ?_
  rintro ⟨i, y⟩ ⟨hi, hy, he⟩
  dsimp only at hi hy he
  cbv
  refine br (fun h => ?_) (fun h => ?_)
  · replace h := ltI hΩ h
    obtain ⟨c, hcc⟩ := at_of (cs := cs) (by omega : i < cs.length)
    have hcm := List.mem_of_getElem? hcc
    rw [szLoop_at _ hcc] at he
    cbv
    have hcc' := hel c hcm y hy.1 hy.2
    obtain ⟨ps, ds, bs, hen, hps, hds, hbs⟩ := enc_raw c
    rw [hen] at hcc'
    refine ⟨⟨nnI hΩ⟩, _, (rdI hΩ hxs hcc).trans (congrArg some hen), ?_⟩
    cbv
    have hley := hle c y
    generalize szP c y = y' at he hcc' hley
    refine call_pure hΩ 3 hcc' rfl (fits _) rfl rfl ?_
    cbv
    refine br (fun h => ?_) (fun h => ?_) <;> cbv
    · exact .of (congrArg i64 (by rw [he, if_pos (ltI_t hΩ h)]))
    · have h := ltI_f hΩ h
      exact ⟨(i + 1, y'), ⟨by dsimp only; omega, ⟨h, by have := hley h; dsimp only; omega⟩, by rw [he, if_neg (by omega)]⟩, by dsimp only; omega, Sbs.mk rfl rfl ⟨rfl, rfl, incI hΩ (by simp only [maxLen] at hm; omega), trivial⟩⟩
  · replace h := geI hΩ h
    cbv
    exact .of (congrArg i64 (by rw [he, List.drop_of_length_le (by omega)]; rfl))
end Go.Proofs.YtljjcffnomdhhaaGreatDoor

/- Walks: copies. Plain theorems. -/
set_option linter.unusedVariables false
set_option linter.unusedSimpArgs false
namespace Go.Proofs.YtljjcffnomdhhaaGreatDoor
open Go Go.Fw
set_option maxRecDepth 100000
/-- A slice that is filled from the left. -/
theorem c_toVersion (v : Ver) : PCtr PP n_laws_toVersion [v.enc] v.enc := by
  obtain ⟨Ω, hΩ⟩ : ∃ Ω, Ω = std := ⟨_, rfl⟩
  refine PCtr.walk tab hΩ fn_laws_toVersion rfl ?_
  generalize PP = P
  cbv
  exact .same
theorem c_toTerm (t : Trm) : PCtr PP n_laws_toTerm [t.enc] t.enc := by
  obtain ⟨Ω, hΩ⟩ : ∃ Ω, Ω = std := ⟨_, rfl⟩
  have hc := c_toVersion
  refine PCtr.walk tab hΩ fn_laws_toTerm rfl ?_
  generalize PP = P at *
  cbv
  refine call_pure hΩ 3 (hc t.l) rfl (fits _) rfl rfl ?_
  cbv
  refine call_pure hΩ 3 (hc t.h) rfl (fits _) rfl rfl ?_
  cbv
  exact .same
theorem c_toStringS (cs : List (List UInt8)) (hb : cs.length ≤ 1048576) : PCtr PP n_laws_toStringS [.sl false 1 (cs.map (str))] (.sl true 1 (cs.map (str))) := by
  obtain ⟨Ω, hΩ⟩ : ∃ Ω, Ω = std := ⟨_, rfl⟩
  obtain ⟨xs, hxs⟩ : ∃ xs, xs = cs.map (str) := ⟨_, rfl⟩
  obtain ⟨zs, hzs⟩ : ∃ zs, zs = cs.map (str) := ⟨_, rfl⟩
  obtain ⟨n, hn⟩ : ∃ n, n = cs.length := ⟨_, rfl⟩
  have hlen : xs.length = n := by rw [hxs, hn, List.length_map]
  obtain ⟨ys, hys⟩ : ∃ ys : Nat → List A, ys = fill (str) (str []) cs := ⟨_, rfl⟩
  have hyl : ∀ i, i ≤ n → (ys i).length = n := fun i hi => by rw [hys, hn]; exact fill_length (by omega)
  have hya : ∀ i, ∀ z ∈ ys i, vStore.isAggA z = false := fun i => by rw [hys]; exact fill_all (fun _ => rfl) rfl
  have hy0 : List.replicate n (str []) = ys 0 := by rw [hys, fill_zero, hn]
  have hyn : ys n = zs := by rw [hys, hn, fill_full, hzs]
  have hyset : ∀ i c, cs[i]? = some c → (ys i).set i ((str) c) = ys (i + 1) := fun i c h => by rw [hys]; exact fill_set h
  clear hys
  rw [← hxs]
  rw [show A.sl true 1 xs = .sl true 1 zs by rw [hzs, hxs]]
  refine PCtr.walk tab hΩ fn_laws_toStringS rfl ?_
  have htab := tab
  have hmo := hmo
  generalize PP = P at *
  cbv
  refine ⟨⟨by subst hΩ; show _ ∧ (0 : Int) ≤ xs.length ∧ 16 * ((xs.length : Int).toNat) ≤ _ ∧ (xs.length : Int).toNat ≤ 9223372036854775807; rw [hlen]; refine ⟨rfl, ?_, ?_, ?_⟩ <;> omega⟩,
    loopX htab hΩ (fun i : Nat => ⟨[(0, .sl false 1 xs), (3, .vw 0 0 n), (4, .sc (.int .i64 (Ω.int i)))], 22, [some ⟨1, ys i, false⟩]⟩) (fun i => i ≤ n) (fun i => n - i) 0 (Nat.zero_le _) (Sbs.mk rfl ?_ ?_) (fun i hi => ?_)⟩
  · rw [← hy0]; subst hΩ; subst hlen; rfl
  · subst hΩ; subst hlen; exact ⟨rfl, rfl, rfl, trivial⟩
  have hyli := hyl i hi
  have hyai := hya i
  cbv
  refine br (fun h => ?_) (fun h => ?_)
  · replace h : i < n := by have := ltI hΩ h; omega
    obtain ⟨c, hcc⟩ := at_of (cs := cs) (by omega : i < cs.length)
    have hset := hyset i c hcc
    cbv
    refine ⟨⟨nnI hΩ⟩, _, rdI hΩ hxs hcc, ?_⟩
    cbv
    refine ⟨⟨ixI hΩ h⟩, ⟨by subst hΩ; show 0 + i < _; rw [hyli]; omega, hyai⟩, i + 1, by omega, by omega, Sbs.mk rfl (by rw [← hset]; subst hΩ; show [some (Row.mk 1 ((ys i).set (0 + i) _) false)] = _; rw [Nat.zero_add]; rfl) ⟨rfl, rfl, incI hΩ (by omega), trivial⟩⟩
  · replace h : i = n := by have := geI hΩ h; omega
    subst h
    cbv
    refine ⟨⟨rfl, by show i ≤ (ys i).length; omega⟩, .of ?_⟩
    rw [← hyn]
    subst hΩ
    show A.sl true 1 ((ys i).take i) = _
    rw [List.take_of_length_le (by omega)]
theorem c_toInt64S (cs : List (Int)) (hb : cs.length ≤ 1048576) : PCtr PP n_laws_toInt64S [.sl false 1 (cs.map (i64))] (.sl true 1 (cs.map (i64))) := by
  obtain ⟨Ω, hΩ⟩ : ∃ Ω, Ω = std := ⟨_, rfl⟩
  obtain ⟨xs, hxs⟩ : ∃ xs, xs = cs.map (i64) := ⟨_, rfl⟩
  obtain ⟨zs, hzs⟩ : ∃ zs, zs = cs.map (i64) := ⟨_, rfl⟩
  obtain ⟨n, hn⟩ : ∃ n, n = cs.length := ⟨_, rfl⟩
  have hlen : xs.length = n := by rw [hxs, hn, List.length_map]
  obtain ⟨ys, hys⟩ : ∃ ys : Nat → List A, ys = fill (i64) (i64 0) cs := ⟨_, rfl⟩
  have hyl : ∀ i, i ≤ n → (ys i).length = n := fun i hi => by rw [hys, hn]; exact fill_length (by omega)
  have hya : ∀ i, ∀ z ∈ ys i, vStore.isAggA z = false := fun i => by rw [hys]; exact fill_all (fun _ => rfl) rfl
  have hy0 : List.replicate n (i64 0) = ys 0 := by rw [hys, fill_zero, hn]
  have hyn : ys n = zs := by rw [hys, hn, fill_full, hzs]
  have hyset : ∀ i c, cs[i]? = some c → (ys i).set i ((i64) c) = ys (i + 1) := fun i c h => by rw [hys]; exact fill_set h
  clear hys
  rw [← hxs]
  rw [show A.sl true 1 xs = .sl true 1 zs by rw [hzs, hxs]]
  refine PCtr.walk tab hΩ fn_laws_toInt64S rfl ?_
  have htab := tab
  have hmo := hmo
  generalize PP = P at *
  cbv
  refine ⟨⟨by subst hΩ; show _ ∧ (0 : Int) ≤ xs.length ∧ 8 * ((xs.length : Int).toNat) ≤ _ ∧ (xs.length : Int).toNat ≤ 9223372036854775807; rw [hlen]; refine ⟨rfl, ?_, ?_, ?_⟩ <;> omega⟩,
    loopX htab hΩ (fun i : Nat => ⟨[(0, .sl false 1 xs), (3, .vw 0 0 n), (4, .sc (.int .i64 (Ω.int i)))], 22, [some ⟨1, ys i, false⟩]⟩) (fun i => i ≤ n) (fun i => n - i) 0 (Nat.zero_le _) (Sbs.mk rfl ?_ ?_) (fun i hi => ?_)⟩
  · rw [← hy0]; subst hΩ; subst hlen; rfl
  · subst hΩ; subst hlen; exact ⟨rfl, rfl, rfl, trivial⟩
  have hyli := hyl i hi
  have hyai := hya i
  cbv
  refine br (fun h => ?_) (fun h => ?_)
  · replace h : i < n := by have := ltI hΩ h; omega
    obtain ⟨c, hcc⟩ := at_of (cs := cs) (by omega : i < cs.length)
    have hset := hyset i c hcc
    cbv
    refine ⟨⟨nnI hΩ⟩, _, rdI hΩ hxs hcc, ?_⟩
    cbv
    refine ⟨⟨ixI hΩ h⟩, ⟨by subst hΩ; show 0 + i < _; rw [hyli]; omega, hyai⟩, i + 1, by omega, by omega, Sbs.mk rfl (by rw [← hset]; subst hΩ; show [some (Row.mk 1 ((ys i).set (0 + i) _) false)] = _; rw [Nat.zero_add]; rfl) ⟨rfl, rfl, incI hΩ (by omega), trivial⟩⟩
  · replace h : i = n := by have := geI hΩ h; omega
    subst h
    cbv
    refine ⟨⟨rfl, by show i ≤ (ys i).length; omega⟩, .of ?_⟩
    rw [← hyn]
    subst hΩ
    show A.sl true 1 ((ys i).take i) = _
    rw [List.take_of_length_le (by omega)]
theorem c_toTermS (cs : List (Trm)) (hb : cs.length ≤ 1048576) : PCtr PP n_laws_toTermS [.sl false 7 (cs.map (Trm.enc))] (.sl true 7 (cs.map (Trm.enc))) := by
  obtain ⟨Ω, hΩ⟩ : ∃ Ω, Ω = std := ⟨_, rfl⟩
  obtain ⟨xs, hxs⟩ : ∃ xs, xs = cs.map (Trm.enc) := ⟨_, rfl⟩
  obtain ⟨zs, hzs⟩ : ∃ zs, zs = cs.map (Trm.enc) := ⟨_, rfl⟩
  obtain ⟨n, hn⟩ : ∃ n, n = cs.length := ⟨_, rfl⟩
  have hlen : xs.length = n := by rw [hxs, hn, List.length_map]
  obtain ⟨ys, hys⟩ : ∃ ys : Nat → List A, ys = fill (Trm.enc) (Trm.zero.enc) cs := ⟨_, rfl⟩
  have hyl : ∀ i, i ≤ n → (ys i).length = n := fun i hi => by rw [hys, hn]; exact fill_length (by omega)
  have hya : ∀ i, ∀ z ∈ ys i, isAggN 7 z = true := fun i => by rw [hys]; exact fill_all (fun _ => rfl) rfl
  have hy0 : List.replicate n (Trm.zero.enc) = ys 0 := by rw [hys, fill_zero, hn]
  have hyn : ys n = zs := by rw [hys, hn, fill_full, hzs]
  have hyset : ∀ i c, cs[i]? = some c → (ys i).set i ((Trm.enc) c) = ys (i + 1) := fun i c h => by rw [hys]; exact fill_set h
  clear hys
  rw [← hxs]
  rw [show A.sl true 7 xs = .sl true 7 zs by rw [hzs, hxs]]
  have hc := c_toTerm
  refine PCtr.walk tab hΩ fn_laws_toTermS rfl ?_
  have htab := tab
  have hmo := hmo
  generalize PP = P at *
  cbv
  refine ⟨⟨by subst hΩ; show _ ∧ (0 : Int) ≤ xs.length ∧ 64 * ((xs.length : Int).toNat) ≤ _ ∧ (xs.length : Int).toNat ≤ 9223372036854775807; rw [hlen]; refine ⟨rfl, ?_, ?_, ?_⟩ <;> omega⟩,
    loopX htab hΩ (fun i : Nat => ⟨[(0, .sl false 7 xs), (3, .vw 0 0 n), (4, .sc (.int .i64 (Ω.int i)))], 23, [some ⟨7, ys i, false⟩]⟩) (fun i => i ≤ n) (fun i => n - i) 0 (Nat.zero_le _) (Sbs.mk rfl ?_ ?_) (fun i hi => ?_)⟩
  · rw [← hy0]; subst hΩ; subst hlen; rfl
  · subst hΩ; subst hlen; exact ⟨rfl, rfl, rfl, trivial⟩
  have hyli := hyl i hi
  have hyai := hya i
  cbv
  refine br (fun h => ?_) (fun h => ?_)
  · replace h : i < n := by have := ltI hΩ h; omega
    obtain ⟨c, hcc⟩ := at_of (cs := cs) (by omega : i < cs.length)
    have hset := hyset i c hcc
    cbv
    refine ⟨⟨nnI hΩ⟩, _, rdI hΩ hxs hcc, ?_⟩
    cbv
    refine call_pure hΩ 3 (hc c) rfl (fits _) rfl rfl ?_
    cbv
    refine ⟨⟨ixI hΩ h⟩, ⟨by subst hΩ; show 0 + i < _; rw [hyli]; omega, hyai⟩, i + 1, by omega, by omega, Sbs.mk rfl (by rw [← hset]; subst hΩ; show [some (Row.mk 7 ((ys i).set (0 + i) _) false)] = _; rw [Nat.zero_add]; rfl) ⟨rfl, rfl, incI hΩ (by omega), trivial⟩⟩
  · replace h : i = n := by have := geI hΩ h; omega
    subst h
    cbv
    refine ⟨⟨rfl, by show i ≤ (ys i).length; omega⟩, .of ?_⟩
    rw [← hyn]
    subst hΩ
    show A.sl true 7 ((ys i).take i) = _
    rw [List.take_of_length_le (by omega)]
theorem c_toTermSS (cs : List (List Trm)) (hb : cs.length ≤ 1048576) (hl : ∀ l ∈ cs, l.length ≤ 1048576) : PCtr PP n_laws_toTermSS [.sl false 1 (cs.map (encTs false))] (.sl true 1 (cs.map (encTs true))) := by
  obtain ⟨Ω, hΩ⟩ : ∃ Ω, Ω = std := ⟨_, rfl⟩
  obtain ⟨xs, hxs⟩ : ∃ xs, xs = cs.map (encTs false) := ⟨_, rfl⟩
  obtain ⟨zs, hzs⟩ : ∃ zs, zs = cs.map (encTs true) := ⟨_, rfl⟩
  obtain ⟨n, hn⟩ : ∃ n, n = cs.length := ⟨_, rfl⟩
  have hlen : xs.length = n := by rw [hxs, hn, List.length_map]
  obtain ⟨ys, hys⟩ : ∃ ys : Nat → List A, ys = fill (encTs true) (.nil) cs := ⟨_, rfl⟩
  have hyl : ∀ i, i ≤ n → (ys i).length = n := fun i hi => by rw [hys, hn]; exact fill_length (by omega)
  have hya : ∀ i, ∀ z ∈ ys i, vStore.isAggA z = false := fun i => by rw [hys]; exact fill_all (fun _ => rfl) rfl
  have hy0 : List.replicate n (.nil) = ys 0 := by rw [hys, fill_zero, hn]
  have hyn : ys n = zs := by rw [hys, hn, fill_full, hzs]
  have hyset : ∀ i c, cs[i]? = some c → (ys i).set i ((encTs true) c) = ys (i + 1) := fun i c h => by rw [hys]; exact fill_set h
  clear hys
  rw [← hxs, ← hzs]
  have hcl : ∀ c ∈ cs, PCtr PP n_laws_toTermS [.sl false 7 (c.map Trm.enc)] (.sl true 7 (c.map Trm.enc)) := fun c h => c_toTermS c (hl c h)
  refine PCtr.walk tab hΩ fn_laws_toTermSS rfl ?_
  have htab := tab
  have hmo := hmo
  generalize PP = P at *
  cbv
  refine ⟨⟨by subst hΩ; show _ ∧ (0 : Int) ≤ xs.length ∧ 24 * ((xs.length : Int).toNat) ≤ _ ∧ (xs.length : Int).toNat ≤ 9223372036854775807; rw [hlen]; refine ⟨rfl, ?_, ?_, ?_⟩ <;> omega⟩,
    loopX htab hΩ (fun i : Nat => ⟨[(0, .sl false 1 xs), (3, .vw 0 0 n), (4, .sc (.int .i64 (Ω.int i)))], 23, [some ⟨1, ys i, false⟩]⟩) (fun i => i ≤ n) (fun i => n - i) 0 (Nat.zero_le _) (Sbs.mk rfl ?_ ?_) (fun i hi => ?_)⟩
  · rw [← hy0]; subst hΩ; subst hlen; rfl
  · subst hΩ; subst hlen; exact ⟨rfl, rfl, rfl, trivial⟩
  have hyli := hyl i hi
  have hyai := hya i
  cbv
  refine br (fun h => ?_) (fun h => ?_)
  · replace h : i < n := by have := ltI hΩ h; omega
    obtain ⟨c, hcc⟩ := at_of (cs := cs) (by omega : i < cs.length)
    have hset := hyset i c hcc
    cbv
    obtain ⟨ts, hen, hts⟩ : ∃ ts, encTs false c = .sl false 7 ts ∧ ts = c.map Trm.enc := ⟨_, rfl, rfl⟩
    have hcc' := hcl c (List.mem_of_getElem? hcc)
    have hrf := roFTs c
    rw [show encTs true c = .sl true 7 ts by rw [hts]; rfl] at hrf hset
    rw [← hts] at hcc'
    refine ⟨⟨nnI hΩ⟩, _, (rdI hΩ hxs hcc).trans (congrArg some hen), ?_⟩
    cbv
    refine call_pure hΩ 3 hcc' rfl (fits _) hrf rfl ?_
    cbv
    refine ⟨⟨ixI hΩ h⟩, ⟨rfl, by subst hΩ; exact Nat.le_refl _⟩, ⟨by subst hΩ; show 0 + i < _; rw [hyli]; omega, hyai⟩, i + 1, by omega, by omega, Sbs.trans (Sbs.lastN (rows := [_]) rfl)
      (Sbs.mk rfl (by rw [← hset]; subst hΩ; show [some (Row.mk 1 ((ys i).set (0 + i) (A.sl true 7 (ts.take ts.length))) false)] = _; rw [List.take_length, Nat.zero_add]) ⟨rfl, rfl, incI hΩ (by omega), trivial⟩)⟩
  · replace h : i = n := by have := geI hΩ h; omega
    subst h
    cbv
    refine ⟨⟨rfl, by show i ≤ (ys i).length; omega⟩, .of ?_⟩
    rw [← hyn]
    subst hΩ
    show A.sl true 1 ((ys i).take i) = _
    rw [List.take_of_length_le (by omega)]
theorem c_toPack (o : Pck) (hs : o.Small) : PCtr PP n_laws_toPack [o.enc false] (o.enc true) := by
  obtain ⟨Ω, hΩ⟩ : ∃ Ω, Ω = std := ⟨_, rfl⟩
  obtain ⟨ps, ds, bs, hen, hps, hds, hbs⟩ := enc_raw o
  obtain ⟨ps', es, bs', hen2, hps2, hes2, hbs2⟩ := enc_own o
  have h1 := c_toVersion o.v
  have h2 := c_toStringS o.p hs.p
  have h3 := c_toTermSS o.d hs.d hs.e
  have h4 := c_toTermS o.b hs.b
  have r1 := roFAll (n := 1) (xs := o.p.map str) fun x hx => by obtain ⟨c, _, rfl⟩ := List.mem_map.1 hx; rfl
  have r2 := roFAll (n := 1) (xs := o.d.map (encTs true)) fun x hx => by obtain ⟨c, _, rfl⟩ := List.mem_map.1 hx; exact roFTs c
  have r3 : roFree (.sl true 7 (o.b.map Trm.enc)) = true := roFTs o.b
  rw [← hps] at hps2 h2 r1
  rw [← hes2] at h3 r2
  rw [← hbs] at hbs2 h4 r3
  rw [← hds] at h3
  rw [hps2, hbs2] at hen2
  rw [hen, hen2]
  refine PCtr.walk tab hΩ fn_laws_toPack rfl ?_
  have htab := tab
  have hmo := hmo
  generalize PP = P at *
  cbv
  refine call_pure hΩ 3 h1 rfl (fits _) rfl rfl ?_
  cbv
  refine call_pure hΩ 3 h2 rfl (fits _) r1 rfl ?_
  cbv
  refine call_pure hΩ 3 h3 rfl (fits _) r2 rfl ?_
  cbv
  refine call_pure hΩ 3 h4 rfl (fits _) r3 rfl ?_
  cbv
  refine ⟨⟨rfl, by subst hΩ; exact Nat.le_refl _⟩, ⟨rfl, by subst hΩ; exact Nat.le_refl _⟩, ⟨rfl, by subst hΩ; exact Nat.le_refl _⟩, .of ?_⟩
  subst hΩ
  show A.agg [str o.n, i64 o.v.a, i64 o.v.b, i64 o.v.c, i64 o.s, A.sl true 1 (ps.take ps.length), A.sl true 1 (es.take es.length), A.sl true 7 (bs.take bs.length)] = _
  rw [List.take_length, List.take_length, List.take_length]
  rfl
theorem c_toPackS (cs : List (Pck)) (hb : cs.length ≤ 1048576) (hl : ∀ l ∈ cs, l.Small) : PCtr PP n_laws_toPackS [.sl false 8 (cs.map (Pck.enc false))] (.sl true 8 (cs.map (Pck.enc true))) := by
  obtain ⟨Ω, hΩ⟩ : ∃ Ω, Ω = std := ⟨_, rfl⟩
  obtain ⟨xs, hxs⟩ : ∃ xs, xs = cs.map (Pck.enc false) := ⟨_, rfl⟩
  obtain ⟨zs, hzs⟩ : ∃ zs, zs = cs.map (Pck.enc true) := ⟨_, rfl⟩
  obtain ⟨n, hn⟩ : ∃ n, n = cs.length := ⟨_, rfl⟩
  have hlen : xs.length = n := by rw [hxs, hn, List.length_map]
  obtain ⟨ys, hys⟩ : ∃ ys : Nat → List A, ys = fill (Pck.enc true) (.agg [str [], i64 0, i64 0, i64 0, i64 0, .nil, .nil, .nil]) cs := ⟨_, rfl⟩
  have hyl : ∀ i, i ≤ n → (ys i).length = n := fun i hi => by rw [hys, hn]; exact fill_length (by omega)
  have hya : ∀ i, ∀ z ∈ ys i, isAggN 8 z = true := fun i => by rw [hys]; exact fill_all (fun _ => rfl) rfl
  have hy0 : List.replicate n (.agg [str [], i64 0, i64 0, i64 0, i64 0, .nil, .nil, .nil]) = ys 0 := by rw [hys, fill_zero, hn]
  have hyn : ys n = zs := by rw [hys, hn, fill_full, hzs]
  have hyset : ∀ i c, cs[i]? = some c → (ys i).set i ((Pck.enc true) c) = ys (i + 1) := fun i c h => by rw [hys]; exact fill_set h
  clear hys
  rw [← hxs, ← hzs]
  have hcl : ∀ c ∈ cs, PCtr PP n_laws_toPack [Pck.enc false c] (Pck.enc true c) := fun c h => c_toPack c (hl c h)
  refine PCtr.walk tab hΩ fn_laws_toPackS rfl ?_
  have htab := tab
  have hmo := hmo
  generalize PP = P at *
  cbv
  refine ⟨⟨by subst hΩ; show _ ∧ (0 : Int) ≤ xs.length ∧ 120 * ((xs.length : Int).toNat) ≤ _ ∧ (xs.length : Int).toNat ≤ 9223372036854775807; rw [hlen]; refine ⟨rfl, ?_, ?_, ?_⟩ <;> omega⟩,
    loopX htab hΩ (fun i : Nat => ⟨[(0, .sl false 8 xs), (3, .vw 0 0 n), (4, .sc (.int .i64 (Ω.int i)))], 23, [some ⟨8, ys i, false⟩]⟩) (fun i => i ≤ n) (fun i => n - i) 0 (Nat.zero_le _) (Sbs.mk rfl ?_ ?_) (fun i hi => ?_)⟩
  · rw [← hy0]; subst hΩ; subst hlen; rfl
  · subst hΩ; subst hlen; exact ⟨rfl, rfl, rfl, trivial⟩
  have hyli := hyl i hi
  have hyai := hya i
  cbv
  refine br (fun h => ?_) (fun h => ?_)
  · replace h : i < n := by have := ltI hΩ h; omega
    obtain ⟨c, hcc⟩ := at_of (cs := cs) (by omega : i < cs.length)
    have hset := hyset i c hcc
    cbv
    obtain ⟨ps, ds, bs, hen, hps, hds, hbs⟩ := enc_raw c
    obtain ⟨ps2, ds2, bs2, hen2, hps2, hds2, hbs2⟩ := enc_own c
    have hcc' := hcl c (List.mem_of_getElem? hcc)
    have hrf := roFP c
    rw [hen2] at hrf hset
    rw [hen, hen2] at hcc'
    refine ⟨⟨nnI hΩ⟩, _, (rdI hΩ hxs hcc).trans (congrArg some hen), ?_⟩
    cbv
    refine call_pure hΩ 3 hcc' rfl (fits _) hrf rfl ?_
    cbv
    refine ⟨⟨ixI hΩ h⟩, ⟨rfl, by subst hΩ; exact Nat.le_refl _⟩, ⟨rfl, by subst hΩ; exact Nat.le_refl _⟩, ⟨rfl, by subst hΩ; exact Nat.le_refl _⟩, ⟨by subst hΩ; show 0 + i < _; rw [hyli]; omega, hyai⟩, i + 1, by omega, by omega,
      Sbs.trans (Sbs.lastN (rows := [_, none, none]) rfl) (Sbs.trans (Sbs.lastN (rows := [_, none]) rfl) (Sbs.trans (Sbs.lastN (rows := [_]) rfl) (Sbs.mk rfl ?_ ⟨rfl, rfl, incI hΩ (by omega), trivial⟩)))⟩
    rw [← hset]
    subst hΩ
    show [some (Row.mk 8 ((ys i).set (0 + i) (A.agg [str c.n, i64 c.v.a, i64 c.v.b, i64 c.v.c, i64 c.s, A.sl true 1 (ps2.take ps2.length), A.sl true 1 (ds2.take ds2.length), A.sl true 7 (bs2.take bs2.length)])) false)] = _
    rw [List.take_length, List.take_length, List.take_length, Nat.zero_add]
  · replace h : i = n := by have := geI hΩ h; omega
    subst h
    cbv
    refine ⟨⟨rfl, by show i ≤ (ys i).length; omega⟩, .of ?_⟩
    rw [← hyn]
    subst hΩ
    show A.sl true 8 ((ys i).take i) = _
    rw [List.take_of_length_le (by omega)]
end Go.Proofs.YtljjcffnomdhhaaGreatDoor

/- Walks: what is equal is told so. Plain theorems. -/
set_option linter.unusedVariables false
set_option linter.unusedSimpArgs false
namespace Go.Proofs.YtljjcffnomdhhaaGreatDoor
open Go Go.Fw
set_option maxRecDepth 100000
theorem c_eqVersion (v : Ver) : PCtr PP n_laws_eqVersion [v.enc, v.enc] (boo true) := by
  obtain ⟨Ω, hΩ⟩ : ∃ Ω, Ω = std := ⟨_, rfl⟩
  have htab := tab
  have hmo := hmo
  refine PCtr.walk tab hΩ fn_laws_eqVersion rfl ?_
  generalize PP = P at *
  cbv
  repeat' (first | (refine br (fun h => (notT hΩ h).elim) (fun h => ?_); cbv) | (refine br (fun h => (ne_self hΩ h).elim) (fun h => ?_); cbv) | (refine br (fun h => (sne_self hΩ h).elim) (fun h => ?_); cbv) | (refine ⟨VC_drawn htab hΩ hmo (by kernel_rfl) ?_⟩; cbv))
  exact .same
theorem c_eqTerm (t : Trm) : PCtr PP n_laws_eqTerm [t.enc, t.enc] (boo true) := by
  obtain ⟨Ω, hΩ⟩ : ∃ Ω, Ω = std := ⟨_, rfl⟩
  have h1 := c_eqVersion t.l
  have h2 := c_eqVersion t.h
  have htab := tab
  have hmo := hmo
  refine PCtr.walk tab hΩ fn_laws_eqTerm rfl ?_
  generalize PP = P at *
  cbv
  repeat' (first | (refine br (fun h => (notT hΩ h).elim) (fun h => ?_); cbv) | (refine br (fun h => (ne_self hΩ h).elim) (fun h => ?_); cbv) | (refine br (fun h => (sne_self hΩ h).elim) (fun h => ?_); cbv) | (refine ⟨VC_drawn htab hΩ hmo (by kernel_rfl) ?_⟩; cbv) | (refine call_pure hΩ 3 h1 rfl (fits _) rfl rfl ?_; cbv) | (refine QCall_pure (k := 3) h1 rfl (fits _) rfl ?_; cbv) | (refine call_pure hΩ 3 h2 rfl (fits _) rfl rfl ?_; cbv) | (refine QCall_pure (k := 3) h2 rfl (fits _) rfl ?_; cbv))
  exact .same
theorem c_eqStringS (cs : List (List UInt8)) (hb : cs.length ≤ 1048576) : PCtr PP n_laws_eqStringS [.sl false 1 (cs.map (str)), .sl false 1 (cs.map (str))] (boo true) := by
  obtain ⟨Ω, hΩ⟩ : ∃ Ω, Ω = std := ⟨_, rfl⟩
  obtain ⟨xs, hxs⟩ : ∃ xs, xs = cs.map (str) := ⟨_, rfl⟩
  have hlen : xs.length = cs.length := by rw [hxs, List.length_map]
  rw [← hxs]
  have htab := tab
  have hmo := hmo
  refine PCtr.walk tab hΩ fn_laws_eqStringS rfl ?_
  generalize PP = P at *
  cbv
  refine br (fun h => (ne_self hΩ h).elim) (fun h => ?_)
  cbv
  refine loopX htab hΩ (fun i : Nat => ⟨[(0, .sl false 1 xs), (1, .sl false 1 xs), (5, .sc (.int .i64 (Ω.int i)))], 26, []⟩) (fun i => i ≤ cs.length) (fun i => cs.length - i) 0 (Nat.zero_le _) (Sbs.mk rfl rfl ⟨rfl, rfl, zeroI hΩ, trivial⟩) (fun i hi => ?_)
  cbv
  refine br (fun h => ?_) (fun h => ?_)
  · replace h := ltI hΩ h
    obtain ⟨c, hcc⟩ := at_of (cs := cs) (by omega : i < _)
    have hcm := List.mem_of_getElem? hcc
    cbv
    repeat' (first | (refine br (fun h => (notT hΩ h).elim) (fun h => ?_); cbv) | (refine br (fun h => (ne_self hΩ h).elim) (fun h => ?_); cbv) | (refine br (fun h => (sne_self hΩ h).elim) (fun h => ?_); cbv) | (refine ⟨VC_drawn htab hΩ hmo (by kernel_rfl) ?_⟩; cbv) | (refine ⟨⟨nnI hΩ⟩, _, rdI hΩ hxs hcc, ?_⟩; cbv))
    exact ⟨i + 1, by omega, by omega, Sbs.mk rfl rfl ⟨rfl, rfl, incI hΩ (by omega), trivial⟩⟩
  · cbv
    exact .same
theorem c_eqInt64S (cs : List (Int)) (hb : cs.length ≤ 1048576) : PCtr PP n_laws_eqInt64S [.sl false 1 (cs.map (i64)), .sl false 1 (cs.map (i64))] (boo true) := by
  obtain ⟨Ω, hΩ⟩ : ∃ Ω, Ω = std := ⟨_, rfl⟩
  obtain ⟨xs, hxs⟩ : ∃ xs, xs = cs.map (i64) := ⟨_, rfl⟩
  have hlen : xs.length = cs.length := by rw [hxs, List.length_map]
  rw [← hxs]
  have htab := tab
  have hmo := hmo
  refine PCtr.walk tab hΩ fn_laws_eqInt64S rfl ?_
  generalize PP = P at *
  cbv
  refine br (fun h => (ne_self hΩ h).elim) (fun h => ?_)
  cbv
  refine loopX htab hΩ (fun i : Nat => ⟨[(0, .sl false 1 xs), (1, .sl false 1 xs), (5, .sc (.int .i64 (Ω.int i)))], 26, []⟩) (fun i => i ≤ cs.length) (fun i => cs.length - i) 0 (Nat.zero_le _) (Sbs.mk rfl rfl ⟨rfl, rfl, zeroI hΩ, trivial⟩) (fun i hi => ?_)
  cbv
  refine br (fun h => ?_) (fun h => ?_)
  · replace h := ltI hΩ h
    obtain ⟨c, hcc⟩ := at_of (cs := cs) (by omega : i < _)
    have hcm := List.mem_of_getElem? hcc
    cbv
    repeat' (first | (refine br (fun h => (notT hΩ h).elim) (fun h => ?_); cbv) | (refine br (fun h => (ne_self hΩ h).elim) (fun h => ?_); cbv) | (refine br (fun h => (sne_self hΩ h).elim) (fun h => ?_); cbv) | (refine ⟨VC_drawn htab hΩ hmo (by kernel_rfl) ?_⟩; cbv) | (refine ⟨⟨nnI hΩ⟩, _, rdI hΩ hxs hcc, ?_⟩; cbv))
    exact ⟨i + 1, by omega, by omega, Sbs.mk rfl rfl ⟨rfl, rfl, incI hΩ (by omega), trivial⟩⟩
  · cbv
    exact .same
theorem c_eqTermS (cs : List (Trm)) (hb : cs.length ≤ 1048576) : PCtr PP n_laws_eqTermS [.sl false 7 (cs.map (Trm.enc)), .sl false 7 (cs.map (Trm.enc))] (boo true) := by
  obtain ⟨Ω, hΩ⟩ : ∃ Ω, Ω = std := ⟨_, rfl⟩
  obtain ⟨xs, hxs⟩ : ∃ xs, xs = cs.map (Trm.enc) := ⟨_, rfl⟩
  have hlen : xs.length = cs.length := by rw [hxs, List.length_map]
  rw [← hxs]
  have hc := c_eqTerm
  have htab := tab
  have hmo := hmo
  refine PCtr.walk tab hΩ fn_laws_eqTermS rfl ?_
  generalize PP = P at *
  cbv
  refine br (fun h => (ne_self hΩ h).elim) (fun h => ?_)
  cbv
  refine loopX htab hΩ (fun i : Nat => ⟨[(0, .sl false 7 xs), (1, .sl false 7 xs), (5, .sc (.int .i64 (Ω.int i)))], 27, []⟩) (fun i => i ≤ cs.length) (fun i => cs.length - i) 0 (Nat.zero_le _) (Sbs.mk rfl rfl ⟨rfl, rfl, zeroI hΩ, trivial⟩) (fun i hi => ?_)
  cbv
  refine br (fun h => ?_) (fun h => ?_)
  · replace h := ltI hΩ h
    obtain ⟨c, hcc⟩ := at_of (cs := cs) (by omega : i < _)
    have hcm := List.mem_of_getElem? hcc
    have hcc1 := hc c
    cbv
    repeat' (first | (refine br (fun h => (notT hΩ h).elim) (fun h => ?_); cbv) | (refine br (fun h => (ne_self hΩ h).elim) (fun h => ?_); cbv) | (refine br (fun h => (sne_self hΩ h).elim) (fun h => ?_); cbv) | (refine ⟨VC_drawn htab hΩ hmo (by kernel_rfl) ?_⟩; cbv) | (refine ⟨⟨nnI hΩ⟩, _, rdI hΩ hxs hcc, ?_⟩; cbv) | (refine call_pure hΩ 3 hcc1 rfl (fits _) rfl rfl ?_; cbv) | (refine QCall_pure (k := 3) hcc1 rfl (fits _) rfl ?_; cbv))
    exact ⟨i + 1, by omega, by omega, Sbs.mk rfl rfl ⟨rfl, rfl, incI hΩ (by omega), trivial⟩⟩
  · cbv
    exact .same
theorem c_eqTermSS (cs : List (List Trm)) (hb : cs.length ≤ 1048576) (hl : ∀ l ∈ cs, l.length ≤ 1048576) : PCtr PP n_laws_eqTermSS [.sl false 1 (cs.map (encTs false)), .sl false 1 (cs.map (encTs false))] (boo true) := by
  obtain ⟨Ω, hΩ⟩ : ∃ Ω, Ω = std := ⟨_, rfl⟩
  obtain ⟨xs, hxs⟩ : ∃ xs, xs = cs.map (encTs false) := ⟨_, rfl⟩
  have hlen : xs.length = cs.length := by rw [hxs, List.length_map]
  rw [← hxs]
  have hc : ∀ c ∈ cs, PCtr PP n_laws_eqTermS [.sl false 7 (c.map Trm.enc), .sl false 7 (c.map Trm.enc)] (boo true) := fun c h => c_eqTermS c (hl c h)
  have htab := tab
  have hmo := hmo
  refine PCtr.walk tab hΩ fn_laws_eqTermSS rfl ?_
  generalize PP = P at *
  cbv
  refine br (fun h => (ne_self hΩ h).elim) (fun h => ?_)
  cbv
  refine loopX htab hΩ (fun i : Nat => ⟨[(0, .sl false 1 xs), (1, .sl false 1 xs), (5, .sc (.int .i64 (Ω.int i)))], 27, []⟩) (fun i => i ≤ cs.length) (fun i => cs.length - i) 0 (Nat.zero_le _) (Sbs.mk rfl rfl ⟨rfl, rfl, zeroI hΩ, trivial⟩) (fun i hi => ?_)
  cbv
  refine br (fun h => ?_) (fun h => ?_)
  · replace h := ltI hΩ h
    obtain ⟨c, hcc⟩ := at_of (cs := cs) (by omega : i < _)
    have hcm := List.mem_of_getElem? hcc
    obtain ⟨ts, hen2, hts⟩ : ∃ ts, encTs false c = .sl false 7 ts ∧ ts = c.map Trm.enc := ⟨_, rfl, rfl⟩
    have hcc1 := hc c hcm
    rw [← hts] at hcc1
    cbv
    repeat' (first | (refine br (fun h => (notT hΩ h).elim) (fun h => ?_); cbv) | (refine br (fun h => (ne_self hΩ h).elim) (fun h => ?_); cbv) | (refine br (fun h => (sne_self hΩ h).elim) (fun h => ?_); cbv) | (refine ⟨VC_drawn htab hΩ hmo (by kernel_rfl) ?_⟩; cbv) | (refine ⟨⟨nnI hΩ⟩, _, (rdI hΩ hxs hcc).trans (congrArg some hen2), ?_⟩; cbv) | (refine call_pure hΩ 3 hcc1 rfl (fits _) rfl rfl ?_; cbv) | (refine QCall_pure (k := 3) hcc1 rfl (fits _) rfl ?_; cbv))
    exact ⟨i + 1, by omega, by omega, Sbs.mk rfl rfl ⟨rfl, rfl, incI hΩ (by omega), trivial⟩⟩
  · cbv
    exact .same
theorem c_eqPack (o : Pck) (hs : o.Small) : PCtr PP n_laws_eqPack [o.enc false, o.enc false] (boo true) := by
  obtain ⟨Ω, hΩ⟩ : ∃ Ω, Ω = std := ⟨_, rfl⟩
  obtain ⟨ps, ds, bs, hen, hps, hds, hbs⟩ := enc_raw o
  rw [hen]
  have h1 := c_eqVersion o.v
  have h2 := c_eqStringS o.p hs.p
  have h3 := c_eqTermSS o.d hs.d hs.e
  have h4 := c_eqTermS o.b hs.b
  rw [← hps] at h2
  rw [← hds] at h3
  rw [← hbs] at h4
  have htab := tab
  have hmo := hmo
  refine PCtr.walk tab hΩ fn_laws_eqPack rfl ?_
  generalize PP = P at *
  cbv
  repeat' (first | (refine br (fun h => (notT hΩ h).elim) (fun h => ?_); cbv) | (refine br (fun h => (ne_self hΩ h).elim) (fun h => ?_); cbv) | (refine br (fun h => (sne_self hΩ h).elim) (fun h => ?_); cbv) | (refine ⟨VC_drawn htab hΩ hmo (by kernel_rfl) ?_⟩; cbv) | (refine call_pure hΩ 3 h1 rfl (fits _) rfl rfl ?_; cbv) | (refine QCall_pure (k := 3) h1 rfl (fits _) rfl ?_; cbv) | (refine call_pure hΩ 3 h2 rfl (fits _) rfl rfl ?_; cbv) | (refine QCall_pure (k := 3) h2 rfl (fits _) rfl ?_; cbv) | (refine call_pure hΩ 3 h3 rfl (fits _) rfl rfl ?_; cbv) | (refine QCall_pure (k := 3) h3 rfl (fits _) rfl ?_; cbv) | (refine call_pure hΩ 3 h4 rfl (fits _) rfl rfl ?_; cbv) | (refine QCall_pure (k := 3) h4 rfl (fits _) rfl ?_; cbv))
  exact .same
theorem c_eqPackS (cs : List (Pck)) (hb : cs.length ≤ 1048576) (hl : ∀ l ∈ cs, l.Small) : PCtr PP n_laws_eqPackS [.sl false 8 (cs.map (Pck.enc false)), .sl false 8 (cs.map (Pck.enc false))] (boo true) := by
  obtain ⟨Ω, hΩ⟩ : ∃ Ω, Ω = std := ⟨_, rfl⟩
  obtain ⟨xs, hxs⟩ : ∃ xs, xs = cs.map (Pck.enc false) := ⟨_, rfl⟩
  have hlen : xs.length = cs.length := by rw [hxs, List.length_map]
  rw [← hxs]
  have hc : ∀ c ∈ cs, PCtr PP n_laws_eqPack [Pck.enc false c, Pck.enc false c] (boo true) := fun c h => c_eqPack c (hl c h)
  have htab := tab
  have hmo := hmo
  refine PCtr.walk tab hΩ fn_laws_eqPackS rfl ?_
  generalize PP = P at *
  cbv
  refine br (fun h => (ne_self hΩ h).elim) (fun h => ?_)
  cbv
  refine loopX htab hΩ (fun i : Nat => ⟨[(0, .sl false 8 xs), (1, .sl false 8 xs), (5, .sc (.int .i64 (Ω.int i)))], 27, []⟩) (fun i => i ≤ cs.length) (fun i => cs.length - i) 0 (Nat.zero_le _) (Sbs.mk rfl rfl ⟨rfl, rfl, zeroI hΩ, trivial⟩) (fun i hi => ?_)
  cbv
  refine br (fun h => ?_) (fun h => ?_)
  · replace h := ltI hΩ h
    obtain ⟨c, hcc⟩ := at_of (cs := cs) (by omega : i < _)
    have hcm := List.mem_of_getElem? hcc
    obtain ⟨ps, ds, bs, hen, hps, hds, hbs⟩ := enc_raw c
    have hcc1 := hc c hcm
    rw [hen] at hcc1
    cbv
    repeat' (first | (refine br (fun h => (notT hΩ h).elim) (fun h => ?_); cbv) | (refine br (fun h => (ne_self hΩ h).elim) (fun h => ?_); cbv) | (refine br (fun h => (sne_self hΩ h).elim) (fun h => ?_); cbv) | (refine ⟨VC_drawn htab hΩ hmo (by kernel_rfl) ?_⟩; cbv) | (refine ⟨⟨nnI hΩ⟩, _, (rdI hΩ hxs hcc).trans (congrArg some hen), ?_⟩; cbv) | (refine call_pure hΩ 3 hcc1 rfl (fits _) rfl rfl ?_; cbv) | (refine QCall_pure (k := 3) hcc1 rfl (fits _) rfl ?_; cbv))
    exact ⟨i + 1, by omega, by omega, Sbs.mk rfl rfl ⟨rfl, rfl, incI hΩ (by omega), trivial⟩⟩
  · cbv
    exact .same
end Go.Proofs.YtljjcffnomdhhaaGreatDoor

/- Walks: marks. Plain theorems. -/
set_option linter.unusedVariables false
set_option linter.unusedSimpArgs false
namespace Go.Proofs.YtljjcffnomdhhaaGreatDoor
open Go Go.Fw
set_option maxRecDepth 100000
/-- How many marks a package takes. -/
def Pck.cnt (o : Pck) : Nat := 5 + psum (fun _ => 1) o.p o.p.length + psum (fun l : List Trm => 7 * l.length) o.d o.d.length + psum (fun _ => 7) o.b o.b.length
end Go.Proofs.YtljjcffnomdhhaaGreatDoor

/- Helpers of the laws of sets. Plain theorems. -/
set_option linter.unusedVariables false
set_option linter.unusedSimpArgs false
namespace Go.Proofs.YtljjcffnomdhhaaGreatDoor
open Go Go.Fw
set_option maxRecDepth 100000
theorem sum_le_cost : ∀ (l : List Pck), (l.map Pck.cnt).sum ≤ 12 * costS cP l
  | [] => Nat.zero_le _
  | o :: l => by
    have ih := sum_le_cost l
    have h : o.cnt ≤ 5 + 7 * cP o := by
      have h1 : ∀ d : List (List Trm), psum (fun l => 7 * l.length) d d.length ≤ 7 * costS (costS cT) d := fun d => by
        unfold psum
        rw [List.take_length]
        induction d with
        | nil => exact Nat.zero_le _
        | cons x d ih =>
          have := len_cost cT x
          unfold costS at ih ⊢
          simp only [List.map_cons, List.sum_cons, List.length_cons] at ih ⊢
          unfold costS at this
          omega
      have h2 := h1 o.d
      have h3 := len_cost cB o.p
      have h4 := len_cost cT o.b
      unfold Pck.cnt
      rw [psum_const, psum_const]
      unfold cP
      omega
    unfold costS at ih ⊢
    simp only [List.map_cons, List.sum_cons, List.length_cons] at ih ⊢
    omega
theorem psum_cnt_le (l : List Pck) : psum Pck.cnt l l.length ≤ 12 * costS cP l := by
  unfold psum
  rw [List.take_length]
  exact sum_le_cost l
theorem szP_le (cs : List Pck) (h : 0 ≤ szS szP cs 1048576) : szS szP cs 1048576 ≤ 1048576 := by
  rw [szS_cost szP_cost] at h ⊢
  split
  · omega
  · omega
theorem sz_facts2 {t : List Trm} {l : Int} (hl : l ≤ 1048576) (h : 0 ≤ szS szT t l) : t.length ≤ 1048576 := by
  rw [szS_cost szT_cost] at h
  split at h
  · omega
  · have := len_cost cT t
    omega
/-- What the size check tells. -/
theorem sz_facts {cs : List Pck} (h : 0 ≤ szS szP cs 1048576) : cs.length ≤ 1048576 ∧ (∀ o ∈ cs, o.Small) ∧ psum Pck.cnt cs cs.length ≤ 12582912 := by
  rw [szS_cost szP_cost] at h
  split at h
  · omega
  · have hc : costS cP cs ≤ 1048576 := by omega
    exact ⟨Nat.le_trans (len_cost _ _) hc, fun o ho => small_of (Nat.le_trans (mem_cost _ _ o ho) hc), Nat.le_trans (psum_cnt_le cs) (by omega)⟩
end Go.Proofs.YtljjcffnomdhhaaGreatDoor

/- Branches told as facts on numbers. Plain theorems. -/
set_option linter.unusedVariables false
namespace Go.Proofs.YtljjcffnomdhhaaGreatDoor
open Go Go.Fw
theorem iteA {Ω : Opq} (hΩ : Ω = std) {x y c : Bool} (h : Ω.ite true x y = c) : x = c := by subst hΩ; exact h
theorem iteB {Ω : Opq} (hΩ : Ω = std) {x y c : Bool} (h : Ω.ite false x y = c) : y = c := by subst hΩ; exact h
theorem notA {Ω : Opq} (hΩ : Ω = std) {x : Bool} (h : Ω.not x = true) : x = false := notT' hΩ h
theorem notB {Ω : Opq} (hΩ : Ω = std) {x : Bool} (h : Ω.not x = false) : x = true := notF' hΩ h
theorem ltZt {Ω : Opq} (hΩ : Ω = std) {x y : Int} (h : Ω.cmp .lss x y = true) : x < y := by subst hΩ; exact lt_t h
theorem ltZf {Ω : Opq} (hΩ : Ω = std) {x y : Int} (h : Ω.cmp .lss x y = false) : y ≤ x := by subst hΩ; exact lt_f h
theorem leZt {Ω : Opq} (hΩ : Ω = std) {x y : Int} (h : Ω.cmp .leq x y = true) : x ≤ y := by subst hΩ; exact le_t h
theorem leZf {Ω : Opq} (hΩ : Ω = std) {x y : Int} (h : Ω.cmp .leq x y = false) : y < x := by subst hΩ; exact le_f h
theorem gtZt {Ω : Opq} (hΩ : Ω = std) {x y : Int} (h : Ω.cmp .gtr x y = true) : y < x := by subst hΩ; exact gt_t h
theorem gtZf {Ω : Opq} (hΩ : Ω = std) {x y : Int} (h : Ω.cmp .gtr x y = false) : x ≤ y := by subst hΩ; exact gt_f h
theorem geZt {Ω : Opq} (hΩ : Ω = std) {x y : Int} (h : Ω.cmp .geq x y = true) : y ≤ x := by subst hΩ; exact ge_t h
theorem geZf {Ω : Opq} (hΩ : Ω = std) {x y : Int} (h : Ω.cmp .geq x y = false) : x < y := by subst hΩ; exact ge_f h
theorem eqZt {Ω : Opq} (hΩ : Ω = std) {x y : Int} (h : Ω.cmp .eql x y = true) : x = y := by subst hΩ; exact eq_t h
theorem eqZf {Ω : Opq} (hΩ : Ω = std) {x y : Int} (h : Ω.cmp .eql x y = false) : x ≠ y := by subst hΩ; exact eq_f h
theorem neZt {Ω : Opq} (hΩ : Ω = std) {x y : Int} (h : Ω.cmp .neq x y = true) : x ≠ y := by subst hΩ; exact ne_t h
theorem neZf {Ω : Opq} (hΩ : Ω = std) {x y : Int} (h : Ω.cmp .neq x y = false) : x = y := by subst hΩ; exact ne_f h
theorem eqSt {Ω : Opq} (hΩ : Ω = std) {x y : List UInt8} (h : Ω.cmpS .eql x y = true) : x = y := by subst hΩ; exact of_decide_eq_true ((by simpa [cmpSS] using (show cmpSS .eql x y = true from h)))
theorem eqSf {Ω : Opq} (hΩ : Ω = std) {x y : List UInt8} (h : Ω.cmpS .eql x y = false) : x ≠ y := by subst hΩ; exact fun e => by subst e; have h : cmpSS .eql x x = false := h; simp [cmpSS] at h
end Go.Proofs.YtljjcffnomdhhaaGreatDoor

/- Regions that draw their order, of which some operations only read what nobody in it writes, and the others stand in one order. Plain theorems, no condition. -/
set_option linter.unusedVariables false
set_option linter.unusedSimpArgs false
namespace Go.Fw
section
variable {P : Program} {T : Nat → Option TI} {S : State} {o : Oper}
def Agree (G : Nat → Prop) (w w' : World) : Prop := ∀ b, G b → w'.heap[b]? = w.heap[b]?
/-- The operation yields a value told by x, the same one as long as what may be read stands. -/
def VOG (P : Program) (o : Oper) (S : State) (x : A) : Prop :=
  ∀ (E : Env P) (G : Nat → Prop) (gs : Gh) (a : Act) (w : World), Inv E G gs S a.tmps w →
    ∃ v, (∀ w', Agree G w w' → (execOp a.eval o).run P w' = .ok (.value v) w') ∧ TRel w G S.rows gs x v []
theorem VOG_move {x : Operand} (ho : o.op = .move x ∨ o.op = .assign x) (hx : okO x = true) : VOG P o S (ev S x) :=
  fun E G gs a w hi => ⟨a.eval x, fun w' hw' => by rcases ho with h | h <;> simp [execOp, h], ev_rel hi x hx⟩
theorem VOG_load_rp {t : TypeId} {x : Operand} {xs : List A} {z : A} (ho : o.op = .load t x) (hx : okO x = true) (he : ev S x = .rp xs)
    (ha : aggT P t = some false) (hz : xs[0]? = some z) : VOG P o S z := by
  refine fun E G gs a w hi => ?_
  have h1 := ev_rel hi x hx
  rw [he] at h1
  obtain ⟨b, k, cur, e, fr, hv, hh, hg, hl⟩ := rp_inv h1
  obtain ⟨v, hv1, hv2⟩ := hl.get 0 z hz
  have hcur : cur[k]? = some v := by
    have h0 : 0 < xs.length := by
      rcases Nat.eq_zero_or_pos xs.length with h | h
      · rw [List.eq_nil_of_length_eq_zero h] at hz; simp at hz
      · exact h
    rw [List.getElem?_take_of_lt h0, List.getElem?_drop] at hv1
    simpa using hv1
  exact ⟨v, fun w' hw' => by simp [execOp, ho, Instr.loadAt, hv, Instr.sureAddr, run_loadVar_cell ha ((hw' b hg).trans hh) hcur], .of hv2⟩
theorem VOG_load_rpAgg {t : TypeId} {x : Operand} {xs : List A} {s : Nat} (ho : o.op = .load t x) (hx : okO x = true) (he : ev S x = .rp xs)
    (ha : aggT P t = some true) (hs : szT P t = some s) (hq : s ≤ xs.length) : VOG P o S (.agg (xs.take s)) := by
  refine fun E G gs a w hi => ?_
  have h1 := ev_rel hi x hx
  rw [he] at h1
  obtain ⟨b, k, cur, e, fr, hv, hh, hg, hl⟩ := rp_inv h1
  have h2 := hl.take0 s
  have h3 := h2.length
  rw [List.take_take, Nat.min_eq_left hq] at h2 h3
  exact ⟨.agg ((cur.toList.drop k).take s).toArray, by
    intro w' hw'
    simp [execOp, ho, Instr.loadAt, hv, Instr.sureAddr, run_loadVar_agg ha hs ((hw' b hg).trans hh) rfl (by rw [h3]; simp; omega)], .of (.agg h2)⟩
theorem VOG_slice_sl {t e : TypeId} {x : Operand} {lo hi : Option Operand} {n : Nat} {xs : List A} {l h : Nat} (ho : o.op = .slice t x lo hi none) (hx : okO x = true) (hlo : okOpt lo = true) (hhi : okOpt hi = true)
    (he : ev S x = .sl false n xs) (ht : elemT P t = some e) (hs : szT P e = some n) (h1 : bnd (lo.map (ev S)) 0 = some (l : Int)) (h2 : bnd (hi.map (ev S)) xs.length = some (h : Int)) (hlh : l ≤ h) (hhl : h ≤ xs.length)
    : VOG P o S (.sl false n ((xs.take h).drop l)) := by
  refine fun E G gs a w hinv => ?_
  have e1 := ev_rel hinv x hx
  rw [he] at e1
  obtain ⟨a1, a2⟩ := opt_rel hinv lo hlo
  obtain ⟨b1, b2⟩ := opt_rel hinv hi hhi
  have hu := elemT_inv ht
  rcases slf_inv e1 with ⟨⟨oa, hv⟩, rfl⟩ | ⟨b, k, cap, cur, et, fr, hv, hh, hg, hw, hrel, hcap, hm⟩
  · simp at hhl
    subst hhl
    have : l = 0 := by omega
    subst this
    have hb := slice_bounds (P := P) (isS := true) (lo.map a.eval) (hi.map a.eval) _ _ h1 h2 a1 a2 b1 b2 (by omega) (by simp) (cap := 0) (by simp)
    simp only [List.length_nil] at hb
    refine ⟨.slice oa 0 0, ?_, .of (by cases oa with | none => simpa using Rel.nils | some ad => simpa using Rel.roz)⟩
    intro w' hw'
    cases oa <;>
    simp [execOp, ho, hv, Instr.sliceAt, run_underlying hu, Instr.slice, hb, run_sizeOf hs]
  · have hb := slice_bounds (P := P) (isS := true) (lo.map a.eval) (hi.map a.eval) _ _ h1 h2 a1 a2 b1 b2 hlh hhl hcap
    have hlen : h - l = ((xs.take h).drop l).length := by simp; omega
    refine ⟨.slice (some ⟨b, if cap = l then k else k + l * n, none⟩) (h - l) (cap - l), ?_, .of (.ro hh hg (fun x hx => hw x (List.mem_of_mem_take (List.mem_of_mem_drop hx))) hlen rfl ?_ (by omega) (by omega))⟩
    · intro w' hw'
      simp [execOp, ho, hv, Instr.sliceAt, run_underlying hu, Instr.slice, hb, run_sizeOf hs]
      split <;> simp [add_none]
    · have h3 := (hrel.take0 (h * n)).drop0 (l * n)
      rw [flat_take h hw, flat_drop l (fun x hx => hw x (List.mem_of_mem_take hx))] at h3
      have hle : h * n ≤ xs.length * n := Nat.mul_le_mul_right _ hhl
      have e4 : List.drop (l * n) (List.take (h * n) (List.take (xs.length * n) (cur.toList.drop k))) = (cur.toList.drop (k + l * n)).take ((h - l) * n) := by
        rw [List.take_take, Nat.min_eq_left hle, List.drop_take, List.drop_drop, ← Nat.sub_mul]
      rw [e4] at h3
      split
      · rename_i hc
        have h0 : h - l = 0 := by omega
        rw [h0] at h3 ⊢
        simpa using h3
      · exact h3
theorem VOG_binOp {op : BinOp} {t t' : TypeId} {x y : Operand} {u v : Value} (ho : o.op = .binOp op t x y t') (hx : okO x = true) (hy : okO y = true)
    (h1 : ev S x = .sc u) (h2 : ev S y = .sc v) (h : (binS P op t u v).1) : VOG P o S (.sc (binS P op t u v).2) := by
  refine fun E G gs a w hi => ?_
  have e1 := ev_rel hi x hx
  have e2 := ev_rel hi y hy
  rw [h1] at e1
  rw [h2] at e2
  have v1 := (sc_inv e1).1
  have v2 := (sc_inv e2).1
  refine ⟨_, fun w' hw' => ?_, .of (.sc (binS_run h x y w).2)⟩
  have hr := (binS_run h x y w').1
  simp only [execOp, ho, v1, v2, Sem.run_bind] at hr ⊢
  rw [hr]
  rfl
theorem VOG_makeFunc {fn : FuncId} {first caps : Array Operand} (ho : o.op = .makeFunc (.func fn) first caps) (hf : first.toList = []) (hg : fn < 1000000) : VOG P o S (.clo fn (caps.toList.map (ev S))) := by
  refine fun E G gs a w hi => ⟨mkFn fn (caps.toList.map a.eval), fun w' hw' => ?_, .clo (evs_rel hi caps.toList)⟩
  have : first = #[] := by apply Array.toList_inj.1; simpa using hf
  subst this
  have e : (caps.toList.map a.eval).toArray = caps.map a.eval := by apply Array.toList_inj.1; simp
  unfold mkFn
  rw [if_pos hg, e]
  simp [execOp, ho, Instr.makeFunc]
theorem vBin_sc (hT : TabOK P T) {k : A → Prop} {op : BinOp} {t : TypeId} {x y : A} (h : vBin std T op t x y k) : ∃ u v, x = .sc u ∧ y = .sc v ∧ (binS P op t u v).1 ∧ k (.sc (binS P op t u v).2) := by
  unfold vBin at h
  split at h <;> try exact h.elim
  · rename_i ka a kb b
    have go : (binS P op t (.int ka a) (.int kb b)).1 → k (.sc (binS P op t (.int ka a) (.int kb b)).2) → ∃ u v, A.sc (.int ka a) = .sc u ∧ A.sc (.int kb b) = .sc v ∧ (binS P op t u v).1 ∧ k (.sc (binS P op t u v).2) := fun hc hk => ⟨_, _, rfl, rfl, hc, hk⟩
    unfold vBinI at h
    split at h
    · exact go h.1.h h.2
    · exact go h.1.h h.2
    · split at h <;> try exact h.elim
      rename_i hk
      subst hk
      split at h
      · exact go rfl h
      · exact go rfl h
      · exact go rfl h
      · exact go rfl h
      · exact go rfl h
      · exact go rfl h
      · exact go rfl h
      · exact go ⟨rfl, h.1.h⟩ h.2
      · exact go ⟨rfl, h.1.h⟩ h.2
      · cases op <;> first | exact go rfl h | simp_all
  · rename_i a b
    have go : (binS P op t (.string a) (.string b)).1 → k (.sc (binS P op t (.string a) (.string b)).2) → ∃ u v, A.sc (.string a) = .sc u ∧ A.sc (.string b) = .sc v ∧ (binS P op t u v).1 ∧ k (.sc (binS P op t u v).2) := fun hc hk => ⟨_, _, rfl, rfl, hc, hk⟩
    unfold vBinS at h
    split at h <;> try exact h.elim
    · exact go h.1.h h.2
    all_goals exact go trivial h
  · rename_i a b
    split at h <;> try exact h.elim
    · rename_i i hi
      split at h <;> try exact h.elim
      rename_i hb
      exact ⟨_, _, rfl, rfl, by rw [← (tiOf_ok (hT _ _ hi)).bool] at hb; exact hb, h⟩
    · rename_i i hi
      split at h <;> try exact h.elim
      rename_i hb
      exact ⟨_, _, rfl, rfl, by rw [← (tiOf_ok (hT _ _ hi)).bool] at hb; exact hb, h⟩
/-- What an operation reads that nobody writes. -/
def vGOp (Ω : Opq) (T : Nat → Option TI) (o : Oper) (S : State) (k : A → Prop) : Prop :=
  match o.op with
  | .move x => k (ev S x)
  | .assign x => k (ev S x)
  | .binOp op t x y _ => vBin Ω T op t (ev S x) (ev S y) k
  | .load t x => (match T t, ev S x with
    | some i, .rp xs => if i.ag then (if i.sz ≤ xs.length then k (.agg (xs.take i.sz)) else False) else (match xs[0]? with
      | some z => k z
      | none => False)
    | _, _ => False)
  | .slice t x lo hi none => (match ev S x, szEl T t with
    | .sl false n xs, some (_, ei) => if ei.sz = n then vLo Ω (lo.map (ev S)) 0 fun c1 l => vLo Ω (hi.map (ev S)) (Ω.len xs) fun c2 h => Ob (fun _ => c1 () ∧ c2 () ∧ l ≤ h ∧ h ≤ xs.length) ∧ k (.sl false n (Ω.seg l h xs)) else False
    | _, _ => False)
  | .makeFunc (.func g) first caps => (match first.toList with
    | [] => if g < 1000000 then k (.clo g (caps.toList.map (ev S))) else False
    | _ => False)
  | _ => False
theorem vGOp_ok (hT : TabOK P T) {k : A → Prop} (h : vGOp std T o S k) : ∃ z, VOG P o S z ∧ k z := by
  have ok : ∀ x : Option Operand, okOpt x = true := fun x => by cases x <;> rfl
  unfold vGOp at h
  split at h
  · rename_i x ho; exact ⟨_, VOG_move (.inl ho) rfl, h⟩
  · rename_i x ho; exact ⟨_, VOG_move (.inr ho) rfl, h⟩
  · rename_i ho
    obtain ⟨u, v, h1, h2, h3, h4⟩ := vBin_sc hT h
    exact ⟨_, VOG_binOp ho rfl rfl h1 h2 h3, h4⟩
  · rename_i t x ho
    split at h <;> try exact h.elim
    rename_i i xs hi hx
    have hti := tiOf_ok (hT _ _ hi)
    split at h
    · rename_i hag
      split at h <;> try exact h.elim
      rename_i hle
      exact ⟨_, VOG_load_rpAgg ho rfl hx (by rw [hti.ag, hag]) hti.sz hle, h⟩
    · rename_i hag
      split at h <;> try exact h.elim
      rename_i z hz
      exact ⟨_, VOG_load_rp ho rfl hx (by rw [hti.ag]; simpa using hag) hz, h⟩
  · rename_i t x lo hi ho
    split at h <;> try exact h.elim
    rename_i n xs e ei hx hs
    obtain ⟨he, hei⟩ := szEl_ok hT hs
    split at h <;> try exact h.elim
    rename_i hn
    obtain ⟨c1, l, h, g1⟩ := vLo_ok h
    obtain ⟨c2, u, h, g2⟩ := vLo_ok h
    obtain ⟨h0, h⟩ := h
    obtain ⟨h1, h2, h3, h4⟩ := h0.h
    exact ⟨_, VOG_slice_sl ho rfl (ok _) (ok _) hx he (by rw [hei.sz, hn]) (g1 h1) (g2 h2) h3 h4, h⟩
  · rename_i g first caps ho
    split at h <;> try exact h.elim
    rename_i hf
    split at h <;> try exact h.elim
    rename_i hg
    exact ⟨_, VOG_makeFunc ho hf hg, h⟩
  · exact h.elim
def vGs (Ω : Opq) (T : Nat → Option TI) (ops : List Oper) : List Nat → State → (State → Prop) → Prop
  | [], S, K => K S
  | q :: qs, S, K => match ops[q]? with
    | some o => (match o.guard with
      | none => vGOp Ω T o S fun z => vGs Ω T ops qs (S.put o.dst z) K
      | some _ => False)
    | none => False
def vNs (Ω : Opq) (P : Program) (T : Nat → Option TI) (ops : List Oper) : Option Nat → List Nat → State → (State → Prop) → Prop
  | _, [], S, K => K S
  | mv, n :: ns, S, K => match ops[n]? with
    | some o => (match o.guard with
      | none => vOp Ω P T mv o S fun S' => vNs Ω P T ops (madeBy o) ns S' K
      | some _ => False)
    | none => False
/-- The surroundings from the region's own beginning on. -/
def envAt (E : Env P) (G : Nat → Prop) (gs : Gh) (S : State) (w : World) : Env P :=
  ⟨w, G, fun b => ∃ r row, rowAt S.rows r = some row ∧ b ∈ gs.all r, E.gv⟩
theorem Inv.at {E : Env P} {G : Nat → Prop} {gs : Gh} {tmps : Array Value} {w : World} (hi : Inv E G gs S tmps w) : Inv (envAt E G gs S w) G gs S tmps w :=
  ⟨fun _ _ _ => rfl, rfl, rfl, rfl, Nat.le_refl _, hi.sz, fun _ h => h, fun _ h => .inl h, hi.glt, hi.row, hi.nod, fun r row hr b hb => ⟨(hi.own r row hr b hb).1, .inl ⟨r, row, hr, hb⟩⟩, hi.dis, hi.tmp⟩
theorem Inv.back {E : Env P} {G G' : Nat → Prop} {gs gs' : Gh} {S' : State} {tmps tmps' : Array Value} {w w' : World} (hi : Inv E G gs S tmps w) (hi' : Inv (envAt E G gs S w) G' gs' S' tmps' w') : Inv E G' gs' S' tmps' w' := by
  have hfin : ∀ b, (∃ r row, rowAt S.rows r = some row ∧ b ∈ gs.all r) → E.Fin b ∨ E.w0.heap.size ≤ b := fun b ⟨r, row, hr, hb⟩ => (hi.own r row hr b hb).2
  refine ⟨fun b h hf => ?_, hi'.os.trans hi.os, hi'.tape.trans hi.tape, hi'.output.trans hi.output, Nat.le_trans hi.size hi'.size, hi'.sz, fun b h => hi'.gsub b (hi.gsub b h), fun b h => ?_, hi'.glt, hi'.row, hi'.nod, fun r row hr b hb => ?_, hi'.dis, hi'.tmp⟩
  · rw [hi'.keep b (Nat.lt_of_lt_of_le h hi.size) fun hb => by
      rcases hfin b hb with h1 | h1
      · exact hf h1
      · omega]
    exact hi.keep b h hf
  · rcases hi'.gnew b h with h1 | ⟨r, row, hr, hb⟩ | h1
    · exact hi.gnew b h1
    · exact .inr (hi.own r row hr b hb).2
    · exact .inr (.inr (Nat.le_trans hi.size h1))
  · refine ⟨(hi'.own r row hr b hb).1, ?_⟩
    rcases (hi'.own r row hr b hb).2 with h1 | h1
    · exact hfin b h1
    · exact .inr (Nat.le_trans hi.size h1)
theorem Inv.agree {E : Env P} {G G' : Nat → Prop} {gs gs' : Gh} {S' : State} {tmps tmps' : Array Value} {w w' : World} (hi : Inv E G gs S tmps w) (hi' : Inv (envAt E G gs S w) G' gs' S' tmps' w') : Agree G w w' := fun b hb =>
  hi'.keep b (hi.glt b hb) fun ⟨r, row, hr, h⟩ => (hi.own r row hr b h).1 hb
end
end Go.Fw

/- Regions that draw their order, in which operations read rows that others leave alone for a while. Plain theorems, no condition. -/
set_option linter.unusedVariables false
set_option linter.unusedSimpArgs false
namespace Go.Fw

/-! The order of a region: what keeps a condition on the world, and what need not. -/
section
variable {P : Program} {ops : Array Oper} {Q : Exit → Act → World → Prop} {md : Region.Mode} {kp : Nat → Bool} {Sc : World → Prop}
/-- Whatever order is drawn; those that 'kp' names keep Sc. -/
def anyK (P : Program) (md : Region.Mode) (ops : Array Oper) (Q : Exit → Act → World → Prop) (kp : Nat → Bool) (Sc : World → Prop) : Nat → Array Bool → Act → World → Prop
  | 0, l, a, w => Region.ready md ops l = [] ∧ Q .normal a w
  | f + 1, l, a, w => (Region.ready md ops l = [] → Q .normal a w) ∧
    ∀ i ∈ Region.ready md ops l, wpOp P ops Q i (fun a' w' => (kp i = true → Sc w') ∧ anyK P md ops Q kp Sc f (l.setIfInBounds i true) a' w') a w
theorem any_of_K : ∀ (f : Nat) (l : Array Bool) (a : Act) (w : World), anyK P md ops Q kp Sc f l a w → wpAny P md ops Q f l a w
  | 0, _, _, _, h => h
  | f + 1, _, _, _, h => ⟨h.1, fun i hi => wpOp_mono (fun a' w' h' => any_of_K f _ a' w' h'.2) (h.2 i hi)⟩
/-- j waits for i, maybe through others. -/
def waitsB (md : Region.Mode) (ops : Array Oper) (i : Nat) : Nat → Nat → Bool
  | 0, _ => false
  | f + 1, j => match ops[j]? with
    | some oj => oj.after.any fun e => Region.binds md e && (e.on == i || waitsB md ops i f e.on)
    | none => false
/-- What has come up has come behind all that it waits for. -/
structure Closed (md : Region.Mode) (ops : Array Oper) (l : Array Bool) : Prop where
  h : ∀ j oj, ops[j]? = some oj → l.getD j false = true → ∀ e ∈ oj.after, Region.binds md e = true → l.getD e.on false = true
def closedB (md : Region.Mode) (ops : Array Oper) (l : Array Bool) : Bool :=
  (List.range ops.size).all fun j => !l.getD j false || match ops[j]? with
    | some oj => oj.after.all fun e => !Region.binds md e || l.getD e.on false
    | none => true
theorem closedB_ok {l : Array Bool} (h : closedB md ops l = true) : Closed md ops l := ⟨fun j oj hj hl e he hb => by
  simp only [closedB, List.all_eq_true, List.mem_range] at h
  have h1 := h j (Array.getElem?_eq_some_iff.1 hj).1
  simp only [hj, hl, Bool.not_true, Bool.false_or, Array.all_eq_true_iff_forall_mem] at h1
  have h2 := h1 e he
  simpa [hb] using h2⟩
theorem Closed.waits {l : Array Bool} (hc : Closed md ops l) {i : Nat} (hi : l.getD i true = false) : ∀ (f j : Nat), (∀ oj, ops[j]? = some oj → ∀ e ∈ oj.after, Region.binds md e = true → l.getD e.on false = true) → waitsB md ops i f j = false
  | 0, j, _ => rfl
  | f + 1, j, h => by
    unfold waitsB
    split
    · rename_i oj hj
      rw [Array.any_eq_false]
      intro k hk
      simp only [Bool.and_eq_true, Bool.or_eq_true, beq_iff_eq, not_and, not_or]
      intro hb
      have h1 := h oj hj _ (Array.getElem_mem hk) hb
      refine ⟨fun e => ?_, by simp [hc.waits hi f _ fun oj' hj' => hc.h _ oj' hj' h1]⟩
      rw [e, getD_both hi] at h1
      cases h1
    · rfl
theorem Closed.set {l : Array Bool} (hc : Closed md ops l) {j : Nat} (hj : j ∈ Region.ready md ops l) : Closed md ops (l.setIfInBounds j true) := ⟨fun k ok hk hl e he hb => by
  obtain ⟨_, oj, hoj, hall⟩ := mem_ready.1 hj
  refine getD_set_true ?_
  by_cases hjk : j = k
  · subst hjk
    rw [hoj] at hk
    obtain rfl := Option.some.inj hk
    exact hall e he hb
  · rw [getD_set_ne false hjk] at hl
    exact hc.h k ok hk hl e he hb⟩
/-- All that may still come ahead of i keeps Sc. -/
def kfree (md : Region.Mode) (ops : Array Oper) (kp : Nat → Bool) (l : Array Bool) (i : Nat) : Bool :=
  closedB md ops l && (List.range ops.size).all fun j => j == i || l.getD j true || match ops[j]? with
    | some oj => waitsB md ops i ops.size j || (oj.after.any (fun e => Region.binds md e && e.on == i) || kp j) && (match ops[i]? with
      | some oi => oi.apart ops oj
      | none => false)
    | none => true
theorem kfree_spec {i : Nat} {oi : Oper} {l : Array Bool} (hi : ops[i]? = some oi) (h : kfree md ops kp l i = true) (j : Nat) (oj : Oper) (hj : ops[j]? = some oj) (hne : j ≠ i) (hun : l.getD j true = false)
    (hno : waitsB md ops i ops.size j = false) (hdir : ∀ e ∈ oj.after, Region.binds md e = true → e.on ≠ i) : oi.apart ops oj = true ∧ kp j = true := by
  simp only [kfree, Bool.and_eq_true, List.all_eq_true, List.mem_range] at h
  have h1 := h.2 j (Array.getElem?_eq_some_iff.1 hj).1
  simp only [hj, hi, Bool.or_eq_true, beq_iff_eq, hne, false_or, hun, hno, Bool.false_eq_true, Bool.and_eq_true] at h1
  refine ⟨h1.2, h1.1.resolve_left fun h2 => ?_⟩
  obtain ⟨e, he, hb⟩ := Array.any_eq_true'.1 h2
  simp only [Bool.and_eq_true, beq_iff_eq] at hb
  exact hdir e he hb.1 hb.2
theorem anyK_first {i : Nat} {oi : Oper} {v : Value} (hi : ops[i]? = some oi) (hsel : ∀ (j : Nat) (o : Oper) cs b, ops[j]? = some o → o.op ≠ .select cs b)
    (hQ : ∀ c a w, Q (.panic c) (a.put oi.dst v) w → Q (.panic c) a w) : ∀ (f : Nat) (l : Array Bool) (a : Act) (w : World), Closed md ops l →
    (∀ j oj, ops[j]? = some oj → j ≠ i → l.getD j true = false → waitsB md ops i ops.size j = false → (∀ e ∈ oj.after, Region.binds md e = true → e.on ≠ i) → oi.apart ops oj = true ∧ kp j = true) →
    i ∈ Region.ready md ops l → YieldsIf P ops Sc oi v a → Sc w → anyK P md ops Q kp Sc f (l.setIfInBounds i true) (a.put oi.dst v) w → anyK P md ops Q kp Sc (f + 1) l a w := by
  intro f
  induction f with
  | zero =>
    intro l a w _ _ hr hy hS H
    refine ⟨fun h => (by rw [h] at hr; cases hr), fun j hj => ?_⟩
    by_cases hji : j = i
    · subst hji; exact hy.wpOp hi hS ⟨fun _ => hS, H⟩
    · have h1 := ready_mono hj hji
      rw [H.1] at h1
      cases h1
  | succ f ih =>
    intro l a w hcl hfree hr hy hS H
    refine ⟨fun h => (by rw [h] at hr; cases hr), fun j hj => ?_⟩
    by_cases hji : j = i
    · subst hji; exact hy.wpOp hi hS ⟨fun _ => hS, H⟩
    · obtain ⟨hjun, oj, hoj, hall⟩ := mem_ready.1 hj
      have hin := (mem_ready.1 hr).1
      have hnot : ∀ e ∈ oj.after, Region.binds md e = true → e.on ≠ i := fun e he hb heq => by
        have h1 := hall e he hb
        rw [heq, getD_both hin] at h1
        cases h1
      have hw : waitsB md ops i ops.size j = false := hcl.waits hin _ _ fun oj' hj' e he hb => by
        rw [hoj] at hj'
        obtain rfl := Option.some.inj hj'
        exact hall e he hb
      obtain ⟨hap, hkp⟩ := hfree j oj hoj hji hjun hw hnot
      refine wpOp_mono (fun a' w' h3 => ⟨fun _ => h3.2.1 hkp, ih (l.setIfInBounds j true) a' w' (hcl.set hj) (fun k ok hk hki hun hno hd => ?_) (ready_mono hr (Ne.symm hji)) h3.1 (h3.2.1 hkp) ?_⟩)
        (wpOp_putIf hoj hap (fun cs b => hsel i oi cs b hi) (fun cs b => hsel j oj cs b hoj) hQ hy (H.2 j (ready_mono hj hji)))
      · refine hfree k ok hk hki ?_ hno hd
        by_cases hjk : j = k
        · subst hjk; exact hjun
        · rw [getD_set_ne true hjk] at hun; exact hun
      · rw [Array.setIfInBounds_comm _ _ hji]
        exact h3.2.2
theorem anyK_take {i : Nat} {oi : Oper} {v : Value} {f : Nat} {l : Array Bool} {a : Act} {w : World} (hi : ops[i]? = some oi) (hs : Region.noSelect ops = true) (hk : kfree md ops kp l i = true)
    (hr : (Region.ready md ops l).contains i = true) (hQ : ∀ c a w, Q (.panic c) (a.put oi.dst v) w → Q (.panic c) a w) (hy : YieldsIf P ops Sc oi v a) (hS : Sc w)
    (h : anyK P md ops Q kp Sc f (l.setIfInBounds i true) (a.put oi.dst v) w) : anyK P md ops Q kp Sc (f + 1) l a w :=
  anyK_first hi (Region.noSelect_spec hs) hQ f l a w (closedB_ok (by simp only [kfree, Bool.and_eq_true] at hk; exact hk.1)) (kfree_spec hi hk) (by simpa using hr) hy hS h
end

/-! Rows that are lent: for a while nothing is told of them but that they stand. -/
mutual
/-- It leads into rows rs alone. -/
def onlyR (rs : List Nat) : A → Bool
  | .vw r _ _ => rs.contains r
  | .pt r _ _ => rs.contains r
  | .agg xs => onlyRL rs xs
  | .tup xs => onlyRL rs xs
  | .clo _ xs => onlyRL rs xs
  | .un => true
  | .sc _ => true
  | .nil => true
  | .sl _ _ _ => true
  | .rp _ => true
  | .bx _ => true
def onlyRL (rs : List Nat) : List A → Bool
  | [] => true
  | x :: xs => onlyR rs x && onlyRL rs xs
end
theorem onlyRL_eq (rs : List Nat) : ∀ xs : List A, onlyRL rs xs = xs.all (onlyR rs)
  | [] => rfl
  | x :: xs => by rw [onlyRL, onlyRL_eq rs xs, List.all_cons]
theorem TRel.on {w w' : World} {G G' : Nat → Prop} {rows rows' : List (Option Row)} {gs gs' : Gh} {rs : List Nat} (hG : ∀ b, G b → G' b ∧ w'.heap[b]? = w.heap[b]?) (hR : ∀ r ∈ rs, RowLe w w' rows rows' gs gs' r)
    {x : A} {v : Value} {F : List Nat} (h : TRel w G rows gs x v F) (ho : onlyR rs x = true) (hF : ∀ b ∈ F, w'.heap[b]? = w.heap[b]?) : TRel w' G' rows' gs' x v F := by
  refine TRel.rec (motive_1 := fun x v F _ => onlyR rs x = true → (∀ b ∈ F, w'.heap[b]? = w.heap[b]?) → TRel w' G' rows' gs' x v F)
    (motive_2 := fun xs vs F _ => xs.all (onlyR rs) = true → (∀ b ∈ F, w'.heap[b]? = w.heap[b]?) → TRelL w' G' rows' gs' xs vs F) ?_ ?_ ?_ ?_ ?_ ?_ ?_ ?_ ?_ ?_ h ho hF
  · intros; exact .un
  · intro x v F h _ hF; exact .of (h.move_ hG hF)
  · intro r off len k cap b row cur e hr hob hl hh hs hm hc hk ho _
    obtain ⟨row', hr', hg, hn, hx, hb⟩ := (hR r (by simpa [onlyR] using ho)).le row hr
    obtain ⟨cur', e', hh', hs'⟩ := hb b cur e hob hh
    exact .vw hr' (by rw [hg]; exact hob) (by omega) hh' (by rw [hs', hs, hn]) hm (by omega) (by rw [hn]; exact hk)
  · intro r row hr hob hxs ho _
    obtain ⟨row', hr', hg, hn, hx, hb⟩ := (hR r (by simpa [onlyR] using ho)).le row hr
    exact .vwn hr' (by rw [hg]; exact hob) (by rw [hxs] at hx; exact List.eq_nil_of_length_eq_zero hx)
  · intro r j o k b row hr hob hk ho _
    obtain ⟨row', hr', hg, hn, hx, hb⟩ := (hR r (by simpa [onlyR] using ho)).le row hr
    exact .pt hr' (by rw [hg]; exact hob) (by rw [hn]; exact hk)
  · intro xs cs F hl ih ho hF; exact .agg (ih (by rw [← onlyRL_eq]; simpa [onlyR] using ho) hF)
  · intro xs cs F hl ih ho hF; exact .tup (ih (by rw [← onlyRL_eq]; simpa [onlyR] using ho) hF)
  · intro g caps cs F hl ih ho hF; exact .clo (ih (by rw [← onlyRL_eq]; simpa [onlyR] using ho) hF)
  · intro _ _; exact .nil
  · intro x v F xs vs Fs h hl ih ih' ho hF
    rw [List.all_cons, Bool.and_eq_true] at ho
    exact .cons (ih ho.1 fun b hb => hF b (by simp [hb])) (ih' ho.2 fun b hb => hF b (by simp [hb]))
theorem TRelL.on {w w' : World} {G G' : Nat → Prop} {rows rows' : List (Option Row)} {gs gs' : Gh} {rs : List Nat} (hG : ∀ b, G b → G' b ∧ w'.heap[b]? = w.heap[b]?) (hR : ∀ r ∈ rs, RowLe w w' rows rows' gs gs' r) :
    ∀ {xs : List A} {vs : List Value} {F : List Nat}, TRelL w G rows gs xs vs F → xs.all (onlyR rs) = true → (∀ b ∈ F, w'.heap[b]? = w.heap[b]?) → TRelL w' G' rows' gs' xs vs F
  | _, _, _, .nil, _, _ => .nil
  | _, _, _, .cons h hl, ho, hF => by
    rw [List.all_cons, Bool.and_eq_true] at ho
    exact .cons (h.on hG hR ho.1 fun b hb => hF b (by simp [hb])) (hl.on hG hR ho.2 fun b hb => hF b (by simp [hb]))
def rowOnly (rs : List Nat) (row : Row) : Bool := !row.lk || (flat row.xs).all (onlyR rs)
theorem RowRel.on {w w' : World} {G G' : Nat → Prop} {rows rows' : List (Option Row)} {gs gs' : Gh} {rs : List Nat} (hG : ∀ b, G b → G' b ∧ w'.heap[b]? = w.heap[b]?) (hR : ∀ r ∈ rs, RowLe w w' rows rows' gs gs' r)
    {row : Row} {ob : Option Nat} {F : List Nat} (h : RowRel w G rows gs row ob F) (ho : rowOnly rs row = true) (hF : ∀ b ∈ ob.toList ++ F, w'.heap[b]? = w.heap[b]?) : RowRel w' G' rows' gs' row ob F := by
  cases ob with
  | none => exact h
  | some b =>
    obtain ⟨cur, e, cap, h1, h2, h3, h4, h5, h6, h7⟩ := h.ex
    have hF' : ∀ c ∈ F, w'.heap[c]? = w.heap[c]? := fun c hc => hF c (by simp [hc])
    refine ⟨cur, e, cap, by rw [hF b (by simp)]; exact h1, h2, h3, h4, h5, h6, ?_⟩
    unfold CellsRel at h7 ⊢
    split
    · rename_i hl
      rw [if_pos hl] at h7
      exact h7.on hG hR (by simpa [rowOnly, hl] using ho) hF'
    · rename_i hl
      rw [if_neg hl] at h7
      exact h7.move_ hG hF'

def State.turns : List Nat → State → State
  | [], S => S
  | r :: rs, S => State.turns rs (S.turn r none)
def lentT (vs : Nat → Value) : List Nat → List (Nat × A) → List (Nat × A)
  | [], t => t
  | i :: hs, t => (i, .sc (vs i)) :: lentT vs hs t
/-- Rows rs are lent; the temporaries hs are kept as they are. -/
def State.lend (S : State) (rs hs : List Nat) (vs : Nat → Value) : State := ⟨lentT vs hs (S.turns rs).t, S.N, (S.turns rs).rows⟩
def backT (S : State) : List Nat → List (Nat × A) → List (Nat × A)
  | [], t => t
  | i :: hs, t => (i, lk S.t i) :: backT S hs t
def backR (S : State) : List Nat → List (Option Row) → List (Option Row)
  | [], rows => rows
  | r :: rs, rows => backR S rs (rows.set r (rowAt S.rows r))
/-- They are given back. -/
def State.unlend (S2 S : State) (rs hs : List Nat) : State := ⟨backT S hs S2.t, S2.N, backR S rs S2.rows⟩
theorem lk_lentT (vs : Nat → Value) : ∀ (hs : List Nat) (t : List (Nat × A)) (i : Nat), lk (lentT vs hs t) i = if i ∈ hs then .sc (vs i) else lk t i
  | [], t, i => by simp [lentT]
  | j :: hs, t, i => by
    simp only [lentT, lk, lk_lentT vs hs t i, List.mem_cons]
    by_cases h : j = i
    · subst h; simp
    · rw [if_neg h]
      by_cases h2 : i ∈ hs
      · simp [h2]
      · simp only [h2, or_false, if_false]
        rw [if_neg fun e => h e.symm]
theorem lk_backT (S : State) : ∀ (hs : List Nat) (t : List (Nat × A)) (i : Nat), lk (backT S hs t) i = if i ∈ hs then lk S.t i else lk t i
  | [], t, i => by simp [backT]
  | j :: hs, t, i => by
    simp only [backT, lk, lk_backT S hs t i, List.mem_cons]
    by_cases h : j = i
    · subst h; simp
    · rw [if_neg h]
      by_cases h2 : i ∈ hs
      · simp [h2]
      · simp only [h2, or_false, if_false]
        rw [if_neg fun e => h e.symm]
theorem rowAt_backR (S : State) : ∀ (rs : List Nat) (rows : List (Option Row)) (i : Nat), (∀ r ∈ rs, r < rows.length) → rowAt (backR S rs rows) i = if i ∈ rs then rowAt S.rows i else rowAt rows i
  | [], rows, i, _ => by simp [backR]
  | r :: rs, rows, i, h => by
    rw [backR, rowAt_backR S rs _ i (fun q hq => by rw [List.length_set]; exact h q (by simp [hq]))]
    simp only [List.mem_cons]
    by_cases h2 : i ∈ rs
    · simp [h2]
    · rw [if_neg h2, rowAt_set _ _ _ _ (h r (by simp))]
      by_cases h3 : i = r
      · subst h3; simp
      · simp [h2, h3]
section
variable {P : Program} {T : Nat → Option TI} {E : Env P} {G : Nat → Prop} {gs : Gh} {S : State} {a : Act} {w : World} {tmps : Array Value}
theorem Inv.turns : ∀ (rs : List Nat) {S : State} {gs : Gh}, Inv E G gs S tmps w → rs.Nodup → (∀ r ∈ rs, ∃ row, rowAt S.rows r = some row) →
    ∃ gs', Inv E G gs' (S.turns rs) tmps w ∧ (∀ r, r ∉ rs → gs' r = gs r) ∧ ∀ r ∈ rs, rowAt (S.turns rs).rows r = none
  | [], S, gs, hi, _, _ => ⟨gs, hi, fun _ _ => rfl, by simp⟩
  | q :: rs, S, gs, hi, hnd, hr => by
    obtain ⟨row, hq⟩ := hr q (by simp)
    rw [List.nodup_cons] at hnd
    have h1 := hi.turn (x := none) (ob := none) (F := []) hq rfl rfl rfl (Nat.le_refl _) (fun _ _ _ => rfl) (by simp) (by simp) (by simp) (by simp)
    obtain ⟨gs', h2, h3, h4⟩ := Inv.turns rs h1 hnd.2 (fun r hrr => by
      obtain ⟨row', h⟩ := hr r (by simp [hrr])
      refine ⟨killRow q row', ?_⟩
      rw [rowAt_turn hq, if_neg (fun e => hnd.1 (by rw [← e]; exact hrr)), h]; rfl)
    have keepNone : ∀ (rs : List Nat) (S : State), rowAt S.rows q = none → rowAt (S.turns rs).rows q = none := by
      intro rs
      induction rs with
      | nil => intro S h; exact h
      | cons r rs ih =>
        intro S h
        refine ih _ ?_
        show rowAt ((killRows r S.rows).set r none) q = none
        by_cases hlt : r < (killRows r S.rows).length
        · rw [rowAt_set _ _ _ _ hlt]
          split
          · rfl
          · rw [rowAt_killRows, h]; rfl
        · rw [List.set_eq_of_length_le (by omega), rowAt_killRows, h]; rfl
    refine ⟨gs', h2, fun r hrn => ?_, fun r hrr => ?_⟩
    · rw [h3 r (fun h => hrn (by simp [h]))]
      simp only [Gh.add]
      rw [if_neg fun e => hrn (by simp [e])]
    · rcases List.mem_cons.1 hrr with rfl | h
      · refine keepNone rs _ ?_
        rw [rowAt_turn hq, if_pos rfl]
      · exact h4 r h
/-- One cell. -/
def oneA' : A → Bool
  | .agg _ => false
  | .tup _ => false
  | .clo _ _ => false
  | .un => false
  | _ => true
theorem cell_of {rows : List (Option Row)} {x : A} {v : Value} (h : TRel w G rows gs x v []) (hx : oneA' x = true) : cellV v = true := by
  cases h with
  | un => cases hx
  | of h => cases h <;> first | rfl | assumption | cases hx
  | vw => rfl
  | vwn => rfl
  | pt => rfl
  | agg => cases hx
  | tup => cases hx
  | clo => cases hx
def AgreeR (G : Nat → Prop) (gs : Gh) (rs : List Nat) (w w' : World) : Prop := ∀ b, (G b ∨ ∃ r ∈ rs, b ∈ gs.all r) → w'.heap[b]? = w.heap[b]?
def envL (E : Env P) (G : Nat → Prop) (gs gs' : Gh) (S : State) (rs : List Nat) (tmps : Array Value) (w : World) : Env P := ⟨w, G, fun b => ∃ r row, rowAt (S.turns rs).rows r = some row ∧ b ∈ gs'.all r, E.gv⟩
theorem Inv.lend (hi : Inv E G gs S tmps w) {rs hs : List Nat} (hnd : rs.Nodup) (hr : ∀ r ∈ rs, ∃ row, rowAt S.rows r = some row) (hone : ∀ i ∈ hs, oneA' (lk S.t i) = true) :
    ∃ gs', Inv (envL E G gs gs' S rs tmps w) G gs' (S.lend rs hs (vat E tmps)) tmps w ∧ (∀ r, r ∉ rs → gs' r = gs r) ∧ ∀ r ∈ rs, rowAt (S.turns rs).rows r = none := by
  obtain ⟨gs', h1, h2, h3⟩ := Inv.turns rs hi hnd hr
  refine ⟨gs', ⟨fun _ _ _ => rfl, rfl, rfl, rfl, Nat.le_refl _, hi.sz, fun _ h => h, fun _ h => .inl h, hi.glt, h1.row, h1.nod, fun r row hr b hb => ⟨(h1.own r row hr b hb).1, .inl ⟨r, row, hr, hb⟩⟩, h1.dis, fun i => ?_⟩, h2, h3⟩
  show TRel w G (S.turns rs).rows gs' (lk (lentT (vat E tmps) hs (S.turns rs).t) i) (vat E tmps i) []
  rw [lk_lentT]
  split
  · rename_i h
    exact .of (.sc (cell_of (hi.tmp i) (hone i h)))
  · exact h1.tmp i
theorem turns_none {rs : List Nat} : ∀ {S : State} {r : Nat}, rowAt S.rows r = none → rowAt (S.turns rs).rows r = none := by
  induction rs with
  | nil => exact id
  | cons q rs ih =>
    intro S r h
    refine ih ?_
    show rowAt ((killRows q S.rows).set q none) r = none
    by_cases hlt : q < (killRows q S.rows).length
    · rw [rowAt_set _ _ _ _ hlt]
      split
      · rfl
      · rw [rowAt_killRows, h]; rfl
    · rw [List.set_eq_of_length_le (by omega), rowAt_killRows, h]; rfl
theorem lent_fin (hi : Inv E G gs S tmps w) {rs : List Nat} {gs0 : Gh} (hgs0 : ∀ r, r ∉ rs → gs0 r = gs r) (hno : ∀ r ∈ rs, rowAt (S.turns rs).rows r = none) (hrow : ∀ r ∈ rs, ∃ row, rowAt S.rows r = some row) :
    ∀ r ∈ rs, ∀ b ∈ gs.all r, ¬ (envL E G gs gs0 S rs tmps w).Fin b := fun r hr b hb ⟨r', row', hr', hb'⟩ => by
  obtain ⟨row, hrw⟩ := hrow r hr
  have hne : r' ∉ rs := fun h => by rw [hno r' h] at hr'; cases hr'
  have e : gs0.all r' = gs.all r' := by simp only [Gh.all, hgs0 r' hne]
  rw [e] at hb'
  obtain ⟨row0, h0⟩ : ∃ row0, rowAt S.rows r' = some row0 := by
    cases h : rowAt S.rows r' with
    | none => rw [turns_none h] at hr'; cases hr'
    | some row0 => exact ⟨row0, rfl⟩
  exact hi.dis r r' row row0 hrw h0 (fun e => hne (by rw [← e]; exact hr)) b hb hb'
theorem lent_agree (hi : Inv E G gs S tmps w) {rs : List Nat} {gs0 : Gh} (hgs0 : ∀ r, r ∉ rs → gs0 r = gs r) (hno : ∀ r ∈ rs, rowAt (S.turns rs).rows r = none) {G' : Nat → Prop} {gs2 : Gh} {S2 : State} {tmps' : Array Value} {w' : World}
    (hi2 : Inv (envL E G gs gs0 S rs tmps w) G' gs2 S2 tmps' w') (hrow : ∀ r ∈ rs, ∃ row, rowAt S.rows r = some row) : AgreeR G gs rs w w' := fun b hb => by
  rcases hb with hb | ⟨r, hr, hb⟩
  · refine hi2.keep b (hi.glt b hb) fun ⟨r', row', hr', hb'⟩ => ?_
    have hne : r' ∉ rs := fun h => by rw [hno r' h] at hr'; cases hr'
    have e : gs0.all r' = gs.all r' := by simp only [Gh.all, hgs0 r' hne]
    rw [e] at hb'
    obtain ⟨row0, h0⟩ : ∃ row0, rowAt S.rows r' = some row0 := by
      cases h : rowAt S.rows r' with
      | none => rw [turns_none h] at hr'; cases hr'
      | some row0 => exact ⟨row0, rfl⟩
    exact (hi.own r' row0 h0 b hb').1 hb
  · obtain ⟨row, hrw⟩ := hrow r hr
    exact hi2.keep b (hi.block_lt hrw b hb) (lent_fin hi hgs0 hno hrow r hr b hb)
theorem Inv.unlend (hi : Inv E G gs S tmps w) {rs hs : List Nat} {gs0 : Gh} (hgs0 : ∀ r, r ∉ rs → gs0 r = gs r) (hno : ∀ r ∈ rs, rowAt (S.turns rs).rows r = none) {G' : Nat → Prop} {gs2 : Gh} {S2 : State} {tmps' : Array Value} {w' : World}
    (hi2 : Inv (envL E G gs gs0 S rs tmps w) G' gs2 S2 tmps' w') (h1 : ∀ i ∈ hs, lk S2.t i = .sc (vat E tmps i)) (h2 : ∀ r ∈ rs, rowAt S2.rows r = none ∧ r < S2.rows.length)
    (hon : ∀ i ∈ hs, onlyR rs (lk S.t i) = true) (hrow : ∀ r ∈ rs, ∃ row, rowAt S.rows r = some row ∧ rowOnly rs row = true) :
    Inv (envAt E G gs S w) G' (fun r => if r ∈ rs then gs r else gs2 r) (S2.unlend S rs hs) tmps' w' ∧ AgreeR G gs rs w w' := by
  have hsame : ∀ r, rowAt S.rows r = none → rowAt (S.turns rs).rows r = none := fun r h => turns_none h
  have hrow' : ∀ r ∈ rs, ∃ row, rowAt S.rows r = some row := fun r hr => let ⟨row, h, _⟩ := hrow r hr; ⟨row, h⟩
  have hfin := lent_fin (E := E) hi hgs0 hno hrow'
  have hag := lent_agree hi hgs0 hno hi2 hrow'
  refine ⟨?_, hag⟩
  have hG : ∀ b, G b → G' b ∧ w'.heap[b]? = w.heap[b]? := fun b hb => ⟨hi2.gsub b hb, hag b (.inl hb)⟩
  have hrat : ∀ r, rowAt (S2.unlend S rs hs).rows r = if r ∈ rs then rowAt S.rows r else rowAt S2.rows r := fun r => rowAt_backR S rs S2.rows r fun q hq => (h2 q hq).2
  have hleS : ∀ r ∈ rs, RowLe w w' S.rows (S2.unlend S rs hs).rows gs (fun r => if r ∈ rs then gs r else gs2 r) r := fun r hr => RowLe.mk fun row hrw => by
    refine ⟨row, by rw [hrat, if_pos hr]; exact hrw, by simp [hr], rfl, rfl, fun b cur e hob hh => ⟨cur, e, ?_, rfl⟩⟩
    rw [hag b (.inr ⟨r, hr, by simp [Gh.all, hob]⟩)]; exact hh
  have hle2 : ∀ r, RowLe w' w' S2.rows (S2.unlend S rs hs).rows gs2 (fun r => if r ∈ rs then gs r else gs2 r) r := fun r => RowLe.refl_of fun row hrw => by
    have hne : r ∉ rs := fun h => by rw [(h2 r h).1] at hrw; cases hrw
    exact ⟨by rw [hrat, if_neg hne]; exact hrw, by simp [hne], fun _ _ => rfl⟩
  have hall1 : ∀ r ∈ rs, Gh.all (fun r => if r ∈ rs then gs r else gs2 r) r = gs.all r := fun r hr => by simp only [Gh.all, if_pos hr]
  have hall2 : ∀ r, r ∉ rs → Gh.all (fun r => if r ∈ rs then gs r else gs2 r) r = gs2.all r := fun r hr => by simp only [Gh.all, if_neg hr]
  have hsz : (envL E G gs gs0 S rs tmps w).w0 = w := rfl
  have fin2 : ∀ b, (envL E G gs gs0 S rs tmps w).Fin b → (envAt E G gs S w).Fin b := fun b ⟨r', row', hr', hb'⟩ => by
    have hne : r' ∉ rs := fun h => by rw [hno r' h] at hr'; cases hr'
    have e : gs0.all r' = gs.all r' := by simp only [Gh.all, hgs0 r' hne]
    rw [e] at hb'
    cases h : rowAt S.rows r' with
    | none => rw [hsame r' h] at hr'; cases hr'
    | some row0 => exact ⟨r', row0, h, hb'⟩
  have hdis : ∀ r ∈ rs, ∀ r' row', r' ∉ rs → rowAt S2.rows r' = some row' → ∀ b ∈ gs.all r, b ∉ gs2.all r' := fun r hr r' row' hne hr' b hb hb' => by
    obtain ⟨row, hrw, _⟩ := hrow r hr
    rcases (hi2.own r' row' hr' b hb').2 with h | h
    · exact hfin r hr b hb h
    · have := hi.block_lt hrw b hb
      rw [hsz] at h
      omega
  refine ⟨fun b hb hf => hi2.keep b hb fun h => hf (fin2 b h), hi2.os, hi2.tape, hi2.output, hi2.size, hi2.sz, hi2.gsub, fun b hb => (hi2.gnew b hb).imp id (Or.imp (fin2 b) id), hi2.glt, fun r row hr => ?_, fun r row hr => ?_, fun r row hr b hb => ?_, fun r r' row row' hr hr' hne b hb hb' => ?_, fun i => ?_⟩
  · rw [hrat] at hr
    split at hr
    · rename_i h
      obtain ⟨row0, h0, h3⟩ := hrow r h
      rw [hr] at h0
      obtain rfl := Option.some.inj h0
      rw [if_pos h]
      exact (hi.row r row hr).on hG hleS h3 fun b hb => hag b (.inr ⟨r, h, hb⟩)
    · rename_i h
      rw [if_neg h]
      exact (hi2.row r row hr).step (fun b hb => ⟨hb, rfl⟩) hle2 fun _ _ => rfl
  · rw [hrat] at hr
    split at hr
    · rename_i h; rw [hall1 r h]; exact hi.nod r row hr
    · rename_i h; rw [hall2 r h]; exact hi2.nod r row hr
  · rw [hrat] at hr
    split at hr
    · rename_i h
      rw [hall1 r h] at hb
      refine ⟨fun hg => ?_, .inl ⟨r, row, hr, hb⟩⟩
      rcases hi2.gnew b hg with h' | h' | h'
      · exact (hi.own r row hr b hb).1 h'
      · exact hfin r h b hb h'
      · have := hi.block_lt hr b hb
        rw [hsz] at h'
        omega
    · rename_i h
      rw [hall2 r h] at hb
      obtain ⟨g1, g2⟩ := hi2.own r row hr b hb
      exact ⟨g1, g2.imp (fin2 b) id⟩
  · rw [hrat] at hr hr'
    split at hr
    · rename_i h
      rw [hall1 r h] at hb
      split at hr'
      · rename_i h'
        rw [hall1 r' h'] at hb'
        exact hi.dis r r' row row' hr hr' hne b hb hb'
      · rename_i h'
        rw [hall2 r' h'] at hb'
        exact hdis r h r' row' h' hr' b hb hb'
    · rename_i h
      rw [hall2 r h] at hb
      split at hr'
      · rename_i h'
        rw [hall1 r' h'] at hb'
        exact hdis r' h' r row h hr b hb' hb
      · rename_i h'
        rw [hall2 r' h'] at hb'
        exact hi2.dis r r' row row' hr hr' hne b hb hb'
  · show TRel w' G' (S2.unlend S rs hs).rows _ (lk (backT S hs S2.t) i) (vat (envAt E G gs S w) tmps' i) []
    rw [lk_backT]
    have hv : vat (envAt E G gs S w) tmps' i = vat (envL E G gs gs0 S rs tmps w) tmps' i := rfl
    rw [hv]
    split
    · rename_i h
      have h3 := hi2.tmp i
      rw [h1 i h] at h3
      rw [(sc_inv h3).1]
      exact (hi.tmp i).on hG hleS (hon i h) (by simp)
    · exact (hi2.tmp i).step (fun b hb => ⟨hb, rfl⟩) hle2 (by simp)
end
end Go.Fw

/- Regions that draw their order, in which some operations read rows that others leave alone: what is read, and the rule. Plain theorems, no condition. -/
set_option linter.unusedVariables false
set_option linter.unusedSimpArgs false
namespace Go.Fw
section
variable {P : Program} {T : Nat → Option TI} {S : State} {o : Oper} {rs : List Nat}
/-- The operation yields a value told by x, the same one as long as what may be read, and rows rs, stand. -/
def VOR (P : Program) (o : Oper) (S : State) (rs : List Nat) (x : A) : Prop :=
  ∀ (E : Env P) (G : Nat → Prop) (gs : Gh) (a : Act) (w : World), Inv E G gs S a.tmps w →
    ∃ v, (∀ w', AgreeR G gs rs w w' → (execOp a.eval o).run P w' = .ok (.value v) w') ∧ TRel w G S.rows gs x v []
theorem VOG.r {x : A} (h : VOG P o S x) : VOR P o S rs x := fun E G gs a w hi => by
  obtain ⟨v, h1, h2⟩ := h E G gs a w hi
  exact ⟨v, fun w' hw' => h1 w' fun b hb => hw' b (.inl hb), h2⟩
theorem VOR_load_pt {t : TypeId} {x : Operand} {r j q : Nat} {row : Row} {y z : A} (ho : o.op = .load t x) (hx : okO x = true) (he : ev S x = .pt r j q) (hr : rowAt S.rows r = some row) (hrs : r ∈ rs)
    (hy : row.xs[j]? = some y) (ha : aggT P t = some false) (hz : y.cells[q]? = some z) (hno : noOwn z = true) : VOR P o S rs z := by
  refine fun E G gs a w hi => ?_
  have h1 := ev_rel hi x hx
  rw [he] at h1
  obtain ⟨row', b, hr', hb, hv⟩ := pt_inv h1
  rw [hr] at hr'
  obtain rfl := Option.some.inj hr'
  have hq : q < y.cells.length := by
    rcases Nat.lt_or_ge q y.cells.length with h | h
    · exact h
    · rw [List.getElem?_eq_none h] at hz; simp at hz
  have hw : y.width = row.n := by
    obtain ⟨b', _, hrc⟩ := row_real hi hr (by
      intro h0
      rw [List.eq_nil_of_length_eq_zero h0] at hy
      simp at hy)
    obtain ⟨_, _, _, _, _, _, _, h5, _⟩ := hrc.ex
    exact h5 y (List.mem_of_getElem? hy)
  unfold A.width at hw
  have hseg : (y.cells.drop q).take 1 = [z] := by
    rw [List.drop_eq_getElem_cons hq]
    rw [List.getElem?_eq_getElem hq] at hz
    simp only [Option.some.injEq] at hz
    simp [hz]
  obtain ⟨b1, cur, e, cs, g0, g1, g2, g3, g4⟩ := row_seg hi hr hy (o := q) (s := 1) (by omega) (by rw [hseg]; simpa using hno)
  rw [hb] at g0
  obtain rfl := Option.some.inj g0
  rw [hseg] at g3
  obtain ⟨v, hv1, hv2⟩ := g3.get 0 z rfl
  have hcur : cur[j * row.n + q]? = some v := by
    rw [← g2] at hv1
    rw [List.getElem?_take_of_lt (by omega), List.getElem?_drop] at hv1
    simpa using hv1
  exact ⟨v, fun w' hw' => by simp [execOp, ho, Instr.loadAt, hv, Instr.sureAddr, run_loadVar_cell ha ((hw' _ (.inr ⟨r, hrs, by simp [Gh.all, hb]⟩)).trans g1) hcur], hv2⟩
theorem VOR_load_ptAgg {t : TypeId} {x : Operand} {r j q s : Nat} {row : Row} {y : A} (ho : o.op = .load t x) (hx : okO x = true) (he : ev S x = .pt r j q) (hr : rowAt S.rows r = some row) (hrs : r ∈ rs)
    (hy : row.xs[j]? = some y) (ha : aggT P t = some true) (hs : szT P t = some s) (hq : q + s ≤ row.n) (hno : ((y.cells.drop q).take s).all noOwn = true) : VOR P o S rs (.agg ((y.cells.drop q).take s)) := by
  refine fun E G gs a w hi => ?_
  have h1 := ev_rel hi x hx
  rw [he] at h1
  obtain ⟨row', b, hr', hb, hv⟩ := pt_inv h1
  rw [hr] at hr'
  obtain rfl := Option.some.inj hr'
  obtain ⟨b1, cur, e, cs, g0, g1, g2, g3, g4⟩ := row_seg hi hr hy hq hno
  rw [hb] at g0
  obtain rfl := Option.some.inj g0
  exact ⟨.agg cs.toArray, fun w' hw' => by simp [execOp, ho, Instr.loadAt, hv, Instr.sureAddr, run_loadVar_agg ha hs ((hw' _ (.inr ⟨r, hrs, by simp [Gh.all, hb]⟩)).trans g1) g2 g4], .agg g3⟩
theorem VOR_fieldAddr_pt {t : TypeId} {x : Operand} {i r j q off s : Nat} {g : Bool} (ho : o.op = .fieldAddr t x i) (hx : okO x = true) (he : ev S x = .pt r j q)
    (hf : fieldT P t i = some (off, s, g)) (hs : s ≠ 0) : VOR P o S rs (.pt r j (q + off)) := by
  refine fun E G gs a w hi => ?_
  have h1 := ev_rel hi x hx
  rw [he] at h1
  obtain ⟨row, b, hr, hb, hv⟩ := pt_inv h1
  unfold fieldT at hf
  split at hf <;> try simp at hf
  rename_i fs hu
  split at hf <;> try simp at hf
  rename_i f hfi
  split at hf <;> try simp at hf
  rename_i s' g' hsz hag
  obtain ⟨rfl, rfl, rfl⟩ := hf
  refine ⟨.pointer (some ⟨b, j * row.n + (q + f.offset), none⟩), ?_, .pt hr hb rfl⟩
  intro w' hw'
  simp [execOp, ho, Instr.fieldAt, run_underlying hu, hfi, hv, Instr.sureAddr, fieldPlace, run_sizeOf hsz, hs, add_none, Nat.add_assoc]
theorem VOR_fieldAddr_rp {t : TypeId} {x : Operand} {xs : List A} {i off s : Nat} {g : Bool} (ho : o.op = .fieldAddr t x i) (hx : okO x = true) (he : ev S x = .rp xs)
    (hf : fieldT P t i = some (off, s, g)) (hs : s ≠ 0) : VOR P o S rs (.rp (xs.drop off)) := by
  refine fun E G gs a w hi => ?_
  have h1 := ev_rel hi x hx
  rw [he] at h1
  obtain ⟨b, k, cur, e, fr, hv, hh, hg, hl⟩ := rp_inv h1
  unfold fieldT at hf
  split at hf <;> try simp at hf
  rename_i fs hu
  split at hf <;> try simp at hf
  rename_i f hfi
  split at hf <;> try simp at hf
  rename_i s' g' hsz hag
  obtain ⟨rfl, rfl, rfl⟩ := hf
  refine ⟨.pointer (some ⟨b, k + f.offset, none⟩), ?_, .of (.rp hh hg rfl ?_)⟩
  · intro w' hw'
    simp [execOp, ho, Instr.fieldAt, run_underlying hu, hfi, hv, Instr.sureAddr, fieldPlace, run_sizeOf hsz, hs, add_none]
  · have := hl.drop0 f.offset
    rw [List.drop_take, List.drop_drop] at this
    simpa using this
theorem VOR_indexAddr_vw {t e : TypeId} {x y : Operand} {r off len : Nat} {k : IntKind} {i : Int} {row : Row} (ho : o.op = .indexAddr t x y) (hx : okO x = true) (hy : okO y = true)
    (h1 : ev S x = .vw r off len) (h2 : ev S y = .sc (.int k i)) (hr : rowAt S.rows r = some row) (he : elemT P t = some e) (hs : szT P e = some row.n) (h0 : 0 ≤ i) (hl : i < len)
    : VOR P o S rs (.pt r (off + i.toNat) 0) := by
  refine fun E G gs a w hi => ?_
  have e1 := ev_rel hi x hx
  have e2 := ev_rel hi y hy
  rw [h1] at e1
  rw [h2] at e2
  obtain ⟨row', kk, cap, cur, et, b, hr', hob, g1, g2, g3, g4, g5, g6, hv⟩ := (vw_inv e1).resolve_right (by
    intro ⟨_, _, _, _, _, h0, _⟩
    omega)
  rw [hr] at hr'
  obtain rfl := Option.some.inj hr'
  have hv2 := (sc_inv e2).1
  have hk : kk = off * row.n := by rcases g6 with h | h <;> omega
  subst hk
  refine ⟨_, ?_, .pt hr hob rfl⟩
  intro w' hw'
  simp [execOp, ho, hv, hv2, Instr.indexAt, asIntOf, run_underlying (elemT_inv he), h0, hl, run_sizeOf hs, add_none, Nat.add_mul]
theorem VOR_indexAddr_sl {t e : TypeId} {x y : Operand} {n : Nat} {xs : List A} {k : IntKind} {i : Int} {z : A} (ho : o.op = .indexAddr t x y) (hx : okO x = true) (hy : okO y = true)
    (h1 : ev S x = .sl false n xs) (h2 : ev S y = .sc (.int k i)) (he : elemT P t = some e) (hs : szT P e = some n) (h0 : 0 ≤ i) (hz : xs[i.toNat]? = some z)
    : VOR P o S rs (.rp z.cells) := by
  refine fun E G gs a w hi => ?_
  have e1 := ev_rel hi x hx
  have e2 := ev_rel hi y hy
  rw [h1] at e1
  rw [h2] at e2
  have hv2 := (sc_inv e2).1
  have hl : i.toNat < xs.length := by
    rcases Nat.lt_or_ge i.toNat xs.length with h | h
    · exact h
    · rw [List.getElem?_eq_none h] at hz; simp at hz
  rcases slf_inv e1 with ⟨_, rfl⟩ | ⟨b, kk, cap, cur, et, fr, hv, hh, hg, hw, hrel, hcap, hm⟩
  · simp at hl
  · refine ⟨.pointer (some ⟨b, kk + i.toNat * n, none⟩), ?_, .of (.rp hh hg rfl ?_)⟩
    · have : i < (xs.length : Int) := by omega
      intro w' hw'
      simp [execOp, ho, hv, hv2, Instr.indexAt, asIntOf, run_underlying (elemT_inv he), h0, this, run_sizeOf hs, add_none]
    · have h3 := (hrel.drop0 (i.toNat * n)).take0 n
      have hseg := flat_seg hw hz 0 n (by omega)
      simp only [Nat.add_zero, List.drop_zero] at hseg
      have hzw := hw z (List.mem_of_getElem? hz)
      unfold A.width at hzw
      rw [hseg, ← hzw, List.take_length, hzw] at h3
      have hle : (i.toNat + 1) * n ≤ xs.length * n := Nat.mul_le_mul_right _ hl
      rw [Nat.add_mul] at hle
      rw [List.drop_take, List.take_take, Nat.min_eq_left (by omega), List.drop_drop] at h3
      rw [hzw]
      exact h3
theorem VOR_nilCheck_pt {x : Operand} {r j q : Nat} (ho : o.op = .nilCheck x) (hx : okO x = true) (he : ev S x = .pt r j q)
    : VOR P o S rs (.pt r j q) := by
  refine fun E G gs a w hi => ?_
  have h1 := ev_rel hi x hx
  rw [he] at h1
  obtain ⟨row, b, hr, hb, hv⟩ := pt_inv h1
  exact ⟨_, fun w' hw' => by simp [execOp, ho, hv], hv ▸ h1⟩
theorem VOR_nilCheck_rp {x : Operand} {xs : List A} (ho : o.op = .nilCheck x) (hx : okO x = true) (he : ev S x = .rp xs)
    : VOR P o S rs (.rp xs) := by
  refine fun E G gs a w hi => ?_
  have h1 := ev_rel hi x hx
  rw [he] at h1
  obtain ⟨b, k, cur, e, fr, hv, hh, hg, hl⟩ := rp_inv h1
  exact ⟨_, fun w' hw' => by simp [execOp, ho, hv], hv ▸ h1⟩
theorem vFieldAddrR_ok {k : A → Prop} (hT : TabOK P T) {t : TypeId} {x : Operand} {i : Nat} (ho : o.op = .fieldAddr t x i) (h : vFieldAddr T t i (ev S x) k) : ∃ z, VOR P o S rs z ∧ k z := by
  unfold vFieldAddr at h
  split at h <;> try exact h.elim
  rename_i ti hi
  have hti := tiOf_ok (hT _ _ hi)
  split at h <;> try exact h.elim
  rename_i off s g hf
  split at h <;> try exact h.elim
  rename_i hs
  split at h <;> try exact h.elim
  · rename_i r j q hx
    exact ⟨_, VOR_fieldAddr_pt ho rfl hx (hti.fs _ _ hf) hs, h⟩
  · rename_i xs hx
    exact ⟨_, VOR_fieldAddr_rp ho rfl hx (hti.fs _ _ hf) hs, h⟩
theorem VOR_indexAddr_pa {t : TypeId} {x y : Operand} {r j q n s : Nat} {k : IntKind} {i : Int} (ho : o.op = .indexAddr t x y) (hx : okO x = true) (hy : okO y = true)
    (h1 : ev S x = .pt r j q) (h2 : ev S y = .sc (.int k i)) (ha : arT P t = some (n, s)) (h0 : 0 ≤ i) (hl : i < n) : VOR P o S rs (.pt r j (q + i.toNat * s)) := by
  refine fun E G gs a w hi => ?_
  have e1 := ev_rel hi x hx
  have e2 := ev_rel hi y hy
  rw [h1] at e1
  rw [h2] at e2
  obtain ⟨row, b, hr, hb, hv⟩ := pt_inv e1
  have hv2 := (sc_inv e2).1
  unfold arT at ha
  split at ha
  case h_2 => cases ha
  rename_i n' e hu
  obtain ⟨s', hs, hns⟩ := Option.map_eq_some_iff.1 ha
  obtain ⟨rfl, rfl⟩ := Prod.mk.inj hns
  refine ⟨.pointer (some ⟨b, j * row.n + (q + i.toNat * s'), none⟩), ?_, .pt hr hb rfl⟩
  intro w' hw'
  simp [execOp, ho, hv, hv2, Instr.indexAt, asIntOf, run_underlying hu, Instr.sureAddr, h0, hl, run_sizeOf hs, add_none, Nat.add_assoc]
theorem vIndexAddrR_ok {k : A → Prop} (hT : TabOK P T) {t : TypeId} {x y : Operand} (ho : o.op = .indexAddr t x y) (h : vIndexAddr std T t S (ev S x) (ev S y) k) : ∃ z, VOR P o S rs z ∧ k z := by
  unfold vIndexAddr at h
  split at h <;> try exact h.elim
  · rename_i e ti k i hs hy
    obtain ⟨he, hti⟩ := szEl_ok hT hs
    split at h <;> try exact h.elim
    · rename_i r off len hx
      split at h <;> try exact h.elim
      rename_i row hr
      split at h <;> try exact h.elim
      rename_i hn
      exact ⟨_, VOR_indexAddr_vw ho rfl rfl hx hy hr he (by rw [hti.sz, hn]) h.1.h.1 h.1.h.2, h.2⟩
    · rename_i n xs hx
      split at h <;> try exact h.elim
      rename_i hn
      obtain ⟨h1, z, hz, h⟩ := h
      exact ⟨_, VOR_indexAddr_sl ho rfl rfl hx hy he (by rw [hti.sz, hn]) h1.h hz, h⟩
  · rename_i k i hs hy
    split at h <;> try exact h.elim
    rename_i ti ht
    split at h <;> try exact h.elim
    rename_i n s ha
    split at h <;> try exact h.elim
    rename_i r j q hx
    exact ⟨_, VOR_indexAddr_pa ho rfl rfl hx hy (by rw [(tiOf_ok (hT _ _ ht)).ar]; exact ha) h.1.h.1 h.1.h.2, h.2⟩
theorem vNilCheckR_ok {k : A → Prop} {x : Operand} (ho : o.op = .nilCheck x) (h : vNilCheck (ev S x) k) : ∃ z, VOR P o S rs z ∧ k z := by
  unfold vNilCheck at h
  split at h <;> try exact h.elim
  · rename_i hx; exact ⟨_, VOR_nilCheck_pt ho rfl hx, h⟩
  · rename_i hx; exact ⟨_, VOR_nilCheck_rp ho rfl hx, h⟩
def vLoadR (T : Nat → Option TI) (t : TypeId) (S : State) (rs : List Nat) (x : A) (k : A → Prop) : Prop :=
  match T t with
  | some i => (match x with
    | .rp xs => if i.ag then (if i.sz ≤ xs.length then k (.agg (xs.take i.sz)) else False) else (match xs[0]? with
      | some z => k z
      | none => False)
    | .pt r j q => if rs.contains r then (match rowAt S.rows r with
      | some row => (match row.lk with
        | true => (match row.xs[j]? with
          | some y => vCell i row.n y q k
          | none => False)
        | false => ∃ y, row.xs[j]? = some y ∧ vCell i row.n y q k)
      | none => False) else False
    | _ => False)
  | none => False
theorem vLoadR_ok {k : A → Prop} (hT : TabOK P T) {t : TypeId} {x : Operand} (ho : o.op = .load t x) (h : vLoadR T t S rs (ev S x) k) : ∃ z, VOR P o S rs z ∧ k z := by
  unfold vLoadR at h
  split at h <;> try exact h.elim
  rename_i i hi
  have hti := tiOf_ok (hT _ _ hi)
  split at h <;> try exact h.elim
  · rename_i xs hx
    split at h
    · rename_i hag
      split at h <;> try exact h.elim
      rename_i hle
      exact ⟨_, (VOG_load_rpAgg ho rfl hx (by rw [hti.ag, hag]) hti.sz hle).r, h⟩
    · rename_i hag
      split at h <;> try exact h.elim
      rename_i z hz
      exact ⟨_, (VOG_load_rp ho rfl hx (by rw [hti.ag]; simpa using hag) hz).r, h⟩
  · rename_i r j q hx
    split at h <;> try exact h.elim
    rename_i hrs
    have hrs : r ∈ rs := by simpa using hrs
    split at h <;> try exact h.elim
    rename_i row hr
    have cell : ∀ y, row.xs[j]? = some y → vCell i row.n y q k → ∃ z, VOR P o S rs z ∧ k z := fun y hy h => by
      unfold vCell at h
      split at h
      · rename_i hag
        split at h <;> try exact h.elim
        rename_i hq
        split at h <;> try exact h.elim
        rename_i hno
        exact ⟨_, VOR_load_ptAgg ho rfl hx hr hrs hy (by rw [hti.ag, hag]) hti.sz hq hno, h⟩
      · rename_i hag
        split at h <;> try exact h.elim
        rename_i z hz
        split at h <;> try exact h.elim
        rename_i hno
        exact ⟨_, VOR_load_pt ho rfl hx hr hrs hy (by rw [hti.ag]; simpa using hag) hz hno, h⟩
    split at h
    · split at h <;> try exact h.elim
      rename_i y hy
      exact cell y hy h
    · obtain ⟨y, hy, h⟩ := h
      exact cell y hy h
/-- What an operation reads of rows rs, or of what nobody writes. -/
def vROp (Ω : Opq) (T : Nat → Option TI) (rs : List Nat) (o : Oper) (S : State) (k : A → Prop) : Prop :=
  match o.op with
  | .load t x => vLoadR T t S rs (ev S x) k
  | .fieldAddr t x i => vFieldAddr T t i (ev S x) k
  | .nilCheck x => vNilCheck (ev S x) k
  | .indexAddr t x y => vIndexAddr Ω T t S (ev S x) (ev S y) k
  | _ => vGOp Ω T o S k
theorem vROp_ok (hT : TabOK P T) {k : A → Prop} (h : vROp std T rs o S k) : ∃ z, VOR P o S rs z ∧ k z := by
  unfold vROp at h
  split at h
  · rename_i ho; exact vLoadR_ok hT ho h
  · rename_i ho; exact vFieldAddrR_ok hT ho h
  · rename_i ho; exact vNilCheckR_ok ho h
  · rename_i ho; exact vIndexAddrR_ok hT ho h
  · obtain ⟨z, h1, h2⟩ := vGOp_ok hT h
    exact ⟨z, h1.r, h2⟩
def vRs (Ω : Opq) (T : Nat → Option TI) (rs : List Nat) (ops : List Oper) : List Nat → State → (State → Prop) → Prop
  | [], S, K => K S
  | q :: qs, S, K => match ops[q]? with
    | some o => (match o.guard with
      | none => vROp Ω T rs o S fun z => vRs Ω T rs ops qs (S.put o.dst z) K
      | some _ => False)
    | none => False
def chainB (ops : Array Oper) : List Nat → Array Bool → Bool
  | [], _ => true
  | n :: ns, l => decide (Region.ready .any ops l = [n]) && chainB ops ns (l.setIfInBounds n true)
def listAll : List Nat → Array Bool → Array Bool
  | [], l => l
  | n :: ns, l => listAll ns (l.setIfInBounds n true)
def quietB (ops : Array Oper) (kp : Nat → Bool) : List Nat → Array Bool → Bool
  | [], _ => true
  | q :: qs, l => (Region.ready .any ops l).contains q && (kfree .any ops kp l q && (quietB ops kp qs (l.setIfInBounds q true)))
variable {ops : List Oper} {Q : Exit → Act → World → Prop} {kp : Nat → Bool} {Sc : World → Prop}
theorem chain_ok (hT : TabOK P T) {E : Env P} {m : Nat} : ∀ (ns : List Nat) (l : Array Bool) (mv : Option Nat) (S : State) (K : State → Prop) (a : Act) (w : World), chainB ops.toArray ns l = true →
    (∀ n ∈ ns, kp n = true → ∀ S a w, SInv E S a w → Sc w) → vNs std P T ops mv ns S K → SInv E S a w →
    (∀ S' a' w', K S' → SInv E S' a' w' → anyK P .any ops.toArray Q kp Sc m (listAll ns l) a' w') → anyK P .any ops.toArray Q kp Sc (ns.length + m) l a w
  | [], l, mv, S, K, a, w, hB, hSc, h, hs, hK => by rw [List.length_nil, Nat.zero_add]; exact hK S a w h hs
  | n :: ns, l, mv, S, K, a, w, hB, hSc, h, hs, hK => by
    simp only [chainB, Bool.and_eq_true, decide_eq_true_eq] at hB
    unfold vNs at h
    split at h <;> try exact h.elim
    rename_i o ho
    split at h <;> try exact h.elim
    rename_i hg
    rw [List.length_cons, show ns.length + 1 + m = (ns.length + m) + 1 by omega]
    refine ⟨fun h0 => (by rw [hB.1] at h0; cases h0), fun i hi => ?_⟩
    rw [hB.1] at hi
    have hin : i = n := by simpa using hi
    subst hin
    unfold wpOp
    rw [show ops.toArray[i]? = some o by simpa using ho]
    simp only
    rw [if_pos (by simp [Region.wanted, hg])]
    exact .inl (vOp_ok hT h E a w _ _ hs fun S' a' w' hK' hs' => ⟨fun hk => hSc i (by simp) hk _ _ _ hs', chain_ok hT ns _ _ S' K a' w' hB.2 (fun n hn => hSc n (by simp [hn])) hK' hs' hK⟩)
theorem put_rows (S : State) (d : Option Nat) (z : A) : (S.put d z).rows = S.rows := by
  cases d with
  | none => rfl
  | some d => simp only [State.put]; split <;> rfl
theorem quiet_ok (hT : TabOK P T) {E : Env P} {G : Nat → Prop} {gs : Gh} {w : World} {m : Nat} {rs : List Nat} (hQ : ∀ c a w, ¬ Q (.panic c) a w) (hsel : Region.noSelect ops.toArray = true) {K : State → Prop} : ∀ (qs : List Nat) (l : Array Bool) (S : State) (a : Act), quietB ops.toArray kp qs l = true →
    vRs std T rs ops qs S K → a.defers = [] → Inv E G gs S a.tmps w → (∀ S' a', K S' → S'.rows = S.rows → a'.defers = [] → Inv E G gs S' a'.tmps w → anyK P .any ops.toArray Q kp (AgreeR G gs rs w) m (listAll qs l) a' w) →
    anyK P .any ops.toArray Q kp (AgreeR G gs rs w) (qs.length + m) l a w
  | [], l, S, a, hB, h, hd, hi, hK => by rw [List.length_nil, Nat.zero_add]; exact hK S a h rfl hd hi
  | q :: qs, l, S, a, hB, h, hd, hi, hK => by
    simp only [quietB, Bool.and_eq_true] at hB
    unfold vRs at h
    split at h <;> try exact h.elim
    rename_i o ho
    split at h <;> try exact h.elim
    rename_i hg
    obtain ⟨z, h1, h2⟩ := vROp_ok hT h
    obtain ⟨v, h3, h4⟩ := h1 E G gs a w hi
    rw [List.length_cons, show qs.length + 1 + m = (qs.length + m) + 1 by omega]
    refine anyK_take (oi := o) (v := v) (by simpa using ho) hsel hB.2.1 hB.1 (fun c a w h => (hQ _ _ _ h).elim) (.inl ⟨by simp [Region.wanted, hg], fun w' hw' => h3 w' hw'⟩) (fun _ _ => rfl) ?_
    exact quiet_ok hT hQ hsel qs _ _ _ hB.2.2 h2 (by rw [put_defers]; exact hd) (hi.put h4 o.dst) (fun S' a' h1 h2 => hK S' a' h1 (h2.trans (put_rows _ _ _)))
/-- What must be seen of a state whose rows rs are lent, the temporaries hs being kept. -/
def lendB (S : State) (rs hs : List Nat) : Bool :=
  decide rs.Nodup && (rs.all (fun r => match rowAt S.rows r with
    | some row => rowOnly rs row
    | none => false) && hs.all fun i => oneA' (lk S.t i) && onlyR rs (lk S.t i))
def keptA (S2 : State) (vs : Nat → Value) : List Nat → Prop
  | [] => True
  | i :: hs => lk S2.t i = .sc (vs i) ∧ keptA S2 vs hs
def backB (S2 : State) (rs : List Nat) : Bool := rs.all fun r => (match rowAt S2.rows r with
  | none => true
  | some _ => false) && decide (r < S2.rows.length)
theorem keptA_spec {S2 : State} {vs : Nat → Value} : ∀ {hs : List Nat}, keptA S2 vs hs → ∀ i ∈ hs, lk S2.t i = .sc (vs i)
  | [], _, i, hi => by cases hi
  | j :: hs, h, i, hi => by
    rcases List.mem_cons.1 hi with rfl | hi
    · exact h.1
    · exact keptA_spec h.2 i hi
end
end Go.Fw

/- Calls that write into one box of plain data and hand back something of which a relation speaks. Plain theorems, no condition. -/
set_option linter.unusedVariables false
set_option linter.unusedSimpArgs false
namespace Go.Fw
section
variable {P : Program} {T : Nat → Option TI} {S : State} {Ω : Opq}
/-- Rows from n on are not asked for any more. -/
def cutT (n : Nat) (t : List (Nat × A)) : List (Nat × A) := t.map fun p => (p.1, if onlyR (List.range n) p.2 then p.2 else .un)
theorem lk_cutT (n : Nat) : ∀ (t : List (Nat × A)) (i : Nat), lk (cutT n t) i = if onlyR (List.range n) (lk t i) then lk t i else .un
  | [], i => by simp [cutT, lk, onlyR]
  | (k, x) :: l, i => by
    have ih := lk_cutT n l i
    simp only [cutT] at ih
    simp only [cutT, List.map_cons, lk]
    split
    · rfl
    · exact ih
def rowsOnly (n : Nat) : List (Option Row) → Bool
  | [] => true
  | none :: l => rowsOnly n l
  | some row :: l => rowOnly (List.range n) row && rowsOnly n l
theorem rowsOnly_at {n : Nat} : ∀ {l : List (Option Row)} {r : Nat} {row : Row}, rowsOnly n l = true → rowAt l r = some row → rowOnly (List.range n) row = true
  | [], r, row, _, h => by simp [rowAt] at h
  | none :: l, 0, row, _, h => by simp [rowAt] at h
  | some row' :: l, 0, row, h1, h => by
    simp [rowAt] at h
    subst h
    simp only [rowsOnly, Bool.and_eq_true] at h1
    exact h1.1
  | none :: l, r + 1, row, h1, h => rowsOnly_at (l := l) (r := r) h1 (by simpa [rowAt] using h)
  | some row' :: l, r + 1, row, h1, h => by
    simp only [rowsOnly, Bool.and_eq_true] at h1
    exact rowsOnly_at (l := l) (r := r) h1.2 (by simpa [rowAt] using h)
theorem rowAt_take {l : List (Option Row)} {n r : Nat} : rowAt (l.take n) r = if r < n then rowAt l r else none := by
  unfold rowAt
  rw [List.getElem?_take]
  split <;> rfl
theorem Sbs.cut (n : Nat) (h : rowsOnly n (S.rows.take n) = true) : Sbs S ⟨cutT n S.t, S.N, S.rows.take n⟩ := by
  intro P E a w ⟨hd, G, gs, hi⟩
  have hrat : ∀ r row, rowAt (S.rows.take n) r = some row → rowAt S.rows r = some row := fun r row hr => by
    rw [rowAt_take] at hr
    split at hr
    · exact hr
    · cases hr
  have hle : ∀ r ∈ List.range n, RowLe w w S.rows (S.rows.take n) gs gs r := fun r hr => RowLe.refl_of fun row hrw => by
    rw [List.mem_range] at hr
    exact ⟨by rw [rowAt_take, if_pos hr]; exact hrw, rfl, fun _ _ => rfl⟩
  refine ⟨hd, G, gs, hi.keep, hi.os, hi.tape, hi.output, hi.size, hi.sz, hi.gsub, hi.gnew, hi.glt, fun r row hr => ?_, fun r row hr => hi.nod r row (hrat r row hr), fun r row hr => hi.own r row (hrat r row hr),
    fun r r' row row' hr hr' => hi.dis r r' row row' (hrat r row hr) (hrat r' row' hr'), fun i => ?_⟩
  · exact (hi.row r row (hrat r row hr)).on (fun b hb => ⟨hb, rfl⟩) hle (rowsOnly_at h hr) fun _ _ => rfl
  · show TRel w G (S.rows.take n) gs (lk (cutT n S.t) i) _ []
    rw [lk_cutT]
    split
    · rename_i ho
      exact (hi.tmp i).on (fun b hb => ⟨hb, rfl⟩) hle ho (by simp)
    · exact .un
/-! An own row of data, from now on only read. -/
mutual
def thaw (r n : Nat) (xs : List A) : A → A
  | .vw r' off len => if r' = r then .sl false n ((xs.drop off).take len) else .vw r' off len
  | .pt r' j o => if r' = r then .rp ((flat xs).drop (j * n + o)) else .pt r' j o
  | .agg ys => .agg (thawL r n xs ys)
  | .tup ys => .tup (thawL r n xs ys)
  | .clo g ys => .clo g (thawL r n xs ys)
  | .un => .un
  | .sc v => .sc v
  | .nil => .nil
  | .sl o m ys => .sl o m ys
  | .rp ys => .rp ys
  | .bx ys => .bx ys
def thawL (r n : Nat) (xs : List A) : List A → List A
  | [] => []
  | y :: ys => thaw r n xs y :: thawL r n xs ys
end
theorem thawL_eq (r n : Nat) (xs : List A) : ∀ ys : List A, thawL r n xs ys = ys.map (thaw r n xs)
  | [] => rfl
  | y :: ys => by rw [thawL, thawL_eq r n xs ys]; rfl
theorem thaw_agg (r n : Nat) (xs ys : List A) : thaw r n xs (.agg ys) = .agg (ys.map (thaw r n xs)) := by rw [thaw, thawL_eq]
theorem thaw_tup (r n : Nat) (xs ys : List A) : thaw r n xs (.tup ys) = .tup (ys.map (thaw r n xs)) := by rw [thaw, thawL_eq]
theorem thaw_clo (r n g : Nat) (xs ys : List A) : thaw r n xs (.clo g ys) = .clo g (ys.map (thaw r n xs)) := by rw [thaw, thawL_eq]
theorem Rel.thaw {w : World} {G : Nat → Prop} {x : A} {v : Value} {F : List Nat} (h : Rel w G x v F) (r n : Nat) (xs : List A) : Fw.thaw r n xs x = x := by
  refine Rel.rec (motive_1 := fun x v F _ => Fw.thaw r n xs x = x) (motive_2 := fun ys vs F _ => ys.map (Fw.thaw r n xs) = ys)
    ?_ ?_ ?_ ?_ ?_ ?_ ?_ ?_ ?_ ?_ ?_ ?_ ?_ ?_ h
  · intros; rw [Fw.thaw]
  · intros; rw [Fw.thaw]
  · intros; rw [Fw.thaw]
  · intros; rw [Fw.thaw]
  · intros; rw [Fw.thaw]
  · intros; rw [Fw.thaw]
  · intros; rw [Fw.thaw]
  · intro xs cs F hl ih; rw [thaw_agg, ih]
  · intro xs cs F hl ih; rw [thaw_tup, ih]
  · intros; rw [Fw.thaw]
  · intros; rw [Fw.thaw]
  · intro g caps cs F hl ih; rw [thaw_clo, ih]
  · rfl
  · intro x v F xs vs Fs h hl ih ih'; rw [List.map_cons, ih, ih']
/-- What is known of a row whose blocks are G's from now on. -/
structure Thawed (w : World) (G G' : Nat → Prop) (rows rows' : List (Option Row)) (gs gs' : Gh) (r : Nat) (row : Row) (ys : List A) : Prop where
  sub : ∀ b, G b → G' b
  ro : ∀ b, (gs r).1 = some b → G' b
  ob : RowRel w G' rows gs { row with xs := ys } (gs r).1 []
  len : ys.length = row.xs.length
  lk : row.lk = false
  at_ : rowAt rows r = some row
  other : ∀ q row', q ≠ r → rowAt rows q = some row' → rowAt rows' q = some row' ∨ ∃ row2, rowAt rows' q = some row2 ∧ row2.n = row'.n ∧ row2.xs.length = row'.xs.length
  gsq : ∀ q, q ≠ r → gs' q = gs q
theorem TRel.thaw {w : World} {G G' : Nat → Prop} {rows rows' : List (Option Row)} {gs gs' : Gh} {r : Nat} {row : Row} {ys : List A} (ht : Thawed w G G' rows rows' gs gs' r row ys) {x : A} {v : Value} {F : List Nat} (h : TRel w G rows gs x v F) :
    TRel w G' rows' gs' (Fw.thaw r row.n ys x) v F := by
  refine TRel.rec (motive_1 := fun x v F _ => TRel w G' rows' gs' (Fw.thaw r row.n ys x) v F) (motive_2 := fun xs vs F _ => TRelL w G' rows' gs' (xs.map (Fw.thaw r row.n ys)) vs F) ?_ ?_ ?_ ?_ ?_ ?_ ?_ ?_ ?_ ?_ h
  · intros; rw [Fw.thaw]; exact .un
  · intro x v F h; rw [h.thaw]; exact .of (h.move_ (fun b hb => ⟨ht.sub b hb, rfl⟩) fun _ _ => rfl)
  · intro q off len k cap c row' cur e h1 h2 h3 h4 h5 h6 h7 h8
    rw [Fw.thaw]
    split
    · rename_i hq
      subst hq
      rw [ht.at_] at h1
      obtain rfl := Option.some.inj h1
      have hob := ht.ob
      rw [h2] at hob
      obtain ⟨cur', e', cap', g1, g2, g3, g4, g5, g6, g7⟩ := RowCells.ex hob
      rw [h4] at g1
      obtain ⟨rfl, -, -⟩ : cur = cur' ∧ e = e' ∧ True := by simpa using g1
      unfold CellsRel at g7
      dsimp only at g3 g5 g6 g7
      rw [if_neg (by rw [ht.lk]; simp)] at g7
      have hwd : ∀ x ∈ ys, x.width = row.n := g5
      have hlen : ys.length = row.xs.length := ht.len
      have hl2 : (ys.drop off).take len = (ys.take (off + len)).drop off := by rw [List.drop_take]; congr 1; omega
      have h9 := (g7.take0 ((off + len) * row.n)).drop0 (off * row.n)
      rw [flat_take (off + len) hwd, flat_drop off (fun x hx => hwd x (List.mem_of_mem_take hx)), ← hl2] at h9
      have e9 : List.drop (off * row.n) (List.take ((off + len) * row.n) (List.take (ys.length * row.n) cur.toList)) = (cur.toList.drop (off * row.n)).take (len * row.n) := by
        have hle : (off + len) * row.n ≤ ys.length * row.n := Nat.mul_le_mul_right _ (by rw [hlen]; exact h3)
        rw [List.take_take, Nat.min_eq_left hle, List.drop_take, Nat.add_mul, Nat.add_sub_cancel_left]
      rw [e9] at h9
      have hll : len = ((ys.drop off).take len).length := by simp; omega
      refine .of (.ro h4 (ht.ro c h2) (fun x hx => hwd x (List.mem_of_mem_drop (List.mem_of_mem_take hx))) hll rfl ?_ (by omega) (by omega))
      rcases h8 with rfl | ⟨h8, _⟩
      · exact h9
      · have h0 : len = 0 := by omega
        subst h0
        simpa [flat] using RelL.nil
    · rename_i hq
      rcases ht.other q row' hq h1 with h9 | ⟨row2, h9, h10, h11⟩
      · exact .vw h9 (by rw [ht.gsq q hq]; exact h2) h3 h4 h5 h6 h7 h8
      · exact .vw h9 (by rw [ht.gsq q hq]; exact h2) (by omega) h4 (by rw [h10]; exact h5) h6 (by omega) (by rw [h10]; exact h8)
  · intro q row' h1 h2 h3
    rw [Fw.thaw]
    split
    · simpa using TRel.of Rel.nils
    · rename_i hq
      rcases ht.other q row' hq h1 with h9 | ⟨row2, h9, h10, h11⟩
      · exact .vwn h9 (by rw [ht.gsq q hq]; exact h2) h3
      · exact .vwn h9 (by rw [ht.gsq q hq]; exact h2) (List.eq_nil_of_length_eq_zero (by rw [h11, h3]; rfl))
  · intro q j o k c row' h1 h2 h3
    rw [Fw.thaw]
    split
    · rename_i hq
      subst hq
      rw [ht.at_] at h1
      obtain rfl := Option.some.inj h1
      have hob := ht.ob
      rw [h2] at hob
      obtain ⟨cur', e', cap', g1, g2, g3, g4, g5, g6, g7⟩ := RowCells.ex hob
      unfold CellsRel at g7
      dsimp only at g3 g5 g6 g7
      rw [if_neg (by rw [ht.lk]; simp)] at g7
      have h9 := g7.drop0 (j * row.n + o)
      have hfl := flat_length (n := row.n) (xs := ys) g5
      subst h3
      refine .of (.rp g1 (ht.ro c h2) rfl ?_)
      rw [List.length_drop, hfl, ← List.drop_take]
      exact h9
    · rename_i hq
      rcases ht.other q row' hq h1 with h9 | ⟨row2, h9, h10, h11⟩
      · exact .pt h9 (by rw [ht.gsq q hq]; exact h2) h3
      · exact .pt h9 (by rw [ht.gsq q hq]; exact h2) (by rw [h10]; exact h3)
  · intro xs cs F hl ih; rw [thaw_agg]; exact .agg ih
  · intro xs cs F hl ih; rw [thaw_tup]; exact .tup ih
  · intro g caps cs F hl ih; rw [thaw_clo]; exact .clo ih
  · exact .nil
  · intro x v F xs vs Fs h hl ih ih'; exact .cons ih ih'
def thawRow (r n : Nat) (xs : List A) (row : Row) : Row := if row.lk then { row with xs := row.xs.map (thaw r n xs) } else row
def thawT (r n : Nat) (xs : List A) (t : List (Nat × A)) : List (Nat × A) := t.map fun p => (p.1, thaw r n xs p.2)
theorem lk_thawT (r n : Nat) (xs : List A) : ∀ (t : List (Nat × A)) (i : Nat), lk (thawT r n xs t) i = thaw r n xs (lk t i)
  | [], i => by show A.un = thaw r n xs .un; rw [thaw]
  | (k, x) :: l, i => by
    have ih := lk_thawT r n xs l i
    simp only [thawT] at ih
    simp only [thawT, List.map_cons, lk]
    split
    · rfl
    · exact ih
theorem thaw_cells (r n : Nat) (xs : List A) (x : A) : (thaw r n xs x).cells = x.cells.map (thaw r n xs) := by
  have e1 : ∀ q o l, (if q = r then A.sl false n ((xs.drop o).take l) else A.vw q o l).cells = [if q = r then A.sl false n ((xs.drop o).take l) else A.vw q o l] := fun q o l => by split <;> rfl
  have e2 : ∀ q o l, (if q = r then A.rp ((flat xs).drop (o * n + l)) else A.pt q o l).cells = [if q = r then A.rp ((flat xs).drop (o * n + l)) else A.pt q o l] := fun q o l => by split <;> rfl
  cases x with
  | vw q o l => simp only [A.cells, List.map_cons, List.map_nil, thaw, e1]; exact e1 q o l
  | pt q o l => simp only [A.cells, List.map_cons, List.map_nil, thaw, e2]; exact e2 q o l
  | _ => simp only [thaw, thawL_eq, A.cells, List.map_cons, List.map_nil]
theorem thaw_width (r n : Nat) (xs : List A) (x : A) : (thaw r n xs x).width = x.width := by simp [A.width, thaw_cells]
theorem thaw_flat (r n : Nat) (xs ys : List A) : flat (ys.map (thaw r n xs)) = (flat ys).map (thaw r n xs) := by
  induction ys with
  | nil => rfl
  | cons x ys ih => simp only [flat, List.map_cons, List.flatMap_cons, List.map_append] at *; rw [ih, thaw_cells]
def State.thaw (S : State) (r n : Nat) (ys : List A) : State := ⟨thawT r n ys S.t, S.N, (S.rows.map (Option.map (thawRow r n ys))).set r none⟩
/-- An own row of data is only read from now on: what led into it tells what it holds. -/
theorem Sbs.thawY {r : Nat} {row : Row} {ys : List A} (hr : rowAt S.rows r = some row) (hlk : row.lk = false) (hyl : ys.length = row.xs.length)
    (hys : (∀ x ∈ row.xs, x.width = row.n) → (∀ x ∈ ys, x.width = row.n))
    (hre : ∀ (w : World) (G G' : Nat → Prop) (vs : List Value) (F : List Nat), RelL w G (flat row.xs) vs F → (∀ b, G b → G' b) → (∀ b ∈ F, G' b) → RelL w G' (flat ys) vs []) : Sbs S (S.thaw r row.n ys) := by
  intro P E ac w ⟨hd, G, gs, hi⟩
  have hal := rowAt_lt hr
  have hrat : ∀ q, rowAt (S.thaw r row.n ys).rows q = if q = r then none else (rowAt S.rows q).map (thawRow r row.n ys) := fun q => by
    show rowAt ((S.rows.map (Option.map (thawRow r row.n ys))).set r none) q = _
    rw [rowAt_set _ _ _ _ (by simpa using hal)]
    split
    · rfl
    · simp only [rowAt, List.getElem?_map]
      cases h : S.rows[q]? with
      | none => rfl
      | some o => cases o <;> rfl
  have hGsub : ∀ b, G b → G b ∨ b ∈ gs.all r := fun b h => .inl h
  have hob : RowRel w (fun b => G b ∨ b ∈ gs.all r) S.rows gs { row with xs := ys } (gs r).1 [] := by
    have h := hi.row r row hr
    have hin2 : ∀ b ∈ (gs r).2, b ∈ gs.all r := fun b hb => by simp [Gh.all, hb]
    generalize (gs r).1 = ob at h
    generalize (gs r).2 = F at h hin2
    cases ob with
    | none => exact ⟨List.eq_nil_of_length_eq_zero (by rw [hyl, h.1]; rfl), rfl⟩
    | some b =>
      obtain ⟨cur, e, cap, h1, h2, h3, h4, h5, h6, h7⟩ := RowCells.ex h
      refine ⟨cur, e, cap, h1, h2, by dsimp only; rw [hyl]; exact h3, h4, hys h5, by dsimp only; rw [hyl]; exact h6, ?_⟩
      · unfold CellsRel at h7 ⊢
        dsimp only
        rw [if_neg (by rw [hlk]; simp)] at h7 ⊢
        rw [hyl]
        exact hre w G (fun b => G b ∨ b ∈ gs.all r) _ _ h7 hGsub (fun b hb => .inr (hin2 b hb))
  have ht : Thawed w G (fun b => G b ∨ b ∈ gs.all r) S.rows (S.thaw r row.n ys).rows gs (gs.add r none []) r row ys := by
    refine ⟨hGsub, fun b hb => .inr (by simp [Gh.all, hb]), hob, hyl, hlk, hr, fun q row' hq hq2 => ?_, fun q hq => by simp [Gh.add, hq]⟩
    rw [hrat, if_neg hq, hq2]
    refine .inr ⟨_, rfl, ?_, ?_⟩ <;> unfold thawRow <;> split <;> simp
  have hgs : ∀ q, q ≠ r → (gs.add r none []) q = gs q := fun q hq => by simp [Gh.add, hq]
  have hall : ∀ q, q ≠ r → (gs.add r none []).all q = gs.all q := fun q hq => by simp only [Gh.all, hgs q hq]
  have hcase : ∀ q row', rowAt (S.thaw r row.n ys).rows q = some row' → q ≠ r ∧ ∃ row0, rowAt S.rows q = some row0 ∧ row' = thawRow r row.n ys row0 := fun q row' h => by
    rw [hrat] at h
    split at h
    · cases h
    · rename_i hq
      obtain ⟨row0, q1, q2⟩ := Option.map_eq_some_iff.1 h
      exact ⟨hq, row0, q1, q2.symm⟩
  refine ⟨hd, fun b => G b ∨ b ∈ gs.all r, gs.add r none [], hi.keep, hi.os, hi.tape, hi.output, hi.size, hi.sz, fun b hb => .inl (hi.gsub b hb), fun b hb => ?_, hi.glt.move (fun b h => .inl h) (fun _ _ => rfl) (fun b hb => ?_), fun q row' hq => ?_, fun q row' hq => ?_, fun q row' hq b hb => ?_, fun q q' row' row'' hq hq' hne => ?_, fun i => ?_⟩
  · rcases hb with hb | hb
    · exact hi.gnew b hb
    · exact .inr (hi.own r row hr b hb).2
  · rcases hb with hb | hb
    · exact hi.glt b hb
    · exact hi.block_lt hr b hb
  · obtain ⟨hqr, row0, h0, rfl⟩ := hcase q row' hq
    have hrow := hi.row q row0 h0
    rw [hgs q hqr]
    generalize (gs q).1 = ob at hrow
    cases ob with
    | none =>
      obtain ⟨q1, q2⟩ := hrow
      refine ⟨?_, q2⟩
      unfold thawRow
      split <;> simp [q1]
    | some c =>
      obtain ⟨cur, ee, cap, h1, h2, h3, h4, h5, h6, h7⟩ := RowCells.ex hrow
      unfold CellsRel at h7
      by_cases hl : row0.lk = true
      · have e1 : thawRow r row.n ys row0 = { row0 with xs := row0.xs.map (Fw.thaw r row.n ys) } := by unfold thawRow; rw [if_pos hl]
        rw [e1]
        refine ⟨cur, ee, cap, h1, h2, by simpa using h3, h4, ?_, by simpa using h6, ?_⟩
        · intro x hx
          obtain ⟨y, hy, rfl⟩ := List.mem_map.1 hx
          rw [thaw_width]; exact h5 y hy
        · unfold CellsRel
          rw [if_pos hl] at h7
          show if row0.lk = true then _ else _
          rw [if_pos hl, thaw_flat]
          have : ∀ {xs : List A} {vs : List Value} {F : List Nat}, TRelL w G S.rows gs xs vs F → TRelL w (fun b => G b ∨ b ∈ gs.all r) (S.thaw r row.n ys).rows (gs.add r none []) (xs.map (Fw.thaw r row.n ys)) vs F := by
            intro xs vs F h
            induction xs generalizing vs F with
            | nil => cases h; exact .nil
            | cons x xs ih => cases h with | cons h hl => exact .cons (h.thaw ht) (ih hl)
          simpa using this h7
      · have e1 : thawRow r row.n ys row0 = row0 := by unfold thawRow; rw [if_neg hl]
        rw [e1]
        refine ⟨cur, ee, cap, h1, h2, h3, h4, h5, h6, ?_⟩
        unfold CellsRel
        rw [if_neg hl] at h7 ⊢
        exact h7.move_ (fun b hb => ⟨.inl hb, rfl⟩) fun _ _ => rfl
  · obtain ⟨hqr, row0, h0, rfl⟩ := hcase q row' hq
    rw [hall q hqr]; exact hi.nod q row0 h0
  · obtain ⟨hqr, row0, h0, rfl⟩ := hcase q row' hq
    rw [hall q hqr] at hb
    obtain ⟨q1, q2⟩ := hi.own q row0 h0 b hb
    exact ⟨fun h => h.elim q1 fun h => hi.dis q r row0 row h0 hr hqr b hb h, q2⟩
  · obtain ⟨hqr, row0, h0, rfl⟩ := hcase q row' hq
    obtain ⟨hqr', row1, h1, rfl⟩ := hcase q' row'' hq'
    rw [hall q hqr, hall q' hqr']
    exact hi.dis q q' row0 row1 h0 h1 hne
  · show TRel w _ (S.thaw r row.n ys).rows _ (lk (thawT r row.n ys S.t) i) _ []
    rw [lk_thawT]
    exact (hi.tmp i).thaw ht
/-- The same where nothing is held alone. -/
theorem Sbs.thaw0 {r : Nat} {row : Row} (hr : rowAt S.rows r = some row) (hlk : row.lk = false) (hno : (flat row.xs).all noOwn = true) : Sbs S (S.thaw r row.n row.xs) :=
  Sbs.thawY hr hlk rfl (fun h => h) fun w G G' vs F h h1 h2 => by
    obtain rfl := h.noOwn hno
    exact RelL.move_ (fun b hb => ⟨h1 b hb, rfl⟩) h (fun _ _ => rfl)
/-- A box of data is told as a row of data. -/
theorem Sbs.unlk {r : Nat} {row : Row} (hr : rowAt S.rows r = some row) (hd : (flat row.xs).all isData = true) : Sbs S (S.setRow r { row with lk := false }) := by
  intro P E ac w ⟨hd', G, gs, hi⟩
  have hal := rowAt_lt hr
  have hrat : ∀ q, rowAt (S.setRow r { row with lk := false }).rows q = if q = r then some { row with lk := false } else rowAt S.rows q := fun q => rowAt_setRow hr
  have hle : ∀ q, RowLe w w S.rows (S.setRow r { row with lk := false }).rows gs gs q := fun q => ⟨fun row' h => by
    rw [hrat]
    split
    · rename_i e; subst e; rw [hr] at h; obtain rfl := Option.some.inj h; exact ⟨_, rfl, rfl, rfl, rfl, fun b cur e h1 h2 => ⟨cur, e, h2, rfl⟩⟩
    · exact ⟨_, h, rfl, rfl, rfl, fun b cur e h1 h2 => ⟨cur, e, h2, rfl⟩⟩⟩
  have hold : ∀ q row', rowAt (S.setRow r { row with lk := false }).rows q = some row' → ∃ row0, rowAt S.rows q = some row0 := fun q row' h => by
    rw [hrat] at h
    split at h
    · rename_i e; subst e; exact ⟨_, hr⟩
    · exact ⟨_, h⟩
  refine ⟨hd', G, gs, hi.keep, hi.os, hi.tape, hi.output, hi.size, hi.sz, hi.gsub, hi.gnew, hi.glt, fun q row' hq => ?_, fun q row' hq => ?_, fun q row' hq => ?_, fun q q' row' row'' hq hq' => ?_, fun i => (hi.tmp i).step (fun b hb => ⟨hb, rfl⟩) hle (by simp)⟩
  · rw [hrat] at hq
    split at hq
    · rename_i e
      subst e
      obtain rfl := Option.some.inj hq
      have h := hi.row q row hr
      generalize (gs q).1 = ob at h
      cases ob with
      | none => exact h
      | some b =>
        obtain ⟨cur, e, cap, h1, h2, h3, h4, h5, h6, h7⟩ := RowCells.ex h
        refine ⟨cur, e, cap, h1, h2, .of h3.le, h4, h5, h6, ?_⟩
        unfold CellsRel
        dsimp only
        rw [if_neg (by simp)]
        exact h7.t.data hd
    · exact (hi.row q row' hq).step (fun b hb => ⟨hb, rfl⟩) hle (fun _ _ => rfl)
  · obtain ⟨row0, h0⟩ := hold q row' hq
    exact hi.nod q row0 h0
  · obtain ⟨row0, h0⟩ := hold q row' hq
    exact hi.own q row0 h0
  · obtain ⟨row0, h0⟩ := hold q row' hq
    obtain ⟨row1, h1⟩ := hold q' row'' hq'
    exact hi.dis q q' row0 row1 h0 h1
/- Row a is told as row b from now on. -/
mutual
def ren (a b : Nat) : A → A
  | .vw r off len => if r = a then .vw b off len else .vw r off len
  | .pt r j o => if r = a then .pt b j o else .pt r j o
  | .agg xs => .agg (renL a b xs)
  | .tup xs => .tup (renL a b xs)
  | .clo g xs => .clo g (renL a b xs)
  | .un => .un
  | .sc v => .sc v
  | .nil => .nil
  | .sl o n xs => .sl o n xs
  | .rp xs => .rp xs
  | .bx xs => .bx xs
def renL (a b : Nat) : List A → List A
  | [] => []
  | x :: xs => ren a b x :: renL a b xs
end
theorem renL_eq (a b : Nat) : ∀ xs : List A, renL a b xs = xs.map (ren a b)
  | [] => rfl
  | x :: xs => by rw [renL, renL_eq a b xs]; rfl
theorem ren_agg (a b : Nat) (xs : List A) : ren a b (.agg xs) = .agg (xs.map (ren a b)) := by rw [ren, renL_eq]
theorem ren_tup (a b : Nat) (xs : List A) : ren a b (.tup xs) = .tup (xs.map (ren a b)) := by rw [ren, renL_eq]
theorem ren_clo (a b g : Nat) (xs : List A) : ren a b (.clo g xs) = .clo g (xs.map (ren a b)) := by rw [ren, renL_eq]
theorem Rel.ren {w : World} {G : Nat → Prop} {x : A} {v : Value} {F : List Nat} (h : Rel w G x v F) (a b : Nat) : Fw.ren a b x = x := by
  refine Rel.rec (motive_1 := fun x v F _ => Fw.ren a b x = x) (motive_2 := fun xs vs F _ => xs.map (Fw.ren a b) = xs)
    ?_ ?_ ?_ ?_ ?_ ?_ ?_ ?_ ?_ ?_ ?_ ?_ ?_ ?_ h
  · intros; rw [Fw.ren]
  · intros; rw [Fw.ren]
  · intros; rw [Fw.ren]
  · intros; rw [Fw.ren]
  · intros; rw [Fw.ren]
  · intros; rw [Fw.ren]
  · intros; rw [Fw.ren]
  · intro xs cs F hl ih; rw [ren_agg, ih]
  · intro xs cs F hl ih; rw [ren_tup, ih]
  · intros; rw [Fw.ren]
  · intros; rw [Fw.ren]
  · intro g caps cs F hl ih; rw [ren_clo, ih]
  · rfl
  · intro x v F xs vs Fs h hl ih ih'; rw [List.map_cons, ih, ih']
theorem TRel.ren {w : World} {G : Nat → Prop} {rows rows' : List (Option Row)} {gs gs' : Gh} {a b : Nat} (hr : ∀ r row, rowAt rows r = some row → ∃ row', rowAt rows' (if r = a then b else r) = some row' ∧ gs' (if r = a then b else r) = gs r ∧ row'.n = row.n ∧ row'.xs.length = row.xs.length)
    {x : A} {v : Value} {F : List Nat} (h : TRel w G rows gs x v F) : TRel w G rows' gs' (Fw.ren a b x) v F := by
  refine TRel.rec (motive_1 := fun x v F _ => TRel w G rows' gs' (Fw.ren a b x) v F) (motive_2 := fun xs vs F _ => TRelL w G rows' gs' (xs.map (Fw.ren a b)) vs F) ?_ ?_ ?_ ?_ ?_ ?_ ?_ ?_ ?_ ?_ h
  · intros; rw [Fw.ren]; exact .un
  · intro x v F h; rw [h.ren]; exact .of h
  · intro r off len k cap c row cur e h1 h2 h3 h4 h5 h6 h7 h8
    obtain ⟨row', q1, q2, q3, q4⟩ := hr r row h1
    have : Fw.ren a b (.vw r off len) = .vw (if r = a then b else r) off len := by rw [Fw.ren]; split <;> rfl
    rw [this]
    exact .vw q1 (by rw [q2]; exact h2) (by omega) h4 (by rw [h5, q3]) h6 (by omega) (by rw [q3]; exact h8)
  · intro r row h1 h2 h3
    obtain ⟨row', q1, q2, q3, q4⟩ := hr r row h1
    have : Fw.ren a b (.vw r 0 0) = .vw (if r = a then b else r) 0 0 := by rw [Fw.ren]; split <;> rfl
    rw [this]
    exact .vwn q1 (by rw [q2]; exact h2) (by rw [h3] at q4; exact List.eq_nil_of_length_eq_zero q4)
  · intro r j o k c row h1 h2 h3
    obtain ⟨row', q1, q2, q3, q4⟩ := hr r row h1
    have : Fw.ren a b (.pt r j o) = .pt (if r = a then b else r) j o := by rw [Fw.ren]; split <;> rfl
    rw [this]
    exact .pt q1 (by rw [q2]; exact h2) (by rw [q3]; exact h3)
  · intro xs cs F hl ih; rw [ren_agg]; exact .agg ih
  · intro xs cs F hl ih; rw [ren_tup]; exact .tup ih
  · intro g caps cs F hl ih; rw [ren_clo]; exact .clo ih
  · exact .nil
  · intro x v F xs vs Fs h hl ih ih'; exact .cons ih ih'
theorem TRelL.ren {w : World} {G : Nat → Prop} {rows rows' : List (Option Row)} {gs gs' : Gh} {a b : Nat} (hr : ∀ r row, rowAt rows r = some row → ∃ row', rowAt rows' (if r = a then b else r) = some row' ∧ gs' (if r = a then b else r) = gs r ∧ row'.n = row.n ∧ row'.xs.length = row.xs.length) :
    ∀ {xs : List A} {vs : List Value} {F : List Nat}, TRelL w G rows gs xs vs F → TRelL w G rows' gs' (xs.map (Fw.ren a b)) vs F
  | _, _, _, .nil => .nil
  | _, _, _, .cons h hl => .cons (h.ren hr) (hl.ren hr)
def renRow (a b : Nat) (row : Row) : Row := if row.lk then { row with xs := row.xs.map (ren a b) } else row
def renRows (a b : Nat) (rows : List (Option Row)) : List (Option Row) := rows.map (Option.map (renRow a b))
def renT (a b : Nat) (t : List (Nat × A)) : List (Nat × A) := t.map fun p => (p.1, ren a b p.2)
theorem lk_renT (a b : Nat) : ∀ (t : List (Nat × A)) (i : Nat), lk (renT a b t) i = ren a b (lk t i)
  | [], i => by show A.un = ren a b .un; rw [ren]
  | (k, x) :: l, i => by
    have ih := lk_renT a b l i
    simp only [renT] at ih
    simp only [renT, List.map_cons, lk]
    split
    · rfl
    · exact ih
theorem rowAt_renRows (a b : Nat) (rows : List (Option Row)) (i : Nat) : rowAt (renRows a b rows) i = (rowAt rows i).map (renRow a b) := by
  simp only [rowAt, renRows, List.getElem?_map]
  cases h : rows[i]? with
  | none => rfl
  | some o => cases o <;> rfl
theorem renRow_n (a b : Nat) (row : Row) : (renRow a b row).n = row.n := by unfold renRow; split <;> rfl
theorem renRow_len (a b : Nat) (row : Row) : (renRow a b row).xs.length = row.xs.length := by unfold renRow; split <;> simp
theorem ren_cells (a b : Nat) (x : A) : (ren a b x).cells = x.cells.map (ren a b) := by
  have e1 : ∀ r o l, ren a b (.vw r o l) = .vw (if r = a then b else r) o l := fun r o l => by rw [ren]; split <;> rfl
  have e2 : ∀ r o l, ren a b (.pt r o l) = .pt (if r = a then b else r) o l := fun r o l => by rw [ren]; split <;> rfl
  cases x with
  | vw r o l => simp only [A.cells, List.map_cons, List.map_nil, e1]
  | pt r o l => simp only [A.cells, List.map_cons, List.map_nil, e2]
  | _ => simp only [ren, renL_eq, A.cells, List.map_cons, List.map_nil]
theorem ren_width (a b : Nat) (x : A) : (ren a b x).width = x.width := by simp [A.width, ren_cells]
theorem ren_flat (a b : Nat) (xs : List A) : flat (xs.map (ren a b)) = (flat xs).map (ren a b) := by
  induction xs with
  | nil => rfl
  | cons x xs ih => simp only [flat, List.map_cons, List.flatMap_cons, List.map_append] at *; rw [ih, ren_cells]
/-- Row a becomes row b, where none stood. -/
def State.mv (S : State) (a b : Nat) : State := ⟨renT a b S.t, S.N, ((renRows a b S.rows).set b (((rowAt S.rows a).map (renRow a b)))).set a none⟩
theorem Sbs.mv {a b : Nat} {row : Row} (ha : rowAt S.rows a = some row) (hb : rowAt S.rows b = none) (hlt : b < S.rows.length) : Sbs S (S.mv a b) := by
  intro P E ac w ⟨hd, G, gs, hi⟩
  have hab : a ≠ b := fun e => by rw [e, hb] at ha; cases ha
  have hal := rowAt_lt ha
  have hlen : (renRows a b S.rows).length = S.rows.length := by simp [renRows]
  have hrat : ∀ r, rowAt (S.mv a b).rows r = if r = a then none else if r = b then (rowAt S.rows a).map (renRow a b) else (rowAt S.rows r).map (renRow a b) := fun r => by
    show rowAt (((renRows a b S.rows).set b _).set a none) r = _
    rw [rowAt_set _ _ _ _ (by rw [List.length_set, hlen]; exact hal)]
    split
    · rfl
    · rw [rowAt_set _ _ _ _ (by rw [hlen]; exact hlt)]
      split
      · rfl
      · rw [rowAt_renRows]
  have hcase : ∀ r row', rowAt (S.mv a b).rows r = some row' → ∃ r0 row0, rowAt S.rows r0 = some row0 ∧ row' = renRow a b row0 ∧ r = (if r0 = a then b else r0) ∧ r0 ≠ b ∧ r ≠ a := fun r row' h => by
    rw [hrat] at h
    split at h
    · cases h
    · rename_i h1
      split at h
      · rename_i h2
        rw [ha] at h
        exact ⟨a, row, ha, (Option.some.inj h).symm, by rw [if_pos rfl]; exact h2, hab, h1⟩
      · rename_i h2
        obtain ⟨row0, q1, q2⟩ := Option.map_eq_some_iff.1 h
        exact ⟨r, row0, q1, q2.symm, by rw [if_neg h1], h2, h1⟩
  have hgs : ∀ r0, r0 ≠ b → (fun r => if r = b then gs a else gs r) (if r0 = a then b else r0) = gs r0 := fun r0 h0 => by
    dsimp only
    by_cases h : r0 = a
    · subst h; simp
    · rw [if_neg h, if_neg h0]
  have hren : ∀ r row0, rowAt S.rows r = some row0 → ∃ row', rowAt (S.mv a b).rows (if r = a then b else r) = some row' ∧ (fun r => if r = b then gs a else gs r) (if r = a then b else r) = gs r ∧ row'.n = row0.n ∧ row'.xs.length = row0.xs.length := fun r row0 h => by
    have hrb : r ≠ b := fun e => by rw [e, hb] at h; cases h
    refine ⟨renRow a b row0, ?_, hgs r hrb, renRow_n .., renRow_len ..⟩
    rw [hrat]
    by_cases hra : r = a
    · subst hra
      rw [if_pos rfl, if_neg (fun e => hab e.symm), if_pos rfl, h]; rfl
    · rw [if_neg hra, if_neg hra, if_neg hrb, h]; rfl
  have hall : ∀ r0, r0 ≠ b → Gh.all (fun r => if r = b then gs a else gs r) (if r0 = a then b else r0) = gs.all r0 := fun r0 h0 => by
    have := hgs r0 h0
    simp only [Gh.all] at *
    rw [this]
  refine ⟨hd, G, fun r => if r = b then gs a else gs r, hi.keep, hi.os, hi.tape, hi.output, hi.size, hi.sz, hi.gsub, hi.gnew, hi.glt, fun r row' hr => ?_, fun r row' hr => ?_, fun r row' hr => ?_, fun r r' row' row'' hr hr' hne => ?_, fun i => ?_⟩
  · obtain ⟨r0, row0, h0, rfl, rfl, hb0, hra⟩ := hcase r row' hr
    have hrow := hi.row r0 row0 h0
    have e : (if (if r0 = a then b else r0) = b then gs a else gs (if r0 = a then b else r0)) = gs r0 := hgs r0 hb0
    rw [e]
    generalize (gs r0).1 = ob at hrow
    cases ob with
    | none =>
      obtain ⟨q1, q2⟩ := hrow
      refine ⟨?_, q2⟩
      unfold renRow
      split <;> simp [q1]
    | some c =>
      obtain ⟨cur, ee, cap, h1, h2, h3, h4, h5, h6, h7⟩ := hrow.ex
      unfold CellsRel at h7
      by_cases hl : row0.lk = true
      · have e1 : renRow a b row0 = { row0 with xs := row0.xs.map (ren a b) } := by unfold renRow; rw [if_pos hl]
        rw [e1]
        refine ⟨cur, ee, cap, h1, h2, by simpa using h3, h4, ?_, by simpa using h6, ?_⟩
        · intro x hx
          obtain ⟨y, hy, rfl⟩ := List.mem_map.1 hx
          rw [ren_width]; exact h5 y hy
        · unfold CellsRel
          rw [if_pos hl] at h7
          show if row0.lk = true then _ else _
          rw [if_pos hl, ren_flat]
          simpa using h7.ren hren
      · have e1 : renRow a b row0 = row0 := by unfold renRow; rw [if_neg hl]
        rw [e1]
        refine ⟨cur, ee, cap, h1, h2, h3, h4, h5, h6, ?_⟩
        unfold CellsRel
        rw [if_neg hl] at h7 ⊢
        exact h7
  · obtain ⟨r0, row0, h0, rfl, rfl, hb0, hra⟩ := hcase r row' hr
    rw [hall r0 hb0]; exact hi.nod r0 row0 h0
  · obtain ⟨r0, row0, h0, rfl, rfl, hb0, hra⟩ := hcase r row' hr
    rw [hall r0 hb0]; exact hi.own r0 row0 h0
  · obtain ⟨r0, row0, h0, rfl, rfl, hb0, hra⟩ := hcase r row' hr
    obtain ⟨r1, row1, h1, rfl, rfl, hb1, hra1⟩ := hcase r' row'' hr'
    rw [hall r0 hb0, hall r1 hb1]
    exact hi.dis r0 r1 row0 row1 h0 h1 fun e => hne (by rw [e])
  · show TRel w G (S.mv a b).rows _ (lk (renT a b S.t) i) _ []
    rw [lk_renT]
    exact (hi.tmp i).ren hren
end
end Go.Fw

/- Contracts of a result of which a relation speaks, for what is only read; results frozen. Plain theorems, no condition. -/
set_option linter.unusedVariables false
set_option linter.unusedSimpArgs false
namespace Go.Fw
/-- A contract that tells some result of which R speaks. -/
structure RCtr (P : Program) (g : Nat) (args : List A) (R : A → Prop) : Prop where
  enter : Enter P g
  run : ∀ (w : World) (G : Nat → Prop) (vs : List Value), GoodG P w G → RelL w G args vs [] → Calls P g vs.toArray w (fun e w' => ∃ v F x, R x ∧ e = .returned v ∧ Go.RowKit.Below w.heap.size w w' ∧
    F.Nodup ∧ (∀ b ∈ F, w.heap.size ≤ b) ∧ Rel w' (fun b => (G b ∨ (w.heap.size ≤ b ∧ b < w'.heap.size)) ∧ b ∉ F) x v F)
section
variable {P : Program} {T : Nat → Option TI} {S : State} {Ω : Opq}
theorem PCtr.r {g : Nat} {args : List A} {x : A} (h : PCtr P g args x) {R : A → Prop} (hR : R x) : RCtr P g args R :=
  ⟨h.enter, fun w G vs h1 h2 => Calls.mono (h.run w G vs h1 h2) (by rintro e w' ⟨v, F, rfl, h⟩; exact ⟨v, F, x, hR, rfl, h⟩)⟩
theorem CallOK_r {g k : Nat} {args ys : List A} {R : A → Prop} {K : A → State → Prop} (hc : RCtr P g ys R) (h1 : args.all isData = true) (h2 : fitA.fitL k args ys)
    (h : ∀ x, R x → noOwn (rootA k S x).1 = true ∧ K (rootA k S x).1 (rootA k S x).2) : CallOK P g args S K := by
  refine ⟨hc.enter, fun E G gs tmps w vs hi hl => ?_⟩
  have hys := fitL_rel (fun x y v F => fitA_rel k x y v F) args ys vs [] h2 (hl.data h1)
  refine Calls.mono (hc.run w G vs hi.glt hys) ?_
  rintro e w' ⟨v, F, x, hx, rfl, hb, hnd, hnew, hr⟩
  have hGF : ∀ b, G b → b ∉ F := fun b h hF => by have := hi.glt b h; have := hnew b hF; omega
  obtain ⟨gs', g1, g2⟩ := adopt_new hi hb hnd hnew (fun b h => ⟨.inl h, hGF b h⟩) (fun b h => ⟨h.1.imp id And.left, h.2⟩)
    (fun b h => h.1.elim (fun h => Nat.lt_of_lt_of_le (hi.glt b h) hb.size) And.right) hr k (h x hx).1
  exact ⟨v, _, _, _, gs', rfl, (h x hx).2, g1, g2⟩
theorem call_r (hΩ : Ω = std) (k : Nat) {g : Nat} {args ys : List A} {R : A → Prop} {K : A → State → Prop} (hc : RCtr P g ys R) (h1 : args.all isData = true) (h2 : fitA.fitL k args ys)
    (h : ∀ x, R x → noOwn (rootO Ω k S x).1 = true ∧ K (rootO Ω k S x).1 (rootO Ω k S x).2) : CallX P g args S K := by
  subst hΩ
  exact ⟨CallOK_r (k := k) hc h1 h2 fun x hx => by simp only [← rootO_std]; exact h x hx⟩
theorem CallOK_rf {g k : Nat} {args ys0 ys : List A} {R : A → Prop} {K : A → State → Prop} (hc : RCtr P g ys R) (h1 : mapO (roO S k) args = some ys0) (h2 : fitA.fitL k ys0 ys)
    (h : ∀ x, R x → roFree x = true ∧ noOwn (rootA k S (Fw.frz x)).1 = true ∧ K (rootA k S (Fw.frz x)).1 (rootA k S (Fw.frz x)).2) : CallOK P g args S K := by
  refine ⟨hc.enter, fun E G gs tmps w vs hi hl => ?_⟩
  have hys := fitL_rel (fun x y v F => fitA_rel k x y v F) ys0 ys vs [] h2 (mapO_rel (fun x v F y h hy => roO_rel hi k x v F y h hy) hl h1)
  refine Calls.mono (hc.run w (Old w) vs hi.glt.old hys) ?_
  rintro e w' ⟨v, F, x, hx, rfl, hb, hnd, hnew, hr⟩
  obtain ⟨hx, hno, hK⟩ := h x hx
  have hr' : Rel w' (fun b => G b ∧ b ∉ F) x v F := hr.anyG hx _
  have hr2 : Rel w' (fun b => (G b ∨ b ∈ F) ∧ b ∉ ([] : List Nat)) (Fw.frz x) v [] := hr'.frz (fun b hb => ⟨.inl hb.1, by simp⟩) fun b hb => ⟨.inr hb, by simp⟩
  obtain ⟨gs', g1, g2⟩ := adopt_new hi hb List.nodup_nil (by simp) (fun b h => ⟨.inl h, by simp⟩) (fun b h => ⟨h.1.imp id (hnew b), h.2⟩)
    (fun b h => h.1.elim (fun h => Nat.lt_of_lt_of_le (hi.glt b h) hb.size) (hr.lt b)) hr2 k hno
  exact ⟨v, _, _, _, gs', rfl, hK, g1, g2⟩
/-- The result is frozen. -/
theorem call_rf (hΩ : Ω = std) (k : Nat) {g : Nat} {args ys0 ys : List A} {R : A → Prop} {K : A → State → Prop} (hc : RCtr P g ys R) (h1 : mapO (roO S k) args = some ys0) (h2 : fitA.fitL k ys0 ys)
    (h : ∀ x, R x → roFree x = true ∧ noOwn (rootO Ω k S (Fw.frz x)).1 = true ∧ K (rootO Ω k S (Fw.frz x)).1 (rootO Ω k S (Fw.frz x)).2) : CallX P g args S K := by
  subst hΩ
  exact ⟨CallOK_rf (k := k) hc h1 h2 fun x hx => by simp only [← rootO_std]; exact h x hx⟩
theorem call_pf (hΩ : Ω = std) (k : Nat) {g : Nat} {args ys0 ys : List A} {x y : A} {K : A → State → Prop} (hc : PCtr P g ys x) (h1 : mapO (roO S k) args = some ys0) (h2 : fitA.fitL k ys0 ys) (hx : roFree x = true) (hy : Fw.frz x = y)
    (hno : noOwn (rootO Ω k S y).1 = true) (hK : K (rootO Ω k S y).1 (rootO Ω k S y).2) : CallX P g args S K :=
  call_rf hΩ k (hc.r (R := fun z => z = x) rfl) h1 h2 fun z hz => by subst hz; subst hy; exact ⟨hx, hno, hK⟩
end
end Go.Fw

/- Regions that draw their order, of which the operations that do something may stand in a few orders. Plain theorems, no condition. -/
set_option linter.unusedVariables false
set_option linter.unusedSimpArgs false
namespace Go.Fw
/-- The orders that may come. -/
inductive Ord where
  | fin
  | step (n : Nat) (o : Ord)
  | two (n : Nat) (o : Ord) (m : Nat) (p : Ord)
def Ord.depth : Ord → Nat
  | .fin => 0
  | .step _ o => o.depth + 1
  | .two _ o _ _ => o.depth + 1
section
variable {P : Program} {T : Nat → Option TI} {S : State} {Ω : Opq}
def vOne (Ω : Opq) (P : Program) (T : Nat → Option TI) (ops : List Oper) (mv : Option Nat) (n : Nat) (S : State) (k : Option Nat → State → Prop) : Prop :=
  match ops[n]? with
    | some o => (match o.guard with
      | none => vOp Ω P T mv o S fun S' => k (madeBy o) S'
      | some _ => False)
    | none => False
def vOrd (Ω : Opq) (P : Program) (T : Nat → Option TI) (ops : List Oper) : Ord → Option Nat → State → (State → Prop) → Prop
  | .fin, _, S, K => K S
  | .step n o, mv, S, K => vOne Ω P T ops mv n S fun mv' S' => vOrd Ω P T ops o mv' S' K
  | .two n o m p, mv, S, K => (vOne Ω P T ops mv n S fun mv' S' => vOrd Ω P T ops o mv' S' K) ∧ (vOne Ω P T ops mv m S fun mv' S' => vOrd Ω P T ops p mv' S' K)
def heldO (ops : Array Oper) : Ord → Array Bool → Bool
  | .fin, l => (Region.ready .any ops l).isEmpty
  | .step n o, l => decide (Region.ready .any ops l = [n]) && heldO ops o (l.setIfInBounds n true)
  | .two n o m p, l => decide (Region.ready .any ops l = [n, m]) && decide (o.depth = p.depth) && heldO ops o (l.setIfInBounds n true) && heldO ops p (l.setIfInBounds m true)
def heldQO (ops : Array Oper) (o : Ord) : List Nat → Array Bool → Bool
  | [], l => heldO ops o l
  | q :: qs, l => (Region.ready .any ops l).contains q && Region.free .any ops l q && heldQO ops o qs (l.setIfInBounds q true)
def heldOB (ops : Array Oper) (qs : List Nat) (o : Ord) : Bool :=
  Region.noSelect ops && decide (qs.length + o.depth = ops.size) && heldQO ops o qs (Array.replicate ops.size false)
theorem vOne_ok (hT : TabOK P T) {ops : List Oper} {E : Env P} {mv : Option Nat} {n : Nat} {S : State} {k : Option Nat → State → Prop} (h : vOne std P T ops mv n S k) {a : Act} {w : World} (hs : SInv E S a w)
    {K' : Act → World → Prop} {Q : Exit → Act → World → Prop} (hk : ∀ mv' S' a' w', k mv' S' → SInv E S' a' w' → K' a' w') : wpOp P ops.toArray Q n K' a w := by
  unfold vOne at h
  split at h <;> try exact h.elim
  rename_i o ho
  split at h <;> try exact h.elim
  rename_i hg
  unfold wpOp
  rw [show ops.toArray[n]? = some o by simpa using ho]
  simp only
  rw [if_pos (by simp [Region.wanted, hg])]
  exact .inl (vOp_ok hT h E a w _ _ hs fun S' a' w' hK hs' => hk _ S' a' w' hK hs')
theorem heldO_ok (hT : TabOK P T) {ops : List Oper} {E : Env P} {Sc : World → Prop} (hSc : ∀ S a w, SInv E S a w → Sc w) {K : State → Prop} : ∀ (o : Ord) (listed : Array Bool) (mv : Option Nat) (S : State) (a : Act) (w : World), heldO ops.toArray o listed = true →
    vOrd std P T ops o mv S K → SInv E S a w → wpAnyH P .any ops.toArray (fun e a' w' => e = .normal ∧ ∃ S', SInv E S' a' w' ∧ K S') Sc o.depth listed a w
  | .fin, listed, mv, S, a, w, hB, h, hs => ⟨by simpa [heldO] using hB, rfl, S, hs, h⟩
  | .step n o, listed, mv, S, a, w, hB, h, hs => by
    simp only [heldO, Bool.and_eq_true, decide_eq_true_eq] at hB
    unfold vOrd at h
    refine wpAnyH_all hB.1 (by simp) fun i hi => ?_
    have hin : i = n := by simpa using hi
    subst hin
    exact vOne_ok hT h hs fun mv' S' a' w' hK hs' => ⟨hSc _ _ _ hs', heldO_ok hT hSc o _ _ S' a' w' hB.2 hK hs'⟩
  | .two n o m p, listed, mv, S, a, w, hB, h, hs => by
    simp only [heldO, Bool.and_eq_true, decide_eq_true_eq] at hB
    unfold vOrd at h
    refine wpAnyH_all hB.1.1.1 (by simp) fun i hi => ?_
    have hin : i = n ∨ i = m := by simpa using hi
    rcases hin with rfl | rfl
    · exact vOne_ok hT h.1 hs fun mv' S' a' w' hK hs' => ⟨hSc _ _ _ hs', heldO_ok hT hSc o _ _ S' a' w' hB.1.2 hK hs'⟩
    · exact vOne_ok hT h.2 hs fun mv' S' a' w' hK hs' => ⟨hSc _ _ _ hs', by rw [hB.1.1.2]; exact heldO_ok hT hSc p _ _ S' a' w' hB.2 hK hs'⟩
theorem heldQO_ok (hT : TabOK P T) {ops : List Oper} {E : Env P} {G : Nat → Prop} {gs : Gh} {w : World} {Q : Exit → Act → World → Prop} (hQ : ∀ c a w, ¬ Q (.panic c) a w) (hsel : Region.noSelect ops.toArray = true) {o : Ord} {K : State → Prop}
    (hK : ∀ S a listed, heldO ops.toArray o listed = true → K S → a.defers = [] → Inv E G gs S a.tmps w → wpAnyH P .any ops.toArray Q (Agree G w) o.depth listed a w) : ∀ (qs : List Nat) (listed : Array Bool) (S : State) (a : Act), heldQO ops.toArray o qs listed = true →
    vGs std T ops qs S K → a.defers = [] → Inv E G gs S a.tmps w → wpAnyH P .any ops.toArray Q (Agree G w) (qs.length + o.depth) listed a w
  | [], listed, S, a, hB, h, hd, hi => by rw [List.length_nil, Nat.zero_add]; exact hK S a listed hB h hd hi
  | q :: qs, listed, S, a, hB, h, hd, hi => by
    simp only [heldQO, Bool.and_eq_true] at hB
    unfold vGs at h
    split at h <;> try exact h.elim
    rename_i u ho
    split at h <;> try exact h.elim
    rename_i hg
    obtain ⟨z, h1, h2⟩ := vGOp_ok hT h
    obtain ⟨v, h3, h4⟩ := h1 E G gs a w hi
    rw [List.length_cons, show qs.length + 1 + o.depth = (qs.length + o.depth) + 1 by omega]
    refine wpAnyH_take (oi := u) (v := v) (by simpa using ho) hsel hB.1.2 hB.1.1 (fun c a w h => (hQ _ _ _ h).elim) (.inl ⟨by simp [Region.wanted, hg], h3⟩) (fun _ _ => rfl) ?_
    exact heldQO_ok hT hQ hsel hK qs _ _ _ hB.2 h2 (by rw [put_defers]; exact hd) (hi.put h4 u.dst)
/-- A region that draws its order: the operations qs only read what nobody in it writes; the others stand in the orders o. -/
theorem VC_order (hT : TabOK P T) (hΩ : Ω = std) (hm : P.follows .mixedOrders = true) (qs : List Nat) (o : Ord) {id : Nat} {ops : Array Oper} {K : Exit → State → Prop} (hB : heldOB ops qs o = true)
    (h : vGs Ω T ops.toList qs S fun S' => vOrd Ω P T ops.toList o none S' (K .normal)) : VC P (.region id ops true) S K := by
  subst hΩ
  intro E a w hs
  have hops : ops = ops.toList.toArray := by simp
  rw [hops] at hB ⊢
  obtain ⟨hd, G, gs, hi⟩ := hs
  simp only [heldOB, Bool.and_eq_true, decide_eq_true_eq] at hB
  obtain ⟨⟨hsel, hsz⟩, hB⟩ := hB
  have hw1 : Go.RowKit.Below w.heap.size w { w with drawn := w.drawn + 1 } := ⟨rfl, rfl, rfl, Nat.le_refl _, fun _ _ => rfl⟩
  have hi1 : Inv E G gs S a.tmps { w with drawn := w.drawn + 1 } := hi.below hw1 (fun _ h => h) (fun _ h => .inl h) (fun b h => Nat.lt_of_lt_of_le (hi.glt b h) hw1.size)
  have hwp : (Code.region id ops.toList.toArray true).wp P (fun e a' w' => e = .normal ∧ ∃ S', SInv (envAt E G gs S { w with drawn := w.drawn + 1 }) S' a' w' ∧ K .normal S') a w := by
    refine wp_region_held (S := Agree G { w with drawn := w.drawn + 1 }) hm ?_
    rw [show ops.toList.toArray.size = qs.length + o.depth from hsz.symm]
    rw [show ops.toList.toArray.size = qs.length + o.depth from hsz.symm] at hB
    refine heldQO_ok hT (fun c a w h => by cases h.1) hsel (fun S2 a2 listed hB2 hK2 hd2 hi2 => ?_) qs _ S a hB h hd hi1.at
    refine heldO_ok hT (fun S3 a3 w3 hs3 => ?_) o listed none S2 a2 _ hB2 hK2 ⟨hd2, G, gs, hi2⟩
    obtain ⟨_, G3, gs3, hi3⟩ := hs3
    exact hi1.agree hi3
  refine wp_mono hwp ?_
  rintro e a' w' ⟨rfl, S', ⟨hd', G', gs', hi'⟩, hK'⟩
  exact ⟨S', ⟨hd', G', gs', hi1.back hi'⟩, hK'⟩
end
end Go.Fw

/- Regions that draw their order, taken by a plan: operations that only read, calls, orders, guards. Plain theorems, no condition. -/
set_option linter.unusedVariables false
set_option linter.unusedSimpArgs false
namespace Go.Fw
/-- A plan: q: an operation that only reads; s: the one that must come; two: one of two. -/
inductive Pln where
  | fin
  | q (n : Nat) (p : Pln)
  | s (n : Nat) (p : Pln)
  | two (n : Nat) (p : Pln) (m : Nat) (r : Pln)
def Pln.depth : Pln → Nat
  | .fin => 0
  | .q _ p => p.depth + 1
  | .s _ p => p.depth + 1
  | .two _ p _ _ => p.depth + 1
def Pln.qs : List Nat → Pln → Pln
  | [], p => p
  | n :: ns, p => .q n (Pln.qs ns p)
section
variable {P : Program} {T : Nat → Option TI} {S : State} {Ω : Opq}
def planB (ops : Array Oper) : Pln → Array Bool → Bool
  | .fin, l => (Region.ready .any ops l).isEmpty
  | .q n p, l => (Region.ready .any ops l).contains n && Region.free .any ops l n && planB ops p (l.setIfInBounds n true)
  | .s n p, l => decide (Region.ready .any ops l = [n]) && planB ops p (l.setIfInBounds n true)
  | .two n p m r, l => decide (Region.ready .any ops l = [n, m]) && decide (p.depth = r.depth) && planB ops p (l.setIfInBounds n true) && planB ops r (l.setIfInBounds m true)
def planOK (ops : Array Oper) (p : Pln) : Bool := Region.noSelect ops && decide (p.depth = ops.size) && planB ops p (Array.replicate ops.size false)
def vPOp (Ω : Opq) (P : Program) (T : Nat → Option TI) (o : Oper) (S : State) (k : A → Prop) : Prop :=
  match o.op with
  | .move x => k (ev S x)
  | .assign x => k (ev S x)
  | .pick c x y => vPick Ω (ev S c) (ev S x) (ev S y) k
  | .unOp op _ x => vUn Ω op (ev S x) k
  | .binOp op t x y _ => vBinA Ω P T op t (ev S x) (ev S y) k
  | .load t x => vLoad T t S (ev S x) k
  | .fieldAddr t x i => vFieldAddr T t i (ev S x) k
  | .field t x i => vField T t i (ev S x) k
  | .indexAddr t x y => vIndexAddr Ω T t S (ev S x) (ev S y) k
  | .index t x y => vIndex Ω T t (ev S x) (ev S y) k
  | .extract x i => vExtract (ev S x) i k
  | .nilCheck x => vNilCheck (ev S x) k
  | .build t parts => vBuild T t (parts.toList.map fun p => (p.1, ev S p.2)) k
  | .slice t x lo hi none => vSlice Ω T t S (ev S x) (lo.map (ev S)) (hi.map (ev S)) k
  | .convert src dst x => vConv Ω T src dst S (ev S x) k
  | .makeFunc f first caps => vMakeFn f (first.toList.map (ev S)) (caps.toList.map (ev S)) k
  | .call c => (match c.callee, c.args.toList, c.argTypes.toList with
    | .builtin .len, [x], [t] => vLen Ω T t (ev S x) k
    | _, _, _ => False)
  | _ => False
/-- Under a guard: done, or passed over. -/
def vGd (ops : List Oper) (o : Oper) (S : State) (X Y : State → Prop) : Prop :=
  match o.guard with
  | none => X S
  | some (j, b) =>
    match guardAt ops j with
    | none => False
    | some i => if i < S.N then (match lk S.t i with
      | .sc (.bool p) => brB p
          (fun _ => match b with
            | true => X (S.put (some i) (.sc (.bool true)))
            | false => Y (S.put (some i) (.sc (.bool true))))
          (fun _ => match b with
            | true => Y (S.put (some i) (.sc (.bool false)))
            | false => X (S.put (some i) (.sc (.bool false))))
      | .tup [] => Y S
      | _ => False) else False
/-- What a guard says. -/
theorem vGd_ok {ops : List Oper} {o : Oper} {X Y : State → Prop} (h : vGd ops o S X Y) {E : Env P} {G : Nat → Prop} {gs : Gh} {a : Act} {w : World} (hi : Inv E G gs S a.tmps w) :
    ∃ S', S'.rows = S.rows ∧ Inv E G gs S' a.tmps w ∧ ((Region.wanted o (yielded ops.toArray a.tmps) = true ∧ X S') ∨ (Region.wanted o (yielded ops.toArray a.tmps) = false ∧ Y S')) := by
  unfold vGd at h
  split at h
  · rename_i hg; exact ⟨S, rfl, hi, .inl ⟨by simp [Region.wanted, hg], h⟩⟩
  · rename_i j b hg
    split at h <;> try exact h.elim
    rename_i i hat
    split at h <;> try exact h.elim
    rename_i hN
    have hsz : i < a.tmps.size := by rw [hi.sz]; exact hN
    have h1 : ((ops.toArray[j]?).bind (·.dst)) = some i := by simpa [guardAt] using hat
    split at h <;> try exact h.elim
    case h_2 hp =>
      have ht := hi.tmp i
      rw [hp, hi.vat_tmp hN] at ht
      obtain ⟨cs, hv, hcs⟩ := tup_inv ht
      have hcs0 : cs = #[] := Array.eq_empty_of_size_eq_zero (by simpa using hcs.length)
      subst hcs0
      have hy : yielded ops.toArray a.tmps j = none := by
        unfold yielded
        rw [h1]
        rw [Array.getD_eq_getD_getElem?, Array.getElem?_eq_getElem hsz] at hv
        simp only [Option.getD_some] at hv
        simp [Array.getElem?_eq_getElem hsz, hv]
      exact ⟨S, rfl, hi, .inr ⟨by simp [Region.wanted, hg, hy], h⟩⟩
    rename_i p hp
    have hy : ∀ q, p = q → yielded ops.toArray a.tmps j = some q ∧ Inv E G gs (S.put (some i) (.sc (.bool q))) a.tmps w := fun q hq => by
      subst hq
      have ht := hi.tmp i
      have ht' := ht
      rw [hp, hi.vat_tmp hN] at ht
      have hv := (sc_inv ht).1
      refine ⟨?_, hi.retell (by rw [hp] at ht'; exact ht') hN⟩
      unfold yielded
      rw [h1]
      rw [Array.getD_eq_getD_getElem?, Array.getElem?_eq_getElem hsz] at hv
      simp only [Option.getD_some] at hv
      simp [Array.getElem?_eq_getElem hsz, hv]
    obtain ⟨ht, hf⟩ := brB_ok h
    cases p with
    | true =>
      obtain ⟨hy1, hy2⟩ := hy true rfl
      have := ht rfl
      cases b with
      | true => exact ⟨_, put_rows _ _ _, hy2, .inl ⟨by simp [Region.wanted, hg, hy1], this⟩⟩
      | false => exact ⟨_, put_rows _ _ _, hy2, .inr ⟨by simp [Region.wanted, hg, hy1], this⟩⟩
    | false =>
      obtain ⟨hy1, hy2⟩ := hy false rfl
      have := hf rfl
      cases b with
      | true => exact ⟨_, put_rows _ _ _, hy2, .inr ⟨by simp [Region.wanted, hg, hy1], this⟩⟩
      | false => exact ⟨_, put_rows _ _ _, hy2, .inl ⟨by simp [Region.wanted, hg, hy1], this⟩⟩
theorem wpAnyH_mono {ops : Array Oper} {Q : Exit → Act → World → Prop} {Sc Sc' : World → Prop} (h : ∀ w, Sc w → Sc' w) : ∀ (n : Nat) (l : Array Bool) (a : Act) (w : World), wpAnyH P .any ops Q Sc n l a w → wpAnyH P .any ops Q Sc' n l a w
  | 0, _, _, _, hh => hh
  | n + 1, _, _, _, hh => ⟨hh.1, fun i hi => wpOp_mono (fun a' w' h' => ⟨h _ h'.1, wpAnyH_mono h n _ a' w' h'.2⟩) (hh.2 i hi)⟩
theorem envAt_put (E : Env P) (G : Nat → Prop) (gs : Gh) (S : State) (w : World) (d : Option Nat) (z : A) : envAt E G gs (S.put d z) w = envAt E G gs S w := by
  unfold envAt
  rw [put_rows]
theorem plan_step (hT : TabOK P T) {ops : List Oper} {Q : Exit → Act → World → Prop} {E : Env P} {n : Nat} {o : Oper} {mv : Option Nat} {X : Oper → State → Prop} {Y : State → Prop} (ho : ops[n]? = some o) {S : State} {a : Act} {w : World}
    (h : vGd ops o S (fun S => vOp std P T mv o S fun S' => X o S') Y) (hs : SInv E S a w) {K' : Act → World → Prop} (hX : ∀ S' a' w', X o S' → SInv E S' a' w' → K' a' w') (hY : ∀ S' , Y S' → SInv E S' a w → K' (a.put o.dst undef) w) : wpOp P ops.toArray Q n K' a w := by
  obtain ⟨hd, G, gs, hi⟩ := hs
  obtain ⟨S', hrows, hi', hV⟩ := vGd_ok h hi
  unfold wpOp
  rw [show ops.toArray[n]? = some o by simpa using ho]
  simp only
  rcases hV with ⟨hw, hv⟩ | ⟨hw, hv⟩
  · rw [if_pos hw]
    exact .inl (vOp_ok hT hv E a w _ _ ⟨hd, G, gs, hi'⟩ fun S' a' w' hK hs' => hX S' a' w' hK hs')
  · rw [if_neg (by simp [hw])]
    exact hY S' hv ⟨hd, G, gs, hi'⟩
theorem skip_put {E : Env P} {S : State} {a : Act} {w : World} (hs : SInv E S a w) (d : Option Nat) : SInv E (S.put d (.tup [])) (a.put d undef) w := by
  obtain ⟨hd, G, gs, hi⟩ := hs
  exact ⟨by rw [put_defers]; exact hd, G, gs, hi.put (tup_undef _ _ _) d⟩
end
end Go.Fw

/- The library's numerals and joins, as contracts. Plain theorems. -/
set_option linter.unusedVariables false
set_option linter.unusedSimpArgs false
namespace Go.Proofs
open Go.Shelf
def Tryz.fmtI_ren : Go.Shelf.Ren := ⟨fun | 173 => 120 | 246 => 162 | 283 => 207 | 284 => 208 | 285 => 209 | 286 => 210 | 129 => 239 | 317 => 238 | 318 => 240 | 319 => 241 | 320 => 242 | 337 => 262 | 338 => 263 | n => n, fun | 2 => 2 | 3 => 3 | 9 => 9 | 4 => 4 | 171 => 233 | 0 => 0 | 53 => 234 | 37 => 108 | 5 => 5 | 173 => 237 | 212 => 257 | 51 => 258 | 20 => 20 | 213 => 259 | 46 => 248 | 232 => 291 | 233 => 292 | n => n, fun | 17 => 0 | 18 => 2 | 19 => 3 | n => n⟩
theorem Tryz.fmtI : Go.Proofs.LaysM.n173 Tryz.prog Tryz.fmtI_ren where
  mixed := by kernel_rfl
  f129 := Tryz.func239.trans (congrArg some (by kernel_rfl))
  f173 := Tryz.func120.trans (congrArg some (by kernel_rfl))
  f246 := Tryz.func162.trans (congrArg some (by kernel_rfl))
  f283 := Tryz.func207.trans (congrArg some (by kernel_rfl))
  f284 := Tryz.func208.trans (congrArg some (by kernel_rfl))
  f285 := Tryz.func209.trans (congrArg some (by kernel_rfl))
  f286 := Tryz.func210.trans (congrArg some (by kernel_rfl))
  f317 := Tryz.func238.trans (congrArg some (by kernel_rfl))
  f318 := Tryz.func240.trans (congrArg some (by kernel_rfl))
  f319 := Tryz.func241.trans (congrArg some (by kernel_rfl))
  f320 := Tryz.func242.trans (congrArg some (by kernel_rfl))
  f337 := Tryz.func262.trans (congrArg some (by kernel_rfl))
  f338 := Tryz.func263.trans (congrArg some (by kernel_rfl))
  t0 := Tryz.underlying0
  a0 := Tryz.isAgg0
  z0 := Tryz.sizeOf0
  v0 := Tryz.zeroValue0
  t2 := Tryz.underlying2
  a2 := Tryz.isAgg2
  z2 := Tryz.sizeOf2
  v2 := Tryz.zeroValue2
  t3 := Tryz.underlying3
  a3 := Tryz.isAgg3
  z3 := Tryz.sizeOf3
  v3 := Tryz.zeroValue3
  t4 := Tryz.underlying4
  a4 := Tryz.isAgg4
  z4 := Tryz.sizeOf4
  v4 := Tryz.zeroValue4
  t5 := Tryz.underlying5
  a5 := Tryz.isAgg5
  z5 := Tryz.sizeOf5
  v5 := Tryz.zeroValue5
  t9 := Tryz.underlying9
  a9 := Tryz.isAgg9
  z9 := Tryz.sizeOf9
  v9 := Tryz.zeroValue9
  t20 := Tryz.underlying20
  a20 := Tryz.isAgg20
  z20 := Tryz.sizeOf20
  v20 := Tryz.zeroValue20
  t37 := Tryz.underlying108
  a37 := Tryz.isAgg108
  z37 := Tryz.sizeOf108
  v37 := Tryz.zeroValue108
  t46 := Tryz.underlying248
  a46 := Tryz.isAgg248
  z46 := Tryz.sizeOf248
  v46 := Tryz.zeroValue248
  t51 := Tryz.underlying258
  a51 := Tryz.isAgg258
  z51 := Tryz.sizeOf258
  v51 := Tryz.zeroValue258
  t53 := Tryz.underlying234
  a53 := Tryz.isAgg234
  z53 := Tryz.sizeOf234
  v53 := Tryz.zeroValue234
  t171 := Tryz.underlying233
  a171 := Tryz.isAgg233
  z171 := Tryz.sizeOf233
  v171 := Tryz.zeroValue233
  t173 := Tryz.underlying237
  a173 := Tryz.isAgg237
  z173 := Tryz.sizeOf237
  v173 := Tryz.zeroValue237
  t212 := Tryz.underlying257
  a212 := Tryz.isAgg257
  z212 := Tryz.sizeOf257
  v212 := Tryz.zeroValue257
  t213 := Tryz.underlying259
  a213 := Tryz.isAgg259
  z213 := Tryz.sizeOf259
  t232 := Tryz.underlying291
  a232 := Tryz.isAgg291
  z232 := Tryz.sizeOf291
  v232 := Tryz.zeroValue291
  t233 := Tryz.underlying292
  a233 := Tryz.isAgg292
  z233 := Tryz.sizeOf292
  v233 := Tryz.zeroValue292
  g17 := by kernel_rfl
  g18 := by kernel_rfl
  g19 := by kernel_rfl
  i0 := by kernel_rfl
  i2 := by kernel_rfl
  i3 := by kernel_rfl
  i4 := by kernel_rfl
  i5 := by kernel_rfl
  i9 := by kernel_rfl
  i20 := by kernel_rfl
  i37 := by kernel_rfl
  i46 := by kernel_rfl
  i51 := by kernel_rfl
  i53 := by kernel_rfl
  i171 := by kernel_rfl
  i173 := by kernel_rfl
  i212 := by kernel_rfl
  i232 := by kernel_rfl
  i233 := by kernel_rfl
  m17 := by kernel_rfl
  m18 := by kernel_rfl
  m19 := by kernel_rfl

def Tryz.joinS_ren : Go.Shelf.Ren := ⟨fun | 156 => 127 | 165 => 172 | 166 => 173 | 169 => 174 | 240 => 218 | 241 => 219 | 276 => 251 | 277 => 252 | n => n, fun | 31 => 64 | 9 => 9 | 3 => 3 | 4 => 4 | 0 => 0 | 20 => 20 | 72 => 205 | 76 => 209 | 70 => 203 | 37 => 108 | 75 => 208 | 127 => 244 | 164 => 266 | 5 => 5 | 80 => 120 | n => n, fun | n => n⟩
theorem Tryz.joinS : Go.Proofs.Lays.n156 Tryz.prog Tryz.joinS_ren where
  mixed := by kernel_rfl
  f156 := Tryz.func127.trans (congrArg some (by kernel_rfl))
  f165 := Tryz.func172.trans (congrArg some (by kernel_rfl))
  f166 := Tryz.func173.trans (congrArg some (by kernel_rfl))
  f169 := Tryz.func174.trans (congrArg some (by kernel_rfl))
  f240 := Tryz.func218.trans (congrArg some (by kernel_rfl))
  f241 := Tryz.func219.trans (congrArg some (by kernel_rfl))
  f276 := Tryz.func251.trans (congrArg some (by kernel_rfl))
  f277 := Tryz.func252.trans (congrArg some (by kernel_rfl))
  t0 := Tryz.underlying0
  a0 := Tryz.isAgg0
  z0 := Tryz.sizeOf0
  v0 := Tryz.zeroValue0
  t3 := Tryz.underlying3
  a3 := Tryz.isAgg3
  z3 := Tryz.sizeOf3
  v3 := Tryz.zeroValue3
  t4 := Tryz.underlying4
  a4 := Tryz.isAgg4
  z4 := Tryz.sizeOf4
  v4 := Tryz.zeroValue4
  t9 := Tryz.underlying9
  a9 := Tryz.isAgg9
  z9 := Tryz.sizeOf9
  v9 := Tryz.zeroValue9
  t20 := Tryz.underlying20
  a20 := Tryz.isAgg20
  z20 := Tryz.sizeOf20
  v20 := Tryz.zeroValue20
  t31 := Tryz.underlying64
  a31 := Tryz.isAgg64
  z31 := Tryz.sizeOf64
  v31 := Tryz.zeroValue64
  t37 := Tryz.underlying108
  a37 := Tryz.isAgg108
  z37 := Tryz.sizeOf108
  v37 := Tryz.zeroValue108
  t70 := Tryz.underlying203
  a70 := Tryz.isAgg203
  z70 := Tryz.sizeOf203
  v70 := Tryz.zeroValue203
  t72 := Tryz.underlying205
  a72 := Tryz.isAgg205
  z72 := Tryz.sizeOf205
  v72 := Tryz.zeroValue205
  t75 := Tryz.underlying208
  a75 := Tryz.isAgg208
  z75 := Tryz.sizeOf208
  v75 := Tryz.zeroValue208
  t76 := Tryz.underlying209
  a76 := Tryz.isAgg209
  z76 := Tryz.sizeOf209
  v76 := Tryz.zeroValue209
  t127 := Tryz.underlying244
  a127 := Tryz.isAgg244
  z127 := Tryz.sizeOf244
  v127 := Tryz.zeroValue244
  t164 := Tryz.underlying266
  a164 := Tryz.isAgg266
  z164 := Tryz.sizeOf266
  v164 := Tryz.zeroValue266

end Go.Proofs
namespace Go.Proofs.YtljjcffnomdhhaaGreatDoor
open Go Go.Fw Go.Proofs Go.Lib
set_option maxRecDepth 100000
theorem relC' {w : World} {G : Nat → Prop} {x : A} {xs : List A} {vs : List Value} (h : RelL w G (x :: xs) vs []) : ∃ v us, vs = v :: us ∧ Rel w G x v [] ∧ RelL w G xs us [] := by
  generalize hF : ([] : List Nat) = F at h
  generalize hx : x :: xs = ys at h
  cases h with
  | nil => cases hx
  | cons h hl =>
    cases hx
    obtain ⟨rfl, rfl⟩ := List.append_eq_nil_iff.1 hF.symm
    exact ⟨_, _, rfl, h, hl⟩
def encS (c : List UInt8) : Value := .string (mkS c)
theorem relS' : ∀ {xs : List (List UInt8)} {w : World} {G : Nat → Prop} {vs : List Value} {F : List Nat}, RelL w G (xs.map str) vs F → vs = xs.map encS ∧ F = []
  | [], _, _, _, _, h => by cases h; exact ⟨rfl, rfl⟩
  | x :: xs, _, _, _, _, h => by
    cases h with
    | cons h hl =>
      obtain ⟨rfl, rfl⟩ := relS' hl
      cases h
      exact ⟨rfl, rfl⟩
theorem flatS' (xs : List (List UInt8)) : flat (xs.map str) = xs.map str := by
  induction xs with
  | nil => rfl
  | cons x xs ih => simp only [flat, List.map_cons, List.flatMap_cons] at *; rw [ih]; rfl
theorem c_FormatInt (n : Int) (h0 : -9223372036854775808 ≤ n) (h1 : n ≤ 9223372036854775807) : PCtr PP n_strconv_FormatInt [i64 n, i64 10] (str (Lib.itoa n)) := by
  refine ⟨fn_strconv_FormatInt.1, fun w G vs hG hl => ?_⟩
  obtain ⟨v1, us, rfl, h, hl⟩ := relC' hl
  obtain ⟨v2, us, rfl, h2, hl⟩ := relC' hl
  cases hl
  cases h
  cases h2
  have hg : ∃ g, PP.globalNamed tabName = some g := Option.isSome_iff_exists.1 (by kernel_rfl)
  obtain ⟨g, hg⟩ := hg
  refine Calls.mono (Any.strconv_FormatInt_10 Tryz.fmtI n h0 h1 w (hG.laid g hg).2) ?_
  rintro e w' ⟨rfl, k, os, rfl⟩
  exact ⟨_, [], rfl, ⟨rfl, rfl, rfl, by simp [Go.Sort.grow], fun b hb => Go.Sort.heap_grow_old (w.drewN k) os hb⟩, List.nodup_nil, by simp, .sc rfl⟩
theorem cells_at {w : World} {b o : Nat} {cur : Array Value} {e : TypeId} {fr : Nat × Nat} {j : Nat} {v : Value} (hh : w.heap[b]? = some (.cells cur e fr)) (hv : cur[o + j]? = some v) : w.cell? ⟨b, o + j, none⟩ = some v := by
  simp [World.cell?, hh, hv]
theorem c_Join (xs : List (List UInt8)) (sep : List UInt8) (hN : xs.length ≤ 140737488355328) (hlen : (Lib.join xs sep).length ≤ 140737488355328) :
    PCtr PP n_strings_Join [.sl false 1 (xs.map str), str sep] (str (Lib.join xs sep)) := by
  have X : Builder.Extra PP Tryz.joinS_ren := ⟨⟨by kernel_rfl, by kernel_rfl⟩, Tryz.underlying5, Tryz.isAgg5, Tryz.sizeOf5, Tryz.zeroValue5, by kernel_rfl, by kernel_rfl, by kernel_rfl, by decide⟩
  refine ⟨fn_strings_Join.1, fun w G vs hG hl => ?_⟩
  obtain ⟨v1, us, rfl, h, hl⟩ := relC' hl
  obtain ⟨v2, us, rfl, h2, hl⟩ := relC' hl
  cases hl
  cases h2
  have done : ∀ {v : Value}, Calls PP n_strings_Join #[v, .string (mkS sep)] w (fun e w' => e = .returned (.string (mkS (Lib.join xs sep))) ∧ Go.RowKit.Below w.heap.size w w') →
      Calls PP n_strings_Join [v, .string (mkS sep)].toArray w (fun e w' => ∃ v F, e = .returned v ∧ Go.RowKit.Below w.heap.size w w' ∧
        F.Nodup ∧ (∀ b ∈ F, w.heap.size ≤ b) ∧ Rel w' (fun b => (G b ∨ (w.heap.size ≤ b ∧ b < w'.heap.size)) ∧ b ∉ F) (str (Lib.join xs sep)) v F) := fun h => by
    refine Calls.mono h ?_
    rintro e w' ⟨rfl, hb⟩
    exact ⟨_, [], rfl, hb, List.nodup_nil, by simp, .sc rfl⟩
  generalize hys : xs.map str = ys at h
  have hnil : ∀ {a : Option Addr} {c : Nat}, ys = [] → Calls PP n_strings_Join #[.slice a 0 c, .string (mkS sep)] w (fun e w' => e = .returned (.string (mkS (Lib.join xs sep))) ∧ Go.RowKit.Below w.heap.size w w') := fun {a c} h0 => by
    have hx : xs = [] := by subst h0; cases xs with
      | nil => rfl
      | cons a b => cases hys
    subst hx
    exact (Any.strings_Join_none Tryz.joinS X a c (mkS sep) w).mono fun e w' ⟨he, hw⟩ => ⟨he, hw ▸ Go.RowKit.Below.refl _ _⟩
  cases h with
  | nils => exact done (hnil rfl)
  | roz => exact done (hnil rfl)
  | ro hh hg hw hlen1 hc hlr hcap hm =>
    rename_i b k len cap cur e fr cs
    subst hys
    rw [flatS'] at hlr
    obtain ⟨rfl, -⟩ := relS' hlr
    have hl2 : len = xs.length := by rw [hlen1, List.length_map]
    subst hl2
    have hd : ∀ l : List (List UInt8), (l.map mkS).map (·.data.toList) = l := fun l => by rw [List.map_map]; exact List.map_id' _
    have := Any.strings_Join Tryz.joinS X b k cap (xs.map mkS) (mkS sep) w (fun j x hj => ?_) (Array.getElem?_eq_some_iff.1 hh).1 (by rw [List.length_map]; exact hN) (by rw [List.length_map]; exact hcap) (by rw [hd]; exact hlen)
    · rw [hd, List.length_map] at this
      exact done this
    · obtain ⟨c, hc1, rfl⟩ : ∃ c, xs[j]? = some c ∧ mkS c = x := by simpa using hj
      refine cells_at hh ?_
      have h3 : (xs.map encS)[j]? = some (.string (mkS c)) := by rw [List.getElem?_map, hc1]; rfl
      rw [hc, Nat.mul_one, List.getElem?_take] at h3
      split at h3
      · simpa using h3
      · cases h3
end Go.Proofs.YtljjcffnomdhhaaGreatDoor

/- Walks: numbers and versions as text. Plain theorems. -/
set_option linter.unusedVariables false
set_option linter.unusedSimpArgs false
namespace Go.Proofs.YtljjcffnomdhhaaGreatDoor
open Go Go.Fw
set_option maxRecDepth 100000
theorem c_dec (n : Int) (h0 : -9223372036854775808 ≤ n) (h1 : n ≤ 9223372036854775807) : PCtr PP n_impl_dec [i64 n] (str (Lib.itoa n)) := by
  obtain ⟨Ω, hΩ⟩ : ∃ Ω, Ω = std := ⟨_, rfl⟩
  have hc := c_FormatInt n h0 h1
  have htab := tab
  generalize Lib.itoa n = r at *
  refine PCtr.walk tab hΩ fn_impl_dec rfl ?_
  generalize PP = P at *
  cbv
  refine call_pure hΩ 3 hc rfl (fits _) rfl rfl ?_
  cbv
  exact .of rfl
theorem decD_small {n : Nat} (h : n < 10) : Lib.decDigits n = [UInt8.ofNat (48 + n)] := by rw [Lib.decDigits, dif_pos h]
theorem decD_big {n : Nat} (h : 10 ≤ n) : Lib.decDigits n = Lib.decDigits (n / 10) ++ [UInt8.ofNat (48 + n % 10)] := by rw [Lib.decDigits, dif_neg (by omega)]
theorem decD_len : ∀ (k n : Nat), n < 10 ^ (k + 1) → (Lib.decDigits n).length ≤ k + 1
  | 0, n, h => by rw [decD_small (by simpa using h)]; simp
  | k + 1, n, h => by
    rcases Nat.lt_or_ge n 10 with h1 | h1
    · rw [decD_small h1]; simp
    · have := decD_len k (n / 10) (by rw [Nat.div_lt_iff_lt_mul (by decide)]; rw [Nat.pow_succ] at h; exact h)
      rw [decD_big h1, List.length_append, List.length_singleton]; omega
theorem byteOf {Ω : Opq} (hΩ : Ω = std) {n : Nat} (h : n < 10) : Ω.wrap .u8 (Ω.ar .add .i64 48 (n : Int)) = ((UInt8.ofNat (48 + n)).toNat : Int) := by
  subst hΩ
  show IntKind.u8.wrap (IntKind.i64.wrap (48 + n)) = _
  rw [wrap64 (by omega) (by omega), UInt8.toNat_ofNat']
  have e : (48 + n) % 2 ^ 8 = 48 + n := Nat.mod_eq_of_lt (by omega)
  rw [e]
  show ((48 + (n : Int)) % 256 : Int) = _
  omega
theorem c_l1Decimal (n : Nat) (hn : n < 1000000000000000000) : PCtr PP n_spec_l1Decimal [i64 (n : Int)] (str (Lib.decDigits n)) := by
  induction n using Nat.strongRecOn with
  | _ n ih =>
  obtain ⟨Ω, hΩ⟩ : ∃ Ω, Ω = std := ⟨_, rfl⟩
  have htab := tab
  have hmo : PP.follows .mixedOrders = true := by kernel_rfl
  obtain ⟨r, hr⟩ : ∃ r, r = Lib.decDigits n := ⟨_, rfl⟩
  rw [← hr]
  refine PCtr.walk tab hΩ fn_spec_l1Decimal rfl ?_
  generalize PP = P at *
  cbv
  refine br (fun h => ?_) (fun h => ?_)
  · replace h : n < 10 := by have h : (n : Int) < 10 := ltZt hΩ h; omega
    obtain ⟨c, hc⟩ : ∃ c, c = UInt8.ofNat (48 + n) := ⟨_, rfl⟩
    have hb := byteOf hΩ h
    have hr2 := (hr.trans (decD_small h)).symm
    rw [← hc] at hb hr2
    cbv
    refine ⟨[c], ⟨Nat.le_refl _, congrArg (fun z => [A.sc (.int .u8 z)]) hb⟩, ?_⟩
    cbv
    exact .of (congrArg str hr2)
  · replace h : 10 ≤ n := by have h : (10 : Int) ≤ n := ltZf hΩ h; omega
    have hcm := ih (n / 10) (by omega) (by omega)
    have hr2 := (hr.trans (decD_big h)).symm
    have hlen := decD_len 17 (n / 10) (by omega)
    have hq : Ω.ar .quo .i64 (n : Int) 10 = ((n / 10 : Nat) : Int) := by
      subst hΩ
      show IntKind.i64.wrap ((n : Int).tdiv 10) = _
      rw [Int.tdiv_eq_ediv_of_nonneg (by omega), wrap64 (by omega) (by omega)]; rfl
    have hm : Ω.ar .rem .i64 (n : Int) 10 = ((n % 10 : Nat) : Int) := by
      subst hΩ
      show (n : Int).tmod 10 = _
      rw [Int.tmod_eq_emod_of_nonneg (by omega)]; rfl
    obtain ⟨c, hc⟩ : ∃ c, c = UInt8.ofNat (48 + n % 10) := ⟨_, rfl⟩
    have hb := byteOf hΩ (show n % 10 < 10 by omega)
    rw [← hc] at hb hr2
    rw [← hm] at hb
    generalize Lib.decDigits (n / 10) = q at *
    generalize n / 10 = m at *
    have hcat : Ω.cat q [c] = r := by subst hΩ; exact hr2
    have hll : ((q.length + [c].length : Nat) : Int) ≤ 9223372036854775807 := by rw [List.length_singleton]; omega
    cbv
    refine ⟨VC_order htab hΩ hmo [0, 1, 3, 4, 5] (.two 2 (.step 6 (.step 7 (.step 8 (.step 9 (.step 10 .fin))))) 6 (.two 2 (.step 7 (.step 8 (.step 9 (.step 10 .fin)))) 7 (.two 2 (.step 8 (.step 9 (.step 10 .fin))) 8 (.step 2 (.step 9 (.step 10 .fin)))))) (by kernel_rfl) ?_⟩
    cbv
    refine ⟨⟨by decide⟩, ⟨by decide⟩, ?_⟩
    repeat' (first
      | (refine call_pure hΩ 3 hcm rfl (fitsE (congrArg (fun z => [i64 z]) hq)) rfl rfl ?_; cbv)
      | (refine ⟨[c], ⟨Nat.le_refl _, congrArg (fun z => [A.sc (.int .u8 z)]) hb⟩, ?_⟩; cbv)
      | (refine ⟨⟨hll⟩, ?_⟩; cbv)
      | exact .of (congrArg str hcat)
      | refine ⟨?_, ?_⟩)
theorem verF_in {v : Ver} (h : verF v = 0) : (0 ≤ v.a ∧ v.a ≤ 999) ∧ (0 ≤ v.b ∧ v.b ≤ 999) ∧ (0 ≤ v.c ∧ v.c ≤ 999) := by
  unfold verF at h
  split at h
  · rename_i h2
    simp only [Bool.and_eq_true, inB, decide_eq_true_eq] at h2
    omega
  · cases h
theorem itoa_dec {n : Int} (h : 0 ≤ n) : Lib.itoa n = Lib.decDigits n.toNat := by unfold Lib.itoa; exact if_neg (by omega)
theorem itoa_len {n : Int} (h0 : 0 ≤ n) (h1 : n ≤ 999) : (Lib.itoa n).length ≤ 3 := by rw [itoa_dec h0]; exact decD_len 2 _ (by omega)
theorem c_implText (v : Ver) (hv : verF v = 0) : PCtr PP n_impl_Version_text [v.enc] (str (Lib.itoa v.a ++ [46] ++ Lib.itoa v.b ++ [46] ++ Lib.itoa v.c)) := by
  obtain ⟨Ω, hΩ⟩ : ∃ Ω, Ω = std := ⟨_, rfl⟩
  have htab := tab
  have hmo : PP.follows .mixedOrders = true := by kernel_rfl
  have hv' := verF_in hv
  have ha := c_dec v.a (by omega) (by omega)
  have hb := c_dec v.b (by omega) (by omega)
  have hc := c_dec v.c (by omega) (by omega)
  have la := itoa_len (n := v.a) (by omega) (by omega)
  have lb := itoa_len (n := v.b) (by omega) (by omega)
  have lc := itoa_len (n := v.c) (by omega) (by omega)
  refine PCtr.walk tab hΩ fn_impl_Version_text rfl ?_
  obtain ⟨a, b, c⟩ := v
  dsimp only at *
  generalize Lib.itoa a = ra at *
  generalize Lib.itoa b = rb at *
  generalize Lib.itoa c = rc at *
  obtain ⟨r, hr⟩ : ∃ r, r = ra ++ [46] ++ rb ++ [46] ++ rc := ⟨_, rfl⟩
  have hcat : Ω.cat (Ω.cat (Ω.cat (Ω.cat ra [46]) rb) [46]) rc = r := by subst hΩ; exact hr.symm
  have l1 : (Ω.cat ra [46]).length ≤ 4 := by subst hΩ; show (ra ++ [46]).length ≤ 4; simp; omega
  have l2 : (Ω.cat (Ω.cat ra [46]) rb).length ≤ 7 := by subst hΩ; show (ra ++ [46] ++ rb).length ≤ 7; simp; omega
  have l3 : (Ω.cat (Ω.cat (Ω.cat ra [46]) rb) [46]).length ≤ 8 := by subst hΩ; show (ra ++ [46] ++ rb ++ [46]).length ≤ 8; simp; omega
  have o1 : ((ra.length + [(46 : UInt8)].length : Nat) : Int) ≤ 9223372036854775807 := by rw [List.length_singleton]; omega
  have o2 : (((Ω.cat ra [46]).length + rb.length : Nat) : Int) ≤ 9223372036854775807 := by omega
  have o3 : (((Ω.cat (Ω.cat ra [46]) rb).length + [(46 : UInt8)].length : Nat) : Int) ≤ 9223372036854775807 := by rw [List.length_singleton]; omega
  have o4 : (((Ω.cat (Ω.cat (Ω.cat ra [46]) rb) [46]).length + rc.length : Nat) : Int) ≤ 9223372036854775807 := by omega
  rw [← hr]
  generalize PP = P at *
  cbv
  refine ⟨VC_drawn htab hΩ hmo (by kernel_rfl) ?_⟩
  cbv
  refine QCall_pure (k := 3) ha rfl (fits _) rfl ?_
  cbv
  refine ⟨⟨o1⟩, ?_⟩
  refine QCall_pure (k := 3) hb rfl (fits _) rfl ?_
  cbv
  refine ⟨⟨o2⟩, ⟨o3⟩, ?_⟩
  refine QCall_pure (k := 3) hc rfl (fits _) rfl ?_
  cbv
  refine ⟨⟨o4⟩, ?_⟩
  cbv
  exact .of (congrArg str hcat)
end Go.Proofs.YtljjcffnomdhhaaGreatDoor

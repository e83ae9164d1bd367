/- Walks: terms. Plain theorems. -/
import Derived.Test.YtdngjnjapihbkaaWb2
import Derived.Test.YtdngjnjapihbkaaWd3
set_option linter.unusedVariables false
set_option linter.unusedSimpArgs false
namespace Go.Proofs.Ytdngjnjapihbkaa
open Go Go.Fw
set_option maxRecDepth 100000
theorem rdW {Ω : Opq} (hΩ : Ω = std) {α : Type} {f : α → A} {cs : List α} {xs : List A} {i : Nat} {c : α} (hxs : xs = cs.map f) (hc : cs[i]? = some c) : xs[(Ω.int i).toNat]? = some (f c) := rdI hΩ hxs hc
def idxFrom {α : Type} (p : α → Bool) : Nat → List α → Int
  | _, [] => -1
  | i, x :: xs => if p x then (i : Int) else idxFrom p (i + 1) xs
def orF : List Int → Int
  | [] => 0
  | x :: xs => if x ≠ 0 then x else orF xs
theorem orF_at {cs : List Int} {i : Nat} {c : Int} (h : cs[i]? = some c) : orF (cs.drop i) = if c ≠ 0 then c else orF (cs.drop (i + 1)) := by
  obtain ⟨h1, h2⟩ := List.getElem?_eq_some_iff.1 h
  rw [List.drop_eq_getElem_cons h1, h2, orF]
def idx {α : Type} (p : α → Bool) (l : List α) : Int := idxFrom p 0 l
theorem idxFrom_at {α : Type} (p : α → Bool) {cs : List α} {i : Nat} {c : α} (h : cs[i]? = some c) : idxFrom p i (cs.drop i) = if p c then (i : Int) else idxFrom p (i + 1) (cs.drop (i + 1)) := by
  obtain ⟨h1, h2⟩ := List.getElem?_eq_some_iff.1 h
  rw [List.drop_eq_getElem_cons h1, h2, idxFrom]
theorem idxFrom_nn {α : Type} (p : α → Bool) : ∀ (l : List α) (i : Nat), (0 ≤ idxFrom p i l) = (l.any p = true)
  | [], i => by simp [idxFrom]
  | x :: xs, i => by
    unfold idxFrom
    split
    · rename_i h; simp [h]
    · rename_i h; rw [idxFrom_nn p xs (i + 1)]; simp [h]
theorem idx_any {α : Type} (p : α → Bool) (l : List α) : decide (0 ≤ idx p l) = l.any p := by
  rw [Bool.eq_iff_iff, decide_eq_true_eq]; exact Iff.of_eq (idxFrom_nn p l 0)
theorem c_Or (x y z : Int) : PCtr PP n_cmp_Or_int [.sl false 1 [i64 x, i64 y, i64 z]] (i64 (if x ≠ 0 then x else if y ≠ 0 then y else z)) := by
  obtain ⟨Ω, hΩ⟩ : ∃ Ω, Ω = std := ⟨_, rfl⟩
  obtain ⟨r, hr⟩ : ∃ r, r = if x ≠ 0 then x else if y ≠ 0 then y else z := ⟨_, rfl⟩
  rw [← hr]
  obtain ⟨l, hl⟩ : ∃ l, l = [x, y, z] := ⟨_, rfl⟩
  obtain ⟨xs, hxs⟩ : ∃ xs, xs = l.map i64 := ⟨_, rfl⟩
  rw [show [i64 x, i64 y, i64 z] = xs by rw [hxs, hl]; rfl]
  have hlen : xs.length = l.length := by rw [hxs, List.length_map]
  have hr : r = orF l := by rw [hr, hl]; simp only [orF]; (repeat' split) <;> simp_all
  have hl3 : l.length = 3 := by rw [hl]; rfl
  have htab := tab
  have hmo := hmo
  have hve := verEq
  refine PCtr.walk tab hΩ fn_cmp_Or_int rfl ?_
  generalize PP = P at *
  cbv
  refine loopX htab hΩ (fun i : Nat => ⟨[(3, .sc (.int .i64 0)), (6, .sl false 1 xs), (7, .sc (.int .i64 (Ω.int (Ω.len xs)))), (8, .sc (.int .i64 (Ω.int i)))], 18, []⟩) (fun i => i ≤ l.length ∧ r = orF (l.drop i)) (fun i => l.length - i) 0
    ⟨Nat.zero_le _, hr⟩ (Sbs.mk rfl rfl ⟨rfl, rfl, rfl, zeroI hΩ, trivial⟩) ?_
  rintro i ⟨hi, he⟩
  cbv
  refine br (fun h => ?_) (fun h => ?_) <;> cbv
  · replace h := ltI hΩ h
    obtain ⟨c, hcc⟩ := at_of (cs := l) (by omega : i < l.length)
    rw [orF_at hcc] at he
    refine ⟨⟨nnI hΩ⟩, _, rdI hΩ hxs hcc, ?_⟩
    cbv
    refine br (fun g => ?_) (fun g => ?_) <;> cbv
    · exact .of (congrArg i64 (by rw [he, if_pos (neI_t hΩ g)]))
    · rw [if_neg (by rw [neI_f hΩ g]; simp)] at he
      exact ⟨i + 1, ⟨by omega, he⟩, by omega, Sbs.mk rfl rfl ⟨rfl, rfl, rfl, incI hΩ (by omega), trivial⟩⟩
  · replace h := geI hΩ h
    exact .of (congrArg i64 (by rw [he, List.drop_of_length_le (by omega)]; rfl))
theorem c_compare (a b : Ver) : PCtr PP n_impl_compare [a.enc, b.enc] (i64 (cmpV a b)) := by
  obtain ⟨Ω, hΩ⟩ : ∃ Ω, Ω = std := ⟨_, rfl⟩
  obtain ⟨r, hr⟩ : ∃ r, r = cmpV a b := ⟨_, rfl⟩
  rw [← hr]
  have h1 := c_Compare
  have h2 := c_Or
  unfold cmpV at hr
  generalize sgn = F at *
  have htab := tab
  have hmo := hmo
  have hve := verEq
  refine PCtr.walk tab hΩ fn_impl_compare rfl ?_
  generalize PP = P at *
  cbv
  refine ⟨VC_tail htab hΩ hmo 15 (by kernel_rfl) ?_⟩
  cbv
  refine QCall_pure (k := 3) (h1 a.a b.a) rfl (fits _) rfl ?_
  cbv
  refine QCall_pure (k := 3) (h1 a.b b.b) rfl (fits _) rfl ?_
  cbv
  refine QCall_pure (k := 3) (h1 a.c b.c) rfl (fits _) rfl ?_
  cbv
  have h2 := h2 (F a.a b.a) (F a.b b.b) (F a.c b.c)
  rw [← hr] at h2
  refine call_pure hΩ 3 h2 rfl (fits _) rfl rfl ?_
  cbv
  exact .same
theorem c_implTermFault (t : Trm) : PCtr PP n_impl_TermFault [t.enc] (i64 (trmF t)) := by
  obtain ⟨Ω, hΩ⟩ : ∃ Ω, Ω = std := ⟨_, rfl⟩
  obtain ⟨r, hr⟩ : ∃ r, r = trmF t := ⟨_, rfl⟩
  rw [← hr]
  have h1 := c_implNameFault t.n
  have h2 := c_implVersionFault
  have h3 := c_implTop
  have h4 := c_compare
  unfold trmF at hr
  generalize nameF t.n = c1 at *
  generalize verF = F at *
  generalize cmpV = C at *
  generalize topV = tv at *
  have htab := tab
  have hmo := hmo
  have hve := verEq
  refine PCtr.walk tab hΩ fn_impl_TermFault rfl ?_
  generalize PP = P at *
  cbv
  refine call_pure hΩ 3 h1 rfl (fits _) rfl rfl ?_
  cbv
  refine br (fun g1 => ?_) (fun g1 => ?_) <;> cbv
  · exact .of (congrArg i64 (by rw [hr, if_pos (neI_t hΩ g1)]))
  rw [if_neg (by rw [neI_f hΩ g1]; simp)] at hr
  refine call_pure hΩ 3 (h2 t.l) rfl (fits _) rfl rfl ?_
  cbv
  refine br (fun g2 => ?_) (fun g2 => ?_) <;> cbv
  · exact .of (congrArg i64 (by rw [hr, if_pos (neI_t hΩ g2)]))
  rw [if_neg (by rw [neI_f hΩ g2]; simp)] at hr
  refine ⟨VC_drawn htab hΩ hmo (by kernel_rfl) ?_⟩
  cbv
  refine QCall_pure (k := 3) h3 rfl (fits _) rfl ?_
  cbv
  refine eqX_neq hve t.h tv ?_
  generalize hD : decide (t.h = tv) = D
  have hr : r = if D = false ∧ ¬F t.h = 0 then 3 else if 0 ≤ C t.l t.h then 1 else 0 := by rw [hr, ← hD]; simp
  cbv
  refine br (fun g3 => ?_) (fun g3 => ?_) <;> cbv
  · have g3 : (!D) = true := g3
    refine QCall_pure (k := 3) (h2 t.h) rfl (fits _) rfl ?_
    cbv
    refine br (fun g4 => ?_) (fun g4 => ?_) <;> cbv
    · refine .of (congrArg i64 ?_)
      subst hΩ
      rw [hr, if_pos]
      exact ⟨by simpa using g3, by simpa using g4⟩
    refine call_pure hΩ 3 (h4 t.l t.h) rfl (fits _) rfl rfl ?_
    cbv
    rw [if_neg (by subst hΩ; simp at g4; simp [g4])] at hr
    refine br (fun g5 => ?_) (fun g5 => ?_) <;> cbv
    · exact .of (congrArg i64 (by rw [hr, if_pos (by subst hΩ; exact ge_t g5)]))
    · exact .of (congrArg i64 (by rw [hr, if_neg (by subst hΩ; exact Int.not_le.2 (ge_f g5))]))
  · have g3 : (!D) = false := g3
    rw [if_neg (by simp at g3; simp [g3])] at hr
    refine call_pure hΩ 3 (h4 t.l t.h) rfl (fits _) rfl rfl ?_
    cbv
    refine br (fun g5 => ?_) (fun g5 => ?_) <;> cbv
    · exact .of (congrArg i64 (by rw [hr, if_pos (by subst hΩ; exact ge_t g5)]))
    · exact .of (congrArg i64 (by rw [hr, if_neg (by subst hΩ; exact Int.not_le.2 (ge_f g5))]))
theorem c_specTermFault (t : Trm) : PCtr PP n_spec_TermFault [t.enc] (i64 (trmF t)) := by
  obtain ⟨Ω, hΩ⟩ : ∃ Ω, Ω = std := ⟨_, rfl⟩
  obtain ⟨r, hr⟩ : ∃ r, r = trmF t := ⟨_, rfl⟩
  rw [← hr]
  have h1 := c_specNameFault t.n
  have h2 := c_specVersionFault
  have h3 := c_specTop
  have h4 := c_CompareVersions
  unfold trmF at hr
  generalize nameF t.n = c1 at *
  generalize verF = F at *
  generalize cmpV = C at *
  generalize topV = tv at *
  have htab := tab
  have hmo := hmo
  have hve := verEq
  refine PCtr.walk tab hΩ fn_spec_TermFault rfl ?_
  generalize PP = P at *
  cbv
  refine call_pure hΩ 3 h1 rfl (fits _) rfl rfl ?_
  cbv
  refine br (fun g1 => ?_) (fun g1 => ?_) <;> cbv
  · exact .of (congrArg i64 (by rw [hr, if_pos (neI_t hΩ g1)]))
  rw [if_neg (by rw [neI_f hΩ g1]; simp)] at hr
  refine call_pure hΩ 3 (h2 t.l) rfl (fits _) rfl rfl ?_
  cbv
  refine br (fun g2 => ?_) (fun g2 => ?_) <;> cbv
  · exact .of (congrArg i64 (by rw [hr, if_pos (neI_t hΩ g2)]))
  rw [if_neg (by rw [neI_f hΩ g2]; simp)] at hr
  refine ⟨VC_drawn htab hΩ hmo (by kernel_rfl) ?_⟩
  cbv
  refine QCall_pure (k := 3) h3 rfl (fits _) rfl ?_
  cbv
  refine eqX_neq hve t.h tv ?_
  generalize hD : decide (t.h = tv) = D
  have hr : r = if D = false ∧ ¬F t.h = 0 then 3 else if 0 ≤ C t.l t.h then 1 else 0 := by rw [hr, ← hD]; simp
  cbv
  refine br (fun g3 => ?_) (fun g3 => ?_) <;> cbv
  · have g3 : (!D) = true := g3
    refine QCall_pure (k := 3) (h2 t.h) rfl (fits _) rfl ?_
    cbv
    refine br (fun g4 => ?_) (fun g4 => ?_) <;> cbv
    · refine .of (congrArg i64 ?_)
      subst hΩ
      rw [hr, if_pos]
      exact ⟨by simpa using g3, by simpa using g4⟩
    refine call_pure hΩ 3 (h4 t.l t.h) rfl (fits _) rfl rfl ?_
    cbv
    rw [if_neg (by subst hΩ; simp at g4; simp [g4])] at hr
    refine br (fun g5 => ?_) (fun g5 => ?_) <;> cbv
    · exact .of (congrArg i64 (by rw [hr, if_pos (by subst hΩ; exact ge_t g5)]))
    · exact .of (congrArg i64 (by rw [hr, if_neg (by subst hΩ; exact Int.not_le.2 (ge_f g5))]))
  · have g3 : (!D) = false := g3
    rw [if_neg (by simp at g3; simp [g3])] at hr
    refine call_pure hΩ 3 (h4 t.l t.h) rfl (fits _) rfl rfl ?_
    cbv
    refine br (fun g5 => ?_) (fun g5 => ?_) <;> cbv
    · exact .of (congrArg i64 (by rw [hr, if_pos (by subst hΩ; exact ge_t g5)]))
    · exact .of (congrArg i64 (by rw [hr, if_neg (by subst hΩ; exact Int.not_le.2 (ge_f g5))]))
theorem c_l2Holds (l : List (List UInt8)) (s : List UInt8) (hl : l.length ≤ 4611686018427387904) : PCtr PP n_spec_l2Holds [.sl false 1 (l.map str), str s] (boo (l.any (· == s))) := by
  obtain ⟨Ω, hΩ⟩ : ∃ Ω, Ω = std := ⟨_, rfl⟩
  obtain ⟨r, hr⟩ : ∃ r, r = l.any (· == s) := ⟨_, rfl⟩
  rw [← hr]
  obtain ⟨xs, hxs⟩ : ∃ xs, xs = l.map str := ⟨_, rfl⟩
  have hlen : xs.length = l.length := by rw [hxs, List.length_map]
  rw [← hxs]
  have htab := tab
  have hmo := hmo
  have hve := verEq
  refine PCtr.walk tab hΩ fn_spec_l2Holds rfl ?_
  generalize PP = P at *
  cbv
  refine loopX htab hΩ (fun i : Nat => ⟨[(0, .sl false 1 xs), (1, .sc (.string (mkS s))), (5, .sc (.int .i64 (Ω.int i)))], 18, []⟩) (fun i => i ≤ l.length ∧ r = (l.drop i).any (· == s)) (fun i => l.length - i) 0
    ⟨Nat.zero_le _, hr⟩ (Sbs.mk rfl rfl ⟨rfl, rfl, zeroI hΩ, trivial⟩) ?_
  rintro i ⟨hi, he⟩
  cbv
  refine br (fun h => ?_) (fun h => ?_) <;> cbv
  · replace h := ltI hΩ h
    obtain ⟨c, hcc⟩ := at_of (cs := l) (by omega : i < l.length)
    rw [any_at _ hcc] at he
    refine ⟨⟨nnI hΩ⟩, _, rdI hΩ hxs hcc, ?_⟩
    cbv
    refine br (fun g => ?_) (fun g => ?_) <;> cbv
    · exact .of (congrArg boo (by rw [he]; subst hΩ; rw [show (c == s) = true from g]; rfl))
    · rw [show (c == s) = false by subst hΩ; exact g, Bool.false_or] at he
      exact ⟨i + 1, ⟨by omega, he⟩, by omega, Sbs.mk rfl rfl ⟨rfl, rfl, incI hΩ (by omega), trivial⟩⟩
  · replace h := geI hΩ h
    exact .of (congrArg boo (by rw [he, List.drop_of_length_le (by omega)]; rfl))
theorem c_IndexS (l : List (List UInt8)) (s : List UInt8) (hl : l.length ≤ 4611686018427387904) : PCtr PP n_slices_Index_L_string_string [.sl false 1 (l.map str), str s] (i64 (idx (fun c => s == c) l)) := by
  obtain ⟨Ω, hΩ⟩ : ∃ Ω, Ω = std := ⟨_, rfl⟩
  obtain ⟨r, hr⟩ : ∃ r, r = idx (fun c => s == c) l := ⟨_, rfl⟩
  rw [← hr]
  obtain ⟨xs, hxs⟩ : ∃ xs, xs = l.map str := ⟨_, rfl⟩
  have hlen : xs.length = l.length := by rw [hxs, List.length_map]
  rw [← hxs]
  have htab := tab
  have hmo := hmo
  have hve := verEq
  refine PCtr.walk tab hΩ fn_slices_Index_L_string_string rfl ?_
  generalize PP = P at *
  cbv
  refine loopX htab hΩ (fun i : Nat => ⟨[(0, .sl false 1 xs), (1, .sc (.string (mkS s))), (7, .sc (.int .i64 (Ω.int (Ω.len xs)))), (8, .sc (.int .i64 (Ω.int i)))], 19, []⟩) (fun i => i ≤ l.length ∧ r = idxFrom (fun c => s == c) i (l.drop i)) (fun i => l.length - i) 0
    ⟨Nat.zero_le _, hr⟩ (Sbs.mk rfl rfl ⟨rfl, rfl, rfl, zeroI hΩ, trivial⟩) ?_
  rintro i ⟨hi, he⟩
  cbv
  refine br (fun h => ?_) (fun h => ?_) <;> cbv
  · replace h := ltI hΩ h
    obtain ⟨c, hcc⟩ := at_of (cs := l) (by omega : i < l.length)
    rw [idxFrom_at _ hcc] at he
    refine ⟨⟨nnI hΩ⟩, _, rdI hΩ hxs hcc, ?_⟩
    cbv
    refine br (fun g => ?_) (fun g => ?_) <;> cbv
    · exact .of (congrArg i64 (by rw [he]; subst hΩ; rw [if_pos (show (s == c) = true from g)]; rfl))
    · rw [if_neg (by subst hΩ; rw [show (s == c) = false from g]; simp)] at he
      exact ⟨i + 1, ⟨by omega, he⟩, by omega, Sbs.mk rfl rfl ⟨rfl, rfl, rfl, incI hΩ (by omega), trivial⟩⟩
  · replace h := geI hΩ h
    exact .of (congrArg i64 (by rw [he, List.drop_of_length_le (by omega)]; rfl))
theorem c_ContainsS (l : List (List UInt8)) (s : List UInt8) (hl : l.length ≤ 4611686018427387904) : PCtr PP n_slices_Contains_L_string_string [.sl false 1 (l.map str), str s] (boo (l.any (· == s))) := by
  obtain ⟨Ω, hΩ⟩ : ∃ Ω, Ω = std := ⟨_, rfl⟩
  obtain ⟨r, hr⟩ : ∃ r, r = l.any (· == s) := ⟨_, rfl⟩
  rw [← hr]
  have hc0 := c_IndexS l s hl
  rw [show (l.any (· == s)) = l.any (fun c => s == c) by congr 1; funext c; rw [Bool.eq_iff_iff, beq_iff_eq, beq_iff_eq]; exact eq_comm, ← idx_any] at hr
  generalize idx (fun c => s == c) l = k at *
  generalize l.map str = xs at *
  have htab := tab
  have hmo := hmo
  refine PCtr.walk tab hΩ fn_slices_Contains_L_string_string rfl ?_
  generalize PP = P at *
  cbv
  repeat' (first | (refine br (fun h => ?_) (fun h => ?_) <;> cbv) | (refine ⟨VC_drawn htab hΩ hmo (by kernel_rfl) ?_⟩; cbv) | (refine QCall_pure (k := 3) (hc0) rfl (fits _) rfl ?_; cbv) | (refine call_pure hΩ 3 (hc0) rfl (fits _) rfl rfl ?_; cbv))
  all_goals (refine .of (congrArg boo ?_); subst hΩ; subst hr; rfl)
end Go.Proofs.Ytdngjnjapihbkaa

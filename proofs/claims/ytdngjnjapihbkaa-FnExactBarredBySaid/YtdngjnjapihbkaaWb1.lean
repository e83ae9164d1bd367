/- Walks: bytes, names, versions. Plain theorems. -/
import Derived.Test.YtdngjnjapihbkaaWd2
set_option linter.unusedVariables false
set_option linter.unusedSimpArgs false
namespace Go.Proofs.Ytdngjnjapihbkaa
open Go Go.Fw
set_option maxRecDepth 100000
def u8 (c : UInt8) : A := .sc (.int .u8 (c.toNat : Int))
theorem c_within (v l u : Int) : PCtr PP n_impl_within [i64 v, i64 l, i64 u] (boo (inB v l u)) := by
  obtain ⟨Ω, hΩ⟩ : ∃ Ω, Ω = std := ⟨_, rfl⟩
  obtain ⟨r, hr⟩ : ∃ r, r = inB v l u := ⟨_, rfl⟩
  rw [← hr]
  unfold inB at hr
  have htab := tab
  have hmo := hmo
  refine PCtr.walk tab hΩ fn_impl_within rfl ?_
  generalize PP = P at *
  cbv
  repeat' (first | (refine br (fun h => ?_) (fun h => ?_) <;> cbv) | (refine ⟨VC_drawn htab hΩ hmo (by kernel_rfl) ?_⟩; cbv))
  all_goals (refine .of (congrArg boo ?_); subst hΩ; subst hr; rw [Bool.eq_iff_iff]; simp at *; try omega)
theorem c_l1In (v l u : Int) : PCtr PP n_spec_l1In [i64 v, i64 l, i64 u] (boo (inB v l u)) := by
  obtain ⟨Ω, hΩ⟩ : ∃ Ω, Ω = std := ⟨_, rfl⟩
  obtain ⟨r, hr⟩ : ∃ r, r = inB v l u := ⟨_, rfl⟩
  rw [← hr]
  unfold inB at hr
  have htab := tab
  have hmo := hmo
  refine PCtr.walk tab hΩ fn_spec_l1In rfl ?_
  generalize PP = P at *
  cbv
  repeat' (first | (refine br (fun h => ?_) (fun h => ?_) <;> cbv) | (refine ⟨VC_drawn htab hΩ hmo (by kernel_rfl) ?_⟩; cbv))
  all_goals (refine .of (congrArg boo ?_); subst hΩ; subst hr; rw [Bool.eq_iff_iff]; simp at *; try omega)
theorem c_isNameByte (c : UInt8) : PCtr PP n_impl_isNameByte [u8 c] (boo (nameB c)) := by
  obtain ⟨Ω, hΩ⟩ : ∃ Ω, Ω = std := ⟨_, rfl⟩
  obtain ⟨r, hr⟩ : ∃ r, r = nameB c := ⟨_, rfl⟩
  rw [← hr]
  unfold nameB letterB digitB at hr
  unfold u8
  generalize (c.toNat : Int) = n at *
  have htab := tab
  have hmo := hmo
  refine PCtr.walk tab hΩ fn_impl_isNameByte rfl ?_
  generalize PP = P at *
  cbv
  repeat' (first | (refine br (fun h => ?_) (fun h => ?_) <;> cbv) | (refine ⟨VC_drawn htab hΩ hmo (by kernel_rfl) ?_⟩; cbv))
  all_goals (refine .of (congrArg boo ?_); subst hΩ; subst hr; rw [Bool.eq_iff_iff]; simp at *; try omega)
theorem c_l1Letter (c : UInt8) : PCtr PP n_spec_l1Letter [u8 c] (boo (letterB c)) := by
  obtain ⟨Ω, hΩ⟩ : ∃ Ω, Ω = std := ⟨_, rfl⟩
  obtain ⟨r, hr⟩ : ∃ r, r = letterB c := ⟨_, rfl⟩
  rw [← hr]
  unfold letterB at hr
  unfold u8
  generalize (c.toNat : Int) = n at *
  have htab := tab
  have hmo := hmo
  refine PCtr.walk tab hΩ fn_spec_l1Letter rfl ?_
  generalize PP = P at *
  cbv
  repeat' (first | (refine br (fun h => ?_) (fun h => ?_) <;> cbv) | (refine ⟨VC_drawn htab hΩ hmo (by kernel_rfl) ?_⟩; cbv))
  all_goals (refine .of (congrArg boo ?_); subst hΩ; subst hr; rw [Bool.eq_iff_iff]; simp at *; try omega)
theorem c_l1Digit (c : UInt8) : PCtr PP n_spec_l1Digit [u8 c] (boo (digitB c)) := by
  obtain ⟨Ω, hΩ⟩ : ∃ Ω, Ω = std := ⟨_, rfl⟩
  obtain ⟨r, hr⟩ : ∃ r, r = digitB c := ⟨_, rfl⟩
  rw [← hr]
  unfold digitB at hr
  unfold u8
  generalize (c.toNat : Int) = n at *
  have htab := tab
  have hmo := hmo
  refine PCtr.walk tab hΩ fn_spec_l1Digit rfl ?_
  generalize PP = P at *
  cbv
  repeat' (first | (refine br (fun h => ?_) (fun h => ?_) <;> cbv) | (refine ⟨VC_drawn htab hΩ hmo (by kernel_rfl) ?_⟩; cbv))
  all_goals (refine .of (congrArg boo ?_); subst hΩ; subst hr; rw [Bool.eq_iff_iff]; simp at *; try omega)
theorem c_l1Name (c : UInt8) : PCtr PP n_spec_l1Name [u8 c] (boo (nameB c)) := by
  obtain ⟨Ω, hΩ⟩ : ∃ Ω, Ω = std := ⟨_, rfl⟩
  obtain ⟨r, hr⟩ : ∃ r, r = nameB c := ⟨_, rfl⟩
  rw [← hr]
  have hc0 := c_l1Letter c
  have hc1 := c_l1Digit c
  unfold nameB at hr
  unfold u8 at *
  generalize (c.toNat : Int) = n at *
  generalize letterB c = b1 at *
  generalize digitB c = b2 at *
  have htab := tab
  have hmo := hmo
  refine PCtr.walk tab hΩ fn_spec_l1Name rfl ?_
  generalize PP = P at *
  cbv
  repeat' (first | (refine br (fun h => ?_) (fun h => ?_) <;> cbv) | (refine ⟨VC_drawn htab hΩ hmo (by kernel_rfl) ?_⟩; cbv) | (refine QCall_pure (k := 3) (hc0) rfl (fits _) rfl ?_; cbv) | (refine QCall_pure (k := 3) (hc1) rfl (fits _) rfl ?_; cbv) | (refine call_pure hΩ 3 (hc0) rfl (fits _) rfl rfl ?_; cbv) | (refine call_pure hΩ 3 (hc1) rfl (fits _) rfl rfl ?_; cbv))
  all_goals (refine .of (congrArg boo ?_); subst hΩ; subst hr; clear hc0 hc1 htab hmo; first | (rw [show b1 = true by assumption]; rfl) | (rw [show b1 = false by assumption, show b2 = true by assumption]; rfl) | (rw [show b1 = false by assumption, show b2 = false by assumption]; rfl))
theorem c_implVersionFault (v : Ver) : PCtr PP n_impl_VersionFault [v.enc] (i64 (verF v)) := by
  obtain ⟨Ω, hΩ⟩ : ∃ Ω, Ω = std := ⟨_, rfl⟩
  obtain ⟨r, hr⟩ : ∃ r, r = verF v := ⟨_, rfl⟩
  rw [← hr]
  have hc0 := c_within
  unfold verF at hr
  generalize inB = F at *
  have htab := tab
  have hmo := hmo
  refine PCtr.walk tab hΩ fn_impl_VersionFault rfl ?_
  generalize PP = P at *
  cbv
  repeat' (first | (refine br (fun h => ?_) (fun h => ?_) <;> cbv) | (refine ⟨VC_drawn htab hΩ hmo (by kernel_rfl) ?_⟩; cbv) | (refine QCall_pure (k := 3) (hc0 _ _ _) rfl (fits _) rfl ?_; cbv) | (refine call_pure hΩ 3 (hc0 _ _ _) rfl (fits _) rfl rfl ?_; cbv))
  all_goals (refine .of (congrArg i64 ?_); subst hΩ; subst hr; clear hc0 htab hmo; simp_all)
theorem c_specVersionFault (v : Ver) : PCtr PP n_spec_VersionFault [v.enc] (i64 (verF v)) := by
  obtain ⟨Ω, hΩ⟩ : ∃ Ω, Ω = std := ⟨_, rfl⟩
  obtain ⟨r, hr⟩ : ∃ r, r = verF v := ⟨_, rfl⟩
  rw [← hr]
  have hc0 := c_l1In
  unfold verF at hr
  generalize inB = F at *
  have htab := tab
  have hmo := hmo
  refine PCtr.walk tab hΩ fn_spec_VersionFault rfl ?_
  generalize PP = P at *
  cbv
  repeat' (first | (refine br (fun h => ?_) (fun h => ?_) <;> cbv) | (refine ⟨VC_drawn htab hΩ hmo (by kernel_rfl) ?_⟩; cbv) | (refine QCall_pure (k := 3) (hc0 _ _ _) rfl (fits _) rfl ?_; cbv) | (refine call_pure hΩ 3 (hc0 _ _ _) rfl (fits _) rfl rfl ?_; cbv))
  all_goals (refine .of (congrArg i64 ?_); subst hΩ; subst hr; clear hc0 htab hmo; simp_all)
theorem c_isNaN (x : Int) : PCtr PP n_cmp_isNaN_int64 [i64 x] (boo (false)) := by
  obtain ⟨Ω, hΩ⟩ : ∃ Ω, Ω = std := ⟨_, rfl⟩
  obtain ⟨r, hr⟩ : ∃ r, r = false := ⟨_, rfl⟩
  rw [← hr]
  have htab := tab
  have hmo := hmo
  refine PCtr.walk tab hΩ fn_cmp_isNaN_int64 rfl ?_
  generalize PP = P at *
  cbv
  repeat' (first | (refine br (fun h => ?_) (fun h => ?_) <;> cbv) | (refine ⟨VC_drawn htab hΩ hmo (by kernel_rfl) ?_⟩; cbv))
  all_goals (refine .of (congrArg boo ?_); subst hΩ; subst hr; simp_all)
theorem c_Compare (x y : Int) : PCtr PP n_cmp_Compare_int64 [i64 x, i64 y] (i64 (sgn x y)) := by
  obtain ⟨Ω, hΩ⟩ : ∃ Ω, Ω = std := ⟨_, rfl⟩
  obtain ⟨r, hr⟩ : ∃ r, r = sgn x y := ⟨_, rfl⟩
  rw [← hr]
  have hc0 := c_isNaN
  unfold sgn at hr
  have htab := tab
  have hmo := hmo
  refine PCtr.walk tab hΩ fn_cmp_Compare_int64 rfl ?_
  generalize PP = P at *
  cbv
  repeat' (first | (refine br (fun h => ?_) (fun h => ?_) <;> cbv) | (refine ⟨VC_drawn htab hΩ hmo (by kernel_rfl) ?_⟩; cbv) | (refine QCall_pure (k := 3) (hc0 _) rfl (fits _) rfl ?_; cbv) | (refine call_pure hΩ 3 (hc0 _) rfl (fits _) rfl rfl ?_; cbv))
  all_goals (refine .of (congrArg i64 ?_); subst hΩ; subst hr; simp only [std_cmp, cmpIS_lss, cmpIS_gtr, decide_eq_true_eq, decide_eq_false_iff_not] at *; (repeat' split) <;> omega)
theorem c_l1Sign (x y : Int) : PCtr PP n_spec_l1Sign [i64 x, i64 y] (i64 (sgn x y)) := by
  obtain ⟨Ω, hΩ⟩ : ∃ Ω, Ω = std := ⟨_, rfl⟩
  obtain ⟨r, hr⟩ : ∃ r, r = sgn x y := ⟨_, rfl⟩
  rw [← hr]
  unfold sgn at hr
  have htab := tab
  have hmo := hmo
  refine PCtr.walk tab hΩ fn_spec_l1Sign rfl ?_
  generalize PP = P at *
  cbv
  repeat' (first | (refine br (fun h => ?_) (fun h => ?_) <;> cbv) | (refine ⟨VC_drawn htab hΩ hmo (by kernel_rfl) ?_⟩; cbv))
  all_goals (refine .of (congrArg i64 ?_); subst hΩ; subst hr; simp only [std_cmp, cmpIS_lss, cmpIS_gtr, decide_eq_true_eq, decide_eq_false_iff_not] at *; (repeat' split) <;> omega)
theorem c_CompareVersions (x y : Ver) : PCtr PP n_spec_CompareVersions [x.enc, y.enc] (i64 (cmpV x y)) := by
  obtain ⟨Ω, hΩ⟩ : ∃ Ω, Ω = std := ⟨_, rfl⟩
  obtain ⟨r, hr⟩ : ∃ r, r = cmpV x y := ⟨_, rfl⟩
  rw [← hr]
  have hc0 := c_l1Sign
  unfold cmpV at hr
  generalize sgn = F at *
  have htab := tab
  have hmo := hmo
  refine PCtr.walk tab hΩ fn_spec_CompareVersions rfl ?_
  generalize PP = P at *
  cbv
  repeat' (first | (refine br (fun h => ?_) (fun h => ?_) <;> cbv) | (refine ⟨VC_drawn htab hΩ hmo (by kernel_rfl) ?_⟩; cbv) | (refine QCall_pure (k := 3) (hc0 _ _) rfl (fits _) rfl ?_; cbv) | (refine call_pure hΩ 3 (hc0 _ _) rfl (fits _) rfl rfl ?_; cbv))
  all_goals (refine .of (congrArg i64 ?_); subst hΩ; subst hr; simp_all)
theorem c_implTop : PCtr PP n_impl_top [] topV.enc := by
  obtain ⟨Ω, hΩ⟩ : ∃ Ω, Ω = std := ⟨_, rfl⟩
  refine PCtr.walk tab hΩ fn_impl_top rfl ?_
  generalize PP = P at *
  cbv
  exact .same
theorem c_specTop : PCtr PP n_spec_l1Top [] topV.enc := by
  obtain ⟨Ω, hΩ⟩ : ∃ Ω, Ω = std := ⟨_, rfl⟩
  refine PCtr.walk tab hΩ fn_spec_l1Top rfl ?_
  generalize PP = P at *
  cbv
  exact .same
end Go.Proofs.Ytdngjnjapihbkaa

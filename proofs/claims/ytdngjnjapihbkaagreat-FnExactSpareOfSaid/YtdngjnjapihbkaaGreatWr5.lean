/- FnExactSpareOfSaid: the program's SpareOf returns what the reference's returns, for all arguments. No condition. -/
import Derived.Test.YtdngjnjapihbkaaGreatWl5
import Derived.Test.YtdngjnjapihbkaaGreatWr0
import Derived.Test.YtdngjnjapihbkaaGreatRows
set_option linter.unusedVariables false
set_option linter.unusedSimpArgs false
namespace Go.Proofs.YtdngjnjapihbkaaGreat
open Go Go.Fw
open Go.ChangeShapes Go.WideShapes Go.ChangeAt Go.RowKit
theorem ty_PckS : TyOK PP (.sl tyPck) 22 := tyChk_ok _ _ (by kernel_rfl)
theorem ty_i64S : TyOK PP (.sl (.int .i64)) 23 := tyChk_ok _ _ (by kernel_rfl)
theorem ty_i64 : TyOK PP (.int .i64) 2 := tyChk_ok _ _ (by kernel_rfl)
theorem own1 : ownKnob PP.godebug = none := by kernel_rfl
theorem u4 : PP.underlying 4 = some .bool := by kernel_rfl
theorem uP : PP.underlying 22 = some (.slice 52) := by kernel_rfl
theorem uI : PP.underlying 23 = some (.slice 2) := by kernel_rfl
theorem u2 : PP.underlying 2 = some (.int .i64) := by kernel_rfl
theorem ty_TrmS : TyOK PP (.sl tyTrm) 38 := tyChk_ok _ _ (by kernel_rfl)
theorem uT : PP.underlying 38 = some (.slice 69) := by kernel_rfl
theorem p5 : Tryz.f5.params = #[22, 23, 38] := by kernel_rfl
theorem r5 : Tryz.f5.resultTypes = #[4] := by kernel_rfl
set_option maxRecDepth 100000 in
theorem contract5 (H : Type) (enc : TypeId × Value → H) (W : World) (base : Nat) (args : Array Value) (ds gs : List (DataW H)) (before : List MemPlace)
    (hval : ∀ (j : Nat) t v, Tryz.f5.params[j]? = some t → args[j]? = some v → Value.okWide PP W .any base t v)
    (hW : DataW.Whole enc PP Tryz.f5.params.toList Rows.fnExactSpareOfSpec.vars false W args.toList ds gs before) :
    Calls PP n_laws_FnExactSpareOf args W fun e W' => ∃ v, e = .returned v ∧ Rows.fnExactSpareOfSpec.post enc PP Tryz.f5 false true false false W args v W' := by
  have hW' := hW
  obtain ⟨p, q, hA, hV, rfl, hfz, hnd⟩ := hW
  rw [p5] at hA hval
  obtain ⟨v0, vs0, d0, ds0, p0, q0, hargs, rfl, rfl, h0, r0⟩ := trodAll_cons hA
  obtain ⟨v1, vs1, d1, ds1, p1, q1, rfl, rfl, rfl, h1, r1⟩ := trodAll_cons r0
  obtain ⟨v2, vs2, d2, ds2, p2, q2, rfl, rfl, rfl, h2, r2⟩ := trodAll_cons r1
  obtain ⟨rfl, rfl, rfl⟩ := trodAll_nil r2
  obtain rfl : args = #[v0, v1, v2] := by cases args; simp_all
  obtain ⟨rfl, rfl⟩ := trodVars_none hV
  obtain ⟨n0, hn0⟩ := h0
  obtain ⟨n1, hn1⟩ := h1
  obtain ⟨n2, hn2⟩ := h2
  obtain ⟨xs0, hx0, hs0⟩ := trod_rel (fun _ => rfl) _ _ _ _ _ ty_PckS hn0
  obtain ⟨xs1, hx1, hs1⟩ := trod_rel (fun _ => rfl) _ _ _ _ _ ty_i64S hn1
  obtain ⟨xs2, hx2, hs2⟩ := trod_rel (fun _ => rfl) _ _ _ _ _ ty_TrmS hn2
  rw [slice_cells uP (hval 0 22 v0 rfl rfl)] at hx0
  rw [slice_cells uI (hval 1 23 v1 rfl rfl)] at hx1
  rw [slice_cells uT (hval 2 38 v2 rfl rfl)] at hx2
  obtain ⟨cs, rfl, hm, hf⟩ := shp_PckS hs0
  obtain ⟨s, rfl, hsm⟩ := shp_i64S hs1
  obtain ⟨t, rfl, htm⟩ := shp_TrmS hs2
  refine ((c_lawSpareOf cs s t hm hf hsm htm).run W (Old W) [v0, v1, v2] (fun b h => h) (hx0.append (hx1.append hx2))).mono ?_
  rintro e W' ⟨v, F, rfl, hb, _, _, hr⟩
  cases hr
  refine ⟨_, rfl, post_law rfl hW' ?_ r5 u4 rfl hb⟩
  rw [p5]
  intro t ht
  simp at ht
  rcases ht with rfl | rfl | rfl
  · exact ⟨_, ty_PckS⟩
  · exact ⟨_, ty_i64S⟩
  · exact ⟨_, ty_TrmS⟩
set_option maxRecDepth 100000 in
theorem lifted5 (os : Os) (started : os.Started) (H : Type) (enc : TypeId × Value → H) :
    ReturnsInHanded {} Tryz.checked os 5 .any (Rows.fnExactSpareOfSpec.pre6 enc Tryz.prog Tryz.f5 Rows.fnExactSpareOfRow.domain false) (Rows.fnExactSpareOfSpec.post enc Tryz.prog Tryz.f5 false true false false) := by
  refine returnsInHanded_of_change (C := Tryz.checked) own1 started (by kernel_rfl) Tryz.func5
    (ChangeSpec.witness6 (enc := enc) (C := Tryz.checked) false ⟨#[], #[.slice none 0 0, .slice none 0 0, .slice none 0 0], []⟩ 8 (by kernel_rfl) (by kernel_rfl) (by kernel_rfl) (by kernel_rfl)) ?_
  intro W base args ds gs before hval hW _ _
  exact contract5 H enc W base args ds gs before hval hW
theorem proved5 : Rows.FnExactSpareOfSaid :=
  OpenClaim.holds_of_wide 5 Tryz.f5 rfl rfl rfl rfl rfl rfl rfl ⟨rfl, rfl, rfl, rfl, rfl⟩ rfl rfl rfl rfl rfl (by kernel_rfl) Tryz.func5 (by kernel_rfl)
    (of_decide_eq_true (by kernel_rfl)) (by unfold Func.isWrapper; first | (rw [if_pos (by decide +kernel)]; kernel_rfl) | (rw [if_neg (by decide +kernel)]; exact ⟨rfl, rfl⟩))
    (fun os started H enc _ => lifted5 os started H enc)
end Go.Proofs.YtdngjnjapihbkaaGreat

/- FnExactWhyOfSaid: The program's WhyOf returns what the reference's returns, for all arguments. No condition. -/
import Derived.Test.YtomfmdfamlmfiaaGreatC5
import Derived.Test.YtomfmdfamlmfiaaGreatRows
set_option linter.unusedVariables false
set_option linter.unusedSimpArgs false
namespace Go.Proofs.YtomfmdfamlmfiaaGreat
open Go Go.Fw
open Go.ChangeShapes Go.WideShapes Go.ChangeAt Go.RowKit
theorem ty0 : TyOK PP (.sl tyPck) 22 := tyChk_ok _ _ (by kernel_rfl)
theorem u0 : PP.underlying 22 = some (.slice 70) := by kernel_rfl
theorem ty1 : TyOK PP (.sl (.int .i64)) 23 := tyChk_ok _ _ (by kernel_rfl)
theorem u1 : PP.underlying 23 = some (.slice 2) := by kernel_rfl
theorem ty2 : TyOK PP (.sl tyTrm) 24 := tyChk_ok _ _ (by kernel_rfl)
theorem u2 : PP.underlying 24 = some (.slice 73) := by kernel_rfl
theorem ty3 : TyOK PP (.int .i64) 2 := tyChk_ok _ _ (by kernel_rfl)
theorem u3 : PP.underlying 2 = some (.int .i64) := by kernel_rfl
theorem own1 : ownKnob PP.godebug = none := by kernel_rfl
theorem uB : PP.underlying 4 = some .bool := by kernel_rfl
theorem pP : Tryz.f4.params = #[22, 23, 24, 2] := by kernel_rfl
theorem rP : Tryz.f4.resultTypes = #[4] := by kernel_rfl
set_option maxRecDepth 100000
theorem bAnd {a b : Bool} (h : a = true) (g : b = true) : (a && b) = true := by subst h; exact g
theorem jA : (Rows.fnExactWhyOfRow.wf (OpenSpec.ofChange Rows.fnExactWhyOfSpec) && laidOutB Tryz.pinned.checked.prog && mapsRowed Tryz.pinned.checked.prog && Tryz.f4.params.all (Tryz.pinned.checked.prog.readableRec ·) && namedTie Tryz.pinned.checked.prog Rows.fnExactWhyOfRow.named Rows.fnExactWhyOfSpec.vars && (Rows.fnExactWhyOfRow.stops == []) && (Tryz.pinned.checked.prog.stops == []) && (Rows.fnExactWhyOfRow.knobs == []) && (Tryz.pinned.checked.prog.stopKnobs == [])) = true := by kernel_rfl
theorem jB : (Rows.fnExactWhyOfRow.inPlace == Tryz.pinned.checked.prog.inPlace 4) = true := by kernel_rfl
theorem jC : (Rows.fnExactWhyOfRow.unfollowed == Tryz.pinned.checked.prog.unfollowed 4) = true := by kernel_rfl
theorem jD : (Rows.fnExactWhyOfRow.recurses == Tryz.pinned.checked.prog.recurses 4) = true := by kernel_rfl
theorem jE : (Rows.fnExactWhyOfRow.named == Tryz.pinned.checked.prog.varsNamed 4) = true := by kernel_rfl
theorem jZ : joinedFacts Tryz.pinned.checked.prog 4 Tryz.f4 Rows.fnExactWhyOfSpec Rows.fnExactWhyOfRow = true := by
  unfold joinedFacts
  refine bAnd (bAnd (bAnd (bAnd (bAnd (bAnd (bAnd (bAnd (bAnd (bAnd (bAnd (bAnd (bAnd (bAnd (bAnd (bAnd (bAnd (bAnd (bAnd (bAnd (bAnd (bAnd (bAnd jA jB) jC) jD) jE) ?_) ?_) ?_) ?_) ?_) ?_) ?_) ?_) ?_) ?_) ?_) ?_) ?_) ?_) ?_) ?_) ?_) ?_) ?_
  all_goals kernel_rfl


set_option maxRecDepth 100000 in
theorem contractR (H : Type) (enc : TypeId × Value → H) (W : World) (base : Nat) (args : Array Value) (ds gs : List (DataW H)) (before : List MemPlace)
    (hval : ∀ (j : Nat) t v, Tryz.f4.params[j]? = some t → args[j]? = some v → Value.okWide PP W .any base t v)
    (hW : DataW.Whole enc PP Tryz.f4.params.toList Rows.fnExactWhyOfSpec.vars false W args.toList ds gs before) :
    Calls PP n_laws_FnExactWhyOf args W fun e W' => ∃ v, e = .returned v ∧ Rows.fnExactWhyOfSpec.post enc PP Tryz.f4 false true false false W args v W' := by
  have hW' := hW
  obtain ⟨p, q, hA, hV, rfl, hfz, hnd⟩ := hW
  rw [pP] at hA hval
  obtain ⟨v0, vs0, d0, ds0, p0, q0, hargs, rfl, rfl, h0, r0⟩ := trodAll_cons hA
  obtain ⟨v1, vs1, d1, ds1, p1, q1, rfl, rfl, rfl, h1, r1⟩ := trodAll_cons r0
  obtain ⟨v2, vs2, d2, ds2, p2, q2, rfl, rfl, rfl, h2, r2⟩ := trodAll_cons r1
  obtain ⟨v3, vs3, d3, ds3, p3, q3, rfl, rfl, rfl, h3, r3⟩ := trodAll_cons r2
  obtain ⟨rfl, rfl, rfl⟩ := trodAll_nil r3
  obtain rfl : args = #[v0, v1, v2, v3] := by cases args; simp_all
  obtain ⟨rfl, rfl⟩ := trodVars_none hV
  obtain ⟨n0, hn0⟩ := h0
  obtain ⟨n1, hn1⟩ := h1
  obtain ⟨n2, hn2⟩ := h2
  obtain ⟨n3, hn3⟩ := h3
  obtain ⟨xs0, hx0, hs0⟩ := trod_rel (fun _ => rfl) _ _ _ _ _ ty0 hn0
  obtain ⟨xs1, hx1, hs1⟩ := trod_rel (fun _ => rfl) _ _ _ _ _ ty1 hn1
  obtain ⟨xs2, hx2, hs2⟩ := trod_rel (fun _ => rfl) _ _ _ _ _ ty2 hn2
  obtain ⟨xs3, hx3, hs3⟩ := trod_rel (fun _ => rfl) _ _ _ _ _ ty3 hn3
  rw [slice_cells u0 (hval 0 22 v0 rfl rfl)] at hx0
  rw [slice_cells u1 (hval 1 23 v1 rfl rfl)] at hx1
  rw [slice_cells u2 (hval 2 24 v2 rfl rfl)] at hx2
  rw [int_cells u3 (hval 3 2 v3 rfl rfl)] at hx3
  obtain ⟨cs0, rfl, hm0, hf0⟩ := shp_PckS hs0
  obtain ⟨s1, rfl, hsm1⟩ := shp_i64S hs1
  obtain ⟨a2, rfl, ham2, hat2⟩ := shp_TrmS hs2
  obtain ⟨t3, rfl⟩ := shp_i64 hs3
  refine ((c_lawWhyOf cs0 s1 a2 t3 hm0 hf0 hsm1 ⟨ham2, hat2⟩).run W (Old W) [v0, v1, v2, v3] (GoodG.of_none (by kernel_rfl) fun b h => h) (hx0.append (hx1.append (hx2.append hx3)))).mono ?_
  rintro e W' ⟨v, F, rfl, hb, _, _, hr⟩
  cases hr
  refine ⟨_, rfl, post_law rfl hW' ?_ rP uB rfl hb⟩
  rw [pP]
  intro t ht
  simp at ht
  rcases ht with rfl | rfl | rfl | rfl
  · exact ⟨_, ty0⟩
  · exact ⟨_, ty1⟩
  · exact ⟨_, ty2⟩
  · exact ⟨_, ty3⟩


set_option maxRecDepth 100000 in
theorem liftedR (os : Os) (started : os.Started) (H : Type) (enc : TypeId × Value → H) :
    ReturnsInHanded {} Tryz.checked os 4 .any (Rows.fnExactWhyOfSpec.pre6 enc Tryz.prog Tryz.f4 Rows.fnExactWhyOfRow.domain false) (Rows.fnExactWhyOfSpec.post enc Tryz.prog Tryz.f4 false true false false) := by
  refine returnsInHanded_of_change (C := Tryz.checked) own1 started (by kernel_rfl) Tryz.func4
    (ChangeSpec.witness6 (enc := enc) (C := Tryz.checked) false ⟨#[], #[.slice none 0 0, .slice none 0 0, .slice none 0 0, .int .i64 0], []⟩ 8 (by kernel_rfl) (by kernel_rfl) (by kernel_rfl) (by kernel_rfl)) ?_
  intro W base args ds gs before hval hW _ _
  exact contractR H enc W base args ds gs before hval hW
theorem proved22 : Rows.FnExactWhyOfSaid :=
  OpenClaim.holds_of_wide 4 Tryz.f4 rfl rfl rfl rfl rfl rfl rfl ⟨rfl, rfl, rfl, rfl, rfl⟩ rfl rfl rfl rfl rfl (by kernel_rfl) Tryz.func4 jZ
    (of_decide_eq_true (by kernel_rfl)) (by unfold Func.isWrapper; first | (rw [if_pos (by decide +kernel)]; kernel_rfl) | (rw [if_neg (by decide +kernel)]; exact ⟨rfl, rfl⟩))
    (fun os started H enc _ => liftedR os started H enc)
end Go.Proofs.YtomfmdfamlmfiaaGreat

/- FnWhysSaid: a way leads from what is asked to what is there; what has none is an orphan. No condition. -/
import Derived.Test.YtomfmdfamlmfiaaGreatC6
import Derived.Test.YtomfmdfamlmfiaaGreatRows
set_option linter.unusedVariables false
set_option linter.unusedSimpArgs false
namespace Go.Proofs.YtomfmdfamlmfiaaGreat
open Go Go.Fw
open Go.ChangeShapes Go.WideShapes Go.ChangeAt Go.RowKit
theorem ty0 : TyOK PP (.sl (.int .u8)) 50 := tyChk_ok _ _ (by kernel_rfl)
theorem u0 : PP.underlying 50 = some (.slice 5) := by kernel_rfl
theorem own1 : ownKnob PP.godebug = none := by kernel_rfl
theorem uB : PP.underlying 4 = some .bool := by kernel_rfl
theorem pP : Tryz.f5.params = #[50] := by kernel_rfl
theorem rP : Tryz.f5.resultTypes = #[4] := by kernel_rfl
set_option maxRecDepth 100000
theorem bAnd {a b : Bool} (h : a = true) (g : b = true) : (a && b) = true := by subst h; exact g
theorem jA : (Rows.fnWhysRow.wf (OpenSpec.ofChange Rows.fnWhysSpec) && laidOutB Tryz.pinned.checked.prog && mapsRowed Tryz.pinned.checked.prog && Tryz.f5.params.all (Tryz.pinned.checked.prog.readableRec ·) && namedTie Tryz.pinned.checked.prog Rows.fnWhysRow.named Rows.fnWhysSpec.vars && (Rows.fnWhysRow.stops == []) && (Tryz.pinned.checked.prog.stops == []) && (Rows.fnWhysRow.knobs == []) && (Tryz.pinned.checked.prog.stopKnobs == [])) = true := by kernel_rfl
theorem jB : (Rows.fnWhysRow.inPlace == Tryz.pinned.checked.prog.inPlace 5) = true := by kernel_rfl
theorem jC : (Rows.fnWhysRow.unfollowed == Tryz.pinned.checked.prog.unfollowed 5) = true := by kernel_rfl
theorem jD : (Rows.fnWhysRow.recurses == Tryz.pinned.checked.prog.recurses 5) = true := by kernel_rfl
theorem jE : (Rows.fnWhysRow.named == Tryz.pinned.checked.prog.varsNamed 5) = true := by kernel_rfl
theorem jZ : joinedFacts Tryz.pinned.checked.prog 5 Tryz.f5 Rows.fnWhysSpec Rows.fnWhysRow = true := by
  unfold joinedFacts
  refine bAnd (bAnd (bAnd (bAnd (bAnd (bAnd (bAnd (bAnd (bAnd (bAnd (bAnd (bAnd (bAnd (bAnd (bAnd (bAnd (bAnd (bAnd (bAnd (bAnd (bAnd (bAnd (bAnd jA jB) jC) jD) jE) ?_) ?_) ?_) ?_) ?_) ?_) ?_) ?_) ?_) ?_) ?_) ?_) ?_) ?_) ?_) ?_) ?_) ?_) ?_
  all_goals kernel_rfl


set_option maxRecDepth 100000 in
theorem contractR (H : Type) (enc : TypeId × Value → H) (W : World) (base : Nat) (args : Array Value) (ds gs : List (DataW H)) (before : List MemPlace)
    (hval : ∀ (j : Nat) t v, Tryz.f5.params[j]? = some t → args[j]? = some v → Value.okWide PP W .any base t v)
    (hW : DataW.Whole enc PP Tryz.f5.params.toList Rows.fnWhysSpec.vars false W args.toList ds gs before) :
    Calls PP n_laws_FnWhys args W fun e W' => ∃ v, e = .returned v ∧ Rows.fnWhysSpec.post enc PP Tryz.f5 false true false false W args v W' := by
  have hW' := hW
  obtain ⟨p, q, hA, hV, rfl, hfz, hnd⟩ := hW
  rw [pP] at hA hval
  obtain ⟨v0, vs0, d0, ds0, p0, q0, hargs, rfl, rfl, h0, r0⟩ := trodAll_cons hA
  obtain ⟨rfl, rfl, rfl⟩ := trodAll_nil r0
  obtain rfl : args = #[v0] := by cases args; simp_all
  obtain ⟨rfl, rfl⟩ := trodVars_none hV
  obtain ⟨n0, hn0⟩ := h0
  obtain ⟨xs0, hx0, hs0⟩ := trod_rel (fun _ => rfl) _ _ _ _ _ ty0 hn0
  rw [slice_cells u0 (hval 0 50 v0 rfl rfl)] at hx0
  obtain ⟨bs0, rfl, hbl0, hby0⟩ := shp_bytes hs0
  refine ((c_lawWhys bs0 hby0).run W (Old W) [v0] (GoodG.of_none (by kernel_rfl) fun b h => h) hx0).mono ?_
  rintro e W' ⟨v, F, rfl, hb, _, _, hr⟩
  cases hr
  refine ⟨_, rfl, post_law rfl hW' ?_ rP uB rfl hb⟩
  rw [pP]
  intro t ht
  simp at ht
  subst ht
  exact ⟨_, ty0⟩


set_option maxRecDepth 100000 in
theorem liftedR (os : Os) (started : os.Started) (H : Type) (enc : TypeId × Value → H) :
    ReturnsInHanded {} Tryz.checked os 5 .any (Rows.fnWhysSpec.pre6 enc Tryz.prog Tryz.f5 Rows.fnWhysRow.domain false) (Rows.fnWhysSpec.post enc Tryz.prog Tryz.f5 false true false false) := by
  refine returnsInHanded_of_change (C := Tryz.checked) own1 started (by kernel_rfl) Tryz.func5
    (ChangeSpec.witness6 (enc := enc) (C := Tryz.checked) false ⟨#[], #[.slice none 0 0], []⟩ 8 (by kernel_rfl) (by kernel_rfl) (by kernel_rfl) (by kernel_rfl)) ?_
  intro W base args ds gs before hval hW _ _
  exact contractR H enc W base args ds gs before hval hW
theorem proved23 : Rows.FnWhysSaid :=
  OpenClaim.holds_of_wide 5 Tryz.f5 rfl rfl rfl rfl rfl rfl rfl ⟨rfl, rfl, rfl, rfl, rfl⟩ rfl rfl rfl rfl rfl (by kernel_rfl) Tryz.func5 jZ
    (of_decide_eq_true (by kernel_rfl)) (by unfold Func.isWrapper; first | (rw [if_pos (by decide +kernel)]; kernel_rfl) | (rw [if_neg (by decide +kernel)]; exact ⟨rfl, rfl⟩))
    (fun os started H enc _ => liftedR os started H enc)
end Go.Proofs.YtomfmdfamlmfiaaGreat

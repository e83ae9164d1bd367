/- FnExactParseChangesCardSaid: The program's ParseChanges returns what the reference's returns, for all arguments. No condition. -/
import Derived.Test.YthlfefblhlmbgaaDoorC4
import Derived.Test.YthlfefblhlmbgaaDoorRows
import Derived.Test.YthlfefblhlmbgaaDoorCards
import Derived.Test.YthlfefblhlmbgaaDoorTie
import Derived.SevenTiedAt
import Derived.Stop.LaidErr
import Derived.MakeChecks
import Derived.LaidMore
import Derived.Lay
set_option linter.unusedVariables false
set_option linter.unusedSimpArgs false
namespace Go.Proofs.YthlfefblhlmbgaaDoor
open Go Go.Fw
open Go.ChangeShapes Go.WideShapes Go.ChangeAt Go.RowKit
theorem ty0 : TyOK PP .str 9 := tyChk_ok _ _ (by kernel_rfl)
theorem u0 : PP.underlying 9 = some .string := by kernel_rfl
theorem own1 : ownKnob PP.godebug = none := by kernel_rfl
theorem uB : PP.underlying 4 = some .bool := by kernel_rfl
theorem pP : Tryd.f3.params = #[9] := by kernel_rfl
theorem rP : Tryd.f3.resultTypes = #[4] := by kernel_rfl
theorem goodR {W : World} (_ : laidMetH PP Rows.fnExactParseChangesRow.laid W) : GoodG PP W (Old W) := GoodG.of_none (by kernel_rfl) fun b h => h


set_option maxRecDepth 100000 in
theorem contractR (H : Type) (enc : TypeId × Value → H) (W : World) (base : Nat) (args : Array Value) (ds gs : List (DataW H)) (before : List MemPlace)
    (hval : ∀ (j : Nat) t v, Tryd.f3.params[j]? = some t → args[j]? = some v → Value.okWide PP W .any base t v)
    (hL : laidMetH PP Rows.fnExactParseChangesRow.laid W)
    (hW : DataW.Whole enc PP Tryd.f3.params.toList Rows.fnExactParseChangesSpec.vars false W args.toList ds gs before) :
    Calls PP n_laws_FnExactParseChanges args W fun e W' => ∃ v, e = .returned v ∧ Rows.fnExactParseChangesSpec.post enc PP Tryd.f3 false true false false W args v W' := by
  have hW' := hW
  obtain ⟨p, q, hA, hV, rfl, hfz, hnd⟩ := hW
  rw [pP] at hA hval
  obtain ⟨v0, vs0, d0, ds0, p0, q0, hargs, rfl, rfl, h0, r0⟩ := trodAll_cons hA
  obtain ⟨rfl, rfl, rfl⟩ := trodAll_nil r0
  obtain rfl : args = #[v0] := by cases args; simp_all
  obtain ⟨rfl, rfl⟩ := trodVars_none hV
  obtain ⟨n0, hn0⟩ := h0
  obtain ⟨xs0, hx0, hs0⟩ := trod_rel (fun _ => rfl) _ _ _ _ _ ty0 hn0
  rw [str_cells u0 (hval 0 9 v0 rfl rfl)] at hx0
  obtain ⟨t0, rfl, htm0⟩ := shp_str hs0
  refine ((c_lawParseChanges t0 htm0).run W (Old W) [v0] (goodR hL) hx0).mono ?_
  rintro e W' ⟨v, F, rfl, hb, _, _, hr⟩
  cases hr
  refine ⟨_, rfl, post_law rfl hW' ?_ rP uB rfl hb⟩
  rw [pP]
  intro t ht
  simp at ht
  subst ht
  exact ⟨_, ty0⟩


set_option maxRecDepth 100000 in
theorem liftedR (os : Os) (started : os.Started) (H : Type) (enc : TypeId × Value → H) :
    ReturnsInHanded {} Tryd.checked os 3 .any (fun w args => (Rows.fnExactParseChangesSpec.pre enc Tryd.prog Tryd.f3 Rows.fnExactParseChangesRow.domain false w args ∧ laidMetH PP Rows.fnExactParseChangesRow.laid w) ∧ sizedMet enc Tryd.prog Tryd.f3 (OpenSpec.ofChange Rows.fnExactParseChangesSpec) false w args)
      (Rows.fnExactParseChangesSpec.post enc Tryd.prog Tryd.f3 false true false false) := by
  refine returnsInHanded_of_change_and (C := Tryd.checked) (X := fun w _ => laidMetH PP Rows.fnExactParseChangesRow.laid w) (fun _ _ _ hh h => h.of_heap hh) own1 started (by kernel_rfl) Tryd.func3
    (ChangeSpec.witness_shaped (enc := enc) (C := Tryd.checked) (os := os) (X := fun w _ => laidMetH PP Rows.fnExactParseChangesRow.laid w) false (World.laidAll PP os Rows.fnExactParseChangesRow.laid) #[.string ⟨#[]⟩] 8 (World.laidAll_os _ _ _)
      (World.shaped_of_ZipB (by kernel_rfl) (by kernel_rfl)) (by kernel_rfl) (by kernel_rfl) (by kernel_rfl)
      (by rw [MakeChecks.laidMetH_plain _ _ _ (by kernel_rfl)]; exact laidMet_laidAll _ (by kernel_rfl) (by kernel_rfl))) ?_
  intro W base args ds gs before hval hW _ _ hL _
  exact contractR H enc W base args ds gs before hval hL hW
theorem rowR : Rows.FnExactParseChangesSaid :=
  OpenClaim.holds_of_wide 3 Tryd.f3 rfl rfl rfl rfl rfl rfl rfl ⟨rfl, rfl, rfl, rfl, rfl⟩ rfl rfl rfl rfl rfl (by kernel_rfl) Tryd.func3 (by kernel_rfl)
    (of_decide_eq_true (by kernel_rfl)) (by unfold Func.isWrapper; first | (rw [if_pos (by decide +kernel)]; kernel_rfl) | (rw [if_neg (by decide +kernel)]; exact ⟨rfl, rfl⟩))
    (fun os started H enc _ => liftedR os started H enc)
/-- The card. -/
theorem proved12 : Rows.FnExactParseChangesCardSaid :=
  Claim7.holds_tied_plain_at .later [] [.data, .pinned] true Rows.fnExactParseChangesCard.stood.harness Rows.fnExactParseChangesCard.stood.looks
    rowR (fun _ h => by cases h) (by kernel_rfl) (fun _ h => by cases h) fnExactParseChanges_row_tie rfl ⟨rfl, rfl⟩ (by kernel_rfl) rfl
    (fun f fn hf hfn => by
      obtain rfl : f = 3 := Option.some.inj ((show Tryd.prog.funcNamed "loop.example/g00090/laws.FnExactParseChanges" = some 3 by kernel_rfl).symm.trans hf) |>.symm
      obtain rfl : fn = Tryd.f3 := (Option.some.inj (Tryd.func3.symm.trans hfn)).symm
      refine ⟨by kernel_rfl, fun j t ht => ?_⟩
      rw [pP] at ht
      have := Array.mem_of_getElem? ht
      simp at this
      subst this
      exact (show Tryd.prog.wantsStandIn 9 = false by kernel_rfl))
    (by kernel_rfl)
end Go.Proofs.YthlfefblhlmbgaaDoor

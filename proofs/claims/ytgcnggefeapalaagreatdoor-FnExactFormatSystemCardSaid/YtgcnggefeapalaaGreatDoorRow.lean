/- FnExactFormatSystemCardSaid: The program's FormatSystem returns what the reference's returns, for all arguments. No condition. -/
import Derived.Test.YtgcnggefeapalaaGreatDoorC7
import Derived.Test.YtgcnggefeapalaaGreatDoorRows
import Derived.Test.YtgcnggefeapalaaGreatDoorCards
import Derived.Test.YtgcnggefeapalaaGreatDoorTie
import Derived.SevenTiedAt
import Derived.Stop.LaidErr
import Derived.MakeChecks
import Derived.LaidMore
import Derived.Lay
set_option linter.unusedVariables false
set_option linter.unusedSimpArgs false
namespace Go.Proofs.YtgcnggefeapalaaGreatDoor
open Go Go.Fw
open Go.ChangeShapes Go.WideShapes Go.ChangeAt Go.RowKit
theorem ty0 : TyOK PP tySys 27 := tyChk_ok _ _ (by kernel_rfl)
theorem u0 : isSt (PP.underlying 27) = true := by kernel_rfl
theorem own1 : ownKnob PP.godebug = none := by kernel_rfl
theorem uB : PP.underlying 4 = some .bool := by kernel_rfl
theorem pP : Tryz.f3.params = #[27] := by kernel_rfl
theorem rP : Tryz.f3.resultTypes = #[4] := by kernel_rfl
set_option maxRecDepth 100000
theorem bAnd {a b : Bool} (h : a = true) (g : b = true) : (a && b) = true := by subst h; exact g
theorem jA : (Rows.fnExactFormatSystemRow.wf (OpenSpec.ofChange Rows.fnExactFormatSystemSpec) && laidOutB Tryz.pinned.checked.prog && mapsRowed Tryz.pinned.checked.prog && Tryz.f3.params.all (Tryz.pinned.checked.prog.readableRec ·) && namedTie Tryz.pinned.checked.prog Rows.fnExactFormatSystemRow.named Rows.fnExactFormatSystemSpec.vars && (Rows.fnExactFormatSystemRow.stops == []) && (Tryz.pinned.checked.prog.stops == []) && (Rows.fnExactFormatSystemRow.knobs == []) && (Tryz.pinned.checked.prog.stopKnobs == [])) = true := by kernel_rfl
theorem jB : (Rows.fnExactFormatSystemRow.inPlace == Tryz.pinned.checked.prog.inPlace 3) = true := by kernel_rfl
theorem jC : (Rows.fnExactFormatSystemRow.unfollowed == Tryz.pinned.checked.prog.unfollowed 3) = true := by kernel_rfl
theorem jD : (Rows.fnExactFormatSystemRow.recurses == Tryz.pinned.checked.prog.recurses 3) = true := by kernel_rfl
theorem jE : (Rows.fnExactFormatSystemRow.named == Tryz.pinned.checked.prog.varsNamed 3) = true := by kernel_rfl
theorem jZ : joinedFacts Tryz.pinned.checked.prog 3 Tryz.f3 Rows.fnExactFormatSystemSpec Rows.fnExactFormatSystemRow = true := by
  unfold joinedFacts
  refine bAnd (bAnd (bAnd (bAnd (bAnd (bAnd (bAnd (bAnd (bAnd (bAnd (bAnd (bAnd (bAnd (bAnd (bAnd (bAnd (bAnd (bAnd (bAnd (bAnd (bAnd (bAnd (bAnd jA jB) jC) jD) jE) ?_) ?_) ?_) ?_) ?_) ?_) ?_) ?_) ?_) ?_) ?_) ?_) ?_) ?_) ?_) ?_) ?_) ?_) ?_
  all_goals kernel_rfl
theorem goodR {W : World} (hL : laidMetH PP Rows.fnExactFormatSystemRow.laid W) : GoodG PP W (Old W) := ⟨fun _ h => h, fun g hg => by
  rw [MakeChecks.laidMetH_plain _ _ _ (by kernel_rfl)] at hL
  have h : laidMet PP ((tabName, Lib.tabData .u64 Lib.pow10Tab) :: Rows.fnExactFormatSystemRow.laid.drop 3) W := hL.tail.tail
  have ht : Lib.TabIs PP W tabName .u64 Lib.pow10Tab := Lib.tabIs_of_head (g := g) (t := 250) (e := 225) (n := 20) hg (by
    obtain rfl : g = 0 := Option.some.inj (hg.symm.trans (by kernel_rfl))
    kernel_rfl) (by kernel_rfl) (by kernel_rfl) (by kernel_rfl) (by kernel_rfl) h
  refine ⟨?_, ht⟩
  unfold Lib.TabIs World.var? at ht
  rw [hg] at ht
  show g < W.heap.size
  rcases Nat.lt_or_ge g W.heap.size with h' | h'
  · exact h'
  · simp [Array.getElem?_eq_none h'] at ht⟩


set_option maxRecDepth 100000 in
theorem contractR (H : Type) (enc : TypeId × Value → H) (W : World) (base : Nat) (args : Array Value) (ds gs : List (DataW H)) (before : List MemPlace)
    (hval : ∀ (j : Nat) t v, Tryz.f3.params[j]? = some t → args[j]? = some v → Value.okWide PP W .any base t v)
    (hL : laidMetH PP Rows.fnExactFormatSystemRow.laid W)
    (hW : DataW.Whole enc PP Tryz.f3.params.toList Rows.fnExactFormatSystemSpec.vars false W args.toList ds gs before) :
    Calls PP n_laws_FnExactFormatSystem args W fun e W' => ∃ v, e = .returned v ∧ Rows.fnExactFormatSystemSpec.post enc PP Tryz.f3 false true false false W args v W' := by
  have hW' := hW
  obtain ⟨p, q, hA, hV, rfl, hfz, hnd⟩ := hW
  rw [pP] at hA hval
  obtain ⟨v0, vs0, d0, ds0, p0, q0, hargs, rfl, rfl, h0, r0⟩ := trodAll_cons hA
  obtain ⟨rfl, rfl, rfl⟩ := trodAll_nil r0
  obtain rfl : args = #[v0] := by cases args; simp_all
  obtain ⟨rfl, rfl⟩ := trodVars_none hV
  obtain ⟨n0, hn0⟩ := h0
  obtain ⟨xs0, hx0, hs0⟩ := trod_rel (fun _ => rfl) _ _ _ _ _ ty0 hn0
  obtain ⟨c0, rfl, hc0⟩ := agg_cells u0 (hval 0 27 v0 rfl rfl)
  rw [hc0] at hx0
  obtain ⟨cs0, x0, hxe0, hm0, hf0, hxm0, hxf0⟩ := shp_Sys hs0
  refine ((c_lawFormatSystem cs0 x0 hm0 hf0 hxm0 hxf0).run W (Old W) [.agg c0] (goodR hL) (hxe0 ▸ agg_one hx0)).mono ?_
  rintro e W' ⟨v, F, rfl, hb, _, _, hr⟩
  cases hr
  refine ⟨_, rfl, post_law rfl hW' ?_ rP uB rfl hb⟩
  rw [pP]
  intro t ht
  simp at ht
  subst ht
  exact ⟨_, ty0⟩


set_option maxRecDepth 100000 in
theorem liftedR (os : Os) (started : os.Started) (H : Type) (enc : TypeId × Value → H) :
    ReturnsInHanded {} Tryz.checked os 3 .any (fun w args => (Rows.fnExactFormatSystemSpec.pre enc Tryz.prog Tryz.f3 Rows.fnExactFormatSystemRow.domain false w args ∧ laidMetH PP Rows.fnExactFormatSystemRow.laid w) ∧ sizedMet enc Tryz.prog Tryz.f3 (OpenSpec.ofChange Rows.fnExactFormatSystemSpec) false w args)
      (Rows.fnExactFormatSystemSpec.post enc Tryz.prog Tryz.f3 false true false false) := by
  refine returnsInHanded_of_change_and (C := Tryz.checked) (X := fun w _ => laidMetH PP Rows.fnExactFormatSystemRow.laid w) (fun _ _ _ hh h => h.of_heap hh) own1 started (by kernel_rfl) Tryz.func3
    (ChangeSpec.witness_shaped (enc := enc) (C := Tryz.checked) (os := os) (X := fun w _ => laidMetH PP Rows.fnExactFormatSystemRow.laid w) false (World.laidAll PP os Rows.fnExactFormatSystemRow.laid) #[.agg #[.slice none 0 0, .slice none 0 0, .int .i64 0, .int .i64 0, .int .i64 0, .bool false]] 8 (World.laidAll_os _ _ _)
      (World.shaped_of_ZipB (by kernel_rfl) (by kernel_rfl)) (by kernel_rfl) (by kernel_rfl) (by kernel_rfl)
      (by rw [MakeChecks.laidMetH_plain _ _ _ (by kernel_rfl)]; exact laidMet_laidAll _ (by kernel_rfl) (by kernel_rfl))) ?_
  intro W base args ds gs before hval hW _ _ hL _
  exact contractR H enc W base args ds gs before hval hL hW
theorem rowR : Rows.FnExactFormatSystemSaid :=
  OpenClaim.holds_of_wide 3 Tryz.f3 rfl rfl rfl rfl rfl rfl rfl ⟨rfl, rfl, rfl, rfl, rfl⟩ rfl rfl rfl rfl rfl (by kernel_rfl) Tryz.func3 jZ
    (of_decide_eq_true (by kernel_rfl)) (by unfold Func.isWrapper; first | (rw [if_pos (by decide +kernel)]; kernel_rfl) | (rw [if_neg (by decide +kernel)]; exact ⟨rfl, rfl⟩))
    (fun os started H enc _ => liftedR os started H enc)
/-- The card. -/
theorem proved18 : Rows.FnExactFormatSystemCardSaid :=
  Claim7.holds_tied_plain_at .later [] [.data, .data, .data, .data, .pinned] true Rows.fnExactFormatSystemCard.stood.harness Rows.fnExactFormatSystemCard.stood.looks
    rowR (fun _ h => by cases h) (by kernel_rfl) (fun _ h => by cases h) fnExactFormatSystem_row_tie rfl ⟨rfl, rfl⟩ (by kernel_rfl) rfl
    (fun f fn hf hfn => by
      obtain rfl : f = 3 := Option.some.inj ((show Tryz.prog.funcNamed "loop.example/g00090/laws.FnExactFormatSystem" = some 3 by kernel_rfl).symm.trans hf) |>.symm
      obtain rfl : fn = Tryz.f3 := (Option.some.inj (Tryz.func3.symm.trans hfn)).symm
      refine ⟨by kernel_rfl, fun j t ht => ?_⟩
      rw [pP] at ht
      have := Array.mem_of_getElem? ht
      simp at this
      subst this
      exact (show Tryz.prog.wantsStandIn 27 = false by kernel_rfl))
    (by kernel_rfl)
end Go.Proofs.YtgcnggefeapalaaGreatDoor

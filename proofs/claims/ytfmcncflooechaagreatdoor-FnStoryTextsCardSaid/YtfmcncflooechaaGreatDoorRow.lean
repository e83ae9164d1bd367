/- FnStoryTextsCardSaid: changes are read back from their text. No condition. -/
import Derived.Test.YtfmcncflooechaaGreatDoorC6
import Derived.Test.YtfmcncflooechaaGreatDoorRows
import Derived.Test.YtfmcncflooechaaGreatDoorCards
import Derived.Test.YtfmcncflooechaaGreatDoorTie
import Derived.SevenTiedAt
import Derived.Stop.LaidErr
import Derived.MakeChecks
import Derived.LaidMore
import Derived.Lay
set_option linter.unusedVariables false
set_option linter.unusedSimpArgs false
namespace Go.Proofs.YtfmcncflooechaaGreatDoor
open Go Go.Fw
open Go.ChangeShapes Go.WideShapes Go.ChangeAt Go.RowKit
theorem ty0 : TyOK PP (.sl (.int .u8)) 22 := tyChk_ok _ _ (by kernel_rfl)
theorem u0 : PP.underlying 22 = some (.slice 5) := by kernel_rfl
theorem own1 : ownKnob PP.godebug = none := by kernel_rfl
theorem uB : PP.underlying 4 = some .bool := by kernel_rfl
theorem pP : Tryz.f3.params = #[22] := by kernel_rfl
theorem rP : Tryz.f3.resultTypes = #[4] := by kernel_rfl
theorem goodR {W : World} (hL : laidMetH PP Rows.fnStoryTextsRow.laid W) : GoodG PP W (Old W) := ⟨fun _ h => h, fun g hg => by
  rw [MakeChecks.laidMetH_plain _ _ _ (by kernel_rfl)] at hL
  have h : laidMet PP ((tabName, Lib.tabData .u64 Lib.pow10Tab) :: Rows.fnStoryTextsRow.laid.drop 3) W := hL.tail.tail
  have ht : Lib.TabIs PP W tabName .u64 Lib.pow10Tab := Lib.tabIs_of_head (g := g) (t := 152) (e := 138) (n := 20) hg (by
    obtain rfl : g = 0 := Option.some.inj (hg.symm.trans (by kernel_rfl))
    kernel_rfl) (by kernel_rfl) (by kernel_rfl) (by kernel_rfl) (by kernel_rfl) h
  refine ⟨?_, ht⟩
  unfold Lib.TabIs World.var? at ht
  rw [hg] at ht
  show g < W.heap.size
  rcases Nat.lt_or_ge g W.heap.size with h' | h'
  · exact h'
  · simp [Array.getElem?_eq_none h'] at ht⟩


set_option maxRecDepth 100000 in
theorem contractR (H : Type) (enc : TypeId × Value → H) (W : World) (base : Nat) (args : Array Value) (ds gs : List (DataW H)) (before : List MemPlace)
    (hval : ∀ (j : Nat) t v, Tryz.f3.params[j]? = some t → args[j]? = some v → Value.okWide PP W .any base t v)
    (hL : laidMetH PP Rows.fnStoryTextsRow.laid W)
    (hW : DataW.Whole enc PP Tryz.f3.params.toList Rows.fnStoryTextsSpec.vars false W args.toList ds gs before) :
    Calls PP n_laws_FnStoryTexts args W fun e W' => ∃ v, e = .returned v ∧ Rows.fnStoryTextsSpec.post enc PP Tryz.f3 false true false false W args v W' := by
  have hW' := hW
  obtain ⟨p, q, hA, hV, rfl, hfz, hnd⟩ := hW
  rw [pP] at hA hval
  obtain ⟨v0, vs0, d0, ds0, p0, q0, hargs, rfl, rfl, h0, r0⟩ := trodAll_cons hA
  obtain ⟨rfl, rfl, rfl⟩ := trodAll_nil r0
  obtain rfl : args = #[v0] := by cases args; simp_all
  obtain ⟨rfl, rfl⟩ := trodVars_none hV
  obtain ⟨n0, hn0⟩ := h0
  obtain ⟨xs0, hx0, hs0⟩ := trod_rel (fun _ => rfl) _ _ _ _ _ ty0 hn0
  rw [slice_cells u0 (hval 0 22 v0 rfl rfl)] at hx0
  obtain ⟨bs0, rfl, hbl0, hby0⟩ := shp_bytes hs0
  refine ((c_lawStoryTexts bs0 hby0).run W (Old W) [v0] (goodR hL) hx0).mono ?_
  rintro e W' ⟨v, F, rfl, hb, _, _, hr⟩
  cases hr
  refine ⟨_, rfl, post_law rfl hW' ?_ rP uB rfl hb⟩
  rw [pP]
  intro t ht
  simp at ht
  subst ht
  exact ⟨_, ty0⟩


set_option maxRecDepth 100000 in
theorem liftedR (os : Os) (started : os.Started) (H : Type) (enc : TypeId × Value → H) :
    ReturnsInHanded {} Tryz.checked os 3 .any (fun w args => (Rows.fnStoryTextsSpec.pre enc Tryz.prog Tryz.f3 Rows.fnStoryTextsRow.domain false w args ∧ laidMetH PP Rows.fnStoryTextsRow.laid w) ∧ sizedMet enc Tryz.prog Tryz.f3 (OpenSpec.ofChange Rows.fnStoryTextsSpec) false w args)
      (Rows.fnStoryTextsSpec.post enc Tryz.prog Tryz.f3 false true false false) := by
  refine returnsInHanded_of_change_and (C := Tryz.checked) (X := fun w _ => laidMetH PP Rows.fnStoryTextsRow.laid w) (fun _ _ _ hh h => h.of_heap hh) own1 started (by kernel_rfl) Tryz.func3
    (ChangeSpec.witness_shaped (enc := enc) (C := Tryz.checked) (os := os) (X := fun w _ => laidMetH PP Rows.fnStoryTextsRow.laid w) false (World.laidAll PP os Rows.fnStoryTextsRow.laid) #[.slice none 0 0] 8 (World.laidAll_os _ _ _)
      (World.shaped_of_ZipB (by kernel_rfl) (by kernel_rfl)) (by kernel_rfl) (by kernel_rfl) (by kernel_rfl)
      (by rw [MakeChecks.laidMetH_plain _ _ _ (by kernel_rfl)]; exact laidMet_laidAll _ (by kernel_rfl) (by kernel_rfl))) ?_
  intro W base args ds gs before hval hW _ _ hL _
  exact contractR H enc W base args ds gs before hval hL hW
theorem rowR : Rows.FnStoryTextsSaid :=
  OpenClaim.holds_of_wide 3 Tryz.f3 rfl rfl rfl rfl rfl rfl rfl ⟨rfl, rfl, rfl, rfl, rfl⟩ rfl rfl rfl rfl rfl (by kernel_rfl) Tryz.func3 (by kernel_rfl)
    (of_decide_eq_true (by kernel_rfl)) (by unfold Func.isWrapper; first | (rw [if_pos (by decide +kernel)]; kernel_rfl) | (rw [if_neg (by decide +kernel)]; exact ⟨rfl, rfl⟩))
    (fun os started H enc _ => liftedR os started H enc)
/-- The card. -/
theorem proved13 : Rows.FnStoryTextsCardSaid :=
  Claim7.holds_tied_plain_at .later [] [.data, .data, .data, .data, .pinned] true Rows.fnStoryTextsCard.stood.harness Rows.fnStoryTextsCard.stood.looks
    rowR (fun _ h => by cases h) (by kernel_rfl) (fun _ h => by cases h) fnStoryTexts_row_tie rfl ⟨rfl, rfl⟩ (by kernel_rfl) rfl
    (fun f fn hf hfn => by
      obtain rfl : f = 3 := Option.some.inj ((show Tryz.prog.funcNamed "loop.example/g00090/laws.FnStoryTexts" = some 3 by kernel_rfl).symm.trans hf) |>.symm
      obtain rfl : fn = Tryz.f3 := (Option.some.inj (Tryz.func3.symm.trans hfn)).symm
      refine ⟨by kernel_rfl, fun j t ht => ?_⟩
      rw [pP] at ht
      have := Array.mem_of_getElem? ht
      simp at this
      subst this
      exact (show Tryz.prog.wantsStandIn 22 = false by kernel_rfl))
    (by kernel_rfl)
end Go.Proofs.YtfmcncflooechaaGreatDoor

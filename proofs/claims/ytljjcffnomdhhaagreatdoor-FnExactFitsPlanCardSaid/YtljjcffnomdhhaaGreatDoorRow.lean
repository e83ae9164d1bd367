/- FnExactFitsPlanCardSaid: The program's FitsPlan returns what the reference's returns, for all arguments. No condition. -/
import Derived.Test.YtljjcffnomdhhaaGreatDoorC7
import Derived.Test.YtljjcffnomdhhaaGreatDoorRows
import Derived.Test.YtljjcffnomdhhaaGreatDoorCards
import Derived.Test.YtljjcffnomdhhaaGreatDoorTie
import Derived.SevenTiedAt
import Derived.Stop.LaidErr
import Derived.MakeChecks
import Derived.LaidMore
import Derived.Lay
set_option linter.unusedVariables false
set_option linter.unusedSimpArgs false
namespace Go.Proofs.YtljjcffnomdhhaaGreatDoor
open Go Go.Fw
open Go.ChangeShapes Go.WideShapes Go.ChangeAt Go.RowKit
theorem ty0 : TyOK PP (.sl tyPck) 22 := tyChk_ok _ _ (by kernel_rfl)
theorem u0 : PP.underlying 22 = some (.slice 67) := by kernel_rfl
theorem ty1 : TyOK PP tyDsk 25 := tyChk_ok _ _ (by kernel_rfl)
theorem u1 : isSt (PP.underlying 25) = true := by kernel_rfl
theorem ty2 : TyOK PP (.sl tyTrm) 45 := tyChk_ok _ _ (by kernel_rfl)
theorem u2 : PP.underlying 45 = some (.slice 89) := by kernel_rfl
theorem ty3 : TyOK PP (.sl (.sl (.int .i64))) 26 := tyChk_ok _ _ (by kernel_rfl)
theorem u3 : PP.underlying 26 = some (.slice 70) := by kernel_rfl
theorem own1 : ownKnob PP.godebug = none := by kernel_rfl
theorem uB : PP.underlying 4 = some .bool := by kernel_rfl
theorem pP : Tryz.f4.params = #[22, 25, 45, 26] := by kernel_rfl
theorem rP : Tryz.f4.resultTypes = #[4] := by kernel_rfl
set_option maxRecDepth 100000
theorem bAnd {a b : Bool} (h : a = true) (g : b = true) : (a && b) = true := by subst h; exact g
theorem jA : (Rows.fnExactFitsPlanRow.wf (OpenSpec.ofChange Rows.fnExactFitsPlanSpec) && laidOutB Tryz.pinned.checked.prog && mapsRowed Tryz.pinned.checked.prog && Tryz.f4.params.all (Tryz.pinned.checked.prog.readableRec ·) && namedTie Tryz.pinned.checked.prog Rows.fnExactFitsPlanRow.named Rows.fnExactFitsPlanSpec.vars && (Rows.fnExactFitsPlanRow.stops == []) && (Tryz.pinned.checked.prog.stops == []) && (Rows.fnExactFitsPlanRow.knobs == []) && (Tryz.pinned.checked.prog.stopKnobs == [])) = true := by kernel_rfl
theorem jB : (Rows.fnExactFitsPlanRow.inPlace == Tryz.pinned.checked.prog.inPlace 4) = true := by kernel_rfl
theorem jC : (Rows.fnExactFitsPlanRow.unfollowed == Tryz.pinned.checked.prog.unfollowed 4) = true := by kernel_rfl
theorem jD : (Rows.fnExactFitsPlanRow.recurses == Tryz.pinned.checked.prog.recurses 4) = true := by kernel_rfl
theorem jE : (Rows.fnExactFitsPlanRow.named == Tryz.pinned.checked.prog.varsNamed 4) = true := by kernel_rfl
theorem jZ : joinedFacts Tryz.pinned.checked.prog 4 Tryz.f4 Rows.fnExactFitsPlanSpec Rows.fnExactFitsPlanRow = true := by
  unfold joinedFacts
  refine bAnd (bAnd (bAnd (bAnd (bAnd (bAnd (bAnd (bAnd (bAnd (bAnd (bAnd (bAnd (bAnd (bAnd (bAnd (bAnd (bAnd (bAnd (bAnd (bAnd (bAnd (bAnd (bAnd jA jB) jC) jD) jE) ?_) ?_) ?_) ?_) ?_) ?_) ?_) ?_) ?_) ?_) ?_) ?_) ?_) ?_) ?_) ?_) ?_) ?_) ?_
  all_goals kernel_rfl
theorem goodR {W : World} (hL : laidMetH PP Rows.fnExactFitsPlanRow.laid W) : GoodG PP W (Old W) := ⟨fun _ h => h, fun g hg => by
  rw [MakeChecks.laidMetH_plain _ _ _ (by kernel_rfl)] at hL
  have h : laidMet PP ((tabName, Lib.tabData .u64 Lib.pow10Tab) :: Rows.fnExactFitsPlanRow.laid.drop 3) W := hL.tail.tail
  have ht : Lib.TabIs PP W tabName .u64 Lib.pow10Tab := Lib.tabIs_of_head (g := g) (t := 257) (e := 234) (n := 20) hg (by
    obtain rfl : g = 0 := Option.some.inj (hg.symm.trans (by kernel_rfl))
    kernel_rfl) (by kernel_rfl) (by kernel_rfl) (by kernel_rfl) (by kernel_rfl) h
  refine ⟨?_, ht⟩
  unfold Lib.TabIs World.var? at ht
  rw [hg] at ht
  show g < W.heap.size
  rcases Nat.lt_or_ge g W.heap.size with h' | h'
  · exact h'
  · simp [Array.getElem?_eq_none h'] at ht⟩


set_option maxRecDepth 100000 in
theorem contractR (H : Type) (enc : TypeId × Value → H) (W : World) (base : Nat) (args : Array Value) (ds gs : List (DataW H)) (before : List MemPlace)
    (hval : ∀ (j : Nat) t v, Tryz.f4.params[j]? = some t → args[j]? = some v → Value.okWide PP W .any base t v)
    (hL : laidMetH PP Rows.fnExactFitsPlanRow.laid W)
    (hW : DataW.Whole enc PP Tryz.f4.params.toList Rows.fnExactFitsPlanSpec.vars false W args.toList ds gs before) :
    Calls PP n_laws_FnExactFitsPlan args W fun e W' => ∃ v, e = .returned v ∧ Rows.fnExactFitsPlanSpec.post enc PP Tryz.f4 false true false false W args v W' := by
  have hW' := hW
  obtain ⟨p, q, hA, hV, rfl, hfz, hnd⟩ := hW
  rw [pP] at hA hval
  obtain ⟨v0, vs0, d0, ds0, p0, q0, hargs, rfl, rfl, h0, r0⟩ := trodAll_cons hA
  obtain ⟨v1, vs1, d1, ds1, p1, q1, rfl, rfl, rfl, h1, r1⟩ := trodAll_cons r0
  obtain ⟨v2, vs2, d2, ds2, p2, q2, rfl, rfl, rfl, h2, r2⟩ := trodAll_cons r1
  obtain ⟨v3, vs3, d3, ds3, p3, q3, rfl, rfl, rfl, h3, r3⟩ := trodAll_cons r2
  obtain ⟨rfl, rfl, rfl⟩ := trodAll_nil r3
  obtain rfl : args = #[v0, v1, v2, v3] := by cases args; simp_all
  obtain ⟨rfl, rfl⟩ := trodVars_none hV
  obtain ⟨n0, hn0⟩ := h0
  obtain ⟨n1, hn1⟩ := h1
  obtain ⟨n2, hn2⟩ := h2
  obtain ⟨n3, hn3⟩ := h3
  obtain ⟨xs0, hx0, hs0⟩ := trod_rel (fun _ => rfl) _ _ _ _ _ ty0 hn0
  obtain ⟨xs1, hx1, hs1⟩ := trod_rel (fun _ => rfl) _ _ _ _ _ ty1 hn1
  obtain ⟨xs2, hx2, hs2⟩ := trod_rel (fun _ => rfl) _ _ _ _ _ ty2 hn2
  obtain ⟨xs3, hx3, hs3⟩ := trod_rel (fun _ => rfl) _ _ _ _ _ ty3 hn3
  rw [slice_cells u0 (hval 0 22 v0 rfl rfl)] at hx0
  obtain ⟨c1, rfl, hc1⟩ := agg_cells u1 (hval 1 25 v1 rfl rfl)
  rw [hc1] at hx1
  rw [slice_cells u2 (hval 2 45 v2 rfl rfl)] at hx2
  rw [slice_cells u3 (hval 3 26 v3 rfl rfl)] at hx3
  obtain ⟨cs0, rfl, hm0, hf0⟩ := shp_PckS hs0
  obtain ⟨x1, rfl, hxm1, hxf1⟩ := shp_Dsk hs1
  obtain ⟨a2, rfl, ham2, hat2⟩ := shp_TrmS hs2
  obtain ⟨ss3, rfl, hsm3, hsf3⟩ := shp_setS hs3
  refine ((c_lawFitsPlan cs0 x1 a2 ss3 hm0 hf0 hxm1 hxf1 ham2 hat2 hsm3 hsf3).run W (Old W) [v0, .agg c1, v2, v3] (goodR hL) (hx0.append ((agg_one hx1).append (hx2.append hx3)))).mono ?_
  rintro e W' ⟨v, F, rfl, hb, _, _, hr⟩
  cases hr
  refine ⟨_, rfl, post_law rfl hW' ?_ rP uB rfl hb⟩
  rw [pP]
  intro t ht
  simp at ht
  rcases ht with rfl | rfl | rfl | rfl
  · exact ⟨_, ty0⟩
  · exact ⟨_, ty1⟩
  · exact ⟨_, ty2⟩
  · exact ⟨_, ty3⟩


set_option maxRecDepth 100000 in
theorem liftedR (os : Os) (started : os.Started) (H : Type) (enc : TypeId × Value → H) :
    ReturnsInHanded {} Tryz.checked os 4 .any (fun w args => (Rows.fnExactFitsPlanSpec.pre enc Tryz.prog Tryz.f4 Rows.fnExactFitsPlanRow.domain false w args ∧ laidMetH PP Rows.fnExactFitsPlanRow.laid w) ∧ sizedMet enc Tryz.prog Tryz.f4 (OpenSpec.ofChange Rows.fnExactFitsPlanSpec) false w args)
      (Rows.fnExactFitsPlanSpec.post enc Tryz.prog Tryz.f4 false true false false) := by
  refine returnsInHanded_of_change_and (C := Tryz.checked) (X := fun w _ => laidMetH PP Rows.fnExactFitsPlanRow.laid w) (fun _ _ _ hh h => h.of_heap hh) own1 started (by kernel_rfl) Tryz.func4
    (ChangeSpec.witness_shaped (enc := enc) (C := Tryz.checked) (os := os) (X := fun w _ => laidMetH PP Rows.fnExactFitsPlanRow.laid w) false (World.laidAll PP os Rows.fnExactFitsPlanRow.laid) #[.slice none 0 0, .agg #[.slice none 0 0, .int .i64 0, .int .i64 0, .int .i64 0, .bool false], .slice none 0 0, .slice none 0 0] 8 (World.laidAll_os _ _ _)
      (World.shaped_of_ZipB (by kernel_rfl) (by kernel_rfl)) (by kernel_rfl) (by kernel_rfl) (by kernel_rfl)
      (by rw [MakeChecks.laidMetH_plain _ _ _ (by kernel_rfl)]; exact laidMet_laidAll _ (by kernel_rfl) (by kernel_rfl))) ?_
  intro W base args ds gs before hval hW _ _ hL _
  exact contractR H enc W base args ds gs before hval hL hW
theorem rowR : Rows.FnExactFitsPlanSaid :=
  OpenClaim.holds_of_wide 4 Tryz.f4 rfl rfl rfl rfl rfl rfl rfl ⟨rfl, rfl, rfl, rfl, rfl⟩ rfl rfl rfl rfl rfl (by kernel_rfl) Tryz.func4 jZ
    (of_decide_eq_true (by kernel_rfl)) (by unfold Func.isWrapper; first | (rw [if_pos (by decide +kernel)]; kernel_rfl) | (rw [if_neg (by decide +kernel)]; exact ⟨rfl, rfl⟩))
    (fun os started H enc _ => liftedR os started H enc)
/-- The card. -/
theorem proved20 : Rows.FnExactFitsPlanCardSaid :=
  Claim7.holds_tied_plain_at .later [] [.data, .data, .data] true Rows.fnExactFitsPlanCard.stood.harness Rows.fnExactFitsPlanCard.stood.looks
    rowR (fun _ h => by cases h) (by kernel_rfl) (fun _ h => by cases h) fnExactFitsPlan_row_tie rfl ⟨rfl, rfl⟩ (by kernel_rfl) rfl
    (fun f fn hf hfn => by
      obtain rfl : f = 4 := Option.some.inj ((show Tryz.prog.funcNamed "loop.example/g00090/laws.FnExactFitsPlan" = some 4 by kernel_rfl).symm.trans hf) |>.symm
      obtain rfl : fn = Tryz.f4 := (Option.some.inj (Tryz.func4.symm.trans hfn)).symm
      refine ⟨by kernel_rfl, fun j t ht => ?_⟩
      rw [pP] at ht
      have := Array.mem_of_getElem? ht
      simp at this
      rcases this with rfl | rfl | rfl | rfl
      · exact (show Tryz.prog.wantsStandIn 22 = false by kernel_rfl)
      · exact (show Tryz.prog.wantsStandIn 25 = false by kernel_rfl)
      · exact (show Tryz.prog.wantsStandIn 45 = false by kernel_rfl)
      · exact (show Tryz.prog.wantsStandIn 26 = false by kernel_rfl))
    (by kernel_rfl)
end Go.Proofs.YtljjcffnomdhhaaGreatDoor

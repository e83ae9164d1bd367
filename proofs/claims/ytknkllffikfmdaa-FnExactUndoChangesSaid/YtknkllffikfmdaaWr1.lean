/- FnExactUndoChangesSaid: the program's UndoChanges returns what the reference's returns, for all arguments. No condition. -/
import Derived.Test.YtknkllffikfmdaaWl1
import Derived.Test.YtknkllffikfmdaaFwS
import Derived.Test.YtknkllffikfmdaaRows
set_option linter.unusedVariables false
set_option linter.unusedSimpArgs false
namespace Go.Proofs.Ytknkllffikfmdaa
open Go Go.Fw
open Go.ChangeShapes Go.WideShapes Go.ChangeAt Go.RowKit
def tyVer : Ty := .st [.int .i64, .int .i64, .int .i64]
def tyChg : Ty := .st [.int .i64, .str, tyVer, tyVer]
theorem shp_i64 {xs : List A} (h : Shp (.int .i64) xs) : ∃ x, xs = [i64 x] := by cases h; exact ⟨_, rfl⟩
theorem shp_str {xs : List A} (h : Shp .str xs) : ∃ x, xs = [str x] := by cases h; exact ⟨_, rfl⟩
theorem shp_Ver {xs : List A} (h : Shp tyVer xs) : ∃ v : Ver, xs = v.cells := by
  cases h with | st h =>
  cases h with | cons h1 h =>
  cases h with | cons h2 h =>
  cases h with | cons h3 h =>
  cases h
  obtain ⟨a, rfl⟩ := shp_i64 h1
  obtain ⟨b, rfl⟩ := shp_i64 h2
  obtain ⟨c, rfl⟩ := shp_i64 h3
  exact ⟨⟨a, b, c⟩, rfl⟩
theorem shp_Chg {xs : List A} (h : Shp tyChg xs) : ∃ v : Chg, xs = v.cells := by
  cases h with | st h =>
  cases h with | cons h1 h =>
  cases h with | cons h2 h =>
  cases h with | cons h3 h =>
  cases h with | cons h4 h =>
  cases h
  obtain ⟨k, rfl⟩ := shp_i64 h1
  obtain ⟨n, rfl⟩ := shp_str h2
  obtain ⟨o, rfl⟩ := shp_Ver h3
  obtain ⟨w, rfl⟩ := shp_Ver h4
  exact ⟨⟨k, n, o, w⟩, rfl⟩
theorem maps_of {α : Type} {f : α → A} : ∀ {ys : List A}, (∀ y ∈ ys, ∃ c, y = f c) → ∃ cs : List α, ys = cs.map f
  | [], _ => ⟨[], rfl⟩
  | y :: ys, h => by
    obtain ⟨c, rfl⟩ := h y (by simp)
    obtain ⟨cs, rfl⟩ := maps_of (ys := ys) fun z hz => h z (by simp [hz])
    exact ⟨c :: cs, rfl⟩
theorem shp_ChgS {xs : List A} (h : Shp (.sl tyChg) xs) : ∃ cs : List Chg, xs = [.sl false 8 (cs.map Chg.enc)] ∧ cs.length ≤ Go.maxLen := by
  cases h with | sl h1 h2 hl =>
  rename_i ys
  obtain ⟨cs, rfl⟩ := maps_of (f := Chg.enc) (ys := ys) fun y hy => by
    obtain ⟨v, hv⟩ := shp_Chg (h1 y hy)
    exact ⟨v, by rw [h2 y hy, hv]; rfl⟩
  exact ⟨cs, rfl, by simpa using hl⟩
theorem ty_ChgS : TyOK PP (.sl tyChg) 22 := tyChk_ok _ _ (by kernel_rfl)
theorem own1 : ownKnob PP.godebug = none := by kernel_rfl
theorem p3 : Try.f3.params = #[22] := by kernel_rfl
theorem r3 : Try.f3.resultTypes = #[4] := by kernel_rfl
theorem u4 : PP.underlying 4 = some .bool := by kernel_rfl
theorem u22 : PP.underlying 22 = some (.slice 55) := by kernel_rfl
set_option maxRecDepth 100000 in
theorem contract1 (H : Type) (enc : TypeId × Value → H) (W : World) (base : Nat) (args : Array Value) (ds gs : List (DataW H)) (before : List MemPlace)
    (hval : ∀ (j : Nat) t v, Try.f3.params[j]? = some t → args[j]? = some v → Value.okWide PP W .any base t v)
    (hW : DataW.Whole enc PP Try.f3.params.toList Rows.fnExactUndoChangesSpec.vars false W args.toList ds gs before) :
    Calls PP n_laws_FnExactUndoChanges args W fun e W' => ∃ v, e = .returned v ∧ Rows.fnExactUndoChangesSpec.post enc PP Try.f3 false true false false W args v W' := by
  have hW' := hW
  obtain ⟨p, q, hA, hV, rfl, hfz, hnd⟩ := hW
  rw [p3] at hA hval
  obtain ⟨v0, vs0, d0, ds0, p0, q0, hargs, rfl, rfl, h0, r0⟩ := trodAll_cons hA
  obtain ⟨rfl, rfl, rfl⟩ := trodAll_nil r0
  obtain rfl : args = #[v0] := by cases args; simp_all
  obtain ⟨rfl, rfl⟩ := trodVars_none hV
  obtain ⟨n, hn⟩ := h0
  obtain ⟨xs, hx1, hx2⟩ := trod_rel (fun _ => rfl) _ _ _ _ _ ty_ChgS hn
  rw [slice_cells u22 (hval 0 22 v0 rfl rfl)] at hx1
  obtain ⟨cs, rfl, hm⟩ := shp_ChgS hx2
  refine ((c_law cs hm).run W (Old W) [v0] (fun b h => h) hx1).mono ?_
  rintro e W' ⟨v, F, rfl, hb, _, _, hr⟩
  cases hr
  exact ⟨_, rfl, post_law rfl hW' (by rw [p3]; intro t ht; simp at ht; subst ht; exact ⟨_, ty_ChgS⟩) r3 u4 rfl hb⟩
set_option maxRecDepth 100000 in
theorem lifted1 (os : Os) (started : os.Started) (H : Type) (enc : TypeId × Value → H) :
    ReturnsInHanded {} Try.checked os 3 .any (Rows.fnExactUndoChangesSpec.pre6 enc Try.prog Try.f3 Rows.fnExactUndoChangesRow.domain false) (Rows.fnExactUndoChangesSpec.post enc Try.prog Try.f3 false true false false) := by
  refine returnsInHanded_of_change (C := Try.checked) own1 started (by kernel_rfl) Try.func3
    (ChangeSpec.witness6 (enc := enc) (C := Try.checked) false ⟨#[], #[.slice none 0 0], []⟩ 8 (by kernel_rfl) (by kernel_rfl) (by kernel_rfl) (by kernel_rfl)) ?_
  intro W base args ds gs before hval hW _ _
  exact contract1 H enc W base args ds gs before hval hW
theorem proved1 : Rows.FnExactUndoChangesSaid :=
  OpenClaim.holds_of_wide 3 Try.f3 rfl rfl rfl rfl rfl rfl rfl ⟨rfl, rfl, rfl, rfl, rfl⟩ rfl rfl rfl rfl rfl (by kernel_rfl) Try.func3 (by kernel_rfl)
    (of_decide_eq_true (by kernel_rfl)) (by unfold Func.isWrapper; first | (rw [if_pos (by decide +kernel)]; kernel_rfl) | (rw [if_neg (by decide +kernel)]; exact ⟨rfl, rfl⟩))
    (fun os started H enc _ => lifted1 os started H enc)
end Go.Proofs.Ytknkllffikfmdaa

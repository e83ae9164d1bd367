/- FnExactBarredBySaid: the program's BarredBy returns what the reference's returns, for all arguments. No condition. -/
import Derived.Test.YtdngjnjapihbkaaWl2
import Derived.Test.YtdngjnjapihbkaaFwS
import Derived.Test.YtdngjnjapihbkaaRows
set_option linter.unusedVariables false
set_option linter.unusedSimpArgs false
namespace Go.Proofs.Ytdngjnjapihbkaa
open Go Go.Fw
open Go.ChangeShapes Go.WideShapes Go.ChangeAt Go.RowKit
def tyVer : Ty := .st [.int .i64, .int .i64, .int .i64]
def tyTrm : Ty := .st [.str, tyVer, tyVer]
def tyPck : Ty := .st [.str, tyVer, .int .i64, .sl .str, .sl (.sl tyTrm), .sl tyTrm]
theorem shp_i64 {xs : List A} (h : Shp (.int .i64) xs) : ∃ x, xs = [i64 x] := by cases h; exact ⟨_, rfl⟩
theorem shp_str {xs : List A} (h : Shp .str xs) : ∃ x, xs = [str x] ∧ x.length ≤ Go.maxLen := by cases h; exact ⟨_, rfl, by assumption⟩
theorem shp_Ver {xs : List A} (h : Shp tyVer xs) : ∃ v : Ver, xs = v.cells := by
  cases h with | st h =>
  cases h with | cons h1 h =>
  cases h with | cons h2 h =>
  cases h with | cons h3 h =>
  cases h
  obtain ⟨a, rfl⟩ := shp_i64 h1
  obtain ⟨b, rfl⟩ := shp_i64 h2
  obtain ⟨c, rfl⟩ := shp_i64 h3
  exact ⟨⟨a, b, c⟩, rfl⟩
theorem shp_Trm {xs : List A} (h : Shp tyTrm xs) : ∃ v : Trm, xs = v.cells ∧ v.n.length ≤ Go.maxLen := by
  cases h with | st h =>
  cases h with | cons h1 h =>
  cases h with | cons h2 h =>
  cases h with | cons h3 h =>
  cases h
  obtain ⟨n, rfl, hn⟩ := shp_str h1
  obtain ⟨o, rfl⟩ := shp_Ver h2
  obtain ⟨w, rfl⟩ := shp_Ver h3
  exact ⟨⟨n, o, w⟩, rfl, hn⟩
theorem maps_of {α : Type} {f : α → A} {p : α → Prop} : ∀ {ys : List A}, (∀ y ∈ ys, ∃ c, y = f c ∧ p c) → ∃ cs : List α, ys = cs.map f ∧ ∀ c ∈ cs, p c
  | [], _ => ⟨[], rfl, by simp⟩
  | y :: ys, h => by
    obtain ⟨c, rfl, hc⟩ := h y (by simp)
    obtain ⟨cs, rfl, hcs⟩ := maps_of (ys := ys) fun z hz => h z (by simp [hz])
    exact ⟨c :: cs, rfl, fun z hz => by exact (List.mem_cons.1 hz).elim (fun e => e ▸ hc) (hcs z)⟩
theorem shp_sl {e : Ty} {xs : List A} (h : Shp (.sl e) xs) {α : Type} {f : α → A} {p : α → Prop} (hf : ∀ y, Shp e y.cells → y = e.elem y.cells → ∃ c, y = f c ∧ p c) : ∃ cs : List α, xs = [.sl false e.n (cs.map f)] ∧ cs.length ≤ Go.maxLen ∧ ∀ c ∈ cs, p c := by
  cases h with | sl h1 h2 hl =>
  rename_i ys
  obtain ⟨cs, rfl, hp⟩ := maps_of (f := f) (p := p) (ys := ys) fun y hy => hf y (h1 y hy) (h2 y hy)
  exact ⟨cs, rfl, by simpa using hl, hp⟩
theorem shp_strS {xs : List A} (h : Shp (.sl .str) xs) : ∃ cs : List (List UInt8), xs = [.sl false 1 (cs.map str)] ∧ cs.length ≤ Go.maxLen ∧ ∀ c ∈ cs, c.length ≤ Go.maxLen :=
  shp_sl h fun y h1 h2 => by
    obtain ⟨v, hv, hp⟩ := shp_str h1
    exact ⟨v, by rw [h2, hv]; rfl, hp⟩
theorem shp_TrmS {xs : List A} (h : Shp (.sl tyTrm) xs) : ∃ cs : List Trm, xs = [.sl false 7 (cs.map Trm.enc)] ∧ cs.length ≤ Go.maxLen ∧ ∀ c ∈ cs, c.n.length ≤ Go.maxLen :=
  shp_sl h fun y h1 h2 => by
    obtain ⟨v, hv, hp⟩ := shp_Trm h1
    exact ⟨v, by rw [h2, hv]; rfl, hp⟩
theorem shp_TrmSS {xs : List A} (h : Shp (.sl (.sl tyTrm)) xs) : ∃ cs : List (List Trm), xs = [.sl false 1 (cs.map (encTs false))] ∧ cs.length ≤ Go.maxLen ∧ ∀ c ∈ cs, c.length ≤ Go.maxLen ∧ ∀ t ∈ c, t.n.length ≤ Go.maxLen :=
  shp_sl h fun y h1 h2 => by
    obtain ⟨v, hv, hp⟩ := shp_TrmS h1
    exact ⟨v, by rw [h2, hv]; rfl, hp⟩
theorem shp_i64S {xs : List A} (h : Shp (.sl (.int .i64)) xs) : ∃ cs : List Int, xs = [.sl false 1 (cs.map i64)] ∧ cs.length ≤ Go.maxLen := by
  obtain ⟨cs, h1, h2, _⟩ := shp_sl (f := i64) (p := fun _ => True) h fun y h1 h2 => by
    obtain ⟨v, hv⟩ := shp_i64 h1
    exact ⟨v, by rw [h2, hv]; rfl, trivial⟩
  exact ⟨cs, h1, h2⟩
theorem shp_Pck {xs : List A} (h : Shp tyPck xs) : ∃ v : Pck, xs = v.cells false ∧ v.Fit := by
  cases h with | st h =>
  cases h with | cons h1 h =>
  cases h with | cons h2 h =>
  cases h with | cons h3 h =>
  cases h with | cons h4 h =>
  cases h with | cons h5 h =>
  cases h with | cons h6 h =>
  cases h
  obtain ⟨n, rfl, hn⟩ := shp_str h1
  obtain ⟨v, rfl⟩ := shp_Ver h2
  obtain ⟨s, rfl⟩ := shp_i64 h3
  obtain ⟨p, rfl, hp⟩ := shp_strS h4
  obtain ⟨d, rfl, hd⟩ := shp_TrmSS h5
  obtain ⟨b, rfl, hb⟩ := shp_TrmS h6
  exact ⟨⟨n, v, s, p, d, b⟩, rfl, ⟨hn, hp, hd, hb⟩⟩
theorem shp_PckS {xs : List A} (h : Shp (.sl tyPck) xs) : ∃ cs : List Pck, xs = [.sl false 8 (cs.map (Pck.enc false))] ∧ cs.length ≤ Go.maxLen ∧ ∀ c ∈ cs, c.Fit :=
  shp_sl h fun y h1 h2 => by
    obtain ⟨v, hv, hp⟩ := shp_Pck h1
    exact ⟨v, by rw [h2, hv]; rfl, hp⟩
theorem ty_PckS : TyOK PP (.sl tyPck) 40 := tyChk_ok _ _ (by kernel_rfl)
theorem ty_i64S : TyOK PP (.sl (.int .i64)) 33 := tyChk_ok _ _ (by kernel_rfl)
theorem ty_i64 : TyOK PP (.int .i64) 2 := tyChk_ok _ _ (by kernel_rfl)
theorem own1 : ownKnob PP.godebug = none := by kernel_rfl
theorem u4 : PP.underlying 4 = some .bool := by kernel_rfl
theorem uP : PP.underlying 40 = some (.slice 76) := by kernel_rfl
theorem uI : PP.underlying 33 = some (.slice 2) := by kernel_rfl
theorem u2 : PP.underlying 2 = some (.int .i64) := by kernel_rfl
theorem int_cells {P : Program} {W : World} {base : Nat} {t : TypeId} {k : IntKind} {v : Value} (hu : P.underlying t = some (.int k)) (h : Value.okWide P W .any base t v) : v.cells.toList = [v] := by
  unfold Value.okWide at h
  rw [hu] at h
  simp only at h
  unfold Cell.okWide at h
  rw [hu] at h
  cases v <;> first | rfl | (simp [Cell.ok, hu] at h)
theorem p5 : Try.f5.params = #[40, 33, 2] := by kernel_rfl
theorem r5 : Try.f5.resultTypes = #[4] := by kernel_rfl
set_option maxRecDepth 100000 in
theorem contract5 (H : Type) (enc : TypeId × Value → H) (W : World) (base : Nat) (args : Array Value) (ds gs : List (DataW H)) (before : List MemPlace)
    (hval : ∀ (j : Nat) t v, Try.f5.params[j]? = some t → args[j]? = some v → Value.okWide PP W .any base t v)
    (hW : DataW.Whole enc PP Try.f5.params.toList Rows.fnExactBarredBySpec.vars false W args.toList ds gs before) :
    Calls PP n_laws_FnExactBarredBy args W fun e W' => ∃ v, e = .returned v ∧ Rows.fnExactBarredBySpec.post enc PP Try.f5 false true false false W args v W' := by
  have hW' := hW
  obtain ⟨p, q, hA, hV, rfl, hfz, hnd⟩ := hW
  rw [p5] at hA hval
  obtain ⟨v0, vs0, d0, ds0, p0, q0, hargs, rfl, rfl, h0, r0⟩ := trodAll_cons hA
  obtain ⟨v1, vs1, d1, ds1, p1, q1, rfl, rfl, rfl, h1, r1⟩ := trodAll_cons r0
  obtain ⟨v2, vs2, d2, ds2, p2, q2, rfl, rfl, rfl, h2, r2⟩ := trodAll_cons r1
  obtain ⟨rfl, rfl, rfl⟩ := trodAll_nil r2
  obtain rfl : args = #[v0, v1, v2] := by cases args; simp_all
  obtain ⟨rfl, rfl⟩ := trodVars_none hV
  obtain ⟨n0, hn0⟩ := h0
  obtain ⟨n1, hn1⟩ := h1
  obtain ⟨n2, hn2⟩ := h2
  obtain ⟨xs0, hx0, hs0⟩ := trod_rel (fun _ => rfl) _ _ _ _ _ ty_PckS hn0
  obtain ⟨xs1, hx1, hs1⟩ := trod_rel (fun _ => rfl) _ _ _ _ _ ty_i64S hn1
  obtain ⟨xs2, hx2, hs2⟩ := trod_rel (fun _ => rfl) _ _ _ _ _ ty_i64 hn2
  rw [slice_cells uP (hval 0 40 v0 rfl rfl)] at hx0
  rw [slice_cells uI (hval 1 33 v1 rfl rfl)] at hx1
  rw [int_cells u2 (hval 2 2 v2 rfl rfl)] at hx2
  obtain ⟨cs, rfl, hm, hf⟩ := shp_PckS hs0
  obtain ⟨s, rfl, hsm⟩ := shp_i64S hs1
  obtain ⟨t, rfl⟩ := shp_i64 hs2
  refine ((c_lawBarredBy cs s t hm hf hsm).run W (Old W) [v0, v1, v2] (fun b h => h) (hx0.append (hx1.append hx2))).mono ?_
  rintro e W' ⟨v, F, rfl, hb, _, _, hr⟩
  cases hr
  refine ⟨_, rfl, post_law rfl hW' ?_ r5 u4 rfl hb⟩
  rw [p5]
  intro t ht
  simp at ht
  rcases ht with rfl | rfl | rfl
  · exact ⟨_, ty_PckS⟩
  · exact ⟨_, ty_i64S⟩
  · exact ⟨_, ty_i64⟩
set_option maxRecDepth 100000 in
theorem lifted5 (os : Os) (started : os.Started) (H : Type) (enc : TypeId × Value → H) :
    ReturnsInHanded {} Try.checked os 5 .any (Rows.fnExactBarredBySpec.pre6 enc Try.prog Try.f5 Rows.fnExactBarredByRow.domain false) (Rows.fnExactBarredBySpec.post enc Try.prog Try.f5 false true false false) := by
  refine returnsInHanded_of_change (C := Try.checked) own1 started (by kernel_rfl) Try.func5
    (ChangeSpec.witness6 (enc := enc) (C := Try.checked) false ⟨#[], #[.slice none 0 0, .slice none 0 0, .int .i64 0], []⟩ 8 (by kernel_rfl) (by kernel_rfl) (by kernel_rfl) (by kernel_rfl)) ?_
  intro W base args ds gs before hval hW _ _
  exact contract5 H enc W base args ds gs before hval hW
theorem proved5 : Rows.FnExactBarredBySaid :=
  OpenClaim.holds_of_wide 5 Try.f5 rfl rfl rfl rfl rfl rfl rfl ⟨rfl, rfl, rfl, rfl, rfl⟩ rfl rfl rfl rfl rfl (by kernel_rfl) Try.func5 (by kernel_rfl)
    (of_decide_eq_true (by kernel_rfl)) (by unfold Func.isWrapper; first | (rw [if_pos (by decide +kernel)]; kernel_rfl) | (rw [if_neg (by decide +kernel)]; exact ⟨rfl, rfl⟩))
    (fun os started H enc _ => lifted5 os started H enc)
end Go.Proofs.Ytdngjnjapihbkaa

/- The law of UndoChanges, walked. Plain theorems. -/
import Derived.Test.YtknkllffikfmdaaWc5
set_option linter.unusedVariables false
set_option linter.unusedSimpArgs false
namespace Go.Proofs.Ytknkllffikfmdaa
open Go Go.Fw
set_option maxRecDepth 100000
theorem roVw {S : State} {k r len n : Nat} {ys : List A} (hr : Fw.rowAt S.rows r = some ⟨n, ys, false⟩) (hl : len = ys.length) (hf : ys.map frz = ys) : roO S (k + 1) (.vw r 0 len) = some (.sl false n ys) := by
  simp only [roO, hr]
  rw [hl, List.drop_zero, List.take_length, hf]
  rfl
theorem mutVw {S : State} {r len n : Nat} {ys zs : List A} (hr : Fw.rowAt S.rows r = some ⟨n, ys, false⟩) (hl : len = ys.length) (hl' : zs.length = ys.length) : Mut S (.vw r 0 len) (.sl true n ys) (.sl true n zs) [(r, zs)] := .row hr rfl hl hl'
theorem mapO1 {f : A → Option A} {x x' : A} (h : f x = some x') : mapO f [x] = some [x'] := by simp [mapO, h]
theorem mapO2 {f : A → Option A} {x x' y y' : A} (h : f x = some x') (h2 : f y = some y') : mapO f [x, y] = some [x', y'] := by simp [mapO, h, h2]
theorem frz_Chg (cs : List Chg) : (cs.map Chg.enc).map frz = cs.map Chg.enc := by
  rw [List.map_map]; exact List.map_congr_left fun c _ => rfl
theorem roF_Chg (cs : List Chg) : roFree (.sl true 8 (cs.map Chg.enc)) = true := by
  rw [roFree_sl, Bool.true_and, List.all_eq_true]
  intro x hx
  obtain ⟨c, _, rfl⟩ := List.mem_map.1 hx
  rfl
theorem szS_len {α : Type} {f : α → Int → Int} {cs : List α} {l : Int} (h : 0 ≤ szS f cs l) : (cs.length : Int) ≤ l := by
  unfold szS at h
  split at h
  · omega
  · omega
theorem c_law (cs : List Chg) (hm : cs.length ≤ maxLen) : PCtr PP n_laws_FnExactUndoChanges [.sl false 8 (cs.map Chg.enc)] (boo true) := by
  obtain ⟨Ω, hΩ⟩ : ∃ Ω, Ω = std := ⟨_, rfl⟩
  obtain ⟨xs, hxs⟩ : ∃ xs, xs = cs.map Chg.enc := ⟨_, rfl⟩
  obtain ⟨us, hus⟩ : ∃ us, us = (undo cs).map Chg.enc := ⟨_, rfl⟩
  have hxl : xs.length = cs.length := by rw [hxs, List.length_map]
  have hul : us.length = cs.length := by rw [hus, List.length_map, undo_length]
  have hxf : xs.map frz = xs := by rw [hxs]; exact frz_Chg cs
  have huf : us.map frz = us := by rw [hus]; exact frz_Chg _
  have rx : roFree (.sl true 8 xs) = true := by rw [hxs]; exact roF_Chg cs
  have ru : roFree (.sl true 8 us) = true := by rw [hus]; exact roF_Chg _
  have h1 := c_szChangeS cs 1048576 (by omega) (by omega) hm
  obtain ⟨l, hl, hl2⟩ : ∃ l, szS (fun (c : Chg) => szStr c.n) cs 1048576 = l ∧ (0 ≤ l → cs.length ≤ 1048576) := ⟨_, rfl, fun h => by have := szS_len h; omega⟩
  rw [hl, ← hxs] at h1
  rw [← hxs]
  refine PCtr.walk tab hΩ fn_laws_FnExactUndoChanges rfl ?_
  have htab := tab
  have h2 := fun hb => c_toChangeS cs hb
  have h3 := fun hb => c_specUndo cs hb
  have h4 := fun hb => c_implUndo cs hb
  have h5 := c_eqChangeS cs
  have h6 := c_eqChangeS (undo cs)
  obtain ⟨n, hn⟩ : ∃ n, n = cs.length := ⟨_, rfl⟩
  obtain ⟨ms, hms⟩ : ∃ ms, ms = (marksC 1 n).map Chg.enc := ⟨_, rfl⟩
  obtain ⟨m1, hm1⟩ : ∃ m1, m1 = (1 : Int) + 8 * n := ⟨_, rfl⟩
  have hm0 : 0 ≤ m1 := by omega
  have hml : ms.length = n := by rw [hms, List.length_map, marksC_length]
  have hmf : ms.map frz = ms := by rw [hms]; exact frz_Chg _
  have h7 := fun hb => c_markChangeS cs 1 (by omega) (by omega) hb
  have h8 := fun hb => c_markChangeS (undo cs) 1 (by omega) (by omega) hb
  have h9 := fun hb => c_heldChangeS n 1 (by omega) (by omega) hb
  rw [undo_length] at h8
  rw [← hxs, ← hn, ← hms, ← hm1] at h7
  rw [← hus, ← hn, ← hms, ← hm1] at h8
  rw [← hms, ← hm1] at h9
  rw [← hxs] at h2 h3 h4 h5
  rw [← hus] at h3 h4 h6
  generalize PP = P at *
  cbv
  refine call_pure hΩ 3 h1 rfl (fits _) rfl rfl ?_
  cbv
  refine br (fun h => ?_) (fun h => ?_)
  · cbv
    exact .same
  have hb := hl2 (ltI_f hΩ h)
  replace h2 := h2 hb
  replace h3 := h3 hb
  replace h4 := h4 hb
  replace h5 := h5 (by omega)
  replace h6 := h6 (by rw [undo_length]; omega)
  replace h7 := h7 (by omega)
  replace h8 := h8 (by omega)
  replace h9 := h9 (by omega)
  have lm : Ω.len us = ms.length := by subst hΩ; show us.length = _; omega
  have lx : Ω.len xs = xs.length := by subst hΩ; rfl
  have lu : Ω.len us = us.length := by subst hΩ; rfl
  cbv
  refine call_pure hΩ 3 h2 rfl (fits _) rx rfl ?_
  cbv
  refine call_pure hΩ 3 h3 (mapO1 (roVw rfl lx hxf)) (fits _) ru rfl ?_
  cbv
  refine call_pure hΩ 3 h2 rfl (fits _) rx rfl ?_
  cbv
  refine call_pure hΩ 3 h4 (mapO1 (roVw rfl lx hxf)) (fits _) ru rfl ?_
  cbv
  refine call_pure hΩ 3 h6 (mapO2 (roVw rfl lu huf) (roVw rfl lu huf)) (fits _) rfl rfl ?_
  cbv
  refine br (fun h => (notT hΩ h).elim) (fun h => ?_)
  cbv
  refine call_pure hΩ 3 h2 rfl (fits _) rx rfl ?_
  cbv
  refine call_pure hΩ 3 h5 (mapO2 (roVw rfl lx hxf) (roVw rfl lx hxf)) (fits _) rfl rfl ?_
  cbv
  refine br (fun h => (notT hΩ h).elim) (fun h => ?_)
  cbv
  refine call_mut hΩ 3 (l := [(2, ms)] ++ ([] ++ [])) h7 (.cons (mutVw rfl lx (hml.trans (hn.trans hxl.symm))) (.cons (.data rfl rfl) .nil)) (by simp) rfl ?_
  cbv
  refine br (fun h => absurd (ltI_t hΩ h) (Int.not_lt.2 hm0)) (fun h => ?_)
  cbv
  refine call_pure hΩ 3 h6 (mapO2 (roVw rfl lu huf) (roVw rfl lu huf)) (fits _) rfl rfl ?_
  cbv
  refine br (fun h => ?_) (fun h => ?_)
  · exfalso
    subst hΩ
    exact absurd (show (!true) = true from h) (by decide)
  cbv
  refine call_mut hΩ 3 (l := [(3, ms)] ++ ([] ++ [])) h8 (.cons (mutVw rfl lu (hml.trans (hn.trans hul.symm))) (.cons (.data rfl rfl) .nil)) (by simp) rfl ?_
  cbv
  refine call_pure hΩ 3 h9 (mapO2 (roVw rfl lm hmf) rfl) (fits _) rfl rfl ?_
  cbv
  refine br (fun h => absurd (ltI_t hΩ h) (Int.not_lt.2 hm0)) (fun h => ?_)
  cbv
  refine br (fun h => (ne_self hΩ h).elim) (fun h => ?_)
  cbv
  refine call_pure hΩ 3 h2 rfl (fits _) rx rfl ?_
  cbv
  refine call_pure hΩ 3 h4 (mapO1 (roVw rfl lx hxf)) (fits _) ru rfl ?_
  cbv
  refine call_pure hΩ 3 h6 (mapO2 (roVw rfl lu huf) (roVw rfl lu huf)) (fits _) rfl rfl ?_
  cbv
  refine br (fun h => (notT hΩ h).elim) (fun h => ?_)
  cbv
  refine call_pure hΩ 3 h9 (mapO2 (roVw rfl lm hmf) rfl) (fits _) rfl rfl ?_
  cbv
  refine br (fun h => absurd (ltI_t hΩ h) (Int.not_lt.2 hm0)) (fun h => ?_)
  cbv
  refine br (fun h => (ne_self hΩ h).elim) (fun h => ?_)
  cbv
  exact .same
end Go.Proofs.Ytknkllffikfmdaa

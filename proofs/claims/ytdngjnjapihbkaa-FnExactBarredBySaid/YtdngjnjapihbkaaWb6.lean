/- Walks: what a package gives. Plain theorems. -/
import Derived.Test.YtdngjnjapihbkaaWb5
set_option linter.unusedVariables false
set_option linter.unusedSimpArgs false
namespace Go.Proofs.Ytdngjnjapihbkaa
open Go Go.Fw
set_option maxRecDepth 100000
theorem roV {S : State} {k r len n : Nat} {ys : List A} (hr : Fw.rowAt S.rows r = some ⟨n, ys, false⟩) (hl : len = ys.length) (hf : ys.map frz = ys) : roO S (k + 1) (.vw r 0 len) = some (.sl false n ys) := by
  simp only [roO, hr]
  rw [hl, List.drop_zero, List.take_length, hf]
  rfl
theorem frzStr (l : List (List UInt8)) : (l.map str).map frz = l.map str := by
  rw [List.map_map]; exact List.map_congr_left fun c _ => rfl
theorem roFStr (l : List (List UInt8)) : roFree (strs l) = true := by
  unfold strs
  rw [roFree_sl, Bool.true_and, List.all_eq_true]
  intro x hx
  obtain ⟨c, _, rfl⟩ := List.mem_map.1 hx
  rfl
theorem names_any (o : Pck) (t : Trm) : (o.n :: o.p).any (fun s => hasB t s o.v) = givesB o t := by
  unfold givesB hasB
  rw [List.any_cons, show (t.n == t.n) = true by simp, Bool.true_and]
  generalize (decide (cmpV t.l o.v ≤ 0) && decide (cmpV o.v t.h < 0)) = X
  cases X
  · simp
  · simp only [Bool.and_true]
    congr 2
    funext s
    exact beqSymm _ _
theorem c_gives1 (o : Pck) (t : Trm) (s : List UInt8) {ps ds bs : List A} : PCtr PP n_impl_Pack_gives_1 [str s, .rp t.cells, .rp [str o.n, i64 o.v.a, i64 o.v.b, i64 o.v.c, i64 o.s, .sl false 1 ps, .sl false 1 ds, .sl false 7 bs]] (boo (hasB t s o.v)) := by
  obtain ⟨Ω, hΩ⟩ : ∃ Ω, Ω = std := ⟨_, rfl⟩
  have hc := c_has t s o.v
  generalize hasB t s o.v = r at *
  have htab := tab
  refine PCtr.walk tab hΩ fn_impl_Pack_gives_1 rfl ?_
  generalize PP = P at *
  cbv
  refine call_pure hΩ 3 hc rfl (fits _) rfl rfl ?_
  cbv
  exact .same
theorem c_gives (o : Pck) (t : Trm) (hl : o.p.length ≤ 1048576) : PCtr PP n_impl_Pack_gives [o.enc false, t.enc] (boo (givesB o t)) := by
  obtain ⟨Ω, hΩ⟩ : ∃ Ω, Ω = std := ⟨_, rfl⟩
  obtain ⟨r, hr⟩ : ∃ r, r = givesB o t := ⟨_, rfl⟩
  rw [← hr]
  obtain ⟨ps, ds, bs, hen, hps, hds, hbs⟩ := enc_raw o
  rw [hen]
  have hn := c_names o hl
  have hcf : PCtr PP n_slices_ContainsFunc_L_string_string [.sl false 1 ((o.n :: o.p).map str), .clo n_impl_Pack_gives_1 [.rp t.cells, .rp [str o.n, i64 o.v.a, i64 o.v.b, i64 o.v.c, i64 o.s, .sl false 1 ps, .sl false 1 ds, .sl false 7 bs]]] (boo r) := by
    rw [hr, ← names_any]
    exact c_ContainsFuncS _ (by simp; omega) _ _ _ ⟨fun S k => rfl, rfl, fun _ => rfl, fun s _ => c_gives1 o t s⟩
  have hrf := roFStr (o.n :: o.p)
  have hzf := frzStr (o.n :: o.p)
  rw [hen] at hn
  unfold strs at hn hrf
  generalize (o.n :: o.p).map str = zs at *
  have htab := tab
  have hmo := hmo
  have hve := verEq
  refine PCtr.walk tab hΩ fn_impl_Pack_gives rfl ?_
  generalize PP = P at *
  cbv
  refine call_pure hΩ 3 hn rfl (fits _) hrf rfl ?_
  cbv
  refine call_pure hΩ 5 hcf (ro_clo2 (roV rfl (by subst hΩ; rfl) hzf) rfl) (fits _) rfl rfl ?_
  cbv
  exact .same
theorem c_givesOne (o : Pck) (l : List Trm) (ho : o.p.length ≤ 1048576) (hl : l.length ≤ 1048576) : PCtr PP n_impl_Pack_givesOne [o.enc false, .sl false 7 (l.map Trm.enc)] (boo (l.any (givesB o))) := by
  obtain ⟨Ω, hΩ⟩ : ∃ Ω, Ω = std := ⟨_, rfl⟩
  obtain ⟨r, hr⟩ : ∃ r, r = l.any (givesB o) := ⟨_, rfl⟩
  rw [← hr]
  obtain ⟨ps, ds, bs, hen, hps, hds, hbs⟩ := enc_raw o
  rw [hen]
  have hcf : PCtr PP n_slices_ContainsFunc_L_impl_Term_impl_Term [.sl false 7 (l.map Trm.enc), .clo (1000000 + n_impl_Pack_gives) [.agg [str o.n, i64 o.v.a, i64 o.v.b, i64 o.v.c, i64 o.s, .sl false 1 ps, .sl false 1 ds, .sl false 7 bs]]] (boo r) := by
    rw [hr, ← hen]
    exact c_ContainsFuncT _ (by omega) _ _ _ ⟨fun S k => by rw [hen]; rfl, by rw [hen]; rfl, fun _ => by rw [hen]; rfl, fun t _ => c_gives o t ho⟩
  generalize l.map Trm.enc = xs at *
  have htab := tab
  have hmo := hmo
  have hve := verEq
  refine PCtr.walk tab hΩ fn_impl_Pack_givesOne rfl ?_
  generalize PP = P at *
  cbv
  refine call_pure hΩ 5 hcf (ro_clo2 rfl rfl) (fits _) rfl rfl ?_
  cbv
  exact .same
end Go.Proofs.Ytdngjnjapihbkaa

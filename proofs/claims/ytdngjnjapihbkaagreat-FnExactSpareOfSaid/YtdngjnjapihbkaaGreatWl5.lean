/- The law of SpareOf, walked. Plain theorems. -/
import Derived.Test.YtdngjnjapihbkaaGreatWl0
import Derived.Test.YtdngjnjapihbkaaGreatWq5
set_option linter.unusedVariables false
set_option linter.unusedSimpArgs false
namespace Go.Proofs.YtdngjnjapihbkaaGreat
open Go Go.Fw
set_option maxRecDepth 100000
theorem c_lawSpareOf (cs : List Pck) (s : List Int) (t : List Trm) (hm : cs.length ≤ maxLen) (hf : ∀ o ∈ cs, o.Fit) (hsm : s.length ≤ maxLen) (htm : t.length ≤ maxLen ∧ ∀ c ∈ t, c.n.length ≤ maxLen) : PCtr PP n_laws_FnExactSpareOf [.sl false 8 (cs.map (Pck.enc false)), .sl false 1 (s.map i64), .sl false 7 (t.map Trm.enc)] (boo true) := by
  obtain ⟨Ω, hΩ⟩ : ∃ Ω, Ω = std := ⟨_, rfl⟩
  obtain ⟨xs, hxs⟩ : ∃ xs, xs = cs.map (Pck.enc false) := ⟨_, rfl⟩
  obtain ⟨os, hos⟩ : ∃ os, os = cs.map (Pck.enc true) := ⟨_, rfl⟩
  obtain ⟨ss, hss⟩ : ∃ ss, ss = s.map i64 := ⟨_, rfl⟩
  obtain ⟨ts, hts⟩ : ∃ ts, ts = t.map Trm.enc := ⟨_, rfl⟩
  obtain ⟨kk, hkk⟩ : ∃ kk, kk = askC cs s t := ⟨_, rfl⟩
  obtain ⟨zs, hzs⟩ : ∃ zs, zs = (sprS cs s t).map i64 := ⟨_, rfl⟩
  have hzl0 : (sprS cs s t).length ≤ s.length := sprS_le cs s t
  have hol : os.length = cs.length := by rw [hos, List.length_map]
  have hsl : ss.length = s.length := by rw [hss, List.length_map]
  have htl : ts.length = t.length := by rw [hts, List.length_map]
  have htf : ts.map frz = ts := by rw [hts, List.map_map]; exact List.map_congr_left fun c _ => rfl
  have rt : roFree (.sl true 7 ts) = true := by rw [hts]; exact roFTs t
  have hzl : zs.length = (sprS cs s t).length := by rw [hzs, List.length_map]
  have hof : os.map frz = xs := by rw [hos, hxs]; exact frz_Pcks cs
  have hsf : ss.map frz = ss := by rw [hss]; exact frz_I s
  have hzf : zs.map frz = zs := by rw [hzs]; exact frz_I _
  have ro : roFree (.sl true 8 os) = true := by rw [hos]; exact roFPs cs
  have rs : roFree (.sl true 1 ss) = true := by rw [hss]; exact roF_I s
  have rz : roFree (.agg [i64 kk, i64 0, .sl true 1 zs]) = true := by rw [hzs]; exact roF_setR _ _ _
  have h1 := c_szPackS cs 1048576 (by omega) (by omega) hm hf
  obtain ⟨l, hl, hl2⟩ : ∃ l, szS szP cs 1048576 = l ∧ (0 ≤ l → cs.length ≤ 1048576 ∧ (∀ o ∈ cs, o.Small) ∧ psum Pck.cnt cs cs.length ≤ 12582912) := ⟨_, rfl, sz_facts⟩
  obtain ⟨l2, hl2', hl3, hl4⟩ : ∃ l2, szS szT t l = l2 ∧ (0 ≤ l → 0 ≤ l2 → t.length ≤ 1048576) ∧ (0 ≤ l → PCtr PP n_laws_szTermS [.sl false 7 (t.map Trm.enc), i64 l] (i64 l2)) :=
    ⟨_, rfl, fun h0 h1 => sz_facts2 (by rw [← hl]; exact szP_le _ (by rw [hl]; exact h0)) h1, fun h0 => c_szTermS t l h0 (by rw [← hl]; exact szP_le _ (by rw [hl]; exact h0)) htm.1 htm.2⟩
  obtain ⟨n, hn⟩ : ∃ n, n = (sprS cs s t).length := ⟨_, rfl⟩
  obtain ⟨m1, hm1⟩ : ∃ m1 : Int, m1 = 1 + psum Pck.cnt cs cs.length := ⟨_, rfl⟩
  obtain ⟨m2, hm2⟩ : ∃ m2 : Int, m2 = m1 + s.length := ⟨_, rfl⟩
  obtain ⟨m4, hm4⟩ : ∃ m4 : Int, m4 = m2 + psum (fun _ => 7) t t.length := ⟨_, rfl⟩
  have hm40 : 0 ≤ m4 := by omega
  obtain ⟨m3, hm3⟩ : ∃ m3 : Int, m3 = 1 + (n : Nat) := ⟨_, rfl⟩
  obtain ⟨ms, has⟩ : ∃ ms, ms = marksI m1 s.length := ⟨_, rfl⟩
  obtain ⟨bs, hbs⟩ : ∃ bs, bs = marksI 1 n := ⟨_, rfl⟩
  have hal : ms.length = ss.length := by rw [has, hsl, marksI_length]
  have hbl : bs.length = zs.length := by rw [hbs, hzl, marksI_length, hn]
  have hbf : bs.map frz = bs := by rw [hbs]; exact marksI_frz _ _
  have hm20 : 0 ≤ m2 := by omega
  have hm30 : 0 ≤ m3 := by omega
  have H : 0 ≤ l → s.length ≤ 1048576 → 0 ≤ l2 → (PCtr PP n_laws_toTermS [.sl false 7 ts] (.sl true 7 ts) ∧ PCtr PP n_laws_eqTermS [.sl false 7 ts, .sl false 7 ts] (boo true) ∧ ECtr PP n_laws_markTermS [.sl true 7 ts, i64 m2] (i64 m4)) ∧ (PCtr PP n_laws_toPackS [.sl false 8 xs] (.sl true 8 os) ∧ PCtr PP n_laws_toInt64S [.sl false 1 ss] (.sl true 1 ss)) ∧
      (PCtr PP n_spec_SpareOf [.sl false 8 xs, .sl false 1 ss, .sl false 7 ts] (.agg [i64 kk, i64 0, .sl true 1 zs]) ∧ PCtr PP n_impl_SpareOf [.sl false 8 xs, .sl false 1 ss, .sl false 7 ts] (.agg [i64 kk, i64 0, .sl true 1 zs])) ∧
      (PCtr PP n_laws_eqSetResult [.agg [i64 kk, i64 0, .sl false 1 zs], .agg [i64 kk, i64 0, .sl false 1 zs]] (boo true) ∧ PCtr PP n_laws_eqPackS [.sl false 8 xs, .sl false 8 xs] (boo true) ∧ PCtr PP n_laws_eqInt64S [.sl false 1 ss, .sl false 1 ss] (boo true)) ∧
      (ECtr PP n_laws_markPackS [.sl true 8 os, i64 1] (i64 m1) ∧ MCtr PP n_laws_markInt64S [.sl true 1 ss, i64 m1] (i64 m2) [.sl true 1 ms, i64 m1]) ∧
      (MCtr PP n_laws_markSetResult [.agg [i64 kk, i64 0, .sl true 1 zs], i64 1] (i64 m3) [.agg [i64 kk, i64 0, .sl true 1 bs], i64 1] ∧ PCtr PP n_laws_heldSetResult [.agg [i64 kk, i64 0, .sl false 1 bs], i64 1] (i64 m3)) := fun h hs h2 => by
    obtain ⟨k1, k2, k3⟩ := hl2 h
    have k4 := hl3 h h2
    have d1 := c_toTermS t k4
    have d2 := c_eqTermS t k4
    have d3 := c_markTermS t m2 (by omega) (by rw [psum_const]; omega) k4
    rw [← hm4, ← hts] at d3
    rw [← hts] at d1 d2
    have a1 := c_toPackS cs k1 k2
    have a2 := c_toInt64S s hs
    have a3 := c_specSpareOf cs s t k1 k2 hs k4
    have a4 := c_implSpareOf cs s t k1 k2 hs k4
    have a5 := c_eqSetResult kk 0 (sprS cs s t) (by omega)
    have a6 := c_eqPackS cs k1 k2
    have a7 := c_eqInt64S s hs
    have a8 := c_markPackS cs 1 (by omega) (by omega) k1 k2
    have a9 := c_markInt64S s m1 (by omega) (by omega) hs
    have b1 := c_markSetResult kk 0 (sprS cs s t) 1 (by omega) (by omega) (by omega)
    have b2 := c_heldSetResult kk 0 n 1 (by omega) (by omega) (by omega)
    unfold setR at a3 a4
    unfold encP at a3 a4
    rw [← hkk, ← hzs, ← hxs, ← hss, ← hts] at a3 a4
    rw [← hxs] at a1 a6
    rw [← hos] at a1 a8
    rw [← hss] at a2 a7 a9
    rw [← hzs] at a5 b1
    rw [← hn, ← hm3, ← hbs] at b1
    rw [← hm3, ← hbs] at b2
    rw [← hm1] at a8
    rw [← hm2, ← has] at a9
    exact ⟨⟨d1, d2, d3⟩, ⟨a1, a2⟩, ⟨a3, a4⟩, ⟨a5, a6, a7⟩, ⟨a8, a9⟩, b1, b2⟩
  rw [hl, ← hxs] at h1
  rw [← hts] at hl4
  rw [← hxs, ← hss, ← hts]
  clear hl2 hl3 hkk hzs hxs hos hss hts
  refine PCtr.walk tab hΩ fn_laws_FnExactSpareOf rfl ?_
  have htab := tab
  generalize PP = P at *
  cbv
  refine br (fun h => ?_) (fun hs => ?_)
  · cbv
    exact .same
  have hs1 : s.length ≤ 1048576 := by
    rw [← hsl]
    subst hΩ
    have h : (ss.length : Int) ≤ 1048576 := gt_f hs
    omega
  cbv
  refine call_pure hΩ 3 h1 rfl (fits _) rfl rfl ?_
  cbv
  refine br (fun h => ?_) (fun h => ?_)
  · cbv
    exact .same
  have hl0 := ltI_f hΩ h
  cbv
  refine call_pure hΩ 3 (hl4 hl0) rfl (fits _) rfl rfl ?_
  cbv
  refine br (fun h => ?_) (fun h => ?_)
  · cbv
    exact .same
  obtain ⟨⟨d1, d2, d3⟩, ⟨a1, a2⟩, ⟨a3, a4⟩, ⟨a5, a6, a7⟩, ⟨a8, a9⟩, b1, b2⟩ := H hl0 hs1 (ltI_f hΩ h)
  clear H
  have lo : Ω.len os = os.length := by subst hΩ; rfl
  have lt : Ω.len ts = ts.length := by subst hΩ; rfl
  have ls : Ω.len ss = ss.length := by subst hΩ; rfl
  have lz : Ω.len zs = zs.length := by subst hΩ; rfl
  have lb : Ω.len zs = bs.length := lz.trans hbl.symm
  cbv
  refine call_pure hΩ 3 a1 rfl (fits _) ro rfl ?_
  cbv
  refine call_pure hΩ 3 a2 rfl (fits _) rs rfl ?_
  cbv
  refine call_pure hΩ 3 d1 rfl (fits _) rt rfl ?_
  cbv
  refine call_pure hΩ 3 a3 (mapO3 (ro_vw rfl lo hof) (ro_vw rfl ls hsf) (ro_vw rfl lt htf)) (fits _) rz rfl ?_
  cbv
  refine call_pure hΩ 3 a1 rfl (fits _) ro rfl ?_
  cbv
  refine call_pure hΩ 3 a2 rfl (fits _) rs rfl ?_
  cbv
  refine call_pure hΩ 3 d1 rfl (fits _) rt rfl ?_
  cbv
  refine call_pure hΩ 3 a4 (mapO3 (ro_vw rfl lo hof) (ro_vw rfl ls hsf) (ro_vw rfl lt htf)) (fits _) rz rfl ?_
  cbv
  refine call_pure hΩ 3 a5 (mapO2 (ro_agg3 rfl rfl (ro_vw rfl lz hzf)) (ro_agg3 rfl rfl (ro_vw rfl lz hzf))) (fits _) rfl rfl ?_
  cbv
  refine br (fun h => (notT hΩ h).elim) (fun h => ?_)
  cbv
  refine call_pure hΩ 3 a1 rfl (fits _) ro rfl ?_
  cbv
  refine call_pure hΩ 3 a6 (mapO2 (ro_vw rfl lo hof) (ro_vw rfl lo hof)) (fits _) rfl rfl ?_
  cbv
  refine br (fun h => (notT hΩ h).elim) (fun h => ?_)
  cbv
  refine call_pure hΩ 3 a2 rfl (fits _) rs rfl ?_
  cbv
  refine call_pure hΩ 3 a7 (mapO2 (ro_vw rfl ls hsf) (ro_vw rfl ls hsf)) (fits _) rfl rfl ?_
  cbv
  refine br (fun h => (notT hΩ h).elim) (fun h => ?_)
  cbv
  refine call_pure hΩ 3 d1 rfl (fits _) rt rfl ?_
  cbv
  refine call_pure hΩ 3 d2 (mapO2 (ro_vw rfl lt htf) (ro_vw rfl lt htf)) (fits _) rfl rfl ?_
  cbv
  refine br (fun h => (notT hΩ h).elim) (fun h => ?_)
  cbv
  refine call_eat2 (row := ⟨8, os, false⟩) hΩ 3 a8 rfl rfl lo rfl (fits _) rfl rfl ?_
  cbv
  refine call_mut hΩ 3 (l := [(6, ms)] ++ ([] ++ [])) a9 (.cons (mutVw rfl ls hal) (.cons (.data rfl rfl) .nil)) (by simp) rfl ?_
  cbv
  refine call_eat2 (row := ⟨7, ts, false⟩) hΩ 3 d3 rfl rfl lt rfl (fits _) rfl rfl ?_
  cbv
  refine br (fun h => absurd (ltI_t hΩ h) (Int.not_lt.2 hm40)) (fun h => ?_)
  cbv
  refine call_pure hΩ 3 a5 (mapO2 (ro_agg3 rfl rfl (ro_vw rfl lz hzf)) (ro_agg3 rfl rfl (ro_vw rfl lz hzf))) (fits _) rfl rfl ?_
  cbv
  refine br (fun h => ?_) (fun h => ?_)
  · exfalso
    subst hΩ
    exact absurd (show (!true) = true from h) (by decide)
  cbv
  refine call_mut hΩ 3 (l := ([] ++ ([] ++ ([(8, bs)] ++ []))) ++ ([] ++ [])) b1 (.cons (.agg (.cons (.data rfl rfl) (.cons (.data rfl rfl) (.cons (mutVw rfl lz hbl) .nil)))) (.cons (.data rfl rfl) .nil)) (by simp) rfl ?_
  cbv
  refine call_pure hΩ 3 b2 (mapO2 (ro_agg3 rfl rfl (ro_vw rfl lb hbf)) rfl) (fits _) rfl rfl ?_
  cbv
  refine br (fun h => absurd (ltI_t hΩ h) (Int.not_lt.2 hm30)) (fun h => ?_)
  cbv
  refine br (fun h => (ne_self hΩ h).elim) (fun h => ?_)
  cbv
  refine call_pure hΩ 3 a1 rfl (fits _) ro rfl ?_
  cbv
  refine call_pure hΩ 3 a2 rfl (fits _) rs rfl ?_
  cbv
  refine call_pure hΩ 3 d1 rfl (fits _) rt rfl ?_
  cbv
  refine call_pure hΩ 3 a4 (mapO3 (ro_vw rfl lo hof) (ro_vw rfl ls hsf) (ro_vw rfl lt htf)) (fits _) rz rfl ?_
  cbv
  refine call_pure hΩ 3 a5 (mapO2 (ro_agg3 rfl rfl (ro_vw rfl lz hzf)) (ro_agg3 rfl rfl (ro_vw rfl lz hzf))) (fits _) rfl rfl ?_
  cbv
  refine br (fun h => (notT hΩ h).elim) (fun h => ?_)
  cbv
  refine call_pure hΩ 3 b2 (mapO2 (ro_agg3 rfl rfl (ro_vw rfl lb hbf)) rfl) (fits _) rfl rfl ?_
  cbv
  refine br (fun h => absurd (ltI_t hΩ h) (Int.not_lt.2 hm30)) (fun h => ?_)
  cbv
  refine br (fun h => (ne_self hΩ h).elim) (fun h => ?_)
  cbv
  exact .same
end Go.Proofs.YtdngjnjapihbkaaGreat

/- The law of BarredBy, walked. Plain theorems. -/
import Derived.Test.YtdngjnjapihbkaaWb15
set_option linter.unusedVariables false
set_option linter.unusedSimpArgs false
namespace Go.Proofs.Ytdngjnjapihbkaa
open Go Go.Fw
set_option maxRecDepth 100000
theorem ro_vw {S : State} {k r len n : Nat} {ys zs : List A} (hr : Fw.rowAt S.rows r = some ⟨n, ys, false⟩) (hl : len = ys.length) (hf : ys.map frz = zs) : roO S (k + 1) (.vw r 0 len) = some (.sl false n zs) := by
  simp only [roO, hr]
  rw [hl, List.drop_zero, List.take_length, hf]
  rfl
theorem mapO1 {f : A → Option A} {x x' : A} (h : f x = some x') : mapO f [x] = some [x'] := by simp [mapO, h]
theorem mapO2 {f : A → Option A} {x x' y y' : A} (h : f x = some x') (h2 : f y = some y') : mapO f [x, y] = some [x', y'] := by simp [mapO, h, h2]
theorem mapO3 {f : A → Option A} {x x' y y' z z' : A} (h : f x = some x') (h2 : f y = some y') (h3 : f z = some z') : mapO f [x, y, z] = some [x', y', z'] := by simp [mapO, h, h2, h3]
theorem ro_agg3 {S : State} {k : Nat} {a b c c' : A} (ha : roO S (k + 1) a = some a) (hb : roO S (k + 1) b = some b) (hc : roO S (k + 1) c = some c') : roO S (k + 2) (.agg [a, b, c]) = some (.agg [a, b, c']) := by
  show (mapO (roO S (k + 1)) [a, b, c]).map A.agg = _
  rw [mapO3 ha hb hc]; rfl
theorem frz_Pck (o : Pck) : frz (o.enc true) = o.enc false := by
  show frz (.agg _) = A.agg _
  rw [frz_agg]
  have h1 : (o.p.map str).map frz = o.p.map str := by rw [List.map_map]; exact List.map_congr_left fun c _ => rfl
  have h2 : (o.d.map (encTs true)).map frz = o.d.map (encTs false) := by
    rw [List.map_map]
    refine List.map_congr_left fun c _ => ?_
    show frz (A.sl true 7 _) = A.sl false 7 _
    rw [frz_sl, List.map_map]; rfl
  have h3 : (o.b.map Trm.enc).map frz = o.b.map Trm.enc := by rw [List.map_map]; exact List.map_congr_left fun c _ => rfl
  simp only [Pck.cells, List.map_cons, List.map_nil, frz_sl, h1, h2, h3]
  rfl
theorem frz_Pcks (l : List Pck) : (l.map (Pck.enc true)).map frz = l.map (Pck.enc false) := by rw [List.map_map]; exact List.map_congr_left fun c _ => frz_Pck c
theorem frz_I (l : List Int) : (l.map i64).map frz = l.map i64 := by rw [List.map_map]; exact List.map_congr_left fun c _ => rfl
theorem roF_I (l : List Int) : roFree (.sl true 1 (l.map i64)) = true := roFAll fun x hx => by obtain ⟨c, _, rfl⟩ := List.mem_map.1 hx; rfl
theorem roF_setR (k a : Int) (l : List Int) : roFree (.agg [i64 k, i64 a, .sl true 1 (l.map i64)]) = true := by
  rw [roFree_agg]
  simp only [List.all_cons, List.all_nil, roF_I]
  rfl
theorem sum_le_cost : ∀ (l : List Pck), (l.map Pck.cnt).sum ≤ 12 * costS cP l
  | [] => Nat.zero_le _
  | o :: l => by
    have ih := sum_le_cost l
    have h : o.cnt ≤ 5 + 7 * cP o := by
      have h1 : ∀ d : List (List Trm), psum (fun l => 7 * l.length) d d.length ≤ 7 * costS (costS cT) d := fun d => by
        unfold psum
        rw [List.take_length]
        induction d with
        | nil => exact Nat.zero_le _
        | cons x d ih =>
          have := len_cost cT x
          unfold costS at ih ⊢
          simp only [List.map_cons, List.sum_cons, List.length_cons] at ih ⊢
          unfold costS at this
          omega
      have h2 := h1 o.d
      have h3 := len_cost cB o.p
      have h4 := len_cost cT o.b
      unfold Pck.cnt
      rw [psum_const, psum_const]
      unfold cP
      omega
    unfold costS at ih ⊢
    simp only [List.map_cons, List.sum_cons, List.length_cons] at ih ⊢
    omega
theorem psum_cnt_le (l : List Pck) : psum Pck.cnt l l.length ≤ 12 * costS cP l := by
  unfold psum
  rw [List.take_length]
  exact sum_le_cost l
/-- What the size check tells. -/
theorem sz_facts {cs : List Pck} (h : 0 ≤ szS szP cs 1048576) : cs.length ≤ 1048576 ∧ (∀ o ∈ cs, o.Small) ∧ psum Pck.cnt cs cs.length ≤ 12582912 := by
  rw [szS_cost szP_cost] at h
  split at h
  · omega
  · have hc : costS cP cs ≤ 1048576 := by omega
    exact ⟨Nat.le_trans (len_cost _ _) hc, fun o ho => small_of (Nat.le_trans (mem_cost _ _ o ho) hc), Nat.le_trans (psum_cnt_le cs) (by omega)⟩

theorem c_lawBarredBy (cs : List Pck) (s : List Int) (t : Int) (hm : cs.length ≤ maxLen) (hf : ∀ o ∈ cs, o.Fit) (hsm : s.length ≤ maxLen) : PCtr PP n_laws_FnExactBarredBy [.sl false 8 (cs.map (Pck.enc false)), .sl false 1 (s.map i64), i64 t] (boo true) := by
  obtain ⟨Ω, hΩ⟩ : ∃ Ω, Ω = std := ⟨_, rfl⟩
  obtain ⟨xs, hxs⟩ : ∃ xs, xs = cs.map (Pck.enc false) := ⟨_, rfl⟩
  obtain ⟨os, hos⟩ : ∃ os, os = cs.map (Pck.enc true) := ⟨_, rfl⟩
  obtain ⟨ss, hss⟩ : ∃ ss, ss = s.map i64 := ⟨_, rfl⟩
  obtain ⟨kk, hkk⟩ : ∃ kk, kk = barC cs s t := ⟨_, rfl⟩
  obtain ⟨zs, hzs⟩ : ∃ zs, zs = (barS cs s t).map i64 := ⟨_, rfl⟩
  have hzl0 : (barS cs s t).length ≤ s.length := by
    unfold barS
    split
    · exact Nat.zero_le _
    · exact List.length_filter_le _ _
  have hol : os.length = cs.length := by rw [hos, List.length_map]
  have hsl : ss.length = s.length := by rw [hss, List.length_map]
  have hzl : zs.length = (barS cs s t).length := by rw [hzs, List.length_map]
  have hof : os.map frz = xs := by rw [hos, hxs]; exact frz_Pcks cs
  have hsf : ss.map frz = ss := by rw [hss]; exact frz_I s
  have hzf : zs.map frz = zs := by rw [hzs]; exact frz_I _
  have ro : roFree (.sl true 8 os) = true := by rw [hos]; exact roFPs cs
  have rs : roFree (.sl true 1 ss) = true := by rw [hss]; exact roF_I s
  have rz : roFree (.agg [i64 kk, i64 0, .sl true 1 zs]) = true := by rw [hzs]; exact roF_setR _ _ _
  have h1 := c_szPackS cs 1048576 (by omega) (by omega) hm hf
  obtain ⟨l, hl, hl2⟩ : ∃ l, szS szP cs 1048576 = l ∧ (0 ≤ l → cs.length ≤ 1048576 ∧ (∀ o ∈ cs, o.Small) ∧ psum Pck.cnt cs cs.length ≤ 12582912) := ⟨_, rfl, sz_facts⟩
  obtain ⟨n, hn⟩ : ∃ n, n = (barS cs s t).length := ⟨_, rfl⟩
  obtain ⟨m1, hm1⟩ : ∃ m1 : Int, m1 = 1 + psum Pck.cnt cs cs.length := ⟨_, rfl⟩
  obtain ⟨m2, hm2⟩ : ∃ m2 : Int, m2 = m1 + s.length := ⟨_, rfl⟩
  obtain ⟨m3, hm3⟩ : ∃ m3 : Int, m3 = 1 + (n : Nat) := ⟨_, rfl⟩
  obtain ⟨ms, has⟩ : ∃ ms, ms = marksI m1 s.length := ⟨_, rfl⟩
  obtain ⟨bs, hbs⟩ : ∃ bs, bs = marksI 1 n := ⟨_, rfl⟩
  have hal : ms.length = ss.length := by rw [has, hsl, marksI_length]
  have hbl : bs.length = zs.length := by rw [hbs, hzl, marksI_length, hn]
  have hbf : bs.map frz = bs := by rw [hbs]; exact marksI_frz _ _
  have hm20 : 0 ≤ m2 := by omega
  have hm30 : 0 ≤ m3 := by omega
  have H : 0 ≤ l → s.length ≤ 1048576 → (PCtr PP n_laws_toPackS [.sl false 8 xs] (.sl true 8 os) ∧ PCtr PP n_laws_toInt64S [.sl false 1 ss] (.sl true 1 ss)) ∧
      (PCtr PP n_spec_BarredBy [.sl false 8 xs, .sl false 1 ss, i64 t] (.agg [i64 kk, i64 0, .sl true 1 zs]) ∧ PCtr PP n_impl_BarredBy [.sl false 8 xs, .sl false 1 ss, i64 t] (.agg [i64 kk, i64 0, .sl true 1 zs])) ∧
      (PCtr PP n_laws_eqSetResult [.agg [i64 kk, i64 0, .sl false 1 zs], .agg [i64 kk, i64 0, .sl false 1 zs]] (boo true) ∧ PCtr PP n_laws_eqPackS [.sl false 8 xs, .sl false 8 xs] (boo true) ∧ PCtr PP n_laws_eqInt64S [.sl false 1 ss, .sl false 1 ss] (boo true)) ∧
      (ECtr PP n_laws_markPackS [.sl true 8 os, i64 1] (i64 m1) ∧ MCtr PP n_laws_markInt64S [.sl true 1 ss, i64 m1] (i64 m2) [.sl true 1 ms, i64 m1]) ∧
      (MCtr PP n_laws_markSetResult [.agg [i64 kk, i64 0, .sl true 1 zs], i64 1] (i64 m3) [.agg [i64 kk, i64 0, .sl true 1 bs], i64 1] ∧ PCtr PP n_laws_heldSetResult [.agg [i64 kk, i64 0, .sl false 1 bs], i64 1] (i64 m3)) := fun h hs => by
    obtain ⟨k1, k2, k3⟩ := hl2 h
    have a1 := c_toPackS cs k1 k2
    have a2 := c_toInt64S s hs
    have a3 := c_specBarredBy cs s t k1 k2 hs
    have a4 := c_implBarredBy cs s t k1 k2 hs
    have a5 := c_eqSetResult kk 0 (barS cs s t) (by omega)
    have a6 := c_eqPackS cs k1 k2
    have a7 := c_eqInt64S s hs
    have a8 := c_markPackS cs 1 (by omega) (by omega) k1 k2
    have a9 := c_markInt64S s m1 (by omega) (by omega) hs
    have b1 := c_markSetResult kk 0 (barS cs s t) 1 (by omega) (by omega) (by omega)
    have b2 := c_heldSetResult kk 0 n 1 (by omega) (by omega) (by omega)
    unfold setR at a3 a4
    unfold encP at a3 a4
    rw [← hkk, ← hzs, ← hxs, ← hss] at a3 a4
    rw [← hxs] at a1 a6
    rw [← hos] at a1 a8
    rw [← hss] at a2 a7 a9
    rw [← hzs] at a5 b1
    rw [← hn, ← hm3, ← hbs] at b1
    rw [← hm3, ← hbs] at b2
    rw [← hm1] at a8
    rw [← hm2, ← has] at a9
    exact ⟨⟨a1, a2⟩, ⟨a3, a4⟩, ⟨a5, a6, a7⟩, ⟨a8, a9⟩, b1, b2⟩
  rw [hl, ← hxs] at h1
  rw [← hxs, ← hss]
  clear hl2 hkk hzs hxs hos hss
  refine PCtr.walk tab hΩ fn_laws_FnExactBarredBy rfl ?_
  have htab := tab
  generalize PP = P at *
  cbv
  refine br (fun h => ?_) (fun hs => ?_)
  · cbv
    exact .same
  have hs1 : s.length ≤ 1048576 := by
    rw [← hsl]
    subst hΩ
    have h : (ss.length : Int) ≤ 1048576 := gt_f hs
    omega
  cbv
  refine call_pure hΩ 3 h1 rfl (fits _) rfl rfl ?_
  cbv
  refine br (fun h => ?_) (fun h => ?_)
  · cbv
    exact .same
  obtain ⟨⟨a1, a2⟩, ⟨a3, a4⟩, ⟨a5, a6, a7⟩, ⟨a8, a9⟩, b1, b2⟩ := H (ltI_f hΩ h) hs1
  clear H
  have lo : Ω.len os = os.length := by subst hΩ; rfl
  have ls : Ω.len ss = ss.length := by subst hΩ; rfl
  have lz : Ω.len zs = zs.length := by subst hΩ; rfl
  have lb : Ω.len zs = bs.length := lz.trans hbl.symm
  cbv
  refine call_pure hΩ 3 a1 rfl (fits _) ro rfl ?_
  cbv
  refine call_pure hΩ 3 a2 rfl (fits _) rs rfl ?_
  cbv
  refine call_pure hΩ 3 a3 (mapO3 (ro_vw rfl lo hof) (ro_vw rfl ls hsf) rfl) (fits _) rz rfl ?_
  cbv
  refine call_pure hΩ 3 a1 rfl (fits _) ro rfl ?_
  cbv
  refine call_pure hΩ 3 a2 rfl (fits _) rs rfl ?_
  cbv
  refine call_pure hΩ 3 a4 (mapO3 (ro_vw rfl lo hof) (ro_vw rfl ls hsf) rfl) (fits _) rz rfl ?_
  cbv
  refine call_pure hΩ 3 a5 (mapO2 (ro_agg3 rfl rfl (ro_vw rfl lz hzf)) (ro_agg3 rfl rfl (ro_vw rfl lz hzf))) (fits _) rfl rfl ?_
  cbv
  refine br (fun h => (notT hΩ h).elim) (fun h => ?_)
  cbv
  refine call_pure hΩ 3 a1 rfl (fits _) ro rfl ?_
  cbv
  refine call_pure hΩ 3 a6 (mapO2 (ro_vw rfl lo hof) (ro_vw rfl lo hof)) (fits _) rfl rfl ?_
  cbv
  refine br (fun h => (notT hΩ h).elim) (fun h => ?_)
  cbv
  refine call_pure hΩ 3 a2 rfl (fits _) rs rfl ?_
  cbv
  refine call_pure hΩ 3 a7 (mapO2 (ro_vw rfl ls hsf) (ro_vw rfl ls hsf)) (fits _) rfl rfl ?_
  cbv
  refine br (fun h => (notT hΩ h).elim) (fun h => ?_)
  cbv
  refine call_eat2 (row := ⟨8, os, false⟩) hΩ 3 a8 rfl rfl lo rfl (fits _) rfl rfl ?_
  cbv
  refine call_mut hΩ 3 (l := [(5, ms)] ++ ([] ++ [])) a9 (.cons (mutVw rfl ls hal) (.cons (.data rfl rfl) .nil)) (by simp) rfl ?_
  cbv
  refine br (fun h => absurd (ltI_t hΩ h) (Int.not_lt.2 hm20)) (fun h => ?_)
  cbv
  refine call_pure hΩ 3 a5 (mapO2 (ro_agg3 rfl rfl (ro_vw rfl lz hzf)) (ro_agg3 rfl rfl (ro_vw rfl lz hzf))) (fits _) rfl rfl ?_
  cbv
  refine br (fun h => ?_) (fun h => ?_)
  · exfalso
    subst hΩ
    exact absurd (show (!true) = true from h) (by decide)
  cbv
  refine call_mut hΩ 3 (l := ([] ++ ([] ++ ([(6, bs)] ++ []))) ++ ([] ++ [])) b1 (.cons (.agg (.cons (.data rfl rfl) (.cons (.data rfl rfl) (.cons (mutVw rfl lz hbl) .nil)))) (.cons (.data rfl rfl) .nil)) (by simp) rfl ?_
  cbv
  refine call_pure hΩ 3 b2 (mapO2 (ro_agg3 rfl rfl (ro_vw rfl lb hbf)) rfl) (fits _) rfl rfl ?_
  cbv
  refine br (fun h => absurd (ltI_t hΩ h) (Int.not_lt.2 hm30)) (fun h => ?_)
  cbv
  refine br (fun h => (ne_self hΩ h).elim) (fun h => ?_)
  cbv
  refine call_pure hΩ 3 a1 rfl (fits _) ro rfl ?_
  cbv
  refine call_pure hΩ 3 a2 rfl (fits _) rs rfl ?_
  cbv
  refine call_pure hΩ 3 a4 (mapO3 (ro_vw rfl lo hof) (ro_vw rfl ls hsf) rfl) (fits _) rz rfl ?_
  cbv
  refine call_pure hΩ 3 a5 (mapO2 (ro_agg3 rfl rfl (ro_vw rfl lz hzf)) (ro_agg3 rfl rfl (ro_vw rfl lz hzf))) (fits _) rfl rfl ?_
  cbv
  refine br (fun h => (notT hΩ h).elim) (fun h => ?_)
  cbv
  refine call_pure hΩ 3 b2 (mapO2 (ro_agg3 rfl rfl (ro_vw rfl lb hbf)) rfl) (fits _) rfl rfl ?_
  cbv
  refine br (fun h => absurd (ltI_t hΩ h) (Int.not_lt.2 hm30)) (fun h => ?_)
  cbv
  refine br (fun h => (ne_self hΩ h).elim) (fun h => ?_)
  cbv
  exact .same
end Go.Proofs.Ytdngjnjapihbkaa

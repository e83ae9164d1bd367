/- Helpers of the laws of sets. Plain theorems. -/
import Derived.Test.YtdngjnjapihbkaaGreatW4
set_option linter.unusedVariables false
set_option linter.unusedSimpArgs false
namespace Go.Proofs.YtdngjnjapihbkaaGreat
open Go Go.Fw
set_option maxRecDepth 100000
theorem ro_vw {S : State} {k r len n : Nat} {ys zs : List A} (hr : Fw.rowAt S.rows r = some ⟨n, ys, false⟩) (hl : len = ys.length) (hf : ys.map frz = zs) : roO S (k + 1) (.vw r 0 len) = some (.sl false n zs) := by
  simp only [roO, hr]
  rw [hl, List.drop_zero, List.take_length, hf]
  rfl
theorem mapO1 {f : A → Option A} {x x' : A} (h : f x = some x') : mapO f [x] = some [x'] := by simp [mapO, h]
theorem mapO2 {f : A → Option A} {x x' y y' : A} (h : f x = some x') (h2 : f y = some y') : mapO f [x, y] = some [x', y'] := by simp [mapO, h, h2]
theorem mapO3 {f : A → Option A} {x x' y y' z z' : A} (h : f x = some x') (h2 : f y = some y') (h3 : f z = some z') : mapO f [x, y, z] = some [x', y', z'] := by simp [mapO, h, h2, h3]
theorem ro_agg3 {S : State} {k : Nat} {a b c c' : A} (ha : roO S (k + 1) a = some a) (hb : roO S (k + 1) b = some b) (hc : roO S (k + 1) c = some c') : roO S (k + 2) (.agg [a, b, c]) = some (.agg [a, b, c']) := by
  show (mapO (roO S (k + 1)) [a, b, c]).map A.agg = _
  rw [mapO3 ha hb hc]; rfl
theorem frz_Pck (o : Pck) : frz (o.enc true) = o.enc false := by
  show frz (.agg _) = A.agg _
  rw [frz_agg]
  have h1 : (o.p.map str).map frz = o.p.map str := by rw [List.map_map]; exact List.map_congr_left fun c _ => rfl
  have h2 : (o.d.map (encTs true)).map frz = o.d.map (encTs false) := by
    rw [List.map_map]
    refine List.map_congr_left fun c _ => ?_
    show frz (A.sl true 7 _) = A.sl false 7 _
    rw [frz_sl, List.map_map]; rfl
  have h3 : (o.b.map Trm.enc).map frz = o.b.map Trm.enc := by rw [List.map_map]; exact List.map_congr_left fun c _ => rfl
  simp only [Pck.cells, List.map_cons, List.map_nil, frz_sl, h1, h2, h3]
  rfl
theorem frz_Pcks (l : List Pck) : (l.map (Pck.enc true)).map frz = l.map (Pck.enc false) := by rw [List.map_map]; exact List.map_congr_left fun c _ => frz_Pck c
theorem frz_I (l : List Int) : (l.map i64).map frz = l.map i64 := by rw [List.map_map]; exact List.map_congr_left fun c _ => rfl
theorem roF_I (l : List Int) : roFree (.sl true 1 (l.map i64)) = true := roFAll fun x hx => by obtain ⟨c, _, rfl⟩ := List.mem_map.1 hx; rfl
theorem roF_setR (k a : Int) (l : List Int) : roFree (.agg [i64 k, i64 a, .sl true 1 (l.map i64)]) = true := by
  rw [roFree_agg]
  simp only [List.all_cons, List.all_nil, roF_I]
  rfl
theorem sum_le_cost : ∀ (l : List Pck), (l.map Pck.cnt).sum ≤ 12 * costS cP l
  | [] => Nat.zero_le _
  | o :: l => by
    have ih := sum_le_cost l
    have h : o.cnt ≤ 5 + 7 * cP o := by
      have h1 : ∀ d : List (List Trm), psum (fun l => 7 * l.length) d d.length ≤ 7 * costS (costS cT) d := fun d => by
        unfold psum
        rw [List.take_length]
        induction d with
        | nil => exact Nat.zero_le _
        | cons x d ih =>
          have := len_cost cT x
          unfold costS at ih ⊢
          simp only [List.map_cons, List.sum_cons, List.length_cons] at ih ⊢
          unfold costS at this
          omega
      have h2 := h1 o.d
      have h3 := len_cost cB o.p
      have h4 := len_cost cT o.b
      unfold Pck.cnt
      rw [psum_const, psum_const]
      unfold cP
      omega
    unfold costS at ih ⊢
    simp only [List.map_cons, List.sum_cons, List.length_cons] at ih ⊢
    omega
theorem psum_cnt_le (l : List Pck) : psum Pck.cnt l l.length ≤ 12 * costS cP l := by
  unfold psum
  rw [List.take_length]
  exact sum_le_cost l
theorem szP_le (cs : List Pck) (h : 0 ≤ szS szP cs 1048576) : szS szP cs 1048576 ≤ 1048576 := by
  rw [szS_cost szP_cost] at h ⊢
  split
  · omega
  · omega
theorem sz_facts2 {t : List Trm} {l : Int} (hl : l ≤ 1048576) (h : 0 ≤ szS szT t l) : t.length ≤ 1048576 := by
  rw [szS_cost szT_cost] at h
  split at h
  · omega
  · have := len_cost cT t
    omega
/-- What the size check tells. -/
theorem sz_facts {cs : List Pck} (h : 0 ≤ szS szP cs 1048576) : cs.length ≤ 1048576 ∧ (∀ o ∈ cs, o.Small) ∧ psum Pck.cnt cs cs.length ≤ 12582912 := by
  rw [szS_cost szP_cost] at h
  split at h
  · omega
  · have hc : costS cP cs ≤ 1048576 := by omega
    exact ⟨Nat.le_trans (len_cost _ _) hc, fun o ho => small_of (Nat.le_trans (mem_cost _ _ o ho) hc), Nat.le_trans (psum_cnt_le cs) (by omega)⟩
end Go.Proofs.YtdngjnjapihbkaaGreat

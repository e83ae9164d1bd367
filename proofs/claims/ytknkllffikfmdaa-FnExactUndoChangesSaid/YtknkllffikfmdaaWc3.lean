/- Walks: UndoChanges, twice. Plain theorems. -/
import Derived.Test.YtknkllffikfmdaaWc2
set_option linter.unusedVariables false
set_option linter.unusedSimpArgs false
namespace Go.Proofs.Ytknkllffikfmdaa
open Go Go.Fw
set_option maxRecDepth 100000
def undo1 (c : Chg) : Chg :=
  if c.k = 1 then ⟨2, c.n, c.w, Ver.zero⟩ else if c.k = 2 then ⟨1, c.n, Ver.zero, c.o⟩ else if c.k = 3 then ⟨3, c.n, c.w, c.o⟩ else c
def undo (cs : List Chg) : List Chg := cs.reverse.map undo1
theorem undo_at {cs : List Chg} {k : Nat} (h : k < cs.length) : ∃ c, cs[cs.length - 1 - k]? = some c ∧ (undo cs)[k]? = some (undo1 c) := by
  refine ⟨cs[cs.length - 1 - k], List.getElem?_eq_getElem (by omega), ?_⟩
  unfold undo
  rw [List.getElem?_map, List.getElem?_reverse h, List.getElem?_eq_getElem (by omega)]
  rfl
theorem undo_length (cs : List Chg) : (undo cs).length = cs.length := by simp [undo]
theorem undo1_1 {c : Chg} (h : c.k = 1) : undo1 c = ⟨2, c.n, c.w, Ver.zero⟩ := by rw [undo1, if_pos h]
theorem undo1_2 {c : Chg} (h : c.k = 2) : undo1 c = ⟨1, c.n, Ver.zero, c.o⟩ := by rw [undo1, if_neg (by omega), if_pos h]
theorem undo1_3 {c : Chg} (h : c.k = 3) : undo1 c = ⟨3, c.n, c.w, c.o⟩ := by rw [undo1, if_neg (by omega), if_neg (by omega), if_pos h]
theorem undo1_4 {c : Chg} (h1 : c.k ≠ 1) (h2 : c.k ≠ 2) (h3 : c.k ≠ 3) : undo1 c = c := by rw [undo1, if_neg h1, if_neg h2, if_neg h3]
theorem c_implUndo (cs : List Chg) (hb : cs.length ≤ 1048576) : PCtr PP n_impl_UndoChanges [.sl false 8 (cs.map Chg.enc)] (.sl true 8 ((undo cs).map Chg.enc)) := by
  obtain ⟨Ω, hΩ⟩ : ∃ Ω, Ω = std := ⟨_, rfl⟩
  obtain ⟨xs, hxs⟩ : ∃ xs, xs = cs.map Chg.enc := ⟨_, rfl⟩
  have hlen : xs.length = cs.length := by rw [hxs, List.length_map]
  obtain ⟨ys, hys⟩ : ∃ ys : Nat → List A, ys = fun k => ((undo cs).take k).map Chg.enc := ⟨_, rfl⟩
  obtain ⟨zs, hzs⟩ : ∃ zs, zs = (undo cs).map Chg.enc := ⟨_, rfl⟩
  obtain ⟨pos, hp0, hp1, hp2, hp3⟩ := downs xs.length (by omega)
  have hyl : ∀ k, k ≤ cs.length → (ys k).length = k := fun k hk => by rw [hys]; simp [undo_length]; omega
  rw [← hxs, ← hzs]
  have htab := tab
  refine PCtr.walk tab hΩ fn_impl_UndoChanges rfl ?_
  generalize PP = P at *
  cbv
  refine loopX htab hΩ (fun k : Nat => ⟨[(0, .sl false 8 xs), (3, .vw 0 0 k), (4, .sc (.int .i64 (pos k)))], 47, [some ⟨8, ys k, false⟩]⟩) (fun i => i ≤ cs.length) (fun i => cs.length - i) 0 (Nat.zero_le _)
    (Sbs.mk rfl (by rw [hys]; rfl) ⟨rfl, rfl, by subst hΩ; exact congrArg i64 hp0, trivial⟩) (fun i hi => ?_)
  cbv
  refine br (fun h => ?_) (fun h => ?_)
  · replace h : i < cs.length := by rw [← hlen]; exact hp2 i (geI_t hΩ h)
    obtain ⟨c, hcc, hcu⟩ := undo_at h
    have hset : ys i ++ [(undo1 c).enc] = ys (i + 1) := by rw [hys]; simp only; rw [List.take_add_one, hcu]; simp
    have hp := hp1 i (by omega)
    cbv
    refine ⟨⟨hp.1⟩, c.enc, by rw [hp.2, hlen, hxs, List.getElem?_map, hcc]; rfl, ?_⟩
    have fin : ∀ z : A, z = (undo1 c).enc → [some (Row.mk 8 (Ω.app (Ω.take i (ys i)) [z]) false)] = [some ⟨8, ys (i + 1), false⟩] := fun z hz => by
      subst hΩ
      rw [hz, ← hset]
      show [some (Row.mk 8 ((ys i).take i ++ [(undo1 c).enc]) false)] = _
      rw [List.take_of_length_le (by rw [hyl i hi]; omega)]
    have fin2 : i64 (Ω.ar .sub .i64 (pos i) 1) = i64 (pos (i + 1)) := by subst hΩ; exact congrArg i64 (hp3 i (by omega))
    have fin3 : ∀ z : A, A.vw 0 0 (Ω.plus i (Ω.len [z])) = A.vw 0 0 (i + 1) := fun z => by subst hΩ; rfl
    have fin4 : (i + 1) * 72 ≤ 140737488355328 ∧ i + 1 ≤ 9223372036854775807 := by omega
    cbv
    refine br (fun h1 => ?_) (fun h1 => ?_)
    · have hu := undo1_1 (eqI_t hΩ h1)
      cbv
      refine ⟨⟨rfl, okAll rfl, fin4.1, fin4.2⟩, i + 1, by omega, by omega, Sbs.trans (Sbs.lastN (rows := [_, _]) rfl) (Sbs.mkL (rows := [_]) rfl rfl ?_ ⟨rfl, fin3 _, fin2, trivial⟩)⟩
      exact fin _ (by rw [hu]; rfl)
    cbv
    refine br (fun h2 => ?_) (fun h2 => ?_)
    · have hu := undo1_2 (eqI_t hΩ h2)
      cbv
      refine ⟨⟨rfl, okAll rfl, fin4.1, fin4.2⟩, i + 1, by omega, by omega, Sbs.trans (Sbs.lastN (rows := [_, _]) rfl) (Sbs.mkL (rows := [_]) rfl rfl ?_ ⟨rfl, fin3 _, fin2, trivial⟩)⟩
      exact fin _ (by rw [hu]; rfl)
    cbv
    refine br (fun h3 => ?_) (fun h3 => ?_)
    · have hu := undo1_3 (eqI_t hΩ h3)
      have hk := eqI_t hΩ h3
      cbv
      refine ⟨⟨rfl, okAll rfl, fin4.1, fin4.2⟩, i + 1, by omega, by omega, Sbs.trans (Sbs.lastN (rows := [_, _]) rfl) (Sbs.mkL (rows := [_]) rfl rfl ?_ ⟨rfl, fin3 _, fin2, trivial⟩)⟩
      exact fin _ (by rw [hu, ← hk]; rfl)
    · have hu := undo1_4 (eqI_f hΩ h1) (eqI_f hΩ h2) (eqI_f hΩ h3)
      cbv
      refine ⟨⟨rfl, okAll rfl, fin4.1, fin4.2⟩, i + 1, by omega, by omega, Sbs.trans (Sbs.lastN (rows := [_, _]) rfl) (Sbs.mkL (rows := [_]) rfl rfl ?_ ⟨rfl, fin3 _, fin2, trivial⟩)⟩
      exact fin _ (by rw [hu]; rfl)
  · replace h : i = cs.length := by
      have h := geI_f hΩ h
      have h2 := hp1 i
      omega
    cbv
    refine ⟨⟨rfl, (hyl i hi).symm⟩, .of ?_⟩
    rw [h, hys, hzs, ← undo_length]; simp only; rw [List.take_length]
theorem c_l1In (v l u : Int) : PCtr PP n_spec_l1In [i64 v, i64 l, i64 u] (boo (decide (l ≤ v ∧ v ≤ u))) := by
  obtain ⟨Ω, hΩ⟩ : ∃ Ω, Ω = std := ⟨_, rfl⟩
  obtain ⟨r, hr⟩ : ∃ r, r = decide (l ≤ v ∧ v ≤ u) := ⟨_, rfl⟩
  rw [← hr]
  refine PCtr.walk tab hΩ fn_spec_l1In rfl ?_
  generalize PP = P
  cbv
  refine br (fun h => ?_) (fun h => ?_)
  · have h1 := geI_t hΩ h
    cbv
    refine .of (congrArg boo ?_)
    subst hΩ
    show decide (v ≤ u) = r
    rw [hr]; simp [h1]
  · have h1 := geI_f hΩ h
    cbv
    refine .of (congrArg boo ?_)
    rw [hr, decide_eq_false (by omega)]
theorem c_specUndo (cs : List Chg) (hb : cs.length ≤ 1048576) : PCtr PP n_spec_UndoChanges [.sl false 8 (cs.map Chg.enc)] (.sl true 8 ((undo cs).map Chg.enc)) := by
  obtain ⟨Ω, hΩ⟩ : ∃ Ω, Ω = std := ⟨_, rfl⟩
  obtain ⟨xs, hxs⟩ : ∃ xs, xs = cs.map Chg.enc := ⟨_, rfl⟩
  have hlen : xs.length = cs.length := by rw [hxs, List.length_map]
  obtain ⟨ys, hys⟩ : ∃ ys : Nat → List A, ys = fun k => ((undo cs).take k).map Chg.enc := ⟨_, rfl⟩
  obtain ⟨zs, hzs⟩ : ∃ zs, zs = (undo cs).map Chg.enc := ⟨_, rfl⟩
  obtain ⟨pos, hp0, hp1, hp2, hp3⟩ := downs xs.length (by omega)
  have hyl : ∀ k, k ≤ cs.length → (ys k).length = k := fun k hk => by rw [hys]; simp [undo_length]; omega
  rw [← hxs, ← hzs]
  have htab := tab
  have hin := c_l1In
  refine PCtr.walk tab hΩ fn_spec_UndoChanges rfl ?_
  generalize PP = P at *
  cbv
  refine loopX htab hΩ (fun k : Nat => ⟨[(0, .sl false 8 xs), (3, .vw 0 0 k), (4, .sc (.int .i64 (pos k)))], 47, [some ⟨8, ys k, false⟩]⟩) (fun i => i ≤ cs.length) (fun i => cs.length - i) 0 (Nat.zero_le _)
    (Sbs.mk rfl (by rw [hys]; rfl) ⟨rfl, rfl, by subst hΩ; exact congrArg i64 hp0, trivial⟩) (fun i hi => ?_)
  cbv
  refine br (fun h => ?_) (fun h => ?_)
  · replace h : i < cs.length := by rw [← hlen]; exact hp2 i (geI_t hΩ h)
    obtain ⟨c, hcc, hcu⟩ := undo_at h
    have hset : ys i ++ [(undo1 c).enc] = ys (i + 1) := by rw [hys]; simp only; rw [List.take_add_one, hcu]; simp
    have hp := hp1 i (by omega)
    cbv
    refine ⟨⟨hp.1⟩, c.enc, by rw [hp.2, hlen, hxs, List.getElem?_map, hcc]; rfl, ?_⟩
    have fin : ∀ z : A, z = (undo1 c).enc → [some (Row.mk 8 (Ω.app (Ω.take i (ys i)) [z]) false)] = [some ⟨8, ys (i + 1), false⟩] := fun z hz => by
      subst hΩ
      rw [hz, ← hset]
      show [some (Row.mk 8 ((ys i).take i ++ [(undo1 c).enc]) false)] = _
      rw [List.take_of_length_le (by rw [hyl i hi]; omega)]
    have fin2 : i64 (Ω.ar .sub .i64 (pos i) 1) = i64 (pos (i + 1)) := by subst hΩ; exact congrArg i64 (hp3 i (by omega))
    have fin3 : ∀ z : A, A.vw 0 0 (Ω.plus i (Ω.len [z])) = A.vw 0 0 (i + 1) := fun z => by subst hΩ; rfl
    have fin4 : (i + 1) * 72 ≤ 140737488355328 ∧ i + 1 ≤ 9223372036854775807 := by omega
    have hin' := hin c.k 1 3
    generalize hd : decide (1 ≤ c.k ∧ c.k ≤ 3) = d at hin'
    cbv
    refine ⟨CallOK_pure (k := 3) hin' rfl (fits _) rfl rfl ?_⟩
    cbv
    refine br (fun h0 => ?_) (fun h0 => ?_)
    · cbv
      refine br (fun h1 => ?_) (fun h1 => ?_)
      · have hu := undo1_1 (eqI_t hΩ h1)
        cbv
        refine ⟨⟨rfl, okAll rfl, fin4.1, fin4.2⟩, i + 1, by omega, by omega, Sbs.trans (Sbs.lastN (rows := [_, _]) rfl) (Sbs.mkL (rows := [_]) rfl rfl ?_ ⟨rfl, fin3 _, fin2, trivial⟩)⟩
        exact fin _ (by rw [hu]; rfl)
      cbv
      refine br (fun h2 => ?_) (fun h2 => ?_)
      · have hu := undo1_2 (eqI_t hΩ h2)
        cbv
        refine ⟨⟨rfl, okAll rfl, fin4.1, fin4.2⟩, i + 1, by omega, by omega, Sbs.trans (Sbs.lastN (rows := [_, _]) rfl) (Sbs.mkL (rows := [_]) rfl rfl ?_ ⟨rfl, fin3 _, fin2, trivial⟩)⟩
        exact fin _ (by rw [hu]; rfl)
      · have hk : c.k = 3 := by have h5 : 1 ≤ c.k ∧ c.k ≤ 3 := of_decide_eq_true (hd.trans h0); have h6 : c.k ≠ 1 := eqI_f hΩ h1; have h7 : c.k ≠ 2 := eqI_f hΩ h2; omega
        have hu := undo1_3 hk
        cbv
        refine ⟨⟨rfl, okAll rfl, fin4.1, fin4.2⟩, i + 1, by omega, by omega, Sbs.trans (Sbs.lastN (rows := [_, _]) rfl) (Sbs.mkL (rows := [_]) rfl rfl ?_ ⟨rfl, fin3 _, fin2, trivial⟩)⟩
        exact fin _ (by rw [hu, ← hk]; rfl)
    · have hk : ¬ (1 ≤ c.k ∧ c.k ≤ 3) := of_decide_eq_false (hd.trans h0)
      have hk1 : c.k ≠ 1 := by omega
      have hk2 : c.k ≠ 2 := by omega
      have hu := undo1_4 (c := c) (by omega) (by omega) (by omega)
      cbv
      refine br (fun h1 => (hk1 (eqI_t hΩ h1)).elim) (fun h1 => ?_)
      cbv
      refine br (fun h2 => (hk2 (eqI_t hΩ h2)).elim) (fun h2 => ?_)
      cbv
      refine ⟨⟨rfl, okAll rfl, fin4.1, fin4.2⟩, i + 1, by omega, by omega, Sbs.trans (Sbs.lastN (rows := [_, _]) rfl) (Sbs.mkL (rows := [_]) rfl rfl ?_ ⟨rfl, fin3 _, fin2, trivial⟩)⟩
      exact fin _ (by rw [hu]; rfl)
  · replace h : i = cs.length := by
      have h := geI_f hΩ h
      have h2 := hp1 i
      omega
    cbv
    refine ⟨⟨rfl, (hyl i hi).symm⟩, .of ?_⟩
    rw [h, hys, hzs, ← undo_length]; simp only; rw [List.take_length]
end Go.Proofs.Ytknkllffikfmdaa

/- Walks: ChangesOf on both sides. Plain theorems. -/
import Derived.Test.YtfmcncflooechaaGreatC5
import Derived.Deep.Slices
import Derived.ChangeStays
import Derived.OpenShut
import Derived.WalkKit
import Derived.ProofKit
set_option linter.unusedVariables false
set_option linter.unusedSimpArgs false
namespace Go.Proofs.YtfmcncflooechaaGreat
open Go Go.Fw
set_option maxRecDepth 100000
theorem dltC_zero {c : List Pck} {f t : List Int} (h : dltC c f t = 0) : setF c f = 0 ∧ setF c t = 0 ∧ twice c f 0 f = false ∧ twice c t 0 t = false := by
  unfold dltC at h
  split at h
  · omega
  · split at h
    · omega
    · split at h
      · cases h
      · rename_i h1 h2 h3
        refine ⟨by omega, by omega, ?_, ?_⟩
        · cases hq : twice c f 0 f
          · rfl
          · exact absurd (.inl hq) h3
        · cases hq : twice c t 0 t
          · rfl
          · exact absurd (.inr hq) h3
def chOf (c : List Pck) (f t : List Int) : List Chg := if dltC c f t = 0 then chgS c f t else []
theorem chOf_len {c : List Pck} {f t : List Int} : (chOf c f t).length ≤ c.length := by
  unfold chOf
  split
  · unfold chgS; rw [List.length_map]; exact ch_len
  · exact Nat.zero_le _
theorem fit_nil8 (k a : Int) : FitX (.agg [i64 k, i64 a, .nil]) (.agg [i64 k, i64 a, .sl true 8 []]) := ⟨2, by simp [fitA, fitA.fitL, i64]⟩
theorem roF_Chgs (cs : List Chg) : roFree (.sl true 8 (cs.map Chg.enc)) = true := roFAll fun x hx => by obtain ⟨c, _, rfl⟩ := List.mem_map.1 hx; rfl
theorem c_specChangesOf (l : List Pck) (f t : List Int) (hl : l.length ≤ 1048576) (ho : ∀ o ∈ l, o.Small) (hf : f.length ≤ 1048576) (ht : t.length ≤ 1048576) :
    PCtr PP n_spec_ChangesOf [encP l, .sl false 1 (f.map i64), .sl false 1 (t.map i64)] (chgR (dltC l f t) (chOf l f t)) := by
  obtain ⟨Ω, hΩ⟩ : ∃ Ω, Ω = std := ⟨_, rfl⟩
  have h1 := c_l5Asked l f t hl ho hf ht
  have h2 := fun h : dltC l f t = 0 => c_l15Changes l f t hl hf ht (setF_in (dltC_zero h).1) (setF_in (dltC_zero h).2.1)
  unfold chgR chOf
  have hr := roF_Chgs (chgS l f t)
  obtain ⟨gs, hgs⟩ : ∃ gs, gs = (chgS l f t).map Chg.enc := ⟨_, rfl⟩
  rw [← hgs] at h2 hr
  obtain ⟨zs, hzs⟩ : ∃ zs, zs = (if dltC l f t = 0 then chgS l f t else []).map Chg.enc := ⟨_, rfl⟩
  rw [← hzs]
  have hz1 : dltC l f t = 0 → zs = gs := fun h => by rw [hzs, if_pos h, hgs]
  have hz2 : dltC l f t ≠ 0 → zs = [] := fun h => by rw [hzs, if_neg h]; rfl
  clear hzs hgs
  generalize dltC l f t = k at *
  unfold encP at *
  generalize f.map i64 = fa at *
  generalize t.map i64 = ta at *
  generalize l.map (Pck.enc false) = xs at *
  have htab := tab
  refine PCtr.walk tab hΩ fn_spec_ChangesOf rfl ?_
  have hlg : Ω.len gs ≤ gs.length := by subst hΩ; exact Nat.le_refl _
  have htg : Ω.take (Ω.len gs) gs = gs := takeAll hΩ _
  generalize PP = P at *
  cbv
  refine call_pure hΩ 3 h1 rfl (fits _) rfl rfl ?_
  cbv
  refine br (fun h => ?_) (fun h => ?_) <;> cbv
  · have h := neZt hΩ h
    rw [hz2 h]; exact fit_nil8 k 0
  · have h := neZf hΩ h
    refine call_pure hΩ 3 (h2 h) rfl (fits _) hr rfl ?_
    cbv
    rw [hz1 h, h]
    exact ⟨⟨rfl, hlg⟩, .of (congrArg (fun q => A.agg [i64 0, i64 0, A.sl true 8 q]) htg)⟩
theorem c_changesOf (l : List Pck) (f t : List Int) (hl : l.length ≤ 1048576) (ho : ∀ o ∈ l, o.Small) (hf : f.length ≤ 1048576) (ht : t.length ≤ 1048576) :
    PCtr PP n_impl_changesOf [encP l, .sl false 1 (f.map i64), .sl false 1 (t.map i64)] (.tup [.sl true 8 ((chOf l f t).map Chg.enc), i64 (dltC l f t)]) := by
  obtain ⟨Ω, hΩ⟩ : ∃ Ω, Ω = std := ⟨_, rfl⟩
  have h1 := c_deltaCode l f t hl ho hf ht
  unfold chOf
  by_cases hD : dltC l f t = 0
  rotate_left
  · rw [if_neg hD]
    generalize dltC l f t = k at *
    unfold encP at *
    generalize f.map i64 = fa at *
    generalize t.map i64 = ta at *
    generalize l.map (Pck.enc false) = xs at *
    have htab := tab
    refine PCtr.walk tab hΩ fn_impl_changesOf rfl ?_
    generalize PP = P at *
    cbv
    refine call_pure hΩ 3 h1 rfl (fits _) rfl rfl ?_
    cbv
    repeat' (first | (refine br (fun hh => ?_) (fun hh => ?_) <;> (repeat' (first | replace hh := iteA hΩ hh | replace hh := iteB hΩ hh)) <;> (first | replace hh := neZt hΩ hh | replace hh := neZf hΩ hh | replace hh := eqZt hΩ hh | replace hh := eqZf hΩ hh | replace hh := ltZt hΩ hh | replace hh := ltZf hΩ hh | replace hh := geZt hΩ hh | replace hh := geZf hΩ hh | replace hh := gtZt hΩ hh | replace hh := gtZf hΩ hh | replace hh := leZt hΩ hh | replace hh := leZf hΩ hh | replace hh := notA hΩ hh | replace hh := notB hΩ hh | skip) <;> (first | (exfalso; (first | omega | (cases hh; done) | (simp_all; done))) | cbv)))
    exact ⟨2, by simp [fitA, fitA.fitL, i64]⟩
  obtain ⟨hF, hT, -, -⟩ := dltC_zero hD
  have hkf := setF_in hF
  have hkt := setF_in hT
  rw [if_pos hD]
  rw [hD] at h1 ⊢
  have hat : ∀ (s : List Int) n, (∀ k ∈ s, inB k 0 ((l.length : Int) - 1) = true) → 0 ≤ nmF l n s → ∃ n' v1 v2 v3 sz ps ds bs, (pk l (nmF l n s)).v = ⟨v1, v2, v3⟩ ∧ (l.map (Pck.enc false))[(nmF l n s).toNat]? = some (.agg [str n', i64 v1, i64 v2, i64 v3, i64 sz, .sl false 1 ps, .sl false 1 ds, .sl false 7 bs]) := fun s n hs h => by
    obtain ⟨h0, h1, h2, h3⟩ := pk_at (hs _ (nmF_mem (c := l) (n := n) (s := s) h))
    obtain ⟨ps, ds, bs, hen, hp, hd, hb⟩ := enc_raw (pk l (nmF l n s))
    exact ⟨_, (pk l (nmF l n s)).v.a, (pk l (nmF l n s)).v.b, (pk l (nmF l n s)).v.c, _, ps, ds, bs, rfl, by rw [List.getElem?_map, h2]; exact congrArg some hen⟩
  have hatf := fun n => hat f n hkf
  have hatt := fun n => hat t n hkt
  clear hat
  have hnf := fun n => c_named l f n hl hf hkf
  have hnt := fun n => c_named l t n hl ht hkt
  have hch := c_changed l f t hl hf ht hkf hkt
  rw [ch_eq hkf hkt] at hch
  have hcl := ch_len (c := l) (f := f) (t := t)
  unfold chgS
  have hcg : ∀ n ∈ chS l f t, ¬ nmF l n f = nmF l n t ∧ -1 ≤ nmF l n f ∧ -1 ≤ nmF l n t := fun n hn => by
    have := ((foldPut_spec (p := chB l f t) (ns := l.map Pck.n) (o := []) (by simp)).2 n).1 hn
    simp only [List.not_mem_nil, false_or] at this
    refine ⟨?_, nmF_ge hkf, nmF_ge hkt⟩
    have := this.2
    unfold chB at this
    simpa using this
  generalize chS l f t = ns at *
  obtain ⟨C, hC⟩ : ∃ C : Nat → List A, C = fun i => ((ns.take i).map (chg l f t)).map Chg.enc := ⟨_, rfl⟩
  have hC0 : C 0 = [] := by rw [hC]; rfl
  have hCl : ∀ i, (C i).length ≤ i := fun i => by rw [hC]; simp only [List.length_map, List.length_take]; omega
  have hCi : ∀ i n, ns[i]? = some n → Ω.app (Ω.take (Ω.len (C i)) (C i)) [(chg l f t n).enc] = C (i + 1) := fun i n h => by
    rw [takeAll hΩ, hC]; dsimp only; rw [List.take_add_one, h, List.map_append, List.map_append]; subst hΩ; rfl
  have hpl : ∀ i n (x : A), ns[i]? = some n → Ω.plus (Ω.len (C i)) (Ω.len [x]) = Ω.len (C (i + 1)) := fun i n x h => by rw [show Ω.len [x] = Ω.len [(chg l f t n).enc] by subst hΩ; rfl]; rw [← hCi i n h, takeAll hΩ]; subst hΩ; exact (List.length_append).symm
  have hfin : (ns.map (chg l f t)).map Chg.enc = C ns.length := by rw [hC]; dsimp only; rw [List.take_length]
  rw [hfin]
  obtain ⟨m, hm⟩ : ∃ m, m = ns.length := ⟨_, rfl⟩
  rw [← hm]
  have hro := roF_S ns
  obtain ⟨q, hq⟩ : ∃ q, q = ns.map str := ⟨_, rfl⟩
  have hql : q.length = ns.length := by rw [hq, List.length_map]
  have hqz : q.map frz = q := by rw [hq]; exact frz_S _
  have hqz' : frz (.sl true 1 q) = .sl false 1 q := by rw [frz_sl, hqz]
  rw [← hq] at hch hro
  unfold chg Chg.enc Chg.cells at hCi
  dsimp only at hCi
  unfold encP at *
  generalize f.map i64 = fa at *
  generalize t.map i64 = ta at *
  generalize l.map (Pck.enc false) = xs at *
  clear hC hfin
  have htab := tab
  have hmo := hmo
  refine PCtr.walk tab hΩ fn_impl_changesOf rfl ?_
  generalize PP = P at *
  cbv
  refine call_pure hΩ 3 h1 rfl (fits _) rfl rfl ?_
  cbv
  refine br (fun h => absurd rfl (neZt hΩ h)) (fun h => ?_)
  cbv
  refine call_pf hΩ 3 hch rfl (fits _) hro hqz' rfl ?_
  cbv
  refine loopX htab hΩ (fun i : Nat => ⟨[(0, .sl false 8 xs), (1, .sl false 1 fa), (2, .sl false 1 ta), (9, .vw 0 0 (Ω.len (C i))), (26, .sl false 1 q), (27, i64 (Ω.int (Ω.len q))), (28, i64 (Ω.int i))], 70, [some ⟨8, C i, false⟩]⟩) (fun i => i ≤ ns.length) (fun i => ns.length - i) 0 (Nat.zero_le _)
    (Sbs.mk rfl (by rw [hC0]) ⟨rfl, rfl, rfl, by rw [hC0]; subst hΩ; rfl, rfl, rfl, zeroI hΩ, trivial⟩) (fun i hi => ?_)
  have hCli := hCl i
  have hlo : Ω.len (C i) = (C i).length := by subst hΩ; rfl
  have hle : Ω.len (C i) ≤ (C i).length := by rw [hlo]; exact Nat.le_refl _
  have htk : Ω.take (Ω.len (C i)) (C i) = C i := takeAll hΩ _
  cbv
  refine br (fun h => ?_) (fun h => ?_) <;> cbv
  · replace h := ltI hΩ h
    obtain ⟨n, hn⟩ := at_of (cs := ns) (by omega : i < ns.length)
    have hCi := hCi i n hn
    have hpl := fun x => hpl i n x hn
    obtain ⟨hne, hg1, hg2⟩ := hcg n (List.mem_of_getElem? hn)
    have hnf := hnf n
    have hnt := hnt n
    have hatf := hatf n
    have hatt := hatt n
    generalize nmF l n f = a at *
    generalize nmF l n t = b at *
    refine ⟨⟨nnI hΩ⟩, _, rdI hΩ hq hn, ?_⟩
    cbv
    refine call_pure hΩ 3 hnf rfl (fits _) rfl rfl ?_
    cbv
    repeat' (first
      | (refine br (fun hh => ?_) (fun hh => ?_) <;> (repeat' (first | replace hh := iteA hΩ hh | replace hh := iteB hΩ hh)) <;> (first | replace hh := neZt hΩ hh | replace hh := neZf hΩ hh | replace hh := eqZt hΩ hh | replace hh := eqZf hΩ hh | replace hh := ltZt hΩ hh | replace hh := ltZf hΩ hh | replace hh := geZt hΩ hh | replace hh := geZf hΩ hh | replace hh := gtZt hΩ hh | replace hh := gtZf hΩ hh | replace hh := leZt hΩ hh | replace hh := leZf hΩ hh | replace hh := notA hΩ hh | replace hh := notB hΩ hh | skip) <;> (first | (exfalso; (first | omega | (cases hh; done) | (simp_all; done))) | cbv))
      | (refine ⟨VC_lord htab hΩ hmo [0, 1, 2, 3, 4, 5] (.step 6 (.step 7 (.step 8 .fin))) [] [] (by kernel_rfl) ?_⟩; cbv)
      | (refine call_pure hΩ 3 hnt rfl (fits _) rfl rfl ?_; clear hnt; cbv)
      | (obtain ⟨n', v1, v2, v3, sz, ps, ds, bs, hv, hx⟩ := hatf (by omega); rw [hv] at hCi; refine ⟨⟨by omega⟩, _, hx, ?_⟩; clear hatf; cbv)
      | (obtain ⟨n', v1, v2, v3, sz, ps, ds, bs, hv, hx⟩ := hatt (by omega); rw [hv] at hCi; refine ⟨⟨by omega⟩, _, hx, ?_⟩; clear hatt; cbv)
      | (intro vs; cbv))
    all_goals (first
      | (have e1 : ¬ a < 0 := by omega)
      | (have e1 : a < 0 := by omega))
    all_goals (first
      | (have e2 : ¬ b < 0 := by omega)
      | (have e2 : b < 0 := by omega))
    all_goals simp only [e1, e2, if_true, if_false] at hCi
    all_goals exact ⟨⟨rfl, okAll rfl, by show (Ω.len (C i) + 1) * 72 ≤ 140737488355328; omega, by show Ω.len (C i) + 1 ≤ 9223372036854775807; omega⟩, i + 1, by omega, by omega,
        (Sbs.cut 1 rfl).trans (Sbs.mk rfl (by rw [← hCi]; rfl) ⟨rfl, rfl, rfl, congrArg (A.vw 0 0) (hpl _), rfl, rfl, incI hΩ (by omega), trivial⟩)⟩
  · replace h := geI hΩ h
    obtain rfl : m = i := by omega
    exact ⟨⟨rfl, hle⟩, .of (congrArg (fun z => A.tup [A.sl true 8 z, i64 0]) htk)⟩
theorem c_implChangesOf (l : List Pck) (f t : List Int) (hl : l.length ≤ 1048576) (ho : ∀ o ∈ l, o.Small) (hf : f.length ≤ 1048576) (ht : t.length ≤ 1048576) :
    PCtr PP n_impl_ChangesOf [encP l, .sl false 1 (f.map i64), .sl false 1 (t.map i64)] (chgR (dltC l f t) (chOf l f t)) := by
  obtain ⟨Ω, hΩ⟩ : ∃ Ω, Ω = std := ⟨_, rfl⟩
  have h1 := c_changesOf l f t hl ho hf ht
  unfold chgR
  have hr : roFree (.tup [.sl true 8 ((chOf l f t).map Chg.enc), i64 (dltC l f t)]) = true := by
    rw [roFree_tup]; simp only [List.all_cons, List.all_nil, roF_Chgs]; rfl
  generalize (chOf l f t).map Chg.enc = gs at *
  generalize dltC l f t = k at *
  unfold encP at *
  generalize f.map i64 = fa at *
  generalize t.map i64 = ta at *
  generalize l.map (Pck.enc false) = xs at *
  have htab := tab
  refine PCtr.walk tab hΩ fn_impl_ChangesOf rfl ?_
  have hlg : Ω.len gs ≤ gs.length := by subst hΩ; exact Nat.le_refl _
  have htg : Ω.take (Ω.len gs) gs = gs := takeAll hΩ _
  generalize PP = P at *
  cbv
  refine call_pure hΩ 3 h1 rfl (fits _) hr rfl ?_
  cbv
  exact ⟨⟨rfl, hlg⟩, .of (congrArg (fun q => A.agg [i64 k, i64 0, A.sl true 8 q]) htg)⟩
end Go.Proofs.YtfmcncflooechaaGreat

/- Walks: UndoChanges, twice. Plain theorems. -/
set_option linter.unusedVariables false
set_option linter.unusedSimpArgs false
namespace Go.Proofs.YtfmcncflooechaaGreat
open Go Go.Fw
set_option maxRecDepth 100000
def undo1 (c : Chg) : Chg :=
  if c.k = 1 then ⟨2, c.n, c.w, Ver.zero⟩ else if c.k = 2 then ⟨1, c.n, Ver.zero, c.o⟩ else if c.k = 3 then ⟨3, c.n, c.w, c.o⟩ else c
def undo (cs : List Chg) : List Chg := cs.reverse.map undo1
theorem undo_at {cs : List Chg} {k : Nat} (h : k < cs.length) : ∃ c, cs[cs.length - 1 - k]? = some c ∧ (undo cs)[k]? = some (undo1 c) := by
  refine ⟨cs[cs.length - 1 - k], List.getElem?_eq_getElem (by omega), ?_⟩
  unfold undo
  rw [List.getElem?_map, List.getElem?_reverse h, List.getElem?_eq_getElem (by omega)]
  rfl
theorem undo_length (cs : List Chg) : (undo cs).length = cs.length := by simp [undo]
theorem undo1_1 {c : Chg} (h : c.k = 1) : undo1 c = ⟨2, c.n, c.w, Ver.zero⟩ := by rw [undo1, if_pos h]
theorem undo1_2 {c : Chg} (h : c.k = 2) : undo1 c = ⟨1, c.n, Ver.zero, c.o⟩ := by rw [undo1, if_neg (by omega), if_pos h]
theorem undo1_3 {c : Chg} (h : c.k = 3) : undo1 c = ⟨3, c.n, c.w, c.o⟩ := by rw [undo1, if_neg (by omega), if_neg (by omega), if_pos h]
theorem undo1_4 {c : Chg} (h1 : c.k ≠ 1) (h2 : c.k ≠ 2) (h3 : c.k ≠ 3) : undo1 c = c := by rw [undo1, if_neg h1, if_neg h2, if_neg h3]
theorem c_implUndo (cs : List Chg) (hb : cs.length ≤ 1048576) : PCtr PP n_impl_UndoChanges [.sl false 8 (cs.map Chg.enc)] (.sl true 8 ((undo cs).map Chg.enc)) := by
  obtain ⟨Ω, hΩ⟩ : ∃ Ω, Ω = std := ⟨_, rfl⟩
  obtain ⟨xs, hxs⟩ : ∃ xs, xs = cs.map Chg.enc := ⟨_, rfl⟩
  have hlen : xs.length = cs.length := by rw [hxs, List.length_map]
  obtain ⟨ys, hys⟩ : ∃ ys : Nat → List A, ys = fun k => ((undo cs).take k).map Chg.enc := ⟨_, rfl⟩
  obtain ⟨zs, hzs⟩ : ∃ zs, zs = (undo cs).map Chg.enc := ⟨_, rfl⟩
  obtain ⟨pos, hp0, hp1, hp2, hp3⟩ := downs xs.length (by omega)
  have hyl : ∀ k, k ≤ cs.length → (ys k).length = k := fun k hk => by rw [hys]; simp [undo_length]; omega
  rw [← hxs, ← hzs]
  have htab := tab
  refine PCtr.walk tab hΩ fn_impl_UndoChanges rfl ?_
  generalize PP = P at *
  cbv
  refine loopX htab hΩ (fun k : Nat => ⟨[(0, .sl false 8 xs), (3, .vw 0 0 k), (4, .sc (.int .i64 (pos k)))], 47, [some ⟨8, ys k, false⟩]⟩) (fun i => i ≤ cs.length) (fun i => cs.length - i) 0 (Nat.zero_le _)
    (Sbs.mk rfl (by rw [hys]; rfl) ⟨rfl, rfl, by subst hΩ; exact congrArg i64 hp0, trivial⟩) (fun i hi => ?_)
  cbv
  refine br (fun h => ?_) (fun h => ?_)
  · replace h : i < cs.length := by rw [← hlen]; exact hp2 i (geI_t hΩ h)
    obtain ⟨c, hcc, hcu⟩ := undo_at h
    have hset : ys i ++ [(undo1 c).enc] = ys (i + 1) := by rw [hys]; simp only; rw [List.take_add_one, hcu]; simp
    have hp := hp1 i (by omega)
    cbv
    refine ⟨⟨hp.1⟩, c.enc, by rw [hp.2, hlen, hxs, List.getElem?_map, hcc]; rfl, ?_⟩
    have fin : ∀ z : A, z = (undo1 c).enc → [some (Row.mk 8 (Ω.app (Ω.take i (ys i)) [z]) false)] = [some ⟨8, ys (i + 1), false⟩] := fun z hz => by
      subst hΩ
      rw [hz, ← hset]
      show [some (Row.mk 8 ((ys i).take i ++ [(undo1 c).enc]) false)] = _
      rw [List.take_of_length_le (by rw [hyl i hi]; omega)]
    have fin2 : i64 (Ω.ar .sub .i64 (pos i) 1) = i64 (pos (i + 1)) := by subst hΩ; exact congrArg i64 (hp3 i (by omega))
    have fin3 : ∀ z : A, A.vw 0 0 (Ω.plus i (Ω.len [z])) = A.vw 0 0 (i + 1) := fun z => by subst hΩ; rfl
    have fin4 : (i + 1) * 72 ≤ 140737488355328 ∧ i + 1 ≤ 9223372036854775807 := by omega
    cbv
    refine br (fun h1 => ?_) (fun h1 => ?_)
    · have hu := undo1_1 (eqI_t hΩ h1)
      cbv
      refine ⟨⟨rfl, okAll rfl, fin4.1, fin4.2⟩, i + 1, by omega, by omega, Sbs.trans (Sbs.lastN (rows := [_, _]) rfl) (Sbs.mkL (rows := [_]) rfl rfl ?_ ⟨rfl, fin3 _, fin2, trivial⟩)⟩
      exact fin _ (by rw [hu]; rfl)
    cbv
    refine br (fun h2 => ?_) (fun h2 => ?_)
    · have hu := undo1_2 (eqI_t hΩ h2)
      cbv
      refine ⟨⟨rfl, okAll rfl, fin4.1, fin4.2⟩, i + 1, by omega, by omega, Sbs.trans (Sbs.lastN (rows := [_, _]) rfl) (Sbs.mkL (rows := [_]) rfl rfl ?_ ⟨rfl, fin3 _, fin2, trivial⟩)⟩
      exact fin _ (by rw [hu]; rfl)
    cbv
    refine br (fun h3 => ?_) (fun h3 => ?_)
    · have hu := undo1_3 (eqI_t hΩ h3)
      have hk := eqI_t hΩ h3
      cbv
      refine ⟨⟨rfl, okAll rfl, fin4.1, fin4.2⟩, i + 1, by omega, by omega, Sbs.trans (Sbs.lastN (rows := [_, _]) rfl) (Sbs.mkL (rows := [_]) rfl rfl ?_ ⟨rfl, fin3 _, fin2, trivial⟩)⟩
      exact fin _ (by rw [hu, ← hk]; rfl)
    · have hu := undo1_4 (eqI_f hΩ h1) (eqI_f hΩ h2) (eqI_f hΩ h3)
      cbv
      refine ⟨⟨rfl, okAll rfl, fin4.1, fin4.2⟩, i + 1, by omega, by omega, Sbs.trans (Sbs.lastN (rows := [_, _]) rfl) (Sbs.mkL (rows := [_]) rfl rfl ?_ ⟨rfl, fin3 _, fin2, trivial⟩)⟩
      exact fin _ (by rw [hu]; rfl)
  · replace h : i = cs.length := by
      have h := geI_f hΩ h
      have h2 := hp1 i
      omega
    cbv
    refine ⟨⟨rfl, Nat.le_of_eq (hyl i hi).symm⟩, .of ?_⟩
    rw [h, hys, hzs, ← undo_length]; simp only; rw [List.take_length]
    subst hΩ; exact congrArg (A.sl true 8) (List.take_of_length_le (by simp))
end Go.Proofs.YtfmcncflooechaaGreat

/- Changes make one set of another: plain law, no program. -/
set_option linter.unusedVariables false
set_option linter.unusedSimpArgs false
namespace Go.Proofs.YtfmcncflooechaaGreat
open Go Go.Fw
theorem idxFrom_first {α : Type} {p : α → Bool} : ∀ {l : List α} {i j : Nat}, idxFrom p i l = ((i + j : Nat) : Int) → ∀ q o, q < j → l[q]? = some o → ¬ p o = true
  | [], i, j, h, q, o, hq, ho => by simp at ho
  | x :: l, i, j, h, q, o, hq, ho => by
    rw [idxFrom] at h
    split at h
    · omega
    · rename_i hp
      cases q with
      | zero => simp at ho; subst ho; exact hp
      | succ q => exact idxFrom_first (i := i + 1) (j := j - 1) (by rw [h]; congr 1; omega) q o (by omega) (by simpa using ho)
theorem catFrom_all {c : List Pck} : ∀ (n i : Nat), c.length - i = n → catFrom c i (c.drop i) = 0 → ∀ j x, i ≤ j → c[j]? = some x → packF x = 0 ∧ findF (c.take j) x.n x.v < 0
  | 0, i, hn, _, j, x, hij, hx => by have := (List.getElem?_eq_some_iff.1 hx).1; omega
  | n + 1, i, hn, h, j, x, hij, hx => by
    have hi : i < c.length := by omega
    rw [catFrom_at (List.getElem?_eq_getElem hi)] at h
    split at h
    · omega
    · rename_i h1
      split at h
      · cases h
      · rename_i h2
        by_cases e : j = i
        · subst e
          rw [List.getElem?_eq_getElem hi] at hx
          obtain rfl := Option.some.inj hx
          exact ⟨by omega, by omega⟩
        · exact catFrom_all n (i + 1) (by omega) h j x (by omega) hx
/-- In a right catalog a package is found by its name and its version. -/
theorem findF_self {c : List Pck} (h : catF c = 0) {k : Int} (hk : inB k 0 ((c.length : Int) - 1) = true) : findF c (pk c k).n (pk c k).v = k := by
  obtain ⟨h0, h1, h2, -⟩ := pk_at hk
  have hc : catFrom c 0 (c.drop 0) = 0 := by
    unfold catF at h
    split at h
    · cases h
    · rw [List.drop_zero]; exact h
  obtain ⟨-, hno⟩ := catFrom_all _ 0 rfl hc k.toNat _ (Nat.zero_le _) h2
  have hnn : 0 ≤ findF c (pk c k).n (pk c k).v := by
    unfold findF idx
    rw [idxFrom_nn]
    exact List.any_eq_true.2 ⟨pk c k, (pk_at hk).2.2.2, by simp [isP]⟩
  obtain ⟨j, o, hj, ho, he⟩ := idxFrom_spec hnn
  have hj' : findF c (pk c k).n (pk c k).v = (j : Int) := by unfold findF idx; rw [he]; simp
  rw [hj']
  have hfirst := idxFrom_first (p := isP (pk c k).n (pk c k).v) (l := c) (i := 0) (j := j) (by unfold findF idx at hj'; simpa using hj')
  rcases Nat.lt_trichotomy j k.toNat with hlt | heq | hgt
  · exfalso
    have : 0 ≤ findF (c.take k.toNat) (pk c k).n (pk c k).v := by
      unfold findF idx
      rw [idxFrom_nn]
      exact List.any_eq_true.2 ⟨o, List.mem_of_getElem? (by rw [List.getElem?_take_of_lt hlt]; exact hj), ho⟩
    omega
  · omega
  · exact absurd (by simp [isP]) (hfirst k.toNat _ hgt h2)
/-- Sets that lead each name to the same place are one. -/
theorem good_ext {c : List Pck} {s t : List Int} (hs : Good c s) (ht : Good c t) (h : ∀ n, nmF c n s = nmF c n t) : s = t := by
  have mem : ∀ {s : List Int}, Good c s → ∀ k, k ∈ s ↔ (0 ≤ k ∧ nmF c (pk c k).n s = k) := fun {s} hs k => by
    constructor
    · exact fun hk => ⟨(pk_at (hs.at_ k hk)).1, nmF_self hs.nm k hk⟩
    · rintro ⟨h0, h1⟩; rw [← h1]; exact nmF_mem (by omega)
  refine strict_ext (fun a => Int.lt_irrefl a) (fun a b d => Int.lt_trans) hs.lt ht.lt fun k => ?_
  rw [mem hs, mem ht, h]
theorem nmF_of {c : List Pck} {n : List UInt8} {s : List Int} (hs : Good c s) {k : Int} (hk : k ∈ s) (hn : (pk c k).n = n) : nmF c n s = k := by
  subst hn; exact nmF_self hs.nm k hk
/-- What a change does to the places. -/
theorem nmF_new {c : List Pck} {s : List Int} {x : Chg} (hg : Good c s) (h : newC c s x = 0) (m : List UInt8) : nmF c m (newS c s x) = if m = x.n then (if x.k = 2 then -1 else findF c x.n x.w) else nmF c m s := by
  have hg' := hg.new h
  obtain ⟨h1, h2, h3, h4⟩ := newC_zero h
  have hnn : ∀ k ∈ s, 0 ≤ k := fun k hk => (pk_at (hg.at_ k hk)).1
  -- what is left of the old set
  obtain ⟨a, ha⟩ : ∃ a, a = if x.k = 1 then s else s.filter fun k => !decide (k = nmF c x.n s) := ⟨_, rfl⟩
  have hmem : ∀ k, k ∈ a ↔ k ∈ s ∧ (pk c k).n ≠ x.n := fun k => by
    rw [ha]
    split
    · rename_i hk
      exact ⟨fun hm => ⟨hm, nmF_no hnn (h4 hk) k hm⟩, fun hm => hm.1⟩
    · rename_i hk
      have hnz := (h2.resolve_left hk).1
      rw [List.mem_filter]
      constructor
      · rintro ⟨m1, m2⟩
        refine ⟨m1, ?_⟩
        have := pairwise_name hg.nm m1 (nmF_mem hnz) (by simpa using m2)
        rwa [nmF_name hnz] at this
      · rintro ⟨m1, m2⟩
        refine ⟨m1, ?_⟩
        simp only [Bool.not_eq_true', decide_eq_false_iff_not]
        intro e
        exact m2 (by rw [e, nmF_name hnz])
  have hnew : newS c s x = if x.k = 2 then a else put3 (findF c x.n x.w) a := by unfold newS; dsimp only; rw [← ha]
  have hin : ∀ k, k ∈ newS c s x ↔ (k ∈ s ∧ (pk c k).n ≠ x.n) ∨ (x.k ≠ 2 ∧ k = findF c x.n x.w) := fun k => by
    rw [hnew]
    split
    · rename_i hk; rw [hmem]; exact ⟨.inl, fun h => h.resolve_right fun h => h.1 hk⟩
    · rename_i hk
      rw [(put3_perm _ _).mem_iff, List.mem_cons, hmem]
      exact ⟨fun h => h.elim (fun e => .inr ⟨hk, e⟩) .inl, fun h => h.elim .inr fun h => .inl h.2⟩
  have hfn : x.k ≠ 2 → (pk c (findF c x.n x.w)).n = x.n := fun hk => (findF_spec (h3.resolve_left hk)).2.1
  split
  · rename_i e
    subst e
    split
    · rename_i hk
      refine nmF_none fun k hk' => ?_
      rcases (hin k).1 hk' with h | h
      · exact h.2
      · exact absurd hk h.1
    · rename_i hk
      exact nmF_of hg' ((hin _).2 (.inr ⟨hk, rfl⟩)) (hfn hk)
  · rename_i e
    by_cases h0 : 0 ≤ nmF c m s
    · have hm := nmF_mem h0
      exact nmF_of hg' ((hin _).2 (.inl ⟨hm, by rw [nmF_name h0]; exact e⟩)) (nmF_name h0)
    · have hns := nmF_no hnn (by omega : nmF c m s < 0)
      rw [nmF_none fun k hk' => ?_, nmF_none hns]
      rcases (hin k).1 hk' with h | h
      · exact hns k h.1
      · rw [h.2, hfn h.1]; exact fun e' => e e'.symm
theorem chg_new {c : List Pck} {f t s : List Int} {n : List UInt8} (hc : catF c = 0) (hf : Good c f) (ht : Good c t) (hne : nmF c n f ≠ nmF c n t) (hs : nmF c n s = nmF c n f) (hsn : ∀ k ∈ s, 0 ≤ k) :
    newC c s (chg c f t n) = 0 ∧ (if (chg c f t n).k = 2 then -1 else findF c (chg c f t n).n (chg c f t n).w) = nmF c n t := by
  have g1 := nmF_ge (n := n) hf.at_
  have g2 := nmF_ge (n := n) ht.at_
  have hfind : 0 ≤ nmF c n t → findF c n (pk c (nmF c n t)).v = nmF c n t := fun h => by
    have := findF_self hc (ht.at_ _ (nmF_mem h))
    rwa [nmF_name h] at this
  have hz : cmpV (pk c (nmF c n f)).v (pk c (nmF c n f)).v = 0 := cmpV_zero.2 rfl
  unfold newC chg
  dsimp only
  rw [hs]
  by_cases e1 : nmF c n f < 0
  · have e2 : ¬ nmF c n t < 0 := by omega
    have hfd := hfind (by omega)
    simp only [e1, e2, if_true, if_false]
    rw [hfd]
    refine ⟨?_, by simp⟩
    rw [if_neg (by decide), if_neg (by omega), if_neg (by omega)]
  · by_cases e2 : nmF c n t < 0
    · simp only [e1, e2, if_true, if_false]
      refine ⟨?_, by omega⟩
      rw [if_neg (by decide), if_neg (by simp [hz]; try omega), if_neg (by omega)]
    · have hfd := hfind (by omega)
      simp only [e1, e2, if_false]
      rw [hfd]
      refine ⟨?_, by simp⟩
      rw [if_neg (by decide), if_neg (by simp [hz]; try omega), if_neg (by omega)]
/-- Changes of names, each once, lead to what stands behind them. -/
theorem run_chg {c : List Pck} {f t : List Int} (hc : catF c = 0) (hf : Good c f) (ht : Good c t) : ∀ (ns : List (List UInt8)) (s : List Int), Good c s → ns.Nodup → (∀ n ∈ ns, nmF c n f ≠ nmF c n t ∧ nmF c n s = nmF c n f) → (∀ n, n ∉ ns → nmF c n s = nmF c n t) →
    runC c s (ns.map (chg c f t)) = (0, t)
  | [], s, hs, _, _, h2 => by
    rw [List.map_nil, runC, good_ext hs ht fun n => h2 n (by simp)]
  | n :: ns, s, hs, hnd, h1, h2 => by
    rw [List.nodup_cons] at hnd
    obtain ⟨a1, a2⟩ := h1 n (by simp)
    obtain ⟨b1, b2⟩ := chg_new hc hf ht a1 a2 fun k hk => (pk_at (hs.at_ k hk)).1
    rw [List.map_cons, runC, if_pos b1]
    have hnm := nmF_new hs b1
    rw [b2] at hnm
    have hcn : (chg c f t n).n = n := rfl
    rw [hcn] at hnm
    refine run_chg hc hf ht ns _ (hs.new b1) hnd.2 (fun m hm => ?_) fun m hm => ?_
    · obtain ⟨c1, c2⟩ := h1 m (by simp [hm])
      refine ⟨c1, ?_⟩
      rw [hnm, if_neg (by rintro rfl; exact hnd.1 hm)]; exact c2
    · rw [hnm]
      split
      · rename_i e; rw [e]
      · rename_i e; exact h2 m (by simp [hm, e])
theorem nodup_strict {l : List (List UInt8)} (h : l.Pairwise (· < ·)) : l.Nodup := by
  unfold List.Nodup
  refine h.imp ?_
  rintro a b hab rfl
  exact ltS_irr a hab
theorem mem_ch {c : List Pck} {f t : List Int} {n : List UInt8} (hf : ∀ k ∈ f, inB k 0 ((c.length : Int) - 1) = true) (ht : ∀ k ∈ t, inB k 0 ((c.length : Int) - 1) = true) : n ∈ chS c f t ↔ nmF c n f ≠ nmF c n t := by
  have h4 := (foldPut_spec (p := chB c f t) (ns := c.map Pck.n) (o := []) (by simp)).2 n
  have e : n ∈ chS c f t ↔ n ∈ c.map Pck.n ∧ chB c f t n = true := h4.trans (by simp)
  rw [e]
  constructor
  · rintro ⟨-, h⟩; simpa [chB] using h
  · intro h
    refine ⟨?_, by simpa [chB] using h⟩
    have hp : ∀ {s : List Int}, (∀ k ∈ s, inB k 0 ((c.length : Int) - 1) = true) → 0 ≤ nmF c n s → n ∈ c.map Pck.n := fun {s} hs h0 => by
      have := (pk_at (hs _ (nmF_mem h0))).2.2.2
      exact List.mem_map.2 ⟨_, this, nmF_name h0⟩
    by_cases h0 : 0 ≤ nmF c n f
    · exact hp hf h0
    · have g1 := nmF_ge (n := n) hf
      have g2 := nmF_ge (n := n) ht
      exact hp ht (by omega)
theorem dlt_good {c : List Pck} {f t : List Int} (h : dltC c f t = 0) : catF c = 0 ∧ Good c f ∧ Good c t ∧ setF c f = 0 ∧ setF c t = 0 ∧ twice c f 0 f = false ∧ twice c t 0 t = false := by
  obtain ⟨h1, h2, h3, h4⟩ := dltC_zero h
  refine ⟨?_, good_of h1 h3, good_of h2 h4, h1, h2, h3, h4⟩
  unfold setF at h1
  split at h1
  · omega
  · rename_i h0; omega
/-- The changes from one set to another one make this of that. -/
theorem app_ch {c : List Pck} {f t : List Int} (h : dltC c f t = 0) : appC c f (chgS c f t) = 0 ∧ appS c f (chgS c f t) = t := by
  obtain ⟨hc, hf, ht, h1, h2, h3, h4⟩ := dlt_good h
  have hr : runC c f (chgS c f t) = (0, t) := run_chg hc hf ht (chS c f t) f hf (nodup_strict ch_strict) (fun n hn => ⟨(mem_ch hf.at_ ht.at_).1 hn, rfl⟩) fun n hn => Decidable.byContradiction fun e => hn ((mem_ch hf.at_ ht.at_).2 e)
  have e : appC c f (chgS c f t) = 0 := by unfold appC; rw [if_neg (by omega), h3, hr]; rfl
  refine ⟨e, ?_⟩
  unfold appS
  rw [if_pos e, hr]
theorem undo_chg {c : List Pck} {f t : List Int} {n : List UInt8} (h : nmF c n f ≠ nmF c n t) (hf : -1 ≤ nmF c n f) (ht : -1 ≤ nmF c n t) : undo1 (chg c f t n) = chg c t f n := by
  unfold undo1 chg
  dsimp only
  by_cases e1 : nmF c n f < 0
  · have e2 : ¬ nmF c n t < 0 := by omega
    simp [e1, e2]
  · by_cases e2 : nmF c n t < 0
    · simp [e1, e2]
    · simp [e1, e2]
/-- Undone they make that one again. -/
theorem app_undo {c : List Pck} {f t : List Int} (h : dltC c f t = 0) : appC c t ((chgS c f t).reverse.map undo1) = 0 ∧ appS c t ((chgS c f t).reverse.map undo1) = f := by
  obtain ⟨hc, hf, ht, h1, h2, h3, h4⟩ := dlt_good h
  have e0 : (chgS c f t).reverse.map undo1 = (chS c f t).reverse.map (chg c t f) := by
    unfold chgS
    rw [← List.map_reverse, List.map_map]
    refine List.map_congr_left fun n hn => ?_
    exact undo_chg ((mem_ch hf.at_ ht.at_).1 (by simpa using hn)) (nmF_ge hf.at_) (nmF_ge ht.at_)
  rw [e0]
  have hr : runC c t ((chS c f t).reverse.map (chg c t f)) = (0, f) := run_chg hc ht hf _ t ht ((List.reverse_perm _).nodup_iff.2 (nodup_strict ch_strict)) (fun n hn => ⟨fun e => (mem_ch hf.at_ ht.at_).1 (by simpa using hn) e.symm, rfl⟩) fun n hn => Decidable.byContradiction fun e => hn (by simpa using (mem_ch hf.at_ ht.at_).2 fun e' => e e'.symm)
  have e : appC c t ((chS c f t).reverse.map (chg c t f)) = 0 := by unfold appC; rw [if_neg (by omega), h4, hr]; rfl
  refine ⟨e, ?_⟩
  unfold appS
  rw [if_pos e, hr]
end Go.Proofs.YtfmcncflooechaaGreat

/- Walks: changes put to a set, one behind another. Plain theorems. -/
set_option linter.unusedVariables false
set_option linter.unusedSimpArgs false
namespace Go.Proofs.YtfmcncflooechaaGreat
open Go Go.Fw
set_option maxRecDepth 100000
theorem roF_setK (k : Int) (s : List Int) : roFree (setK k s) = true := by
  unfold setK
  rw [roFree_tup]
  simp only [List.all_cons, List.all_nil, roF_I]
  rfl
theorem c_implApply (l : List Pck) (s : List Int) (g : List Chg) (hl : l.length ≤ 1048576) (ho : ∀ o ∈ l, o.Small) (hs : s.length ≤ 1048576) (hgl : g.length ≤ 1048576) :
    PCtr PP n_impl_ApplyChanges [encP l, .sl false 1 (s.map i64), .sl false 8 (g.map Chg.enc)] (setR (appC l s g) 0 (appS l s g)) := by
  obtain ⟨Ω, hΩ⟩ : ∃ Ω, Ω = std := ⟨_, rfl⟩
  obtain ⟨C, hC⟩ : ∃ C, C = appC l s g := ⟨_, rfl⟩
  obtain ⟨S, hS⟩ : ∃ S, S = appS l s g := ⟨_, rfl⟩
  rw [← hC, ← hS]
  unfold appS at hS
  rw [← hC] at hS
  unfold appC at hC
  have hsf := c_implSetFault l s (by omega) ho hs
  have hap : setF l s = 0 → PCtr PP n_impl_isTwice [encP l, .sl false 1 (s.map i64)] (boo (twice l s 0 s)) := fun h => c_isTwice l s (by omega) hs (setF_in h)
  have hcl := c_Clone s hs
  have hstep := fun (t : List Int) (x : Chg) (h : Good l t) => c_applied l t x (by omega) (by have := h.len; omega) h.at_ h.le
  obtain ⟨k0, hk0⟩ : ∃ x, setF l s = x := ⟨_, rfl⟩
  obtain ⟨T, hT⟩ : ∃ x, twice l s 0 s = x := ⟨_, rfl⟩
  have hgood : k0 = 0 → T = false → Good l s := fun h1 h2 => good_of (hk0.trans h1) (hT.trans h2)
  rw [hk0] at hsf hap hC
  rw [hT] at hap hC
  unfold setR
  obtain ⟨Z, hZ⟩ : ∃ Z, Z = S.map i64 := ⟨_, rfl⟩
  rw [← hZ]
  have hnil : ∀ k : Int, C = k → k ≠ 0 → FitX (.agg [i64 k, i64 0, .nil]) (.agg [i64 C, i64 0, .sl true 1 Z]) := fun k h h2 => by
    have : Z = [] := by rw [hZ, hS, if_neg (by omega)]; rfl
    rw [h, this]; exact fit_nilR k 0
  obtain ⟨xs, hxs⟩ : ∃ xs, xs = s.map i64 := ⟨_, rfl⟩
  have hno := noInt s
  have hxl : xs.length = s.length := by rw [hxs, List.length_map]
  obtain ⟨gs, hgs⟩ : ∃ gs, gs = g.map Chg.enc := ⟨_, rfl⟩
  have hgsl : gs.length = g.length := by rw [hgs, List.length_map]
  obtain ⟨F, hF⟩ : ∃ F : List Int → List A, F = fun s => s.map i64 := ⟨_, rfl⟩
  have hFm : ∀ t : List Int, t.map i64 = F t := fun t => by rw [hF]
  have hFz : ∀ t, (F t).map frz = F t := fun t => by rw [hF]; exact frz_I t
  have hlen : ∀ t : List Int, Ω.len (F t) = (F t).length := fun t => by subst hΩ; rfl
  have htk : ∀ t : List Int, Ω.take (Ω.len (F t)) (F t) = F t := fun t => takeAll hΩ _
  have hroF := fun (t : List Int) (x : Chg) => roF_setK (newC l t x) (if newC l t x = 0 then newS l t x else [])
  unfold setK encP ints at *
  simp only [hFm] at hstep hroF hZ hxs
  rw [← hgs]
  generalize l.map (Pck.enc false) = cs at *
  rw [hFm s] at hsf hap hno hcl ⊢
  rw [← hxs] at hsf hap hno hcl ⊢
  have happ : Ω.app (Ω.take 0 []) xs = F s := by rw [← hxs]; subst hΩ; rfl
  have hpl : Ω.plus 0 (Ω.len xs) = Ω.len (F s) := by rw [← hxs]; subst hΩ; exact Nat.zero_add _
  have htab := tab
  have hmo := hmo
  refine PCtr.walk tab hΩ fn_impl_ApplyChanges rfl ?_
  generalize PP = P at *
  cbv
  refine call_pure hΩ 3 hsf rfl (fits _) rfl rfl ?_
  cbv
  refine br (fun h => ?_) (fun h => ?_) <;> cbv
  rotate_left
  · have h := eqZf hΩ h
    refine br (fun h2 => ?_) (fun h2 => absurd (neZf hΩ h2) h) <;> cbv
    exact hnil k0 (by rw [hC, if_pos h]) h
  have h := eqZt hΩ h
  rw [if_neg (by omega)] at hC
  refine call_pure hΩ 3 (hap h) rfl (fits _) rfl rfl ?_
  cbv
  refine br (fun h2 => ?_) (fun h2 => ?_) <;> cbv
  · have h2 : T = true := iteA hΩ h2
    refine br (fun h5 => ?_) (fun h5 => absurd (neZf hΩ h5) (by decide)) <;> cbv
    exact hnil 6 (by rw [hC, h2]; rfl) (by decide)
  have h2 : T = false := iteA hΩ h2
  rw [h2] at hC
  have hg0 := hgood h h2
  refine br (fun h5 => absurd h (neZt hΩ h5)) (fun h5 => ?_) <;> cbv
  refine call_pure hΩ 3 hcl rfl (fits _) (by rw [hxs, ← hFm]; exact roF_I s) rfl ?_
  cbv
  refine loopX htab hΩ (fun i : Nat × List Int => ⟨[(0, .sl false 8 cs), (6, .pt 0 0 0), (1, .vw 1 0 (Ω.len (F i.2))), (28, .sl false 8 gs), (29, i64 (Ω.int (Ω.len gs))), (30, i64 (Ω.int i.1))], 49, [some ⟨3, [.agg [i64 0, i64 0, .nil]], true⟩, some ⟨1, F i.2, false⟩]⟩)
    (fun i => i.1 ≤ g.length ∧ Good l i.2 ∧ runC l s g = runC l i.2 (g.drop i.1)) (fun i => g.length - i.1) (0, s) ⟨Nat.zero_le _, hg0, by rw [List.drop_zero]⟩
    ((Sbs.cut 2 rfl).trans (Sbs.mk rfl (by show [_, some (Row.mk 1 xs false)] = _; rw [hxs]; rfl) ⟨rfl, rfl, by show A.vw 1 0 (Ω.len xs) = _; rw [hxs], rfl, rfl, zeroI hΩ, trivial⟩)) ?_
  rintro ⟨i, t⟩ ⟨i1, i2, i3⟩
  dsimp only at i1 i2 i3
  have hlt := hlen t
  have hFzt := hFz t
  have htkt := htk t
  have hle : Ω.len (F t) ≤ (F t).length := by rw [hlt]; exact Nat.le_refl _
  have hro : ∀ {S : State}, Fw.rowAt S.rows 1 = some ⟨1, F t, false⟩ → roO S 3 (.vw 1 0 (Ω.len (F t))) = some (.sl false 1 (F t)) := fun h => ro_vw h hlt hFzt
  cbv
  refine br (fun h3 => ?_) (fun h3 => ?_) <;> cbv
  · replace h3 := ltI hΩ h3
    obtain ⟨x, hx⟩ := at_of (cs := g) (by omega : i < g.length)
    rw [runC_at hx] at i3
    have hst := hstep t x i2
    have hrx := hroF t x
    have hnew : newC l t x = 0 → Good l (newS l t x) := i2.new
    obtain ⟨K, n, ⟨o1, o2, o3⟩, ⟨w1, w2, w3⟩⟩ := x
    have hrd : gs[(Ω.int i).toNat]? = some (.agg [i64 K, str n, i64 o1, i64 o2, i64 o3, i64 w1, i64 w2, i64 w3]) := by have := rdI hΩ hgs hx; exact this
    generalize newC l t ⟨K, n, ⟨o1, o2, o3⟩, ⟨w1, w2, w3⟩⟩ = D at *
    generalize newS l t ⟨K, n, ⟨o1, o2, o3⟩, ⟨w1, w2, w3⟩⟩ = u at *
    unfold Chg.enc Chg.cells at hst
    obtain ⟨Y, hY⟩ : ∃ Y, Y = F (if D = 0 then u else []) := ⟨_, rfl⟩
    rw [← hY] at hst hrx
    refine ⟨⟨nnI hΩ⟩, _, hrd, ?_⟩
    cbv
    refine call_pure hΩ 3 hst (mapO3 rfl (hro rfl) rfl) (fits _) hrx rfl ?_
    cbv
    refine br (fun h4 => ?_) (fun h4 => ?_) <;> cbv
    · have h4 := neI_t hΩ h4
      exact hnil D (by rw [hC, i3, if_neg h4]; rfl) h4
    · have h4 := neI_f hΩ h4
      rw [if_pos h4] at i3 hY
      subst hY
      exact ⟨(i + 1, u), ⟨by dsimp only; omega, hnew h4, i3⟩, by dsimp only; omega, (Sbs.drop (r := 1) rfl).trans ((Sbs.mv (a := 3) (b := 1) rfl rfl (Nat.le_of_ble_eq_true rfl)).trans ((Sbs.cut 2 rfl).trans (Sbs.mk rfl rfl ⟨rfl, rfl, rfl, rfl, rfl, incI hΩ (by omega), trivial⟩)))⟩
  · replace h3 := geI hΩ h3
    rw [List.drop_of_length_le (by omega), runC] at i3
    have hC0 : C = 0 := by rw [hC, i3]; rfl
    have hZ2 : Z = F t := by rw [hZ, hS, if_pos hC0, i3]
    refine ⟨⟨rfl, hle⟩, .of ?_⟩
    rw [hC0, hZ2]
    exact congrArg (fun q => A.agg [i64 0, i64 0, A.sl true 1 q]) htkt
end Go.Proofs.YtfmcncflooechaaGreat

/- The law of sets in which nobody is barred, walked; what it says of plain data. Plain theorems. -/
set_option linter.unusedVariables false
set_option linter.unusedSimpArgs false
namespace Go.Proofs.YtfmcncflooechaaGreat
open Go Go.Fw
set_option maxRecDepth 100000
theorem c_lwBig (bs : List A) : PCtr PP n_laws_lwBig [.sl false 1 bs] (boo (decide (1048576 < bs.length))) := by
  obtain ⟨Ω, hΩ⟩ : ∃ Ω, Ω = std := ⟨_, rfl⟩
  obtain ⟨r, hr⟩ : ∃ r, r = decide (1048576 < bs.length) := ⟨_, rfl⟩
  rw [← hr]
  have htab := tab
  refine PCtr.walk tab hΩ fn_laws_lwBig rfl ?_
  generalize PP = P at *
  cbv
  refine .of (congrArg boo ?_)
  subst hΩ
  show decide ((bs.length : Int) > 1048576) = r
  rw [hr, Bool.eq_iff_iff, decide_eq_true_eq, decide_eq_true_eq]; omega
end Go.Proofs.YtfmcncflooechaaGreat

/- The law of stories, walked. Plain theorems. -/
set_option linter.unusedVariables false
set_option linter.unusedSimpArgs false
namespace Go.Proofs.YtfmcncflooechaaGreat
open Go Go.Fw
set_option maxRecDepth 100000
theorem c_lwNums (a : List Int) (ha : a.length ≤ 1048576) : PCtr PP n_laws_lwNums [.sl false 1 (a.map i64), .sl false 1 (a.map i64)] (boo true) := by
  obtain ⟨Ω, hΩ⟩ : ∃ Ω, Ω = std := ⟨_, rfl⟩
  obtain ⟨xs, hxs⟩ : ∃ xs, xs = a.map i64 := ⟨_, rfl⟩
  have hlen : xs.length = a.length := by rw [hxs, List.length_map]
  rw [← hxs]
  have htab := tab
  have hmo := hmo
  refine PCtr.walk tab hΩ fn_laws_lwNums rfl ?_
  generalize PP = P at *
  cbv
  refine br (fun h => (ne_self hΩ h).elim) (fun h => ?_)
  cbv
  refine loopX htab hΩ (fun i : Nat => ⟨[(0, .sl false 1 xs), (1, .sl false 1 xs), (5, i64 (Ω.int i))], 26, []⟩) (fun i => i ≤ a.length) (fun i => a.length - i) 0 (Nat.zero_le _) (Sbs.mk rfl rfl ⟨rfl, rfl, zeroI hΩ, trivial⟩) (fun i hi => ?_)
  cbv
  refine br (fun h => ?_) (fun h => ?_) <;> cbv
  · replace h := ltI hΩ h
    obtain ⟨c, hc⟩ := at_of (cs := a) (by omega : i < _)
    refine ⟨VC_drawn htab hΩ hmo (by kernel_rfl) ?_⟩
    cbv
    refine ⟨⟨nnI hΩ⟩, _, rdI hΩ hxs hc, ?_⟩
    cbv
    refine ⟨⟨nnI hΩ⟩, _, rdI hΩ hxs hc, ?_⟩
    cbv
    refine br (fun h => (ne_self hΩ h).elim) (fun h => ?_)
    cbv
    exact ⟨i + 1, by omega, by omega, Sbs.mk rfl rfl ⟨rfl, rfl, incI hΩ (by omega), trivial⟩⟩
  · exact .same
def chN (c : List Pck) (f t : List Int) : List (List UInt8) := if dltC c f t = 0 then chS c f t else []
theorem fit_nil1 (k : Int) : FitX (.agg [i64 k, .nil]) (.agg [i64 k, .sl true 1 []]) := ⟨2, by simp [fitA, fitA.fitL, i64]⟩
theorem c_ChangedNames (l : List Pck) (f t : List Int) (hl : l.length ≤ 1048576) (ho : ∀ o ∈ l, o.Small) (hf : f.length ≤ 1048576) (ht : t.length ≤ 1048576) :
    PCtr PP n_impl_ChangedNames [encP l, .sl false 1 (f.map i64), .sl false 1 (t.map i64)] (.agg [i64 (dltC l f t), .sl true 1 ((chN l f t).map str)]) := by
  obtain ⟨Ω, hΩ⟩ : ∃ Ω, Ω = std := ⟨_, rfl⟩
  have h1 := c_deltaCode l f t hl ho hf ht
  have h2 := fun h : dltC l f t = 0 => ch_eq (setF_in (dltC_zero h).1) (setF_in (dltC_zero h).2.1) ▸ c_changed l f t hl hf ht (setF_in (dltC_zero h).1) (setF_in (dltC_zero h).2.1)
  unfold chN
  have hr := roF_S (chS l f t)
  obtain ⟨gs, hgs⟩ : ∃ gs, gs = (chS l f t).map str := ⟨_, rfl⟩
  rw [← hgs] at h2 hr
  obtain ⟨zs, hzs⟩ : ∃ zs, zs = (if dltC l f t = 0 then chS l f t else []).map str := ⟨_, rfl⟩
  rw [← hzs]
  have hz1 : dltC l f t = 0 → zs = gs := fun h => by rw [hzs, if_pos h, hgs]
  have hz2 : dltC l f t ≠ 0 → zs = [] := fun h => by rw [hzs, if_neg h]; rfl
  clear hzs hgs
  generalize dltC l f t = k at *
  unfold encP at *
  generalize f.map i64 = fa at *
  generalize t.map i64 = ta at *
  generalize l.map (Pck.enc false) = xs at *
  have htab := tab
  refine PCtr.walk tab hΩ fn_impl_ChangedNames rfl ?_
  have hlg : Ω.len gs ≤ gs.length := by subst hΩ; exact Nat.le_refl _
  have htg : Ω.take (Ω.len gs) gs = gs := takeAll hΩ _
  generalize PP = P at *
  cbv
  refine call_pure hΩ 3 h1 rfl (fits _) rfl rfl ?_
  cbv
  refine br (fun h => ?_) (fun h => ?_) <;> cbv
  · have h := neZt hΩ h
    rw [hz2 h]; exact fit_nil1 k
  · have h := neZf hΩ h
    refine call_pure hΩ 3 (h2 h) rfl (fits _) hr rfl ?_
    cbv
    rw [hz1 h, h]
    exact ⟨⟨rfl, hlg⟩, .of (congrArg (fun q => A.agg [i64 0, A.sl true 1 q]) htg)⟩
theorem frz_Chgs (cs : List Chg) : frz (.sl true 8 (cs.map Chg.enc)) = .sl false 8 (cs.map Chg.enc) := by
  rw [frz_sl, List.map_map]; exact congrArg _ (List.map_congr_left fun c _ => rfl)
theorem roF_chgR' (k a : Int) (g : List Chg) : roFree (.agg [i64 k, i64 a, .sl true 8 (g.map Chg.enc)]) = true := by
  rw [roFree_agg]; simp only [List.all_cons, List.all_nil, roF_Chgs]; rfl
theorem frz_chgR (k a : Int) (g : List Chg) : frz (.agg [i64 k, i64 a, .sl true 8 (g.map Chg.enc)]) = .agg [i64 k, i64 a, .sl false 8 (g.map Chg.enc)] := by
  rw [frz_agg]; simp only [List.map_cons, List.map_nil, frz_Chgs]; rfl
theorem frz_setR (k a : Int) (s : List Int) : frz (.agg [i64 k, i64 a, .sl true 1 (s.map i64)]) = .agg [i64 k, i64 a, .sl false 1 (s.map i64)] := by
  rw [frz_agg]; simp only [List.map_cons, List.map_nil, frz_sl, frz_I]; rfl
theorem roF_nm (k : Int) (s : List (List UInt8)) : roFree (.agg [i64 k, .sl true 1 (s.map str)]) = true := by
  rw [roFree_agg]; simp only [List.all_cons, List.all_nil, roF_S]; rfl
theorem frz_nm (k : Int) (s : List (List UInt8)) : frz (.agg [i64 k, .sl true 1 (s.map str)]) = .agg [i64 k, .sl false 1 (s.map str)] := by
  rw [frz_agg]; simp only [List.map_cons, List.map_nil, frz_sl, frz_S]; rfl
theorem c_lawStories (bs : List A) (hby : ∀ i, i < bs.length → ∃ c : UInt8, bs[i]? = some (.sc (.int .u8 (c.toNat : Int)))) : PCtr PP n_laws_FnStories [.sl false 1 bs] (boo true) := by
  obtain ⟨Ω, hΩ⟩ : ∃ Ω, Ω = std := ⟨_, rfl⟩
  have hbig := c_lwBig bs
  have hdr : bs.length ≤ 1048576 → _ := fun h => d_DrawChangesOf (bs := bs) ⟨h, hby⟩
  have hic := fun (l : List Pck) (s t : List Int) (o : ∀ o ∈ l, o.Small) (b : l.length ≤ 40) (c : s.length ≤ 1048576) (d : t.length ≤ 1048576) => c_implChangesOf l s t (by omega) o c d
  have hsc := fun (l : List Pck) (s t : List Int) (o : ∀ o ∈ l, o.Small) (b : l.length ≤ 40) (c : s.length ≤ 1048576) (d : t.length ≤ 1048576) => c_specChangesOf l s t (by omega) o c d
  have hcn := fun (l : List Pck) (s t : List Int) (o : ∀ o ∈ l, o.Small) (b : l.length ≤ 40) (c : s.length ≤ 1048576) (d : t.length ≤ 1048576) => c_ChangedNames l s t (by omega) o c d
  have hap := fun (l : List Pck) (s : List Int) (g : List Chg) (o : ∀ o ∈ l, o.Small) (b : l.length ≤ 40) (c : s.length ≤ 1048576) (d : g.length ≤ 1048576) => c_implApply l s g (by omega) o c d
  have hun := fun (g : List Chg) (h : g.length ≤ 1048576) => c_implUndo g h
  have hlw := fun (a : List Int) (h : a.length ≤ 1048576) => c_lwNums a h
  obtain ⟨g, hg⟩ : ∃ g, g = decide (1048576 < bs.length) := ⟨_, rfl⟩
  have hdr' : g = false → _ := fun h => hdr (by rw [hg] at h; simpa using h)
  clear hdr
  rw [← hg] at hbig
  clear hg
  have htab := tab
  have hmo := hmo
  refine PCtr.walk tab hΩ fn_laws_FnStories rfl ?_
  generalize PP = P at *
  cbv
  refine call_pure hΩ 3 hbig rfl (fits _) rfl rfl ?_
  cbv
  refine br (fun h => ?_) (fun h => ?_) <;> cbv
  · exact .same
  refine call_d0 hΩ 3 (hdr' h) rfl rfl ?_
  rintro x o ⟨ho, l, s, t, rfl, hl, hll, hsl, htl⟩
  refine ⟨ho, ?_⟩
  have hic := hic l s t hl hll hsl htl
  have hsc := hsc l s t hl hll hsl htl
  have hcn := hcn l s t hl hll hsl htl
  have hgl : (chOf l s t).length ≤ 1048576 := Nat.le_trans chOf_len (by omega)
  have hun := hun (chOf l s t) hgl
  have hgood : dltC l s t = 0 → (PCtr P n_impl_ApplyChanges [encP l, .sl false 1 (s.map i64), .sl false 8 ((chOf l s t).map Chg.enc)] (setR 0 0 t) ∧ PCtr P n_impl_ApplyChanges [encP l, .sl false 1 (t.map i64), .sl false 8 ((undo (chOf l s t)).map Chg.enc)] (setR 0 0 s)) ∧
      (chOf l s t).length = (chN l s t).length := fun h => by
    have e0 : chOf l s t = chgS l s t := if_pos h
    have e1 := app_ch h
    have e2 := app_undo h
    have h1 := hap l s (chOf l s t) hl hll hsl hgl
    have h2 := hap l t (undo (chOf l s t)) hl hll htl (by rw [undo_length]; exact hgl)
    unfold undo at h2
    rw [e0] at h1 h2 ⊢
    rw [e1.1, e1.2] at h1
    rw [e2.1, e2.2] at h2
    refine ⟨⟨h1, h2⟩, ?_⟩
    unfold chN chgS
    rw [if_pos h, List.length_map]
  have hlws := hlw s hsl
  have hlwt := hlw t htl
  clear hap hlw
  have rz := roF_chgR' (dltC l s t) 0 (chOf l s t)
  have fz := frz_chgR (dltC l s t) 0 (chOf l s t)
  have ru := roF_Chgs (undo (chOf l s t))
  have fu := frz_Chgs (undo (chOf l s t))
  have rs := roF_setR 0 0 s
  have fs := frz_setR 0 0 s
  have rt := roF_setR 0 0 t
  have ft := frz_setR 0 0 t
  have rn := roF_nm (dltC l s t) (chN l s t)
  have fn := frz_nm (dltC l s t) (chN l s t)
  unfold setR chgR encP at *
  obtain ⟨k, hk⟩ : ∃ k, k = dltC l s t := ⟨_, rfl⟩
  rw [← hk] at hic hsc hcn hgood rz fz rn fn
  obtain ⟨zs, hzs⟩ : ∃ zs, zs = (chOf l s t).map Chg.enc := ⟨_, rfl⟩
  obtain ⟨us, hus⟩ : ∃ us, us = (undo (chOf l s t)).map Chg.enc := ⟨_, rfl⟩
  obtain ⟨ns, hns⟩ : ∃ ns, ns = (chN l s t).map str := ⟨_, rfl⟩
  have hzn : k = 0 → Ω.int (Ω.len zs) = Ω.int (Ω.len ns) := fun h => by
    have := (hgood h).2
    subst hΩ
    show ((zs.length : Nat) : Int) = (ns.length : Nat)
    rw [hzs, hns, List.length_map, List.length_map, this]
  have hgood := fun h => (hgood h).1
  rw [← hzs] at hic hsc hgood rz fz hun
  rw [← hus] at hgood ru fu hun
  rw [← hns] at hcn rn fn
  generalize s.map i64 = ss at *
  generalize t.map i64 = ts at *
  generalize l.map (Pck.enc false) = cs at *
  clear hk hzs hus hns
  cbv
  refine call_pf hΩ 3 hic rfl (fits _) rz fz rfl ?_
  cbv
  refine br (fun h => ?_) (fun h => ?_) <;> cbv
  · refine ⟨VC.sub (VC_plan htab hΩ hmo (.q 0 (.q 1 (.q 2 (.q 5 (.q 6 (.s 3 (.q 4 (.q 7 (.q 8 .fin))))))))) (by kernel_rfl) ?_) ((Sbs.unlk (r := 0) rfl rfl).trans (Sbs.thaw0 (r := 0) rfl rfl rfl))⟩
    cbv
    refine call_pf hΩ 3 hsc rfl (fits _) rz fz rfl ?_
    cbv
    exact .of (congrArg boo (by subst hΩ; exact decide_eq_true rfl))
  · have h := neZf hΩ h
    obtain ⟨g1, g2⟩ := hgood h
    have hzn := hzn h
    refine call_pf hΩ 3 g1 rfl (fits _) rt ft rfl ?_
    cbv
    refine call_pf hΩ 3 hun rfl (fits _) ru fu rfl ?_
    cbv
    refine call_pf hΩ 3 g2 rfl (fits _) rs fs rfl ?_
    cbv
    refine ⟨VC.sub (VC_plan htab hΩ hmo (Pln.qs [0, 1, 2, 3, 4, 5, 6] (.s 7 (Pln.qs [8, 9, 10, 11, 12, 13, 14, 15, 16, 17] (.s 18 (Pln.qs [19, 20, 21, 22, 23, 24, 25, 26] (.s 27 (Pln.qs [28, 29, 30, 31, 32] .fin))))))) (by kernel_rfl) ?_)
      ((Sbs.unlk (r := 0) rfl rfl).trans ((Sbs.thaw0 (r := 0) rfl rfl rfl).trans ((Sbs.unlk (r := 1) rfl rfl).trans ((Sbs.thaw0 (r := 1) rfl rfl rfl).trans ((Sbs.unlk (r := 2) rfl rfl).trans (Sbs.thaw0 (r := 2) rfl rfl rfl))))))⟩
    cbv
    have e0 : Ω.cmp .eql 0 0 = true := by subst hΩ; rfl
    have en : Ω.cmp .eql (Ω.int (Ω.len zs)) (Ω.int (Ω.len ns)) = true := by rw [hzn]; subst hΩ; exact decide_eq_true rfl
    repeat' (first
      | (refine br (fun q => ?_) (fun q => (Bool.noConfusion (show true = false from (by subst hΩ; exact q)) : _)); cbv)
      | (refine call_pure hΩ 3 hlwt rfl (fits _) rfl rfl ?_; cbv)
      | (refine call_pure hΩ 3 hlws rfl (fits _) rfl rfl ?_; cbv)
      | (refine call_pf hΩ 3 hcn rfl (fits _) rn fn rfl ?_; cbv))
    exact .of (congrArg boo (show Ω.ite true (Ω.cmp .eql (Ω.int (Ω.len zs)) (Ω.int (Ω.len ns))) false = true by rw [en]; subst hΩ; rfl))
end Go.Proofs.YtfmcncflooechaaGreat

/- What a reading of an argument says of it: it is read-only plain data. Plain theorems, no condition. -/
set_option linter.unusedVariables false
set_option linter.unusedSimpArgs false
namespace Go.Fw
/-- Types of plain data. -/
inductive Ty where
  | int (k : IntKind)
  | bool
  | str
  | sl (e : Ty)
  | st (fs : List Ty)
mutual
def Ty.n : Ty → Nat
  | .st fs => Ty.nL fs
  | .int _ => 1
  | .bool => 1
  | .str => 1
  | .sl _ => 1
def Ty.nL : List Ty → Nat
  | [] => 0
  | x :: xs => x.n + Ty.nL xs
end
def Ty.elem (e : Ty) (cs : List A) : A :=
  match e with
  | .st _ => .agg cs
  | _ => cs.headD .un
mutual
def TyOK (P : Program) : Ty → TypeId → Prop
  | .int k, t => P.underlying t = some (.int k)
  | .bool, t => P.underlying t = some .bool
  | .str, t => P.underlying t = some .string
  | .sl e, t => ∃ te, P.underlying t = some (.slice te) ∧ P.cellsOf te = e.n ∧ Nat.ble 1 e.n = true ∧ TyOK P e te
  | .st fs, t => ∃ f, P.underlying t = some (.struct f) ∧ P.cellsOf t = Ty.nL fs ∧ TysOK P 0 fs f.toList
def TysOK (P : Program) : Nat → List Ty → List Field → Prop
  | _, [], [] => True
  | o, x :: xs, f :: fs => f.offset = o ∧ P.cellsOf f.type = x.n ∧ TyOK P x f.type ∧ TysOK P (o + x.n) xs fs
  | _, _, _ => False
end
mutual
inductive Shp : Ty → List A → Prop
  | int {k : IntKind} {n : Int} (h : (Lit.int k n).wf = true) : Shp (.int k) [.sc (.int k n)]
  | bool {b : Bool} : Shp .bool [.sc (.bool b)]
  | str {s : List UInt8} (h : s.length ≤ maxLen) : Shp .str [.sc (.string (mkS s))]
  | sl {e : Ty} {ys : List A} (h : ∀ y ∈ ys, Shp e y.cells) (h2 : ∀ y ∈ ys, y = e.elem y.cells) (hl : ys.length ≤ maxLen) : Shp (.sl e) [.sl false e.n ys]
  | st {fs : List Ty} {xs : List A} (h : ShpL fs xs) : Shp (.st fs) xs
inductive ShpL : List Ty → List A → Prop
  | nil : ShpL [] []
  | cons {t : Ty} {ts : List Ty} {xs ys : List A} (h : Shp t xs) (hl : ShpL ts ys) : ShpL (t :: ts) (xs ++ ys)
end
mutual
theorem Shp.length : ∀ {t : Ty} {xs : List A}, Shp t xs → xs.length = t.n
  | _, _, .int _ => rfl
  | _, _, .bool => rfl
  | _, _, .str _ => rfl
  | _, _, .sl _ _ _ => rfl
  | _, _, .st h => by rw [Ty.n]; exact h.length
theorem ShpL.length : ∀ {ts : List Ty} {xs : List A}, ShpL ts xs → xs.length = Ty.nL ts
  | _, _, .nil => rfl
  | _, _, .cons h hl => by rw [List.length_append, h.length, hl.length, Ty.nL]
end
theorem elem_cells {e : Ty} {cs : List A} (h : Shp e cs) : (e.elem cs).cells = cs := by
  cases h <;> rfl
theorem cells_list {w : World} {base : Nat} {a : Addr} {n : Nat} {cs : List Value} (h : w.cells? base a n = some cs) (hn : 0 < n) :
    ∃ cur e fr, w.heap[a.block]? = some (.cells cur e fr) ∧ a.spot = none ∧ cs = (cur.toList.drop a.off).take n ∧ cs.length = n := by
  unfold World.cells? at h
  split at h <;> try simp at h
  have hget : ∀ (l : List Nat) (r : List Value), l.mapM (fun i => w.cell? (a.add i)) = some r → r.length = l.length ∧ ∀ (j i : Nat), l[j]? = some i → ∃ v, r[j]? = some v ∧ w.cell? (a.add i) = some v := by
    intro l
    induction l with
    | nil => intro r h; simp at h; subst h; simp
    | cons x l ih =>
      intro r h
      simp only [List.mapM_cons, Option.bind_eq_bind, Option.pure_def, Option.bind_eq_some_iff, Option.some.injEq] at h
      obtain ⟨v, hv, r', hr', rfl⟩ := h
      obtain ⟨h1, h2⟩ := ih r' hr'
      refine ⟨by simp [h1], fun j i hj => ?_⟩
      cases j with
      | zero => simp at hj; subst hj; exact ⟨v, rfl, hv⟩
      | succ j => simpa using h2 j i (by simpa using hj)
  obtain ⟨hl, hat⟩ := hget _ _ h
  rw [List.length_range] at hl
  obtain ⟨v0, _, hv0⟩ := hat 0 0 (by rw [List.getElem?_range hn])
  have hblk : ∀ i, (a.add i).block = a.block := fun i => by unfold Addr.add; split <;> rfl
  unfold World.cell? at hv0
  rw [hblk] at hv0
  split at hv0 <;> try simp at hv0
  rename_i cur e fr hh
  have hsp : a.spot = none := by
    cases hs : a.spot with
    | none => rfl
    | some s => simp [Addr.add, hs] at hv0
  refine ⟨cur, e, fr, hh, hsp, ?_, hl⟩
  have ha : a = ⟨a.block, a.off, none⟩ := by cases a; simp at hsp; subst hsp; rfl
  have hcell : ∀ i, w.cell? (a.add i) = cur[a.off + i]? := fun i => by rw [ha, add_none, cell_at hh]
  have hlen : a.off + n ≤ cur.size := by
    obtain ⟨v, _, hv⟩ := hat (n - 1) (n - 1) (by rw [List.getElem?_range (by omega)])
    rw [hcell] at hv
    have := (Array.getElem?_eq_some_iff.1 hv).1
    omega
  apply List.ext_getElem?
  intro j
  by_cases hj : j < n
  · obtain ⟨v, hv1, hv2⟩ := hat j j (by rw [List.getElem?_range hj])
    rw [hv1, List.getElem?_take_of_lt hj, List.getElem?_drop]
    rw [hcell] at hv2
    simpa using hv2.symm
  · rw [List.getElem?_eq_none (by omega), List.getElem?_eq_none (by simp; omega)]
theorem add_block (a : Addr) (i : Nat) : (a.add i).block = a.block := by unfold Addr.add; split <;> rfl
theorem rows_rel {w : World} {G : Nat → Prop} {n : Nat} {X : Nat → List A} {l : List Value} : ∀ len : Nat, (∀ i, i < len → RelL w G (X i) ((l.drop (i * n)).take n) []) → RelL w G ((List.range len).flatMap X) (l.take (len * n)) []
  | 0, _ => by simpa using RelL.nil
  | len + 1, h => by
    have h1 := rows_rel (X := X) len fun i hi => h i (by omega)
    have h2 := h1.append (h len (by omega))
    rw [List.range_succ, List.flatMap_append, Nat.succ_mul, List.take_add]
    simpa using h2
mutual
theorem trod_rel {H : Type} {enc : TypeId × Value → H} {P : Program} {w : World} {base : Nat} {sp : Nat → Bool} {held : Bool} (hsp : ∀ b, sp b = true) :
    ∀ (ty : Ty) (t : TypeId) (fuel : Nat) (cs : List Value) (x : DataW H × List MemPlace), TyOK P ty t → DataW.trod enc P w base sp held fuel t cs = some x → ∃ xs, RelL w (Old w) xs cs [] ∧ Shp ty xs
  | .int k, t, 0, cs, x, hu, h => by simp [DataW.trod] at h
  | .int k, t, fuel + 1, cs, x, hu, h => by
    have hu : P.underlying t = some (.int k) := hu
    unfold DataW.trod at h
    rw [hu] at h
    split at h <;> try simp_all
    obtain ⟨⟨rfl, hw⟩, _⟩ := h
    exact ⟨_, .cons (F := []) (Fs := []) (.sc rfl) .nil, .int hw⟩
  | .bool, t, 0, cs, x, hu, h => by simp [DataW.trod] at h
  | .bool, t, fuel + 1, cs, x, hu, h => by
    have hu : P.underlying t = some .bool := hu
    unfold DataW.trod at h
    rw [hu] at h
    split at h <;> try simp_all
    exact ⟨_, .cons (F := []) (Fs := []) (.sc rfl) .nil, .bool⟩
  | .str, t, 0, cs, x, hu, h => by simp [DataW.trod] at h
  | .str, t, fuel + 1, cs, x, hu, h => by
    have hu : P.underlying t = some .string := hu
    unfold DataW.trod at h
    rw [hu] at h
    split at h <;> try simp_all
    rename_i s
    refine ⟨[.sc (.string (mkS (bs s)))], .cons (F := []) (Fs := []) (.sc rfl) .nil, .str ?_⟩
    rw [bs_length]; exact h.1
  | .sl e, t, fuel, cs, x, hu, h => by
    obtain ⟨te, hu, hc, hpos, hte⟩ := hu
    have hpos := Nat.le_of_ble_eq_true hpos
    rcases Go.Deep.open_slice hu h with ⟨rfl, _⟩ | ⟨a, len, cap, m, n, D, Pl, rfl, _, hl, hm, hmm, _, hel⟩
    · exact ⟨[.sl false e.n []], .cons (F := []) (Fs := []) .nils .nil, .sl (by simp) (by simp) (by simp)⟩
    · rw [hsp, if_pos rfl] at hmm
      subst hmm
      rw [hc] at hel
      by_cases hm0 : m = 0
      · subst hm0
        have : len = 0 := by omega
        subst this
        exact ⟨[.sl false e.n []], .cons (F := []) (Fs := []) .roz .nil, .sl (by simp) (by simp) (by simp)⟩
      · obtain ⟨cs0, hc0, _⟩ := hel 0 (by omega)
        obtain ⟨cur, et, fr, hh, hspot, _, _⟩ := cells_list hc0 hpos
        rw [add_block] at hh
        have hspot' : a.spot = none := by
          cases hs : a.spot with
          | none => rfl
          | some s => simp [Addr.add, hs] at hspot
        have ha : a = ⟨a.block, a.off, none⟩ := by cases a; simp at hspot'; subst hspot'; rfl
        have hX : ∀ i, i < m → ∃ xs, RelL w (Old w) xs ((cur.toList.drop (a.off + i * e.n)).take e.n) [] ∧ Shp e xs := fun i hi => by
          obtain ⟨csi, hci, hti⟩ := hel i hi
          obtain ⟨cur', et', fr', hh', _, hcs, _⟩ := cells_list hci hpos
          rw [add_block, hh] at hh'
          simp only [Option.some.injEq, Obj.cells.injEq] at hh'
          obtain ⟨rfl, _, _⟩ := hh'
          obtain ⟨xs, h1, h2⟩ := trod_rel hsp e te n csi _ hte hti
          refine ⟨xs, ?_, h2⟩
          rw [hcs] at h1
          have : (a.add (i * e.n)).off = a.off + i * e.n := by rw [ha, add_none]
          rw [this] at h1
          exact h1
        let X : Nat → List A := fun i => if h : i < m then Classical.choose (hX i h) else []
        have hX1 : ∀ i, i < m → RelL w (Old w) (X i) ((cur.toList.drop (a.off + i * e.n)).take e.n) [] ∧ Shp e (X i) := fun i hi => by
          have : X i = Classical.choose (hX i hi) := by simp only [X]; rw [dif_pos hi]
          rw [this]; exact Classical.choose_spec (hX i hi)
        have hmem : ∀ y ∈ (List.range len).map fun i => e.elem (X i), Shp e y.cells ∧ y = e.elem y.cells := fun y hy => by
          obtain ⟨i, hi, rfl⟩ := List.mem_map.1 hy
          have hi := List.mem_range.1 hi
          have hs := (hX1 i (by omega)).2
          rw [elem_cells hs]
          exact ⟨hs, rfl⟩
        refine ⟨[.sl false e.n ((List.range len).map fun i => e.elem (X i))], .cons (F := []) (Fs := []) ?_ .nil, .sl (fun y hy => (hmem y hy).1) (fun y hy => (hmem y hy).2) (by simp; omega)⟩
        have hlt : a.block < w.heap.size := (Array.getElem?_eq_some_iff.1 hh).1
        rw [ha]
        refine .ro hh hlt (fun y hy => ?_) (by simp) rfl ?_ (by omega) (by omega)
        · have := (hmem y hy).1.length
          exact this
        · have hf : flat ((List.range len).map fun i => e.elem (X i)) = (List.range len).flatMap X := by
            unfold flat
            rw [List.flatMap_map]
            have : ∀ l : List Nat, (∀ i ∈ l, i < m) → l.flatMap (fun i => (e.elem (X i)).cells) = l.flatMap X := by
              intro l
              induction l with
              | nil => intro _; rfl
              | cons i l ih =>
                intro hl
                rw [List.flatMap_cons, List.flatMap_cons, ih fun j hj => hl j (by simp [hj]), elem_cells (hX1 i (hl i (by simp))).2]
            exact this _ fun i hi => by have := List.mem_range.1 hi; omega
          rw [hf]
          refine rows_rel len fun i hi => ?_
          have := (hX1 i (by omega)).1
          rw [← List.drop_drop] at this
          exact this
  | .st fs, t, 0, cs, x, hu, h => by simp [DataW.trod] at h
  | .st fs, t, fuel + 1, cs, x, hu, h => by
    obtain ⟨f, hu, hc, hfs⟩ := hu
    unfold DataW.trod at h
    rw [hu] at h
    simp only at h
    split at h <;> try simp at h
    rename_i hlen
    obtain ⟨ys, hys, _⟩ := h
    obtain ⟨xs, h1, h2⟩ := trod_rels hsp fs f.toList fuel 0 cs ys hfs (by rw [hlen, hc]; omega) hys
    exact ⟨xs, by simpa using h1, .st h2⟩
theorem trod_rels {H : Type} {enc : TypeId × Value → H} {P : Program} {w : World} {base : Nat} {sp : Nat → Bool} {held : Bool} (hsp : ∀ b, sp b = true) :
    ∀ (tys : List Ty) (fs : List Field) (fuel o : Nat) (cs : List Value) (ys : List (DataW H × List MemPlace)), TysOK P o tys fs → cs.length = o + Ty.nL tys →
      fs.mapM (fun f => DataW.trod enc P w base sp held fuel f.type ((cs.drop f.offset).take (P.cellsOf f.type))) = some ys → ∃ xs, RelL w (Old w) xs (cs.drop o) [] ∧ ShpL tys xs
  | [], [], fuel, o, cs, ys, _, hl, _ => ⟨[], by rw [List.drop_eq_nil_of_le (by rw [hl, Ty.nL]; omega)]; exact .nil, .nil⟩
  | [], _ :: _, fuel, o, cs, ys, hu, hl, h => hu.elim
  | _ :: _, [], fuel, o, cs, ys, hu, hl, h => hu.elim
  | ty :: tys, f :: fs, fuel, o, cs, ys, hu, hl, h => by
    obtain ⟨ho, hc, ht, hts⟩ := hu
    simp only [List.mapM_cons, Option.bind_eq_bind, Option.pure_def, Option.bind_eq_some_iff, Option.some.injEq] at h
    obtain ⟨y, hy, ys', hys', _⟩ := h
    rw [ho, hc] at hy
    obtain ⟨xs1, h1, h2⟩ := trod_rel hsp ty f.type fuel _ _ ht hy
    rw [Ty.nL] at hl
    obtain ⟨xs2, h3, h4⟩ := trod_rels hsp tys fs fuel (o + ty.n) cs ys' hts (by omega) hys'
    refine ⟨xs1 ++ xs2, ?_, .cons h2 h4⟩
    have := h1.append h3
    rw [← List.drop_drop, List.take_append_drop] at this
    simpa using this
end
end Go.Fw

/- The closing of a law's row. Plain theorems, no condition. -/
set_option linter.unusedVariables false
set_option linter.unusedSimpArgs false
namespace Go.Fw
open Go.ChangeShapes Go.WideShapes Go.ChangeAt Go.RowKit
def PlainT (P : Program) (t : TypeId) : Prop := ∃ ty, TyOK P ty t
theorem tys_fields {P : Program} : ∀ {tys : List Ty} {fs : List Field} {o : Nat}, TysOK P o tys fs → (∀ f ∈ fs, PlainT P f.type) ∧ Ty.nL tys = (fs.map fun f => P.cellsOf f.type).sum ∧
    ∀ (j : Nat) f, fs[j]? = some f → f.offset = o + ((fs.take j).map fun f => P.cellsOf f.type).sum
  | [], [], o, _ => ⟨by simp, rfl, by simp⟩
  | [], _ :: _, o, h => h.elim
  | _ :: _, [], o, h => h.elim
  | ty :: tys, f :: fs, o, h => by
    obtain ⟨h1, h2, h3, h4⟩ := h
    obtain ⟨g1, g2, g3⟩ := tys_fields h4
    refine ⟨fun f' hf => ?_, by rw [Ty.nL, g2, ← h2]; simp, fun j f' hj => ?_⟩
    · rcases List.mem_cons.1 hf with rfl | hf
      · exact ⟨ty, h3⟩
      · exact g1 f' hf
    · cases j with
      | zero => simp at hj; subst hj; simp [h1]
      | succ j =>
        have := g3 j f' (by simpa using hj)
        rw [this, ← h2]; simp; omega
theorem kids (P : Program) : Kids P (PlainT P) := by
  refine ⟨?_, ?_, ?_, ?_, ?_⟩
  · rintro t e ⟨ty, h⟩ hu
    cases ty with
    | sl _ => obtain ⟨te, h, _⟩ := h; rw [hu] at h; simp at h
    | st _ => obtain ⟨f, h, _⟩ := h; rw [hu] at h; simp at h
    | _ => rw [TyOK, hu] at h; simp at h
  · rintro t e ⟨ty, h⟩ hu
    cases ty with
    | sl e' => obtain ⟨te, h, _, _, h2⟩ := h; rw [hu] at h; simp at h; subst h; exact ⟨e', h2⟩
    | st _ => obtain ⟨f, h, _⟩ := h; rw [hu] at h; simp at h
    | _ => rw [TyOK, hu] at h; simp at h
  · rintro t e n ⟨ty, h⟩ hu
    cases ty with
    | sl _ => obtain ⟨te, h, _⟩ := h; rw [hu] at h; simp at h
    | st _ => obtain ⟨f, h, _⟩ := h; rw [hu] at h; simp at h
    | _ => rw [TyOK, hu] at h; simp at h
  · rintro t fs ⟨ty, h⟩ hu
    cases ty with
    | sl _ => obtain ⟨te, h, _⟩ := h; rw [hu] at h; simp at h
    | st tys =>
      obtain ⟨f, h, hc, hts⟩ := h
      rw [hu] at h
      simp at h
      subst h
      obtain ⟨g1, g2, g3⟩ := tys_fields hts
      exact ⟨g1, by rw [hc, g2], fun j f hj => by rw [g3 j f hj, Nat.zero_add]⟩
    | _ => rw [TyOK, hu] at h; simp at h
  · rintro t k e ⟨ty, h⟩ hu
    cases ty with
    | sl _ => obtain ⟨te, h, _⟩ := h; rw [hu] at h; simp at h
    | st _ => obtain ⟨f, h, _⟩ := h; rw [hu] at h; simp at h
    | _ => rw [TyOK, hu] at h; simp at h
theorem plain_sz {P : Program} {t e : TypeId} (h : PlainT P t) (hu : P.underlying t = some (.slice e)) : 0 < P.cellsOf e := by
  obtain ⟨ty, h⟩ := h
  cases ty with
  | sl _ => obtain ⟨te, h, hc, hb, _⟩ := h; rw [hu] at h; simp at h; subst h; rw [hc]; exact Nat.le_of_ble_eq_true hb
  | st _ => obtain ⟨f, h, _⟩ := h; rw [hu] at h; simp at h
  | _ => rw [TyOK, hu] at h; simp at h
section
variable {H : Type} {enc : TypeId × Value → H} {P : Program}
theorem stays_all {W W' : World} {sp' : Nat → Bool} : ∀ {ts : List TypeId} {vs : List Value} {ds : List (DataW H)} {ps : List MemPlace}, (∀ t ∈ ts, PlainT P t) → DataW.TrodAll enc P W 0 (fun _ => true) true ts vs ds ps →
    (∀ p ∈ ps, W.sameAt W' p) → (∀ p ∈ ps, sp' p.block = true) → DataW.TrodAll enc P W' 0 sp' true ts vs ds ps
  | [], [], [], ps, _, h, _, _ => h
  | t :: ts, v :: vs, d :: ds, ps, ht, h, hsame, hs => by
    obtain ⟨p, q, ⟨n, hn⟩, hl, rfl⟩ := h
    refine ⟨p, q, ⟨n, ?_⟩, stays_all (fun t h => ht t (by simp [h])) hl (fun x hx => hsame x (by simp [hx])) (fun x hx => hs x (by simp [hx])), rfl⟩
    exact DataW.trod_stays (kids P) plain_sz (by simp) (ht t (by simp)) hn (fun x hx => hsame x (by simp [hx])) (fun x hx => hs x (by simp [hx]))
theorem post_law {f : Func} {s : ChangeSpec} {apart fresh handsOn again : Bool} {W W' : World} {args : Array Value} {ds gs : List (DataW H)} {before : List MemPlace} {tb : TypeId} (hsv : s.vars = [])
    (hW : DataW.Whole enc P f.params.toList s.vars apart W args.toList ds gs before) (htys : ∀ t ∈ f.params.toList, PlainT P t) (hrt : f.resultTypes = #[tb]) (hub : P.underlying tb = some .bool)
    (hfn : s.fn H (ds ++ gs) = { results := [.lit (.bool true)], args := ds }) (hb : Below W.heap.size W W') : s.post enc P f apart fresh handsOn again W args (.bool true) W' := by
  have hW0 := hW
  obtain ⟨p, q, hA, hV, rfl, hfz, hnd⟩ := hW
  rw [hsv] at hV
  obtain ⟨rfl, rfl⟩ := trodVars_none hV
  rw [List.append_nil] at hfz hnd hW0
  have hlt := hW0.lt
  have hsame : ∀ x ∈ p, W.sameAt W' x := fun x hx => hb.same (hlt x hx)
  have hres : ∀ (b : Nat) (sp : Nat → Bool) (hd : Bool), DataW.TrodAll enc P W' b sp hd f.resultTypes.toList ((Value.bool true).resultList f.resultTypes.size) (s.fn H (ds ++ [])).results [] := fun b sp hd => by
    rw [hfn, hrt]
    exact trodAll_cons_mk (shut_bool hub _) trodAll_mk0
  have hargs : ∀ sp : Nat → Bool, (∀ x ∈ p, sp x.block = true) → DataW.TrodAll enc P W' 0 sp true f.params.toList args.toList (s.fn H (ds ++ [])).args p := fun sp hs => by
    rw [hfn]; exact stays_all htys hA hsame hs
  have hvars : ∀ sp : Nat → Bool, DataW.TrodVars enc P W' sp s.vars (s.fn H (ds ++ [])).vars [] := fun sp => by rw [hfn, hsv]; rfl
  have hold : ∀ x ∈ p, (fun b => decide (b < W.heap.size)) x.block = true := fun x hx => by simpa using hlt x hx
  refine ⟨ds, [], p, [], p, [], hW0, hres _ _ _, hargs _ hold, hvars _, World.keptBut_mono (fun x hx => ⟨hx, .inr (.inl hx)⟩) (hb.frame (· ∈ p)), fun _ => ?_⟩
  refine ⟨?_, _, _, ([] ++ p) ++ [], ⟨[] ++ p, [], trodAll_append (hargs _ (fun _ _ => rfl)) (hres 0 (fun _ => true) true), hvars _, rfl, ?_, ?_⟩, ?_⟩
  · intro j t r h1 h2
    exact ok_one (v := .bool true) hrt rfl (okWide_bool_mk hub true) j t r h1 h2
  · intro b off hp
    have hp' : MemPlace.cell b off ∈ p := by simpa using hp
    rw [hb.frozen (p := ⟨b, off, none⟩) (hlt _ hp')]
    exact hfz b off hp'
  · intro ha
    simpa using hnd ha
  · intro x hx _
    simpa using hx
end
mutual
def tyChk (P : Program) : Ty → TypeId → Bool
  | .int k, t => match P.underlying t with | some (.int k') => decide (k' = k) | _ => false
  | .bool, t => match P.underlying t with | some .bool => true | _ => false
  | .str, t => match P.underlying t with | some .string => true | _ => false
  | .sl e, t => match P.underlying t with | some (.slice te) => P.cellsOf te == e.n && (Nat.ble 1 e.n && tyChk P e te) | _ => false
  | .st fs, t => match P.underlying t with | some (.struct f) => P.cellsOf t == Ty.nL fs && tysChk P 0 fs f.toList | _ => false
def tysChk (P : Program) : Nat → List Ty → List Field → Bool
  | _, [], [] => true
  | o, x :: xs, f :: fs => f.offset == o && (P.cellsOf f.type == x.n && (tyChk P x f.type && tysChk P (o + x.n) xs fs))
  | _, _, _ => false
end
mutual
theorem tyChk_ok {P : Program} : ∀ (ty : Ty) (t : TypeId), tyChk P ty t = true → TyOK P ty t
  | .int k, t, h => by
    rw [tyChk] at h; split at h <;> try simp at h
    rename_i hu; subst h; rw [TyOK]; exact hu
  | .bool, t, h => by
    rw [tyChk] at h; split at h <;> try simp at h
    rename_i hu; rw [TyOK]; exact hu
  | .str, t, h => by
    rw [tyChk] at h; split at h <;> try simp at h
    rename_i hu; rw [TyOK]; exact hu
  | .sl e, t, h => by
    rw [tyChk] at h; split at h <;> try simp at h
    rename_i te hu; rw [TyOK]
    exact ⟨te, hu, h.1, by simpa using h.2.1, tyChk_ok e te h.2.2⟩
  | .st fs, t, h => by
    rw [tyChk] at h; split at h <;> try simp at h
    rename_i f hu; rw [TyOK]
    exact ⟨f, hu, h.1, tysChk_ok fs _ _ h.2⟩
theorem tysChk_ok {P : Program} : ∀ (tys : List Ty) (o : Nat) (fs : List Field), tysChk P o tys fs = true → TysOK P o tys fs
  | [], _, [], _ => by rw [TysOK]; trivial
  | [], _, _ :: _, h => by simp [tysChk] at h
  | _ :: _, _, [], h => by simp [tysChk] at h
  | x :: xs, o, f :: fs, h => by
    rw [tysChk] at h
    simp only [Bool.and_eq_true, beq_iff_eq] at h
    rw [TysOK]
    exact ⟨h.1, h.2.1, tyChk_ok x _ h.2.2.1, tysChk_ok xs _ fs h.2.2.2⟩
end
theorem slice_cells {P : Program} {W : World} {base : Nat} {t e : TypeId} {v : Value} (hu : P.underlying t = some (.slice e)) (h : Value.okWide P W .any base t v) : v.cells.toList = [v] := by
  unfold Value.okWide at h
  rw [hu] at h
  simp only at h
  unfold Cell.okWide at h
  rw [hu] at h
  cases v <;> first | rfl | (simp [Cell.ok, hu] at h)
end Go.Fw

/- Shapes of arguments. Plain theorems. -/
set_option linter.unusedVariables false
set_option linter.unusedSimpArgs false
namespace Go.Proofs.YtfmcncflooechaaGreat
open Go Go.Fw
open Go.ChangeShapes Go.WideShapes Go.ChangeAt Go.RowKit
/-- Bytes. -/
theorem shp_bytes {xs : List A} (h : Shp (.sl (.int .u8)) xs) : ∃ bs : List A, xs = [.sl false 1 bs] ∧ bs.length ≤ Go.maxLen ∧ ∀ i, i < bs.length → ∃ c : UInt8, bs[i]? = some (.sc (.int .u8 (c.toNat : Int))) := by
  cases h with | sl h1 h2 hl =>
  rename_i ys
  refine ⟨ys, rfl, hl, fun i hi => ?_⟩
  obtain ⟨y, hy⟩ : ∃ y, ys[i]? = some y := ⟨_, List.getElem?_eq_getElem hi⟩
  have hm := List.mem_of_getElem? hy
  have e := h2 y hm
  have s := h1 y hm
  generalize y.cells = cs at *
  cases s with
  | int hwf =>
    rename_i n
    have hb : 0 ≤ n ∧ n < 256 := by
      simp only [Lit.wf, Bool.and_eq_true, decide_eq_true_eq] at hwf
      have h3 : IntKind.u8.min = 0 := by decide
      have h4 : IntKind.u8.max = 255 := by decide
      omega
    refine ⟨UInt8.ofNat n.toNat, ?_⟩
    rw [hy, e]
    show some (A.sc (.int .u8 n)) = _
    have : ((UInt8.ofNat n.toNat).toNat : Int) = n := by simp; omega
    rw [this]
end Go.Proofs.YtfmcncflooechaaGreat

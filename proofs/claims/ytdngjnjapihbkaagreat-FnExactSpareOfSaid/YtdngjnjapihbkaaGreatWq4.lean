/- Walks: who holds what is asked. Plain theorems. -/
import Derived.Test.YtdngjnjapihbkaaGreatWq3
set_option linter.unusedVariables false
set_option linter.unusedSimpArgs false
namespace Go.Proofs.YtdngjnjapihbkaaGreat
open Go Go.Fw
set_option maxRecDepth 100000
def consB (c : List Pck) (s : List Int) : Bool := decide ((fltS c s).length = 0)
def holdB (c : List Pck) (s : List Int) (a : List Trm) : Bool := consB c s && a.all fun t => s.any fun k => givesB (pk c k) t
def askC (c : List Pck) (s : List Int) (a : List Trm) : Int := if setF c s ≠ 0 then setF c s else if 8 < a.length then 2 else firstF trmF a
theorem roFlt (o : List Flt) : roFree (.sl true 3 (o.map Flt.enc)) = true := roFAll fun x hx => by obtain ⟨c, _, rfl⟩ := List.mem_map.1 hx; rfl
theorem c_consistent (l : List Pck) (s : List Int) (hl : l.length ≤ 1048576) (hs : s.length ≤ 1048576) (ho : ∀ o ∈ l, o.Small) (hk : ∀ k ∈ s, inB k 0 ((l.length : Int) - 1) = true) : PCtr PP n_impl_consistent [encP l, .sl false 1 (s.map i64)] (boo (consB l s)) := by
  obtain ⟨Ω, hΩ⟩ : ∃ Ω, Ω = std := ⟨_, rfl⟩
  have hc := c_faults l s hl hs ho hk
  have hrf := roFlt (fltS l s)
  obtain ⟨r, hr⟩ : ∃ r, r = consB l s := ⟨_, rfl⟩
  rw [← hr]
  unfold consB at hr
  obtain ⟨es, hes⟩ : ∃ es, es = (fltS l s).map Flt.enc := ⟨_, rfl⟩
  have hel : es.length = (fltS l s).length := by rw [hes, List.length_map]
  rw [← hel] at hr
  rw [← hes] at hc hrf
  clear hel hes
  unfold encP at *
  generalize l.map (Pck.enc false) = xs at *
  generalize s.map i64 = ys at *
  have htab := tab
  have hmo := hmo
  refine PCtr.walk tab hΩ fn_impl_consistent rfl ?_
  generalize PP = P at *
  cbv
  refine call_pure hΩ 3 hc rfl (fits _) hrf rfl ?_
  cbv
  refine .of (congrArg boo ?_)
  subst hΩ
  show decide ((es.length : Int) = 0) = r
  rw [hr]
  rw [Bool.eq_iff_iff, decide_eq_true_eq, decide_eq_true_eq]
  omega
theorem c_l3Good (l : List Pck) (s : List Int) (hl : l.length ≤ 1048576) (hs : s.length ≤ 1048576) (ho : ∀ o ∈ l, o.Small) (hk : ∀ k ∈ s, inB k 0 ((l.length : Int) - 1) = true) : PCtr PP n_spec_l3Good [encP l, .sl false 1 (s.map i64)] (boo (consB l s)) := by
  obtain ⟨Ω, hΩ⟩ : ∃ Ω, Ω = std := ⟨_, rfl⟩
  have hc := c_l3Faults l s hl hs ho hk
  have hrf := roFlt (fltS l s)
  obtain ⟨r, hr⟩ : ∃ r, r = consB l s := ⟨_, rfl⟩
  rw [← hr]
  unfold consB at hr
  obtain ⟨es, hes⟩ : ∃ es, es = (fltS l s).map Flt.enc := ⟨_, rfl⟩
  have hel : es.length = (fltS l s).length := by rw [hes, List.length_map]
  rw [← hel] at hr
  rw [← hes] at hc hrf
  clear hel hes
  unfold encP at *
  generalize l.map (Pck.enc false) = xs at *
  generalize s.map i64 = ys at *
  have htab := tab
  have hmo := hmo
  refine PCtr.walk tab hΩ fn_spec_l3Good rfl ?_
  generalize PP = P at *
  cbv
  refine call_pure hΩ 3 hc rfl (fits _) hrf rfl ?_
  cbv
  refine .of (congrArg boo ?_)
  subst hΩ
  show decide ((es.length : Int) = 0) = r
  rw [hr]
  rw [Bool.eq_iff_iff, decide_eq_true_eq, decide_eq_true_eq]
  omega
theorem c_holds11 (l : List Pck) (k : Int) (t : Trm) (hl : l.length ≤ 1048576) (ho : ∀ o ∈ l, o.Small) (hk : inB k 0 ((l.length : Int) - 1) = true) : PCtr PP n_impl_holds_1_1 [i64 k, .rp [encP l], .rp t.cells] (boo (givesB (pk l k) t)) := by
  obtain ⟨Ω, hΩ⟩ : ∃ Ω, Ω = std := ⟨_, rfl⟩
  have hat : ∀ k, inB k 0 ((l.length : Int) - 1) = true → 0 ≤ k ∧ ∃ v1 v2 v3 sz ps ds bs, (l.map (Pck.enc false))[k.toNat]? = some (.agg [str (pk l k).n, i64 v1, i64 v2, i64 v3, i64 sz, .sl false 1 ps, .sl false 1 ds, .sl false 7 bs]) ∧ pk l k ∈ l ∧
      Pck.enc false (pk l k) = .agg [str (pk l k).n, i64 v1, i64 v2, i64 v3, i64 sz, .sl false 1 ps, .sl false 1 ds, .sl false 7 bs] ∧ ds = (pk l k).d.map (encTs false) ∧ bs = (pk l k).b.map Trm.enc := fun k h => by
    obtain ⟨h0, h1, h2, h3⟩ := pk_at h
    obtain ⟨ps, ds, bs, hen, hp, hd, hb⟩ := enc_raw (pk l k)
    exact ⟨h0, _, _, _, _, ps, ds, bs, by rw [List.getElem?_map, h2]; exact congrArg some hen, h3, hen, hd, hb⟩
  obtain ⟨hc0, v1, v2, v3, sz, ps, ds, bs, hx, hm, hen, -, -⟩ := hat k hk
  have hg := c_gives (pk l k) t (ho _ hm).p
  rw [hen] at hg
  clear hat
  unfold encP
  generalize givesB (pk l k) t = gb at *
  generalize (pk l k).n = nn at *
  generalize l.map (Pck.enc false) = xs at *
  have htab := tab
  have hmo := hmo
  refine PCtr.walk tab hΩ fn_impl_holds_1_1 rfl ?_
  generalize PP = P at *
  cbv
  refine ⟨VC_drawn htab hΩ hmo (by kernel_rfl) ?_⟩
  cbv
  refine ⟨⟨hc0⟩, _, hx, ?_⟩
  cbv
  refine QCall_pure (k := 3) hg rfl (fits _) rfl ?_
  cbv
  exact .same
theorem c_holds1 (l : List Pck) (s : List Int) (t : Trm) (hl : l.length ≤ 1048576) (hs : s.length ≤ 1048576) (ho : ∀ o ∈ l, o.Small) (hk : ∀ k ∈ s, inB k 0 ((l.length : Int) - 1) = true) : PCtr PP n_impl_holds_1 [t.enc, .rp [.sl false 1 (s.map i64)], .rp [encP l]] (boo (!s.any fun k => givesB (pk l k) t)) := by
  obtain ⟨Ω, hΩ⟩ : ∃ Ω, Ω = std := ⟨_, rfl⟩
  have hc : PCtr PP n_slices_ContainsFunc_L_int64_int64 [.sl false 1 (s.map i64), .clo n_impl_holds_1_1 [.rp [encP l], .rp t.cells]] (boo (s.any fun k => givesB (pk l k) t)) :=
    c_ContainsFuncI s (by omega) _ _ _ ⟨fun _ _ => rfl, rfl, fun _ => rfl, fun k h => c_holds11 l k t hl ho (hk k h)⟩
  unfold encP at *
  generalize (s.any fun k => givesB (pk l k) t) = r at *
  generalize l.map (Pck.enc false) = xs at *
  generalize s.map i64 = ys at *
  have htab := tab
  have hmo := hmo
  refine PCtr.walk tab hΩ fn_impl_holds_1 rfl ?_
  generalize PP = P at *
  cbv
  refine call_pure hΩ 5 hc (ro_clo2 rfl rfl) (fits _) rfl rfl ?_
  cbv
  exact .of (congrArg boo (by subst hΩ; rfl))
theorem c_holds (l : List Pck) (s : List Int) (a : List Trm) (hl : l.length ≤ 1048576) (hs : s.length ≤ 1048576) (ha : a.length ≤ 1048576) (ho : ∀ o ∈ l, o.Small) (hk : ∀ k ∈ s, inB k 0 ((l.length : Int) - 1) = true) : PCtr PP n_impl_holds [encP l, .sl false 1 (s.map i64), .sl false 7 (a.map Trm.enc)] (boo (holdB l s a)) := by
  obtain ⟨Ω, hΩ⟩ : ∃ Ω, Ω = std := ⟨_, rfl⟩
  have h1 := c_consistent l s hl hs ho hk
  have hc : PCtr PP n_slices_ContainsFunc_L_impl_Term_impl_Term [.sl false 7 (a.map Trm.enc), .clo n_impl_holds_1 [.rp [.sl false 1 (s.map i64)], .rp [encP l]]] (boo (a.any fun t => !s.any fun k => givesB (pk l k) t)) :=
    c_ContainsFuncT a (by omega) _ _ _ ⟨fun _ _ => rfl, rfl, fun _ => rfl, fun t _ => c_holds1 l s t hl hs ho hk⟩
  obtain ⟨r, hr⟩ : ∃ r, r = holdB l s a := ⟨_, rfl⟩
  rw [← hr]
  unfold holdB at hr
  rw [show (a.all fun t => s.any fun k => givesB (pk l k) t) = !(a.any fun t => !s.any fun k => givesB (pk l k) t) by rw [List.not_any_eq_all_not]; congr 1; funext t; simp] at hr
  unfold encP at *
  generalize (a.any fun t => !s.any fun k => givesB (pk l k) t) = r2 at *
  generalize consB l s = r1 at *
  generalize l.map (Pck.enc false) = xs at *
  generalize s.map i64 = ys at *
  generalize a.map Trm.enc = zs at *
  have htab := tab
  have hmo := hmo
  refine PCtr.walk tab hΩ fn_impl_holds rfl ?_
  generalize PP = P at *
  cbv
  refine call_pure hΩ 3 h1 rfl (fits _) rfl rfl ?_
  cbv
  repeat' (first | (refine br (fun h => ?_) (fun h => ?_) <;> cbv) | (refine call_pure hΩ 5 hc (ro_clo2 rfl rfl) (fits _) rfl rfl ?_; cbv))
  all_goals (refine .of (congrArg boo ?_); subst hΩ; subst hr; clear hc h1 htab hmo; simp_all)
theorem c_l3Holds (l : List Pck) (s : List Int) (a : List Trm) (hl : l.length ≤ 1048576) (hs : s.length ≤ 1048576) (ha : a.length ≤ 1048576) (ho : ∀ o ∈ l, o.Small) (hk : ∀ k ∈ s, inB k 0 ((l.length : Int) - 1) = true) (ht : firstF trmF a = 0) : PCtr PP n_spec_l3Holds [encP l, .sl false 1 (s.map i64), .sl false 7 (a.map Trm.enc)] (boo (a.all fun t => s.any fun k => givesB (pk l k) t)) := by
  obtain ⟨Ω, hΩ⟩ : ∃ Ω, Ω = std := ⟨_, rfl⟩
  have hg : ∀ t, PCtr PP n_spec_l3Given [encP l, .sl false 1 (s.map i64), t.enc, i64 (-1)] (boo (s.any fun k => givesB (pk l k) t)) := fun t => by
    have := c_l3Given l s t (-1) hl hs ho hk
    rw [show (s.any fun k => givesB (pk l k) t) = givB l s (-1) t by
      have := metB_eq (c := l) (fun k h => (pk_at (hk k h)).1) [t]
      simpa [metB] using this]
    exact this
  have hz : ∀ t ∈ a, trmF t = 0 := by
    clear ha
    induction a with
    | nil => simp
    | cons x a ih =>
      rw [firstF] at ht
      split at ht
      · rename_i h; exact absurd ht h
      · rename_i h
        intro t hta
        rcases List.mem_cons.1 hta with rfl | hta
        · exact Decidable.not_not.1 h
        · exact ih ht t hta
  have hf : ∀ t ∈ a, ∃ k0, k0 = 0 ∧ PCtr PP n_spec_TermFault [t.enc] (i64 k0) := fun t h => ⟨_, hz t h, c_specTermFault t⟩
  obtain ⟨G, hG⟩ : ∃ G : Trm → Bool, G = fun t => s.any fun k => givesB (pk l k) t := ⟨_, rfl⟩
  obtain ⟨r, hr⟩ : ∃ r, r = !(a.any fun t => !G t) := ⟨_, rfl⟩
  rw [show (a.all fun t => s.any fun k => givesB (pk l k) t) = r by rw [hr, List.not_any_eq_all_not, hG]; congr 1; funext t; simp]
  have hg2 : ∀ t, PCtr PP n_spec_l3Given [encP l, .sl false 1 (s.map i64), t.enc, i64 (-1)] (boo (G t)) := fun t => by rw [hG]; exact hg t
  clear hG hg hz
  obtain ⟨zs, hzs⟩ : ∃ zs, zs = a.map Trm.enc := ⟨_, rfl⟩
  have hlen : zs.length = a.length := by rw [hzs, List.length_map]
  rw [← hzs]
  unfold encP at *
  generalize l.map (Pck.enc false) = xs at *
  generalize s.map i64 = ys at *
  have htab := tab
  have hmo := hmo
  refine PCtr.walk tab hΩ fn_spec_l3Holds rfl ?_
  generalize PP = P at *
  cbv
  refine loopX htab hΩ (fun i : Nat => ⟨[(0, .sl false 8 xs), (1, .sl false 1 ys), (2, .sl false 7 zs), (7, .sc (.int .i64 (Ω.int i)))], 30, []⟩) (fun i => i ≤ a.length ∧ r = !((a.drop i).any fun t => !G t)) (fun i => a.length - i) 0
    ⟨Nat.zero_le _, hr⟩ (Sbs.mk rfl rfl ⟨rfl, rfl, rfl, zeroI hΩ, trivial⟩) ?_
  rintro i ⟨hi, he⟩
  cbv
  refine br (fun h => ?_) (fun h => ?_) <;> cbv
  · replace h := ltI hΩ h
    obtain ⟨c, hcc⟩ := at_of (cs := a) (by omega : i < a.length)
    rw [any_at _ hcc] at he
    refine ⟨⟨nnI hΩ⟩, _, rdI hΩ hzs hcc, ?_⟩
    cbv
    obtain ⟨k0, hk0, hf0⟩ := hf c (List.mem_of_getElem? hcc)
    refine call_pure hΩ 3 hf0 rfl (fits _) rfl rfl ?_
    cbv
    refine br (fun g => ?_) (fun g => ?_) <;> cbv
    · exact absurd hk0 (neI_t hΩ g)
    refine ⟨⟨nnI hΩ⟩, _, rdI hΩ hzs hcc, ?_⟩
    cbv
    refine call_pure hΩ 3 (hg2 c) rfl (fits _) rfl rfl ?_
    cbv
    refine br (fun g => ?_) (fun g => ?_) <;> cbv
    · have g : G c = false := by subst hΩ; simpa using g
      exact .of (congrArg boo (by rw [he, g]; rfl))
    · have g : G c = true := by subst hΩ; simpa using g
      rw [g, Bool.not_true, Bool.false_or] at he
      exact ⟨i + 1, ⟨by omega, he⟩, by omega, Sbs.mk rfl rfl ⟨rfl, rfl, rfl, incI hΩ (by omega), trivial⟩⟩
  · replace h := geI hΩ h
    exact .of (congrArg boo (by rw [he, List.drop_of_length_le (by omega)]; rfl))
theorem c_asksCode (l : List Pck) (s : List Int) (a : List Trm) (hl : l.length ≤ 1048576) (hs : s.length ≤ 1048576) (ha : a.length ≤ 1048576) (ho : ∀ o ∈ l, o.Small) : PCtr PP n_impl_asksCode [encP l, .sl false 1 (s.map i64), .sl false 7 (a.map Trm.enc)] (i64 (askC l s a)) := by
  obtain ⟨Ω, hΩ⟩ : ∃ Ω, Ω = std := ⟨_, rfl⟩
  have h1 := c_implSetFault l s hl ho hs
  have h2 := c_termsFault a (by omega)
  obtain ⟨r, hr⟩ : ∃ r, r = askC l s a := ⟨_, rfl⟩
  rw [← hr]
  unfold askC at hr
  unfold encP at *
  obtain ⟨zs, hzs⟩ : ∃ zs, zs = a.map Trm.enc := ⟨_, rfl⟩
  have hlen : zs.length = a.length := by rw [hzs, List.length_map]
  rw [← hzs] at h2 ⊢
  rw [← hlen] at hr
  generalize setF l s = k1 at *
  generalize firstF trmF a = k2 at *
  generalize l.map (Pck.enc false) = xs at *
  generalize s.map i64 = ys at *
  clear hlen hzs
  have htab := tab
  have hmo := hmo
  refine PCtr.walk tab hΩ fn_impl_asksCode rfl ?_
  generalize PP = P at *
  cbv
  refine call_pure hΩ 3 h1 rfl (fits _) rfl rfl ?_
  cbv
  repeat' (first | (refine br (fun h => ?_) (fun h => ?_) <;> cbv) | (refine call_pure hΩ 3 h2 rfl (fits _) rfl rfl ?_; cbv))
  all_goals (refine .of (congrArg i64 ?_); clear h1 h2 htab hmo; subst hΩ; subst hr; simp_all [cmpIS])
  all_goals (intros; omega)
theorem c_l13Asked (l : List Pck) (s : List Int) (a : List Trm) (hl : l.length ≤ 1048576) (hs : s.length ≤ 1048576) (ha : a.length ≤ 1048576) (ho : ∀ o ∈ l, o.Small) : PCtr PP n_spec_l13Asked [encP l, .sl false 1 (s.map i64), .sl false 7 (a.map Trm.enc)] (i64 (askC l s a)) := by
  obtain ⟨Ω, hΩ⟩ : ∃ Ω, Ω = std := ⟨_, rfl⟩
  have h1 := c_specSetFault l s hl ho hs
  have h2 := c_l2Terms a (by omega)
  obtain ⟨r, hr⟩ : ∃ r, r = askC l s a := ⟨_, rfl⟩
  rw [← hr]
  unfold askC at hr
  unfold encP at *
  obtain ⟨zs, hzs⟩ : ∃ zs, zs = a.map Trm.enc := ⟨_, rfl⟩
  have hlen : zs.length = a.length := by rw [hzs, List.length_map]
  rw [← hzs] at h2 ⊢
  rw [← hlen] at hr
  generalize setF l s = k1 at *
  generalize firstF trmF a = k2 at *
  generalize l.map (Pck.enc false) = xs at *
  generalize s.map i64 = ys at *
  clear hlen hzs
  have htab := tab
  have hmo := hmo
  refine PCtr.walk tab hΩ fn_spec_l13Asked rfl ?_
  generalize PP = P at *
  cbv
  refine call_pure hΩ 3 h1 rfl (fits _) rfl rfl ?_
  cbv
  repeat' (first | (refine br (fun h => ?_) (fun h => ?_) <;> cbv) | (refine call_pure hΩ 3 h2 rfl (fits _) rfl rfl ?_; cbv))
  all_goals (refine .of (congrArg i64 ?_); clear h1 h2 htab hmo; subst hΩ; subst hr; simp_all [cmpIS])
  all_goals (intros; omega)
end Go.Proofs.YtdngjnjapihbkaaGreat

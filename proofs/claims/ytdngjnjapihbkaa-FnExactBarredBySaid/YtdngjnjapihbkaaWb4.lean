/- Walks: terms of packages. Plain theorems. -/
import Derived.Test.YtdngjnjapihbkaaWb3
set_option linter.unusedVariables false
set_option linter.unusedSimpArgs false
namespace Go.Proofs.Ytdngjnjapihbkaa
open Go Go.Fw
set_option maxRecDepth 100000
def givesB (o : Pck) (t : Trm) : Bool := (t.n == o.n || o.p.any (· == t.n)) && hasB t t.n o.v
def strs (l : List (List UInt8)) : A := .sl true 1 (l.map str)
theorem beqSymm (a b : List UInt8) : (a == b) = (b == a) := by rw [Bool.eq_iff_iff, beq_iff_eq, beq_iff_eq]; exact eq_comm
theorem enc_raw (o : Pck) : ∃ ps ds bs, o.enc false = .agg [str o.n, i64 o.v.a, i64 o.v.b, i64 o.v.c, i64 o.s, .sl false 1 ps, .sl false 1 ds, .sl false 7 bs] ∧ ps = o.p.map str ∧ ds = o.d.map (encTs false) ∧ bs = o.b.map Trm.enc := ⟨_, _, _, rfl, rfl, rfl, rfl⟩
theorem c_has (t : Trm) (n : List UInt8) (v : Ver) : PCtr PP n_impl_Term_has [t.enc, str n, v.enc] (boo (hasB t n v)) := by
  obtain ⟨Ω, hΩ⟩ : ∃ Ω, Ω = std := ⟨_, rfl⟩
  obtain ⟨r, hr⟩ : ∃ r, r = hasB t n v := ⟨_, rfl⟩
  rw [← hr]
  have hc0 := c_compare
  unfold hasB at hr
  generalize cmpV = C at *
  have htab := tab
  have hmo := hmo
  refine PCtr.walk tab hΩ fn_impl_Term_has rfl ?_
  generalize PP = P at *
  cbv
  repeat' (first | (refine br (fun h => ?_) (fun h => ?_) <;> cbv) | (refine ⟨VC_drawn htab hΩ hmo (by kernel_rfl) ?_⟩; cbv) | (refine QCall_pure (k := 3) (hc0 _ _) rfl (fits _) rfl ?_; cbv) | (refine call_pure hΩ 3 (hc0 _ _) rfl (fits _) rfl rfl ?_; cbv))
  all_goals (refine .of (congrArg boo ?_); subst hΩ; subst hr; simp_all <;> (intros; omega))
theorem c_l1InTerm (t : Trm) (n : List UInt8) (v : Ver) : PCtr PP n_spec_l1InTerm [t.enc, str n, v.enc] (boo (hasB t n v)) := by
  obtain ⟨Ω, hΩ⟩ : ∃ Ω, Ω = std := ⟨_, rfl⟩
  obtain ⟨r, hr⟩ : ∃ r, r = hasB t n v := ⟨_, rfl⟩
  rw [← hr]
  have hc0 := c_CompareVersions
  unfold hasB at hr
  rw [show decide (cmpV t.l v ≤ 0) = decide (0 ≤ cmpV v t.l) by rw [cmpV_swap t.l v]; rw [Bool.eq_iff_iff]; simp] at hr
  generalize cmpV = C at *
  have htab := tab
  have hmo := hmo
  refine PCtr.walk tab hΩ fn_spec_l1InTerm rfl ?_
  generalize PP = P at *
  cbv
  repeat' (first | (refine br (fun h => ?_) (fun h => ?_) <;> cbv) | (refine ⟨VC_drawn htab hΩ hmo (by kernel_rfl) ?_⟩; cbv) | (refine QCall_pure (k := 3) (hc0 _ _) rfl (fits _) rfl ?_; cbv) | (refine call_pure hΩ 3 (hc0 _ _) rfl (fits _) rfl rfl ?_; cbv))
  all_goals (refine .of (congrArg boo ?_); subst hΩ; subst hr; simp_all <;> (intros; omega))
theorem c_termsFault (l : List Trm) (hl : l.length ≤ 4611686018427387904) : PCtr PP n_impl_termsFault [.sl false 7 (l.map Trm.enc)] (i64 (firstF trmF l)) := by
  obtain ⟨Ω, hΩ⟩ : ∃ Ω, Ω = std := ⟨_, rfl⟩
  obtain ⟨r, hr⟩ : ∃ r, r = firstF trmF l := ⟨_, rfl⟩
  rw [← hr]
  have hc := c_implTermFault
  obtain ⟨xs, hxs⟩ : ∃ xs, xs = l.map Trm.enc := ⟨_, rfl⟩
  have hlen : xs.length = l.length := by rw [hxs, List.length_map]
  rw [← hxs]
  generalize trmF = F at *
  have htab := tab
  have hmo := hmo
  have hve := verEq
  refine PCtr.walk tab hΩ fn_impl_termsFault rfl ?_
  generalize PP = P at *
  cbv
  refine loopX htab hΩ (fun i : Nat => ⟨[(6, .sl false 7 xs), (7, .sc (.int .i64 (Ω.int (Ω.len xs)))), (8, .sc (.int .i64 (Ω.int i)))], 18, []⟩) (fun i => i ≤ l.length ∧ r = firstF F (l.drop i)) (fun i => l.length - i) 0
    ⟨Nat.zero_le _, hr⟩ (Sbs.mk rfl rfl ⟨rfl, rfl, zeroI hΩ, trivial⟩) ?_
  rintro i ⟨hi, he⟩
  cbv
  refine br (fun h => ?_) (fun h => ?_) <;> cbv
  · replace h := ltI hΩ h
    obtain ⟨c, hcc⟩ := at_of (cs := l) (by omega : i < l.length)
    rw [firstF_at _ hcc] at he
    refine ⟨⟨nnI hΩ⟩, _, rdI hΩ hxs hcc, ?_⟩
    cbv
    refine call_pure hΩ 3 (hc c) rfl (fits _) rfl rfl ?_
    cbv
    refine br (fun g => ?_) (fun g => ?_) <;> cbv
    · exact .of (congrArg i64 (by rw [he, if_pos (neI_t hΩ g)]))
    · rw [if_neg (by rw [neI_f hΩ g]; simp)] at he
      exact ⟨i + 1, ⟨by omega, he⟩, by omega, Sbs.mkL (rows := []) rfl rfl rfl ⟨rfl, rfl, incI hΩ (by omega), trivial⟩⟩
  · replace h := geI hΩ h
    exact .of (congrArg i64 (by rw [he, List.drop_of_length_le (by omega)]; rfl))
theorem c_l2Terms (l : List Trm) (hl : l.length ≤ 4611686018427387904) : PCtr PP n_spec_l2Terms [.sl false 7 (l.map Trm.enc)] (i64 (firstF trmF l)) := by
  obtain ⟨Ω, hΩ⟩ : ∃ Ω, Ω = std := ⟨_, rfl⟩
  obtain ⟨r, hr⟩ : ∃ r, r = firstF trmF l := ⟨_, rfl⟩
  rw [← hr]
  have hc := c_specTermFault
  obtain ⟨xs, hxs⟩ : ∃ xs, xs = l.map Trm.enc := ⟨_, rfl⟩
  have hlen : xs.length = l.length := by rw [hxs, List.length_map]
  rw [← hxs]
  generalize trmF = F at *
  have htab := tab
  have hmo := hmo
  have hve := verEq
  refine PCtr.walk tab hΩ fn_spec_l2Terms rfl ?_
  generalize PP = P at *
  cbv
  refine loopX htab hΩ (fun i : Nat => ⟨[(0, .sl false 7 xs), (3, .sc (.int .i64 (Ω.int i)))], 19, []⟩) (fun i => i ≤ l.length ∧ r = firstF F (l.drop i)) (fun i => l.length - i) 0
    ⟨Nat.zero_le _, hr⟩ (Sbs.mk rfl rfl ⟨rfl, zeroI hΩ, trivial⟩) ?_
  rintro i ⟨hi, he⟩
  cbv
  refine br (fun h => ?_) (fun h => ?_) <;> cbv
  · replace h := ltI hΩ h
    obtain ⟨c, hcc⟩ := at_of (cs := l) (by omega : i < l.length)
    rw [firstF_at _ hcc] at he
    refine ⟨⟨nnI hΩ⟩, _, rdI hΩ hxs hcc, ?_⟩
    cbv
    refine call_pure hΩ 3 (hc c) rfl (fits _) rfl rfl ?_
    cbv
    refine br (fun g => ?_) (fun g => ?_) <;> cbv
    · exact .of (congrArg i64 (by rw [he, if_pos (neI_t hΩ g)]))
    · rw [if_neg (by rw [neI_f hΩ g]; simp)] at he
      exact ⟨i + 1, ⟨by omega, he⟩, by omega, Sbs.mk rfl rfl ⟨rfl, incI hΩ (by omega), trivial⟩⟩
  · replace h := geI hΩ h
    exact .of (congrArg i64 (by rw [he, List.drop_of_length_le (by omega)]; rfl))
theorem c_l2Gives (o : Pck) (t : Trm) (hl : o.p.length ≤ 4611686018427387904) : PCtr PP n_spec_l2Gives [o.enc false, t.enc] (boo (givesB o t)) := by
  obtain ⟨Ω, hΩ⟩ : ∃ Ω, Ω = std := ⟨_, rfl⟩
  obtain ⟨r, hr⟩ : ∃ r, r = givesB o t := ⟨_, rfl⟩
  rw [← hr]
  obtain ⟨ps, ds, bs, hen, hps, hds, hbs⟩ := enc_raw o
  rw [hen]
  have hc := c_l2Holds o.p t.n hl
  have hc2 := c_l1InTerm t t.n o.v
  rw [← hps] at hc
  unfold givesB at hr
  generalize (o.p.any fun x => x == t.n) = b at *
  generalize hasB t t.n o.v = b2 at *
  have htab := tab
  have hmo := hmo
  have hve := verEq
  refine PCtr.walk tab hΩ fn_spec_l2Gives rfl ?_
  generalize PP = P at *
  cbv
  repeat' (first | (refine br (fun h => ?_) (fun h => ?_) <;> cbv) | (refine call_pure hΩ 3 hc rfl (fits _) rfl rfl ?_; cbv) | (refine call_pure hΩ 3 hc2 rfl (fits _) rfl rfl ?_; cbv) | (refine QCall_pure (k := 3) hc rfl (fits _) rfl ?_; cbv) | (refine QCall_pure (k := 3) hc2 rfl (fits _) rfl ?_; cbv) | (refine ⟨VC_drawn htab hΩ hmo (by kernel_rfl) ?_⟩; cbv))
  all_goals (refine .of (congrArg boo ?_); subst hΩ; subst hr; simp_all)
theorem c_names (o : Pck) (hl : o.p.length ≤ 1048576) : PCtr PP n_impl_Pack_names [o.enc false] (strs (o.n :: o.p)) := by
  obtain ⟨Ω, hΩ⟩ : ∃ Ω, Ω = std := ⟨_, rfl⟩
  obtain ⟨r, hr⟩ : ∃ r, r = o.n :: o.p := ⟨_, rfl⟩
  rw [← hr]
  obtain ⟨ps, ds, bs, hen, hps, hds, hbs⟩ := enc_raw o
  rw [hen]
  obtain ⟨zs, hzs⟩ : ∃ zs, zs = r.map str := ⟨_, rfl⟩
  rw [show strs r = .sl true 1 zs by rw [hzs]; rfl]
  have hzs : zs = str o.n :: ps := by rw [hzs, hr, hps]; rfl
  have hpl : ps.length = o.p.length := by rw [hps, List.length_map]
  have hno : (∀ y ∈ ps, noOwn y = true) ∧ (∀ c ∈ flat ps, okCell c = true) := by
    rw [hps]
    refine ⟨fun y hy => ?_, fun y hy => ?_⟩
    · obtain ⟨c, _, rfl⟩ := List.mem_map.1 hy; rfl
    · obtain ⟨x, hx, hy⟩ := List.mem_flatMap.1 hy
      obtain ⟨c, _, rfl⟩ := List.mem_map.1 hx
      have : y = str c := by simpa [str, A.cells] using hy
      rw [this]; rfl
  have htab := tab
  have hmo := hmo
  have hve := verEq
  refine PCtr.walk tab hΩ fn_impl_Pack_names rfl ?_
  generalize PP = P at *
  cbv
  refine ⟨⟨hno.1, hno.2, ?_, ?_⟩, ⟨rfl, ?_⟩, .of ?_⟩
  · show (1 + ps.length) * 16 ≤ 140737488355328
    omega
  · show 1 + ps.length ≤ 9223372036854775807
    omega
  · subst hΩ; show 1 + ps.length ≤ (([str o.n]).take 1 ++ ps).length; simp; omega
  · rw [hzs]; subst hΩ; show A.sl true 1 ((([str o.n]).take 1 ++ ps).take (1 + ps.length)) = _; rw [List.take_of_length_le (by simp; omega)]; rfl
end Go.Proofs.Ytdngjnjapihbkaa

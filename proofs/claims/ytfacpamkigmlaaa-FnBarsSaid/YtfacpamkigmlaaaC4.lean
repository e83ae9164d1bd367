/- Walks: terms of packages. Plain theorems. -/
import Derived.Test.YtfacpamkigmlaaaC3
set_option linter.unusedVariables false
set_option linter.unusedSimpArgs false
namespace Go.Proofs.Ytfacpamkigmlaaa
open Go Go.Fw
set_option maxRecDepth 100000
def givesB (o : Pck) (t : Trm) : Bool := (t.n == o.n || o.p.any (· == t.n)) && hasB t t.n o.v
def strs (l : List (List UInt8)) : A := .sl true 1 (l.map str)
theorem beqSymm (a b : List UInt8) : (a == b) = (b == a) := by rw [Bool.eq_iff_iff, beq_iff_eq, beq_iff_eq]; exact eq_comm
theorem enc_raw (o : Pck) : ∃ ps ds bs, o.enc false = .agg [str o.n, i64 o.v.a, i64 o.v.b, i64 o.v.c, i64 o.s, .sl false 1 ps, .sl false 1 ds, .sl false 7 bs] ∧ ps = o.p.map str ∧ ds = o.d.map (encTs false) ∧ bs = o.b.map Trm.enc := ⟨_, _, _, rfl, rfl, rfl, rfl⟩
theorem c_has (t : Trm) (n : List UInt8) (v : Ver) : PCtr PP n_impl_Term_has [t.enc, str n, v.enc] (boo (hasB t n v)) := by
  obtain ⟨Ω, hΩ⟩ : ∃ Ω, Ω = std := ⟨_, rfl⟩
  obtain ⟨r, hr⟩ : ∃ r, r = hasB t n v := ⟨_, rfl⟩
  rw [← hr]
  have hc0 := c_compare
  unfold hasB at hr
  generalize cmpV = C at *
  have htab := tab
  have hmo := hmo
  refine PCtr.walk tab hΩ fn_impl_Term_has rfl ?_
  generalize PP = P at *
  cbv
  repeat' (first | (refine br (fun h => ?_) (fun h => ?_) <;> cbv) | (refine ⟨VC_drawn htab hΩ hmo (by kernel_rfl) ?_⟩; cbv) | (refine QCall_pure (k := 3) (hc0 _ _) rfl (fits _) rfl ?_; cbv) | (refine call_pure hΩ 3 (hc0 _ _) rfl (fits _) rfl rfl ?_; cbv))
  all_goals (refine .of (congrArg boo ?_); subst hΩ; subst hr; simp_all <;> (intros; omega))
theorem c_l1InTerm (t : Trm) (n : List UInt8) (v : Ver) : PCtr PP n_spec_l1InTerm [t.enc, str n, v.enc] (boo (hasB t n v)) := by
  obtain ⟨Ω, hΩ⟩ : ∃ Ω, Ω = std := ⟨_, rfl⟩
  obtain ⟨r, hr⟩ : ∃ r, r = hasB t n v := ⟨_, rfl⟩
  rw [← hr]
  have hc0 := c_CompareVersions
  unfold hasB at hr
  rw [show decide (cmpV t.l v ≤ 0) = decide (0 ≤ cmpV v t.l) by rw [cmpV_swap t.l v]; rw [Bool.eq_iff_iff]; simp] at hr
  generalize cmpV = C at *
  have htab := tab
  have hmo := hmo
  refine PCtr.walk tab hΩ fn_spec_l1InTerm rfl ?_
  generalize PP = P at *
  cbv
  repeat' (first | (refine br (fun h => ?_) (fun h => ?_) <;> cbv) | (refine ⟨VC_drawn htab hΩ hmo (by kernel_rfl) ?_⟩; cbv) | (refine QCall_pure (k := 3) (hc0 _ _) rfl (fits _) rfl ?_; cbv) | (refine call_pure hΩ 3 (hc0 _ _) rfl (fits _) rfl rfl ?_; cbv))
  all_goals (refine .of (congrArg boo ?_); subst hΩ; subst hr; simp_all <;> (intros; omega))
theorem c_termsFault (l : List Trm) (hl : l.length ≤ 4611686018427387904) : PCtr PP n_impl_termsFault [.sl false 7 (l.map Trm.enc)] (i64 (firstF trmF l)) := by
  obtain ⟨Ω, hΩ⟩ : ∃ Ω, Ω = std := ⟨_, rfl⟩
  obtain ⟨r, hr⟩ : ∃ r, r = firstF trmF l := ⟨_, rfl⟩
  rw [← hr]
  have hc := c_implTermFault
  obtain ⟨xs, hxs⟩ : ∃ xs, xs = l.map Trm.enc := ⟨_, rfl⟩
  have hlen : xs.length = l.length := by rw [hxs, List.length_map]
  rw [← hxs]
  generalize trmF = F at *
  have htab := tab
  have hmo := hmo
  have hve := verEq
  refine PCtr.walk tab hΩ fn_impl_termsFault rfl ?_
  generalize PP = P at *
  cbv
  refine loopX htab hΩ (fun i : Nat => ⟨[(6, .sl false 7 xs), (7, .sc (.int .i64 (Ω.int (Ω.len xs)))), (8, .sc (.int .i64 (Ω.int i)))], 18, []⟩) (fun i => i ≤ l.length ∧ r = firstF F (l.drop i)) (fun i => l.length - i) 0
    ⟨Nat.zero_le _, hr⟩ (Sbs.mk rfl rfl ⟨rfl, rfl, zeroI hΩ, trivial⟩) ?_
  rintro i ⟨hi, he⟩
  cbv
  refine br (fun h => ?_) (fun h => ?_) <;> cbv
  · replace h := ltI hΩ h
    obtain ⟨c, hcc⟩ := at_of (cs := l) (by omega : i < l.length)
    rw [firstF_at _ hcc] at he
    refine ⟨⟨nnI hΩ⟩, _, rdI hΩ hxs hcc, ?_⟩
    cbv
    refine call_pure hΩ 3 (hc c) rfl (fits _) rfl rfl ?_
    cbv
    refine br (fun g => ?_) (fun g => ?_) <;> cbv
    · exact .of (congrArg i64 (by rw [he, if_pos (neI_t hΩ g)]))
    · rw [if_neg (by rw [neI_f hΩ g]; simp)] at he
      exact ⟨i + 1, ⟨by omega, he⟩, by omega, Sbs.mkL (rows := []) rfl rfl rfl ⟨rfl, rfl, incI hΩ (by omega), trivial⟩⟩
  · replace h := geI hΩ h
    exact .of (congrArg i64 (by rw [he, List.drop_of_length_le (by omega)]; rfl))
theorem c_l2Terms (l : List Trm) (hl : l.length ≤ 4611686018427387904) : PCtr PP n_spec_l2Terms [.sl false 7 (l.map Trm.enc)] (i64 (firstF trmF l)) := by
  obtain ⟨Ω, hΩ⟩ : ∃ Ω, Ω = std := ⟨_, rfl⟩
  obtain ⟨r, hr⟩ : ∃ r, r = firstF trmF l := ⟨_, rfl⟩
  rw [← hr]
  have hc := c_specTermFault
  obtain ⟨xs, hxs⟩ : ∃ xs, xs = l.map Trm.enc := ⟨_, rfl⟩
  have hlen : xs.length = l.length := by rw [hxs, List.length_map]
  rw [← hxs]
  generalize trmF = F at *
  have htab := tab
  have hmo := hmo
  have hve := verEq
  refine PCtr.walk tab hΩ fn_spec_l2Terms rfl ?_
  generalize PP = P at *
  cbv
  refine loopX htab hΩ (fun i : Nat => ⟨[(0, .sl false 7 xs), (3, .sc (.int .i64 (Ω.int i)))], 19, []⟩) (fun i => i ≤ l.length ∧ r = firstF F (l.drop i)) (fun i => l.length - i) 0
    ⟨Nat.zero_le _, hr⟩ (Sbs.mk rfl rfl ⟨rfl, zeroI hΩ, trivial⟩) ?_
  rintro i ⟨hi, he⟩
  cbv
  refine br (fun h => ?_) (fun h => ?_) <;> cbv
  · replace h := ltI hΩ h
    obtain ⟨c, hcc⟩ := at_of (cs := l) (by omega : i < l.length)
    rw [firstF_at _ hcc] at he
    refine ⟨⟨nnI hΩ⟩, _, rdI hΩ hxs hcc, ?_⟩
    cbv
    refine call_pure hΩ 3 (hc c) rfl (fits _) rfl rfl ?_
    cbv
    refine br (fun g => ?_) (fun g => ?_) <;> cbv
    · exact .of (congrArg i64 (by rw [he, if_pos (neI_t hΩ g)]))
    · rw [if_neg (by rw [neI_f hΩ g]; simp)] at he
      exact ⟨i + 1, ⟨by omega, he⟩, by omega, Sbs.mk rfl rfl ⟨rfl, incI hΩ (by omega), trivial⟩⟩
  · replace h := geI hΩ h
    exact .of (congrArg i64 (by rw [he, List.drop_of_length_le (by omega)]; rfl))
theorem c_l2Gives (o : Pck) (t : Trm) (hl : o.p.length ≤ 4611686018427387904) : PCtr PP n_spec_l2Gives [o.enc false, t.enc] (boo (givesB o t)) := by
  obtain ⟨Ω, hΩ⟩ : ∃ Ω, Ω = std := ⟨_, rfl⟩
  obtain ⟨r, hr⟩ : ∃ r, r = givesB o t := ⟨_, rfl⟩
  rw [← hr]
  obtain ⟨ps, ds, bs, hen, hps, hds, hbs⟩ := enc_raw o
  rw [hen]
  have hc := c_l2Holds o.p t.n hl
  have hc2 := c_l1InTerm t t.n o.v
  rw [← hps] at hc
  unfold givesB at hr
  generalize (o.p.any fun x => x == t.n) = b at *
  generalize hasB t t.n o.v = b2 at *
  have htab := tab
  have hmo := hmo
  have hve := verEq
  refine PCtr.walk tab hΩ fn_spec_l2Gives rfl ?_
  generalize PP = P at *
  cbv
  repeat' (first | (refine br (fun h => ?_) (fun h => ?_) <;> cbv) | (refine call_pure hΩ 3 hc rfl (fits _) rfl rfl ?_; cbv) | (refine call_pure hΩ 3 hc2 rfl (fits _) rfl rfl ?_; cbv) | (refine QCall_pure (k := 3) hc rfl (fits _) rfl ?_; cbv) | (refine QCall_pure (k := 3) hc2 rfl (fits _) rfl ?_; cbv) | (refine ⟨VC_drawn htab hΩ hmo (by kernel_rfl) ?_⟩; cbv))
  all_goals (refine .of (congrArg boo ?_); subst hΩ; subst hr; simp_all)
theorem c_names (o : Pck) (hl : o.p.length ≤ 1048576) : PCtr PP n_impl_Pack_names [o.enc false] (strs (o.n :: o.p)) := by
  obtain ⟨Ω, hΩ⟩ : ∃ Ω, Ω = std := ⟨_, rfl⟩
  obtain ⟨r, hr⟩ : ∃ r, r = o.n :: o.p := ⟨_, rfl⟩
  rw [← hr]
  obtain ⟨ps, ds, bs, hen, hps, hds, hbs⟩ := enc_raw o
  rw [hen]
  obtain ⟨zs, hzs⟩ : ∃ zs, zs = r.map str := ⟨_, rfl⟩
  rw [show strs r = .sl true 1 zs by rw [hzs]; rfl]
  have hzs : zs = str o.n :: ps := by rw [hzs, hr, hps]; rfl
  have hpl : ps.length = o.p.length := by rw [hps, List.length_map]
  have hno : (∀ y ∈ ps, noOwn y = true) ∧ (∀ c ∈ flat ps, okCell c = true) := by
    rw [hps]
    refine ⟨fun y hy => ?_, fun y hy => ?_⟩
    · obtain ⟨c, _, rfl⟩ := List.mem_map.1 hy; rfl
    · obtain ⟨x, hx, hy⟩ := List.mem_flatMap.1 hy
      obtain ⟨c, _, rfl⟩ := List.mem_map.1 hx
      have : y = str c := by simpa [str, A.cells] using hy
      rw [this]; rfl
  have htab := tab
  have hmo := hmo
  have hve := verEq
  refine PCtr.walk tab hΩ fn_impl_Pack_names rfl ?_
  generalize PP = P at *
  cbv
  refine ⟨⟨hno.1, hno.2, ?_, ?_⟩, ⟨rfl, ?_⟩, .of ?_⟩
  · show (1 + ps.length) * 16 ≤ 140737488355328
    omega
  · show 1 + ps.length ≤ 9223372036854775807
    omega
  · subst hΩ; show 1 + ps.length ≤ (([str o.n]).take 1 ++ ps).length; simp; omega
  · rw [hzs]; subst hΩ; show A.sl true 1 ((([str o.n]).take 1 ++ ps).take (1 + ps.length)) = _; rw [List.take_of_length_le (by simp; omega)]; rfl
end Go.Proofs.Ytfacpamkigmlaaa

/- Walks: function values over slices. Plain theorems. -/
set_option linter.unusedVariables false
set_option linter.unusedSimpArgs false
namespace Go.Proofs.Ytfacpamkigmlaaa
open Go Go.Fw
set_option maxRecDepth 100000
theorem mapO_append (f : A → Option A) {xs ys xs' ys' : List A} (h1 : mapO f xs = some xs') (h2 : mapO f ys = some ys') : mapO f (xs ++ ys) = some (xs' ++ ys') := by
  induction xs generalizing xs' with
  | nil => simp only [mapO, Option.some.injEq] at h1; subst h1; exact h2
  | cons x xs ih =>
    simp only [mapO, List.cons_append] at h1 ⊢
    cases hx : f x with
    | none => rw [hx] at h1; simp at h1
    | some y =>
      rw [hx] at h1
      cases hxs : mapO f xs with
      | none => rw [hxs] at h1; simp at h1
      | some us =>
        rw [hxs] at h1
        simp only [Option.some.injEq] at h1
        subst h1
        rw [ih hxs]; rfl
theorem ro_cloA {Ω : Opq} (hΩ : Ω = std) {S : State} {k g : Nat} {xs caps xs' caps' : List A} (h1 : mapO (roO S k) xs = some xs') (h2 : mapO (roO S k) caps = some caps') : mapO (roO S k) (Ω.cloA g xs caps) = some (Ω.cloA g xs' caps') := by
  subst hΩ
  show mapO _ (Fw.cloA g xs caps) = some (Fw.cloA g xs' caps')
  unfold Fw.cloA
  split
  · exact mapO_append _ h1 h2
  · exact mapO_append _ h2 h1
theorem roO_clo (S : State) (k g : Nat) (xs : List A) : roO S (k + 1) (.clo g xs) = (mapO (roO S k) xs).map (A.clo g) := rfl
theorem ro_clo2 {S : State} {k g : Nat} {x x' : A} {caps caps' : List A} (h1 : roO S (k + 1) x = some x') (h2 : mapO (roO S k) caps = some caps') : mapO (roO S (k + 1)) [x, .clo g caps] = some [x', .clo g caps'] := by
  simp [mapO, roO_clo, h1, h2]
theorem ro_clo1 {S : State} {k g : Nat} {caps caps' : List A} (h2 : mapO (roO S k) caps = some caps') : mapO (roO S (k + 1)) [.clo g caps] = some [.clo g caps'] := by
  simp [mapO, roO_clo, h2]
theorem roPt {S : State} {k r n : Nat} {x : A} {ys : List A} (hr : Fw.rowAt S.rows r = some ⟨n, [x], true⟩) (h : mapO (roO S k) x.cells = some ys) : roO S (k + 1) (.pt r 0 0) = some (.rp ys) := by
  simp [roO, hr, h]
theorem mapOne {f : A → Option A} {x x' : A} (h : f x = some x') : mapO f [x] = some [x'] := by simp [mapO, h]
theorem mapTwo {f : A → Option A} {x x' y y' : A} (h : f x = some x') (h2 : f y = some y') : mapO f [x, y] = some [x', y'] := by simp [mapO, h, h2]
/-- What a function value with these captured values answers. -/
structure CloB (P : Program) {α : Type} (enc : α → A) (l : List α) (g : Nat) (caps : List A) (p : α → Bool) : Prop where
  ro : ∀ S k, mapO (roO S (k + 4)) caps = some caps
  no : caps.all noOwn = true
  kl : ∀ r, killL r caps = caps
  run : ∀ s ∈ l, PCtr P (Fw.cloN g) (Fw.cloA g [enc s] caps) (boo (p s))
theorem c_IndexFuncS (l : List (List UInt8)) (hl : l.length ≤ 4611686018427387904) (g : Nat) (caps : List A) (p : List UInt8 → Bool) (hf : CloB PP (str) l g caps p) : PCtr PP n_slices_IndexFunc_L_string_string [.sl false 1 (l.map (str)), .clo g caps] (i64 (idx p l)) := by
  obtain ⟨Ω, hΩ⟩ : ∃ Ω, Ω = std := ⟨_, rfl⟩
  obtain ⟨r, hr⟩ : ∃ r, r = idx p l := ⟨_, rfl⟩
  rw [← hr]
  obtain ⟨xs, hxs⟩ : ∃ xs, xs = l.map (str) := ⟨_, rfl⟩
  have hlen : xs.length = l.length := by rw [hxs, List.length_map]
  rw [← hxs]
  have hro := hf.ro
  have hrun : ∀ s ∈ l, PCtr PP (Ω.cloN g) (Ω.cloA g [str s] caps) (boo (p s)) := by subst hΩ; exact hf.run
  have htab := tab
  have hmo := hmo
  have hve := verEq
  refine PCtr.walk tab hΩ fn_slices_IndexFunc_L_string_string rfl ?_
  generalize PP = P at *
  cbv
  refine loopX htab hΩ (fun i : Nat => ⟨[(0, .sl false 1 xs), (1, .clo g caps), (7, .sc (.int .i64 (Ω.int (Ω.len xs)))), (8, .sc (.int .i64 (Ω.int i)))], 19, []⟩) (fun i => i ≤ l.length ∧ r = idxFrom p i (l.drop i)) (fun i => l.length - i) 0
    ⟨Nat.zero_le _, hr⟩ (Sbs.mk rfl rfl ⟨rfl, rfl, rfl, zeroI hΩ, trivial⟩) ?_
  rintro i ⟨hi, he⟩
  cbv
  refine br (fun h => ?_) (fun h => ?_) <;> cbv
  · replace h := ltI hΩ h
    obtain ⟨c, hcc⟩ := at_of (cs := l) (by omega : i < l.length)
    rw [idxFrom_at _ hcc] at he
    refine ⟨⟨nnI hΩ⟩, _, rdI hΩ hxs hcc, ?_⟩
    cbv
    have h1 := hrun c (List.mem_of_getElem? hcc)

    refine call_pure hΩ 4 h1 (ro_cloA hΩ rfl (hro _ 0)) (fits _) rfl rfl ?_
    cbv
    refine br (fun g => ?_) (fun g => ?_) <;> cbv
    · exact .of (congrArg i64 (by rw [he, if_pos g]; subst hΩ; rfl))
    · rw [if_neg (by rw [show p c = false from g]; simp)] at he
      exact ⟨i + 1, ⟨by omega, he⟩, by omega, Sbs.mk rfl rfl ⟨rfl, rfl, rfl, incI hΩ (by omega), trivial⟩⟩
  · replace h := geI hΩ h
    exact .of (congrArg i64 (by rw [he, List.drop_of_length_le (by omega)]; rfl))
theorem c_ContainsFuncS (l : List (List UInt8)) (hl : l.length ≤ 4611686018427387904) (g : Nat) (caps : List A) (p : List UInt8 → Bool) (hf : CloB PP (str) l g caps p) : PCtr PP n_slices_ContainsFunc_L_string_string [.sl false 1 (l.map (str)), .clo g caps] (boo (l.any p)) := by
  obtain ⟨Ω, hΩ⟩ : ∃ Ω, Ω = std := ⟨_, rfl⟩
  obtain ⟨r, hr⟩ : ∃ r, r = l.any p := ⟨_, rfl⟩
  rw [← hr]
  have hc := c_IndexFuncS l hl g caps p hf
  have hro := hf.ro
  rw [← idx_any] at hr
  generalize idx p l = k at *
  generalize l.map (str) = xs at *
  have htab := tab
  have hmo := hmo
  have hve := verEq
  refine PCtr.walk tab hΩ fn_slices_ContainsFunc_L_string_string rfl ?_
  generalize PP = P at *
  cbv
  refine call_pure hΩ 5 hc (ro_clo2 rfl (hro _ 0)) (fits _) rfl rfl ?_
  cbv
  refine .of (congrArg boo ?_)
  subst hΩ; subst hr; rfl
theorem c_IndexFuncT (l : List (Trm)) (hl : l.length ≤ 4611686018427387904) (g : Nat) (caps : List A) (p : Trm → Bool) (hf : CloB PP (Trm.enc) l g caps p) : PCtr PP n_slices_IndexFunc_L_impl_Term_impl_Term [.sl false 7 (l.map (Trm.enc)), .clo g caps] (i64 (idx p l)) := by
  obtain ⟨Ω, hΩ⟩ : ∃ Ω, Ω = std := ⟨_, rfl⟩
  obtain ⟨r, hr⟩ : ∃ r, r = idx p l := ⟨_, rfl⟩
  rw [← hr]
  obtain ⟨xs, hxs⟩ : ∃ xs, xs = l.map (Trm.enc) := ⟨_, rfl⟩
  have hlen : xs.length = l.length := by rw [hxs, List.length_map]
  rw [← hxs]
  have hro := hf.ro
  have hrun : ∀ s ∈ l, PCtr PP (Ω.cloN g) (Ω.cloA g [Trm.enc s] caps) (boo (p s)) := by subst hΩ; exact hf.run
  have htab := tab
  have hmo := hmo
  have hve := verEq
  refine PCtr.walk tab hΩ fn_slices_IndexFunc_L_impl_Term_impl_Term rfl ?_
  generalize PP = P at *
  cbv
  refine loopX htab hΩ (fun i : Nat => ⟨[(0, .sl false 7 xs), (1, .clo g caps), (7, .sc (.int .i64 (Ω.int (Ω.len xs)))), (8, .sc (.int .i64 (Ω.int i)))], 19, []⟩) (fun i => i ≤ l.length ∧ r = idxFrom p i (l.drop i)) (fun i => l.length - i) 0
    ⟨Nat.zero_le _, hr⟩ (Sbs.mk rfl rfl ⟨rfl, rfl, rfl, zeroI hΩ, trivial⟩) ?_
  rintro i ⟨hi, he⟩
  cbv
  refine br (fun h => ?_) (fun h => ?_) <;> cbv
  · replace h := ltI hΩ h
    obtain ⟨c, hcc⟩ := at_of (cs := l) (by omega : i < l.length)
    rw [idxFrom_at _ hcc] at he
    refine ⟨⟨nnI hΩ⟩, _, rdI hΩ hxs hcc, ?_⟩
    cbv
    have h1 := hrun c (List.mem_of_getElem? hcc)

    refine call_pure hΩ 4 h1 (ro_cloA hΩ rfl (hro _ 0)) (fits _) rfl rfl ?_
    cbv
    refine br (fun g => ?_) (fun g => ?_) <;> cbv
    · exact .of (congrArg i64 (by rw [he, if_pos g]; subst hΩ; rfl))
    · rw [if_neg (by rw [show p c = false from g]; simp)] at he
      exact ⟨i + 1, ⟨by omega, he⟩, by omega, Sbs.mk rfl rfl ⟨rfl, rfl, rfl, incI hΩ (by omega), trivial⟩⟩
  · replace h := geI hΩ h
    exact .of (congrArg i64 (by rw [he, List.drop_of_length_le (by omega)]; rfl))
theorem c_ContainsFuncT (l : List (Trm)) (hl : l.length ≤ 4611686018427387904) (g : Nat) (caps : List A) (p : Trm → Bool) (hf : CloB PP (Trm.enc) l g caps p) : PCtr PP n_slices_ContainsFunc_L_impl_Term_impl_Term [.sl false 7 (l.map (Trm.enc)), .clo g caps] (boo (l.any p)) := by
  obtain ⟨Ω, hΩ⟩ : ∃ Ω, Ω = std := ⟨_, rfl⟩
  obtain ⟨r, hr⟩ : ∃ r, r = l.any p := ⟨_, rfl⟩
  rw [← hr]
  have hc := c_IndexFuncT l hl g caps p hf
  have hro := hf.ro
  rw [← idx_any] at hr
  generalize idx p l = k at *
  generalize l.map (Trm.enc) = xs at *
  have htab := tab
  have hmo := hmo
  have hve := verEq
  refine PCtr.walk tab hΩ fn_slices_ContainsFunc_L_impl_Term_impl_Term rfl ?_
  generalize PP = P at *
  cbv
  refine call_pure hΩ 5 hc (ro_clo2 rfl (hro _ 0)) (fits _) rfl rfl ?_
  cbv
  refine .of (congrArg boo ?_)
  subst hΩ; subst hr; rfl
theorem c_IndexFuncI (l : List (Int)) (hl : l.length ≤ 4611686018427387904) (g : Nat) (caps : List A) (p : Int → Bool) (hf : CloB PP (i64) l g caps p) : PCtr PP n_slices_IndexFunc_L_int64_int64 [.sl false 1 (l.map (i64)), .clo g caps] (i64 (idx p l)) := by
  obtain ⟨Ω, hΩ⟩ : ∃ Ω, Ω = std := ⟨_, rfl⟩
  obtain ⟨r, hr⟩ : ∃ r, r = idx p l := ⟨_, rfl⟩
  rw [← hr]
  obtain ⟨xs, hxs⟩ : ∃ xs, xs = l.map (i64) := ⟨_, rfl⟩
  have hlen : xs.length = l.length := by rw [hxs, List.length_map]
  rw [← hxs]
  have hro := hf.ro
  have hrun : ∀ s ∈ l, PCtr PP (Ω.cloN g) (Ω.cloA g [i64 s] caps) (boo (p s)) := by subst hΩ; exact hf.run
  have htab := tab
  have hmo := hmo
  have hve := verEq
  refine PCtr.walk tab hΩ fn_slices_IndexFunc_L_int64_int64 rfl ?_
  generalize PP = P at *
  cbv
  refine loopX htab hΩ (fun i : Nat => ⟨[(0, .sl false 1 xs), (1, .clo g caps), (7, .sc (.int .i64 (Ω.int (Ω.len xs)))), (8, .sc (.int .i64 (Ω.int i)))], 19, []⟩) (fun i => i ≤ l.length ∧ r = idxFrom p i (l.drop i)) (fun i => l.length - i) 0
    ⟨Nat.zero_le _, hr⟩ (Sbs.mk rfl rfl ⟨rfl, rfl, rfl, zeroI hΩ, trivial⟩) ?_
  rintro i ⟨hi, he⟩
  cbv
  refine br (fun h => ?_) (fun h => ?_) <;> cbv
  · replace h := ltI hΩ h
    obtain ⟨c, hcc⟩ := at_of (cs := l) (by omega : i < l.length)
    rw [idxFrom_at _ hcc] at he
    refine ⟨⟨nnI hΩ⟩, _, rdI hΩ hxs hcc, ?_⟩
    cbv
    have h1 := hrun c (List.mem_of_getElem? hcc)

    refine call_pure hΩ 4 h1 (ro_cloA hΩ rfl (hro _ 0)) (fits _) rfl rfl ?_
    cbv
    refine br (fun g => ?_) (fun g => ?_) <;> cbv
    · exact .of (congrArg i64 (by rw [he, if_pos g]; subst hΩ; rfl))
    · rw [if_neg (by rw [show p c = false from g]; simp)] at he
      exact ⟨i + 1, ⟨by omega, he⟩, by omega, Sbs.mk rfl rfl ⟨rfl, rfl, rfl, incI hΩ (by omega), trivial⟩⟩
  · replace h := geI hΩ h
    exact .of (congrArg i64 (by rw [he, List.drop_of_length_le (by omega)]; rfl))
theorem c_ContainsFuncI (l : List (Int)) (hl : l.length ≤ 4611686018427387904) (g : Nat) (caps : List A) (p : Int → Bool) (hf : CloB PP (i64) l g caps p) : PCtr PP n_slices_ContainsFunc_L_int64_int64 [.sl false 1 (l.map (i64)), .clo g caps] (boo (l.any p)) := by
  obtain ⟨Ω, hΩ⟩ : ∃ Ω, Ω = std := ⟨_, rfl⟩
  obtain ⟨r, hr⟩ : ∃ r, r = l.any p := ⟨_, rfl⟩
  rw [← hr]
  have hc := c_IndexFuncI l hl g caps p hf
  have hro := hf.ro
  rw [← idx_any] at hr
  generalize idx p l = k at *
  generalize l.map (i64) = xs at *
  have htab := tab
  have hmo := hmo
  have hve := verEq
  refine PCtr.walk tab hΩ fn_slices_ContainsFunc_L_int64_int64 rfl ?_
  generalize PP = P at *
  cbv
  refine call_pure hΩ 5 hc (ro_clo2 rfl (hro _ 0)) (fits _) rfl rfl ?_
  cbv
  refine .of (congrArg boo ?_)
  subst hΩ; subst hr; rfl
theorem c_IndexFuncL (l : List (List Trm)) (hl : l.length ≤ 4611686018427387904) (g : Nat) (caps : List A) (p : List Trm → Bool) (hf : CloB PP (encTs false) l g caps p) : PCtr PP n_slices_IndexFunc_L_L_impl_Term_L_impl_Term [.sl false 1 (l.map (encTs false)), .clo g caps] (i64 (idx p l)) := by
  obtain ⟨Ω, hΩ⟩ : ∃ Ω, Ω = std := ⟨_, rfl⟩
  obtain ⟨r, hr⟩ : ∃ r, r = idx p l := ⟨_, rfl⟩
  rw [← hr]
  obtain ⟨xs, hxs⟩ : ∃ xs, xs = l.map (encTs false) := ⟨_, rfl⟩
  have hlen : xs.length = l.length := by rw [hxs, List.length_map]
  rw [← hxs]
  have hro := hf.ro
  have hrun : ∀ s ∈ l, PCtr PP (Ω.cloN g) (Ω.cloA g [encTs false s] caps) (boo (p s)) := by subst hΩ; exact hf.run
  have htab := tab
  have hmo := hmo
  have hve := verEq
  refine PCtr.walk tab hΩ fn_slices_IndexFunc_L_L_impl_Term_L_impl_Term rfl ?_
  generalize PP = P at *
  cbv
  refine loopX htab hΩ (fun i : Nat => ⟨[(0, .sl false 1 xs), (1, .clo g caps), (7, .sc (.int .i64 (Ω.int (Ω.len xs)))), (8, .sc (.int .i64 (Ω.int i)))], 19, []⟩) (fun i => i ≤ l.length ∧ r = idxFrom p i (l.drop i)) (fun i => l.length - i) 0
    ⟨Nat.zero_le _, hr⟩ (Sbs.mk rfl rfl ⟨rfl, rfl, rfl, zeroI hΩ, trivial⟩) ?_
  rintro i ⟨hi, he⟩
  cbv
  refine br (fun h => ?_) (fun h => ?_) <;> cbv
  · replace h := ltI hΩ h
    obtain ⟨c, hcc⟩ := at_of (cs := l) (by omega : i < l.length)
    rw [idxFrom_at _ hcc] at he
    obtain ⟨cs, hen, hcs⟩ : ∃ cs, encTs false c = .sl false 7 cs ∧ cs = c.map Trm.enc := ⟨_, rfl, rfl⟩
    refine ⟨⟨nnI hΩ⟩, _, (rdI hΩ hxs hcc).trans (congrArg some hen), ?_⟩
    cbv
    have h1 := hrun c (List.mem_of_getElem? hcc)
    rw [hen] at h1
    refine call_pure hΩ 4 h1 (ro_cloA hΩ rfl (hro _ 0)) (fits _) rfl rfl ?_
    cbv
    refine br (fun g => ?_) (fun g => ?_) <;> cbv
    · exact .of (congrArg i64 (by rw [he, if_pos g]; subst hΩ; rfl))
    · rw [if_neg (by rw [show p c = false from g]; simp)] at he
      exact ⟨i + 1, ⟨by omega, he⟩, by omega, Sbs.mk rfl rfl ⟨rfl, rfl, rfl, incI hΩ (by omega), trivial⟩⟩
  · replace h := geI hΩ h
    exact .of (congrArg i64 (by rw [he, List.drop_of_length_le (by omega)]; rfl))
theorem c_ContainsFuncL (l : List (List Trm)) (hl : l.length ≤ 4611686018427387904) (g : Nat) (caps : List A) (p : List Trm → Bool) (hf : CloB PP (encTs false) l g caps p) : PCtr PP n_slices_ContainsFunc_L_L_impl_Term_L_impl_Term [.sl false 1 (l.map (encTs false)), .clo g caps] (boo (l.any p)) := by
  obtain ⟨Ω, hΩ⟩ : ∃ Ω, Ω = std := ⟨_, rfl⟩
  obtain ⟨r, hr⟩ : ∃ r, r = l.any p := ⟨_, rfl⟩
  rw [← hr]
  have hc := c_IndexFuncL l hl g caps p hf
  have hro := hf.ro
  rw [← idx_any] at hr
  generalize idx p l = k at *
  generalize l.map (encTs false) = xs at *
  have htab := tab
  have hmo := hmo
  have hve := verEq
  refine PCtr.walk tab hΩ fn_slices_ContainsFunc_L_L_impl_Term_L_impl_Term rfl ?_
  generalize PP = P at *
  cbv
  refine call_pure hΩ 5 hc (ro_clo2 rfl (hro _ 0)) (fits _) rfl rfl ?_
  cbv
  refine .of (congrArg boo ?_)
  subst hΩ; subst hr; rfl
theorem c_IndexFuncP (l : List (Pck)) (hl : l.length ≤ 4611686018427387904) (g : Nat) (caps : List A) (p : Pck → Bool) (hf : CloB PP (Pck.enc false) l g caps p) : PCtr PP n_slices_IndexFunc_L_impl_Pack_impl_Pack [.sl false 8 (l.map (Pck.enc false)), .clo g caps] (i64 (idx p l)) := by
  obtain ⟨Ω, hΩ⟩ : ∃ Ω, Ω = std := ⟨_, rfl⟩
  obtain ⟨r, hr⟩ : ∃ r, r = idx p l := ⟨_, rfl⟩
  rw [← hr]
  obtain ⟨xs, hxs⟩ : ∃ xs, xs = l.map (Pck.enc false) := ⟨_, rfl⟩
  have hlen : xs.length = l.length := by rw [hxs, List.length_map]
  rw [← hxs]
  have hro := hf.ro
  have hrun : ∀ s ∈ l, PCtr PP (Ω.cloN g) (Ω.cloA g [Pck.enc false s] caps) (boo (p s)) := by subst hΩ; exact hf.run
  have htab := tab
  have hmo := hmo
  have hve := verEq
  refine PCtr.walk tab hΩ fn_slices_IndexFunc_L_impl_Pack_impl_Pack rfl ?_
  generalize PP = P at *
  cbv
  refine loopX htab hΩ (fun i : Nat => ⟨[(0, .sl false 8 xs), (1, .clo g caps), (7, .sc (.int .i64 (Ω.int (Ω.len xs)))), (8, .sc (.int .i64 (Ω.int i)))], 19, []⟩) (fun i => i ≤ l.length ∧ r = idxFrom p i (l.drop i)) (fun i => l.length - i) 0
    ⟨Nat.zero_le _, hr⟩ (Sbs.mk rfl rfl ⟨rfl, rfl, rfl, zeroI hΩ, trivial⟩) ?_
  rintro i ⟨hi, he⟩
  cbv
  refine br (fun h => ?_) (fun h => ?_) <;> cbv
  · replace h := ltI hΩ h
    obtain ⟨c, hcc⟩ := at_of (cs := l) (by omega : i < l.length)
    rw [idxFrom_at _ hcc] at he
    obtain ⟨ps, ds, bs, hen, hps, hds, hbs⟩ := enc_raw c
    refine ⟨⟨nnI hΩ⟩, _, (rdI hΩ hxs hcc).trans (congrArg some hen), ?_⟩
    cbv
    have h1 := hrun c (List.mem_of_getElem? hcc)
    rw [hen] at h1
    refine call_pure hΩ 4 h1 (ro_cloA hΩ rfl (hro _ 0)) (fits _) rfl rfl ?_
    cbv
    refine br (fun g => ?_) (fun g => ?_) <;> cbv
    · exact .of (congrArg i64 (by rw [he, if_pos g]; subst hΩ; rfl))
    · rw [if_neg (by rw [show p c = false from g]; simp)] at he
      exact ⟨i + 1, ⟨by omega, he⟩, by omega, Sbs.mk rfl rfl ⟨rfl, rfl, rfl, incI hΩ (by omega), trivial⟩⟩
  · replace h := geI hΩ h
    exact .of (congrArg i64 (by rw [he, List.drop_of_length_le (by omega)]; rfl))
end Go.Proofs.Ytfacpamkigmlaaa

/- Walks: what a package gives. Plain theorems. -/
set_option linter.unusedVariables false
set_option linter.unusedSimpArgs false
namespace Go.Proofs.Ytfacpamkigmlaaa
open Go Go.Fw
set_option maxRecDepth 100000
theorem roV {S : State} {k r len n : Nat} {ys : List A} (hr : Fw.rowAt S.rows r = some ⟨n, ys, false⟩) (hl : len = ys.length) (hf : ys.map frz = ys) : roO S (k + 1) (.vw r 0 len) = some (.sl false n ys) := by
  simp only [roO, hr]
  rw [hl, List.drop_zero, List.take_length, hf]
  rfl
theorem frzStr (l : List (List UInt8)) : (l.map str).map frz = l.map str := by
  rw [List.map_map]; exact List.map_congr_left fun c _ => rfl
theorem roFStr (l : List (List UInt8)) : roFree (strs l) = true := by
  unfold strs
  rw [roFree_sl, Bool.true_and, List.all_eq_true]
  intro x hx
  obtain ⟨c, _, rfl⟩ := List.mem_map.1 hx
  rfl
theorem names_any (o : Pck) (t : Trm) : (o.n :: o.p).any (fun s => hasB t s o.v) = givesB o t := by
  unfold givesB hasB
  rw [List.any_cons, show (t.n == t.n) = true by simp, Bool.true_and]
  generalize (decide (cmpV t.l o.v ≤ 0) && decide (cmpV o.v t.h < 0)) = X
  cases X
  · simp
  · simp only [Bool.and_true]
    congr 2
    funext s
    exact beqSymm _ _
theorem c_gives1 (o : Pck) (t : Trm) (s : List UInt8) {ps ds bs : List A} : PCtr PP n_impl_Pack_gives_1 [str s, .rp t.cells, .rp [str o.n, i64 o.v.a, i64 o.v.b, i64 o.v.c, i64 o.s, .sl false 1 ps, .sl false 1 ds, .sl false 7 bs]] (boo (hasB t s o.v)) := by
  obtain ⟨Ω, hΩ⟩ : ∃ Ω, Ω = std := ⟨_, rfl⟩
  have hc := c_has t s o.v
  generalize hasB t s o.v = r at *
  have htab := tab
  refine PCtr.walk tab hΩ fn_impl_Pack_gives_1 rfl ?_
  generalize PP = P at *
  cbv
  refine call_pure hΩ 3 hc rfl (fits _) rfl rfl ?_
  cbv
  exact .same
theorem c_gives (o : Pck) (t : Trm) (hl : o.p.length ≤ 1048576) : PCtr PP n_impl_Pack_gives [o.enc false, t.enc] (boo (givesB o t)) := by
  obtain ⟨Ω, hΩ⟩ : ∃ Ω, Ω = std := ⟨_, rfl⟩
  obtain ⟨r, hr⟩ : ∃ r, r = givesB o t := ⟨_, rfl⟩
  rw [← hr]
  obtain ⟨ps, ds, bs, hen, hps, hds, hbs⟩ := enc_raw o
  rw [hen]
  have hn := c_names o hl
  have hcf : PCtr PP n_slices_ContainsFunc_L_string_string [.sl false 1 ((o.n :: o.p).map str), .clo n_impl_Pack_gives_1 [.rp t.cells, .rp [str o.n, i64 o.v.a, i64 o.v.b, i64 o.v.c, i64 o.s, .sl false 1 ps, .sl false 1 ds, .sl false 7 bs]]] (boo r) := by
    rw [hr, ← names_any]
    exact c_ContainsFuncS _ (by simp; omega) _ _ _ ⟨fun S k => rfl, rfl, fun _ => rfl, fun s _ => c_gives1 o t s⟩
  have hrf := roFStr (o.n :: o.p)
  have hzf := frzStr (o.n :: o.p)
  rw [hen] at hn
  unfold strs at hn hrf
  generalize (o.n :: o.p).map str = zs at *
  have htab := tab
  have hmo := hmo
  have hve := verEq
  refine PCtr.walk tab hΩ fn_impl_Pack_gives rfl ?_
  generalize PP = P at *
  cbv
  refine call_pure hΩ 3 hn rfl (fits _) hrf rfl ?_
  cbv
  refine call_pure hΩ 5 hcf (ro_clo2 (roV rfl (by subst hΩ; rfl) hzf) rfl) (fits _) rfl rfl ?_
  cbv
  exact .same
theorem c_givesOne (o : Pck) (l : List Trm) (ho : o.p.length ≤ 1048576) (hl : l.length ≤ 1048576) : PCtr PP n_impl_Pack_givesOne [o.enc false, .sl false 7 (l.map Trm.enc)] (boo (l.any (givesB o))) := by
  obtain ⟨Ω, hΩ⟩ : ∃ Ω, Ω = std := ⟨_, rfl⟩
  obtain ⟨r, hr⟩ : ∃ r, r = l.any (givesB o) := ⟨_, rfl⟩
  rw [← hr]
  obtain ⟨ps, ds, bs, hen, hps, hds, hbs⟩ := enc_raw o
  rw [hen]
  have hcf : PCtr PP n_slices_ContainsFunc_L_impl_Term_impl_Term [.sl false 7 (l.map Trm.enc), .clo (1000000 + n_impl_Pack_gives) [.agg [str o.n, i64 o.v.a, i64 o.v.b, i64 o.v.c, i64 o.s, .sl false 1 ps, .sl false 1 ds, .sl false 7 bs]]] (boo r) := by
    rw [hr, ← hen]
    exact c_ContainsFuncT _ (by omega) _ _ _ ⟨fun S k => by rw [hen]; rfl, by rw [hen]; rfl, fun _ => by rw [hen]; rfl, fun t _ => c_gives o t ho⟩
  generalize l.map Trm.enc = xs at *
  have htab := tab
  have hmo := hmo
  have hve := verEq
  refine PCtr.walk tab hΩ fn_impl_Pack_givesOne rfl ?_
  generalize PP = P at *
  cbv
  refine call_pure hΩ 5 hcf (ro_clo2 rfl rfl) (fits _) rfl rfl ?_
  cbv
  exact .same
end Go.Proofs.Ytfacpamkigmlaaa

/- Walks: faults of packages. Plain theorems. -/
set_option linter.unusedVariables false
set_option linter.unusedSimpArgs false
namespace Go.Proofs.Ytfacpamkigmlaaa
open Go Go.Fw
set_option maxRecDepth 100000
def provFrom (n : List UInt8) (all : List (List UInt8)) : Nat → List (List UInt8) → Int
  | _, [] => 0
  | i, x :: xs => if nameF x ≠ 0 then nameF x else if (x == n || (all.take i).any (· == x)) = true then 6 else provFrom n all (i + 1) xs
theorem provFrom_at (n : List UInt8) {cs : List (List UInt8)} {i : Nat} {c : List UInt8} (h : cs[i]? = some c) : provFrom n cs i (cs.drop i) = if nameF c ≠ 0 then nameF c else if (c == n || (cs.take i).any (· == c)) = true then 6 else provFrom n cs (i + 1) (cs.drop (i + 1)) := by
  obtain ⟨h1, h2⟩ := List.getElem?_eq_some_iff.1 h
  conv => lhs; rw [List.drop_eq_getElem_cons h1, h2, provFrom]
def needF (l : List Trm) : Int := if l.length = 0 then 1 else firstF trmF l
def packF (o : Pck) : Int :=
  if nameF o.n ≠ 0 then nameF o.n else if verF o.v ≠ 0 then verF o.v else if inB o.s 1 200 = false then 3 else
  if 4 < o.p.length ∨ 4 < o.d.length ∨ 4 < o.b.length ∨ o.d.any (fun l => decide (4 < l.length)) = true then 2 else
  if provFrom o.n o.p 0 o.p ≠ 0 then provFrom o.n o.p 0 o.p else if firstF needF o.d ≠ 0 then firstF needF o.d else firstF trmF o.b
structure Pck.Small (o : Pck) : Prop where
  p : o.p.length ≤ 1048576
  d : o.d.length ≤ 1048576
  b : o.b.length ≤ 1048576
  e : ∀ l ∈ o.d, l.length ≤ 1048576
theorem c_firstCode (l : List Int) (hl : l.length ≤ 1048576) : PCtr PP n_impl_firstCode [.sl false 1 (l.map i64)] (i64 (orF l)) := by
  obtain ⟨Ω, hΩ⟩ : ∃ Ω, Ω = std := ⟨_, rfl⟩
  obtain ⟨r, hr⟩ : ∃ r, r = orF l := ⟨_, rfl⟩
  rw [← hr]
  obtain ⟨xs, hxs⟩ : ∃ xs, xs = l.map i64 := ⟨_, rfl⟩
  have hlen : xs.length = l.length := by rw [hxs, List.length_map]
  rw [← hxs]
  have htab := tab
  have hmo := hmo
  have hve := verEq
  refine PCtr.walk tab hΩ fn_impl_firstCode rfl ?_
  generalize PP = P at *
  cbv
  refine loopX htab hΩ (fun i : Nat => ⟨[(5, .sl false 1 xs), (6, .sc (.int .i64 (Ω.int (Ω.len xs)))), (7, .sc (.int .i64 (Ω.int i)))], 15, []⟩) (fun i => i ≤ l.length ∧ r = orF (l.drop i)) (fun i => l.length - i) 0
    ⟨Nat.zero_le _, hr⟩ (Sbs.mk rfl rfl ⟨rfl, rfl, zeroI hΩ, trivial⟩) ?_
  rintro i ⟨hi, he⟩
  cbv
  refine br (fun h => ?_) (fun h => ?_) <;> cbv
  · replace h := ltI hΩ h
    obtain ⟨c, hcc⟩ := at_of (cs := l) (by omega : i < l.length)
    rw [orF_at hcc] at he
    refine ⟨⟨nnI hΩ⟩, _, rdI hΩ hxs hcc, ?_⟩
    cbv
    refine br (fun g => ?_) (fun g => ?_) <;> cbv
    · exact .of (congrArg i64 (by rw [he, if_pos (neI_t hΩ g)]))
    · rw [if_neg (by rw [neI_f hΩ g]; simp)] at he
      exact ⟨i + 1, ⟨by omega, he⟩, by omega, Sbs.mk rfl rfl ⟨rfl, rfl, incI hΩ (by omega), trivial⟩⟩
  · replace h := geI hΩ h
    exact .of (congrArg i64 (by rw [he, List.drop_of_length_le (by omega)]; rfl))
theorem c_PackFault1 (l : List Trm) : PCtr PP n_impl_PackFault_1 [encTs false l] (boo (decide (4 < l.length))) := by
  obtain ⟨Ω, hΩ⟩ : ∃ Ω, Ω = std := ⟨_, rfl⟩
  obtain ⟨r, hr⟩ : ∃ r, r = decide (4 < l.length) := ⟨_, rfl⟩
  rw [← hr]
  obtain ⟨cs, hen, hcs⟩ : ∃ cs, encTs false l = .sl false 7 cs ∧ cs = l.map Trm.enc := ⟨_, rfl, rfl⟩
  rw [hen]
  rw [show l.length = cs.length by rw [hcs, List.length_map]] at hr
  have htab := tab
  have hmo := hmo
  have hve := verEq
  refine PCtr.walk tab hΩ fn_impl_PackFault_1 rfl ?_
  generalize PP = P at *
  cbv
  exact .of (congrArg boo (by rw [hr]; subst hΩ; rw [Bool.eq_iff_iff]; simp; omega))
theorem c_implPackFault (o : Pck) (ho : o.Small) : PCtr PP n_impl_PackFault [o.enc false] (i64 (packF o)) := by
  obtain ⟨Ω, hΩ⟩ : ∃ Ω, Ω = std := ⟨_, rfl⟩
  obtain ⟨r, hr⟩ : ∃ r, r = packF o := ⟨_, rfl⟩
  rw [← hr]
  obtain ⟨ps, ds, bs, hen, hps, hds, hbs⟩ := enc_raw o
  rw [hen]
  have hpl : ps.length = o.p.length := by rw [hps, List.length_map]
  have hdl : ds.length = o.d.length := by rw [hds, List.length_map]
  have hbl : bs.length = o.b.length := by rw [hbs, List.length_map]
  have hn0 := c_implNameFault o.n
  have hn : ∀ s, ∃ k, nameF s = k ∧ PCtr PP n_impl_NameFault [str s] (i64 k) := fun s => ⟨_, rfl, c_implNameFault s⟩
  have hv := c_implVersionFault o.v
  have hw := c_within o.s 1 200
  have ht := c_termsFault o.b (by have := ho.b; omega)
  have htl : ∀ l ∈ o.d, PCtr PP n_impl_termsFault [.sl false 7 (l.map Trm.enc)] (i64 (firstF trmF l)) := fun l hl => c_termsFault l (by have := ho.e l hl; omega)
  have h1 := ho.p
  have h2 := ho.d
  have h3 := ho.b
  unfold packF at hr
  rw [← hbs] at ht
  obtain ⟨cN, hcN⟩ : ∃ x, nameF o.n = x := ⟨_, rfl⟩
  obtain ⟨cV, hcV⟩ : ∃ x, verF o.v = x := ⟨_, rfl⟩
  obtain ⟨bW, hbW⟩ : ∃ x, inB o.s 1 200 = x := ⟨_, rfl⟩
  obtain ⟨cP, hcP⟩ : ∃ x, provFrom o.n o.p 0 o.p = x := ⟨_, rfl⟩
  obtain ⟨cD, hcD⟩ : ∃ x, firstF needF o.d = x := ⟨_, rfl⟩
  obtain ⟨cB, hcB⟩ : ∃ x, firstF trmF o.b = x := ⟨_, rfl⟩
  have hn1 := hn0
  clear hn0
  rw [hcN] at hr hn1
  rw [hcV] at hr hv
  rw [hbW] at hr hw
  rw [hcB] at hr ht
  rw [hcP, hcD] at hr
  have hcf := c_firstCode [cN, cV] (by simp)
  obtain ⟨fc, hfc⟩ : ∃ x, orF [cN, cV] = x := ⟨_, rfl⟩
  rw [hfc] at hcf
  have hany := c_ContainsFuncL o.d (by omega) n_impl_PackFault_1 [] (fun l => decide (4 < l.length)) ⟨fun _ _ => rfl, rfl, fun _ => rfl, fun l _ => c_PackFault1 l⟩
  rw [← hds] at hany
  generalize (o.d.any fun l => decide (4 < l.length)) = bA at *
  have hhas := fun (l : List (List UInt8)) s (hl : l.length ≤ 1048576) => c_ContainsS l s (by omega)
  have hr : r = if fc ≠ 0 then fc else if bW = false then 3 else if 4 < o.p.length ∨ 4 < o.d.length ∨ 4 < o.b.length ∨ bA = true then 2 else if cP ≠ 0 then cP else if cD ≠ 0 then cD else cB := by
    rw [hr, ← hfc]
    simp only [orF]
    by_cases e1 : cN = 0
    · by_cases e2 : cV = 0
      · simp [e1, e2]
      · simp [e1, e2]
    · simp [e1]
  have htab := tab
  have hmo := hmo
  have hve := verEq
  refine PCtr.walk tab hΩ fn_impl_PackFault rfl ?_
  generalize PP = P at *
  cbv
  refine ⟨VC_tail htab hΩ hmo 6 (by kernel_rfl) ?_⟩
  cbv
  refine QCall_pure (k := 3) hn1 rfl (fits _) rfl ?_
  cbv
  refine QCall_pure (k := 3) hv rfl (fits _) rfl ?_
  cbv
  refine call_pure hΩ 3 hcf rfl (fits _) rfl rfl ?_
  cbv
  refine br (fun g => ?_) (fun g => ?_) <;> cbv
  · exact .of (congrArg i64 (by rw [hr, if_pos (neI_t hΩ g)]))
  rw [if_neg (by rw [neI_f hΩ g]; simp)] at hr
  refine call_pure hΩ 3 hw rfl (fits _) rfl rfl ?_
  cbv
  refine br (fun g => ?_) (fun g => ?_) <;> cbv
  · exact .of (congrArg i64 (by rw [hr, if_pos (notT' hΩ g)]))
  rw [if_neg (by rw [notF' hΩ g]; simp)] at hr
  refine br (fun q1 => ?_) (fun q1 => ?_) <;> cbv
  · exact .of (congrArg i64 (by rw [hr, if_pos (.inl (by subst hΩ; have q1 : (4 : Int) < ps.length := gt_t q1; omega))]))
  refine br (fun q2 => ?_) (fun q2 => ?_) <;> cbv
  · exact .of (congrArg i64 (by rw [hr, if_pos (.inr (.inl (by subst hΩ; have q2 : (4 : Int) < ds.length := gt_t q2; omega)))]))
  refine br (fun q3 => ?_) (fun q3 => ?_) <;> cbv
  · exact .of (congrArg i64 (by rw [hr, if_pos (.inr (.inr (.inl (by subst hΩ; have q3 : (4 : Int) < bs.length := gt_t q3; omega))))]))
  have q1 : o.p.length ≤ 4 := by subst hΩ; have q1 : (ps.length : Int) ≤ 4 := gt_f q1; omega
  have q2 : o.d.length ≤ 4 := by subst hΩ; have q2 : (ds.length : Int) ≤ 4 := gt_f q2; omega
  have q3 : o.b.length ≤ 4 := by subst hΩ; have q3 : (bs.length : Int) ≤ 4 := gt_f q3; omega
  refine call_pure hΩ 3 hany rfl (fits _) rfl rfl ?_
  cbv
  refine br (fun q4 => ?_) (fun q4 => ?_) <;> cbv
  · exact .of (congrArg i64 (by rw [hr, if_pos (.inr (.inr (.inr (by subst hΩ; exact q4))))]))
  have q4 : bA = false := by subst hΩ; exact q4
  rw [if_neg (by rw [q4]; simp; omega)] at hr
  refine loopX htab hΩ (fun i : Nat => ⟨[(1, .pt 0 0 0), (49, .sl false 1 ps), (50, .sc (.int .i64 (Ω.int (Ω.len ps)))), (51, .sc (.int .i64 (Ω.int i)))], 93, [some ⟨8, [.agg [str o.n, i64 o.v.a, i64 o.v.b, i64 o.v.c, i64 o.s, .sl false 1 ps, .sl false 1 ds, .sl false 7 bs]], true⟩]⟩) (fun i => i ≤ o.p.length ∧ cP = provFrom o.n o.p i (o.p.drop i)) (fun i => o.p.length - i) 0
    ⟨Nat.zero_le _, hcP.symm⟩ (Sbs.mkL (rows := [_]) rfl rfl rfl ⟨rfl, rfl, rfl, zeroI hΩ, trivial⟩) ?_
  rintro i ⟨hi, he⟩
  cbv
  refine br (fun h => ?_) (fun h => ?_) <;> cbv
  · replace h := ltI hΩ h
    obtain ⟨c, hcc⟩ := at_of (cs := o.p) (by omega : i < o.p.length)
    rw [provFrom_at _ hcc] at he
    refine ⟨⟨nnI hΩ⟩, _, rdI hΩ hps hcc, ?_⟩
    cbv
    obtain ⟨kc, hkc, hnc⟩ := hn c
    rw [hkc] at he
    refine call_pure hΩ 3 hnc rfl (fits _) rfl rfl ?_
    cbv
    refine br (fun g => ?_) (fun g => ?_) <;> cbv
    · refine .of (congrArg i64 ?_)
      have g := neI_t hΩ g
      rw [if_pos g] at he
      rw [hr, if_pos (by rw [he]; exact g), he]
    rw [if_neg (by rw [neI_f hΩ g]; simp)] at he
    have hh : PCtr P n_slices_Contains_L_string_string [.sl false 1 (Ω.seg 0 (Ω.nat (Ω.int i)) ps), str c] (boo ((o.p.take i).any (· == c))) := by
      subst hΩ
      have := hhas (o.p.take i) c (by simp; omega)
      rw [List.map_take, ← hps] at this
      exact this
    generalize (o.p.take i).any (· == c) = bh at *
    refine br (fun g1 => ?_) (fun g1 => ?_) <;> cbv
    · refine .of (congrArg i64 ?_)
      rw [if_pos (by rw [show (c == o.n) = true by subst hΩ; exact g1]; rfl)] at he
      rw [hr, if_pos (by rw [he]; decide), he]
    have g1 : (c == o.n) = false := by subst hΩ; exact g1
    rw [g1, Bool.false_or] at he
    refine ⟨⟨trivial, nnI hΩ, Nat.zero_le _, by subst hΩ; show i ≤ ps.length; omega⟩, ?_⟩
    refine call_pure hΩ 3 hh rfl (fits _) rfl rfl ?_
    cbv
    refine br (fun g2 => ?_) (fun g2 => ?_) <;> cbv
    · refine .of (congrArg i64 ?_)
      rw [if_pos (by subst hΩ; exact g2)] at he
      rw [hr, if_pos (by rw [he]; decide), he]
    rw [if_neg (by rw [show bh = false by subst hΩ; exact g2]; simp)] at he
    exact ⟨i + 1, ⟨by omega, he⟩, by omega, Sbs.mk rfl rfl ⟨rfl, rfl, rfl, incI hΩ (by omega), trivial⟩⟩
  · replace h := geI hΩ h
    rw [List.drop_of_length_le (by omega), provFrom] at he
    rw [if_neg (by rw [he]; simp)] at hr
    clear he h hi
    refine loopX htab hΩ (fun i : Nat => ⟨[(1, .pt 0 0 0), (75, .sl false 1 ds), (76, .sc (.int .i64 (Ω.int (Ω.len ds)))), (77, .sc (.int .i64 (Ω.int i)))], 93, [some ⟨8, [.agg [str o.n, i64 o.v.a, i64 o.v.b, i64 o.v.c, i64 o.s, .sl false 1 ps, .sl false 1 ds, .sl false 7 bs]], true⟩]⟩) (fun i => i ≤ o.d.length ∧ cD = firstF needF (o.d.drop i)) (fun i => o.d.length - i) 0
      ⟨Nat.zero_le _, hcD.symm⟩ (Sbs.mk rfl rfl ⟨rfl, rfl, rfl, zeroI hΩ, trivial⟩) ?_
    rintro i ⟨hi, he⟩
    cbv
    refine br (fun h => ?_) (fun h => ?_) <;> cbv
    · replace h := ltI hΩ h
      obtain ⟨c, hcc⟩ := at_of (cs := o.d) (by omega : i < o.d.length)
      rw [firstF_at _ hcc] at he
      obtain ⟨cs, hen2, hcs⟩ : ∃ cs, encTs false c = .sl false 7 cs ∧ cs = c.map Trm.enc := ⟨_, rfl, rfl⟩
      have hcl : cs.length = c.length := by rw [hcs, List.length_map]
      refine ⟨⟨nnI hΩ⟩, _, (rdI hΩ hds hcc).trans (congrArg some hen2), ?_⟩
      cbv
      refine br (fun g => ?_) (fun g => ?_) <;> cbv
      · refine .of (congrArg i64 ?_)
        have g : c.length = 0 := by subst hΩ; have g : (cs.length : Int) = 0 := eq_t g; omega
        rw [hr, if_pos] <;> rw [he, show needF c = 1 by rw [needF, if_pos g]] <;> simp
      have g : c.length ≠ 0 := by subst hΩ; have g : (cs.length : Int) ≠ 0 := eq_f g; omega
      have hnf : needF c = firstF trmF c := by rw [needF, if_neg g]
      have htc := htl c (List.mem_of_getElem? hcc)
      rw [← hcs, ← hnf] at htc
      generalize needF c = kc at *
      refine call_pure hΩ 3 htc rfl (fits _) rfl rfl ?_
      cbv
      refine br (fun g => ?_) (fun g => ?_) <;> cbv
      · refine .of (congrArg i64 ?_)
        have g := neI_t hΩ g
        rw [if_pos g] at he
        rw [hr, if_pos (by rw [he]; exact g), he]
      · rw [if_neg (by rw [neI_f hΩ g]; simp)] at he
        exact ⟨i + 1, ⟨by omega, he⟩, by omega, Sbs.mk rfl rfl ⟨rfl, rfl, rfl, incI hΩ (by omega), trivial⟩⟩
    · replace h := geI hΩ h
      rw [List.drop_of_length_le (by omega), firstF] at he
      rw [if_neg (by rw [he]; simp)] at hr
      refine call_pure hΩ 3 ht rfl (fits _) rfl rfl ?_
      cbv
      exact .of (congrArg i64 hr.symm)
theorem c_specPackFault (o : Pck) (ho : o.Small) : PCtr PP n_spec_PackFault [o.enc false] (i64 (packF o)) := by
  obtain ⟨Ω, hΩ⟩ : ∃ Ω, Ω = std := ⟨_, rfl⟩
  obtain ⟨r, hr⟩ : ∃ r, r = packF o := ⟨_, rfl⟩
  rw [← hr]
  obtain ⟨ps, ds, bs, hen, hps, hds, hbs⟩ := enc_raw o
  rw [hen]
  have hpl : ps.length = o.p.length := by rw [hps, List.length_map]
  have hdl : ds.length = o.d.length := by rw [hds, List.length_map]
  have hbl : bs.length = o.b.length := by rw [hbs, List.length_map]
  have hn0 := c_specNameFault o.n
  have hn : ∀ s, ∃ k, nameF s = k ∧ PCtr PP n_spec_NameFault [str s] (i64 k) := fun s => ⟨_, rfl, c_specNameFault s⟩
  have hv := c_specVersionFault o.v
  have hw := c_l1In o.s 1 200
  have ht := c_l2Terms o.b (by have := ho.b; omega)
  have htl : ∀ l ∈ o.d, PCtr PP n_spec_l2Terms [.sl false 7 (l.map Trm.enc)] (i64 (firstF trmF l)) := fun l hl => c_l2Terms l (by have := ho.e l hl; omega)
  have h1 := ho.p
  have h2 := ho.d
  have h3 := ho.b
  unfold packF at hr
  rw [← hbs] at ht
  obtain ⟨cN, hcN⟩ : ∃ x, nameF o.n = x := ⟨_, rfl⟩
  obtain ⟨cV, hcV⟩ : ∃ x, verF o.v = x := ⟨_, rfl⟩
  obtain ⟨bW, hbW⟩ : ∃ x, inB o.s 1 200 = x := ⟨_, rfl⟩
  obtain ⟨cP, hcP⟩ : ∃ x, provFrom o.n o.p 0 o.p = x := ⟨_, rfl⟩
  obtain ⟨cD, hcD⟩ : ∃ x, firstF needF o.d = x := ⟨_, rfl⟩
  obtain ⟨cB, hcB⟩ : ∃ x, firstF trmF o.b = x := ⟨_, rfl⟩
  have hn1 := hn0
  clear hn0
  rw [hcN] at hr hn1
  rw [hcV] at hr hv
  rw [hbW] at hr hw
  rw [hcB] at hr ht
  rw [hcP, hcD] at hr
  obtain ⟨bA, hbA⟩ : ∃ x, (o.d.any fun l => decide (4 < l.length)) = x := ⟨_, rfl⟩
  rw [hbA] at hr
  have hhas := fun (l : List (List UInt8)) s (hl : l.length ≤ 1048576) => c_l2Holds l s (by omega)
  have htab := tab
  have hmo := hmo
  have hve := verEq
  refine PCtr.walk tab hΩ fn_spec_PackFault rfl ?_
  generalize PP = P at *
  cbv
  refine call_pure hΩ 3 hn1 rfl (fits _) rfl rfl ?_
  cbv
  refine br (fun g => ?_) (fun g => ?_) <;> cbv
  · exact .of (congrArg i64 (by rw [hr, if_pos (neI_t hΩ g)]))
  rw [if_neg (by rw [neI_f hΩ g]; simp)] at hr
  refine call_pure hΩ 3 hv rfl (fits _) rfl rfl ?_
  cbv
  refine br (fun g => ?_) (fun g => ?_) <;> cbv
  · exact .of (congrArg i64 (by rw [hr, if_pos (neI_t hΩ g)]))
  rw [if_neg (by rw [neI_f hΩ g]; simp)] at hr
  refine call_pure hΩ 3 hw rfl (fits _) rfl rfl ?_
  cbv
  refine br (fun g => ?_) (fun g => ?_) <;> cbv
  · exact .of (congrArg i64 (by rw [hr, if_pos (notT' hΩ g)]))
  rw [if_neg (by rw [notF' hΩ g]; simp)] at hr
  refine br (fun q1 => ?_) (fun q1 => ?_) <;> cbv
  · exact .of (congrArg i64 (by rw [hr, if_pos (.inl (by subst hΩ; have q1 : (4 : Int) < ps.length := gt_t q1; omega))]))
  refine br (fun q2 => ?_) (fun q2 => ?_) <;> cbv
  · exact .of (congrArg i64 (by rw [hr, if_pos (.inr (.inl (by subst hΩ; have q2 : (4 : Int) < ds.length := gt_t q2; omega)))]))
  refine br (fun q3 => ?_) (fun q3 => ?_) <;> cbv
  · exact .of (congrArg i64 (by rw [hr, if_pos (.inr (.inr (.inl (by subst hΩ; have q3 : (4 : Int) < bs.length := gt_t q3; omega))))]))
  have q1 : o.p.length ≤ 4 := by subst hΩ; have q1 : (ps.length : Int) ≤ 4 := gt_f q1; omega
  have q2 : o.d.length ≤ 4 := by subst hΩ; have q2 : (ds.length : Int) ≤ 4 := gt_f q2; omega
  have q3 : o.b.length ≤ 4 := by subst hΩ; have q3 : (bs.length : Int) ≤ 4 := gt_f q3; omega
  refine loopX htab hΩ (fun i : Nat => ⟨[(1, .pt 0 0 0), (5, .sc (.int .i64 (Ω.int i)))], 118, [some ⟨8, [.agg [str o.n, i64 o.v.a, i64 o.v.b, i64 o.v.c, i64 o.s, .sl false 1 ps, .sl false 1 ds, .sl false 7 bs]], true⟩]⟩) (fun i => i ≤ o.d.length ∧ bA = (o.d.drop i).any (fun l => decide (4 < l.length))) (fun i => o.d.length - i) 0
    ⟨Nat.zero_le _, hbA.symm⟩ (Sbs.mk rfl rfl ⟨rfl, zeroI hΩ, trivial⟩) ?_
  rintro i ⟨hi, he⟩
  cbv
  refine br (fun h => ?_) (fun h => ?_) <;> cbv
  · replace h := ltI hΩ h
    obtain ⟨c, hcc⟩ := at_of (cs := o.d) (by omega : i < o.d.length)
    rw [any_at _ hcc] at he
    obtain ⟨cs, hen2, hcs⟩ : ∃ cs, encTs false c = .sl false 7 cs ∧ cs = c.map Trm.enc := ⟨_, rfl, rfl⟩
    have hcl : cs.length = c.length := by rw [hcs, List.length_map]
    refine ⟨⟨nnI hΩ⟩, _, (rdI hΩ hds hcc).trans (congrArg some hen2), ?_⟩
    cbv
    refine br (fun g => ?_) (fun g => ?_) <;> cbv
    · refine .of (congrArg i64 ?_)
      have g : 4 < c.length := by subst hΩ; have g : (4 : Int) < cs.length := gt_t g; omega
      rw [decide_eq_true g, Bool.true_or] at he
      rw [hr, if_pos (.inr (.inr (.inr he)))]
    have g : ¬ 4 < c.length := by subst hΩ; have g : (cs.length : Int) ≤ 4 := gt_f g; omega
    rw [decide_eq_false g, Bool.false_or] at he
    exact ⟨i + 1, ⟨by omega, he⟩, by omega, Sbs.mk rfl rfl ⟨rfl, incI hΩ (by omega), trivial⟩⟩
  · replace h := geI hΩ h
    rw [List.drop_of_length_le (by omega), List.any_nil] at he
    rw [if_neg (by rw [he]; simp; omega)] at hr
    clear he h hi
    refine loopX htab hΩ (fun i : Nat => ⟨[(1, .pt 0 0 0), (6, .sc (.int .i64 (Ω.int i)))], 118, [some ⟨8, [.agg [str o.n, i64 o.v.a, i64 o.v.b, i64 o.v.c, i64 o.s, .sl false 1 ps, .sl false 1 ds, .sl false 7 bs]], true⟩]⟩) (fun i => i ≤ o.p.length ∧ cP = provFrom o.n o.p i (o.p.drop i)) (fun i => o.p.length - i) 0
      ⟨Nat.zero_le _, hcP.symm⟩ (Sbs.mk rfl rfl ⟨rfl, zeroI hΩ, trivial⟩) ?_
    rintro i ⟨hi, he⟩
    cbv
    refine br (fun h => ?_) (fun h => ?_) <;> cbv
    · replace h := ltI hΩ h
      obtain ⟨c, hcc⟩ := at_of (cs := o.p) (by omega : i < o.p.length)
      rw [provFrom_at _ hcc] at he
      refine ⟨⟨nnI hΩ⟩, _, rdI hΩ hps hcc, ?_⟩
      cbv
      obtain ⟨kc, hkc, hnc⟩ := hn c
      rw [hkc] at he
      refine call_pure hΩ 3 hnc rfl (fits _) rfl rfl ?_
      cbv
      refine br (fun g => ?_) (fun g => ?_) <;> cbv
      · refine .of (congrArg i64 ?_)
        have g := neI_t hΩ g
        rw [if_pos g] at he
        rw [hr, if_pos (by rw [he]; exact g), he]
      rw [if_neg (by rw [neI_f hΩ g]; simp)] at he
      have hh : PCtr P n_spec_l2Holds [.sl false 1 (Ω.seg 0 (Ω.nat (Ω.int i)) ps), str c] (boo ((o.p.take i).any (· == c))) := by
        subst hΩ
        have := hhas (o.p.take i) c (by simp; omega)
        rw [List.map_take, ← hps] at this
        exact this
      generalize (o.p.take i).any (· == c) = bh at *
      refine ⟨VC_drawn htab hΩ hmo (by kernel_rfl) ?_⟩
      cbv
      refine ⟨⟨nnI hΩ⟩, _, rdI hΩ hps hcc, ?_⟩
      cbv
      refine br (fun g1 => ?_) (fun g1 => ?_) <;> cbv
      · refine .of (congrArg i64 ?_)
        rw [if_pos (by rw [show (c == o.n) = true by subst hΩ; exact g1]; rfl)] at he
        rw [hr, if_pos (by rw [he]; decide), he]
      have g1 : (c == o.n) = false := by subst hΩ; exact g1
      rw [g1, Bool.false_or] at he
      refine ⟨⟨trivial, nnI hΩ, Nat.zero_le _, by subst hΩ; show i ≤ ps.length; omega⟩, ?_⟩
      refine ⟨⟨nnI hΩ⟩, _, rdI hΩ hps hcc, ?_⟩
      cbv
      refine QCall_pure (k := 3) hh rfl (fits _) rfl ?_
      cbv
      refine br (fun g2 => ?_) (fun g2 => ?_) <;> cbv
      · refine .of (congrArg i64 ?_)
        rw [if_pos (by subst hΩ; exact g2)] at he
        rw [hr, if_pos (by rw [he]; decide), he]
      rw [if_neg (by rw [show bh = false by subst hΩ; exact g2]; simp)] at he
      exact ⟨i + 1, ⟨by omega, he⟩, by omega, Sbs.mk rfl rfl ⟨rfl, incI hΩ (by omega), trivial⟩⟩
    · replace h := geI hΩ h
      rw [List.drop_of_length_le (by omega), provFrom] at he
      rw [if_neg (by rw [he]; simp)] at hr
      clear he h hi
      refine loopX htab hΩ (fun i : Nat => ⟨[(1, .pt 0 0 0), (8, .sc (.int .i64 (Ω.int i)))], 118, [some ⟨8, [.agg [str o.n, i64 o.v.a, i64 o.v.b, i64 o.v.c, i64 o.s, .sl false 1 ps, .sl false 1 ds, .sl false 7 bs]], true⟩]⟩) (fun i => i ≤ o.d.length ∧ cD = firstF needF (o.d.drop i)) (fun i => o.d.length - i) 0
        ⟨Nat.zero_le _, hcD.symm⟩ (Sbs.mk rfl rfl ⟨rfl, zeroI hΩ, trivial⟩) ?_
      rintro i ⟨hi, he⟩
      cbv
      refine br (fun h => ?_) (fun h => ?_) <;> cbv
      · replace h := ltI hΩ h
        obtain ⟨c, hcc⟩ := at_of (cs := o.d) (by omega : i < o.d.length)
        rw [firstF_at _ hcc] at he
        obtain ⟨cs, hen2, hcs⟩ : ∃ cs, encTs false c = .sl false 7 cs ∧ cs = c.map Trm.enc := ⟨_, rfl, rfl⟩
        have hcl : cs.length = c.length := by rw [hcs, List.length_map]
        refine ⟨⟨nnI hΩ⟩, _, (rdI hΩ hds hcc).trans (congrArg some hen2), ?_⟩
        cbv
        refine br (fun g => ?_) (fun g => ?_) <;> cbv
        · refine .of (congrArg i64 ?_)
          have g : c.length = 0 := by subst hΩ; have g : (cs.length : Int) = 0 := eq_t g; omega
          rw [hr, if_pos] <;> rw [he, show needF c = 1 by rw [needF, if_pos g]] <;> simp
        have g : c.length ≠ 0 := by subst hΩ; have g : (cs.length : Int) ≠ 0 := eq_f g; omega
        have hnf : needF c = firstF trmF c := by rw [needF, if_neg g]
        have htc := htl c (List.mem_of_getElem? hcc)
        rw [← hcs, ← hnf] at htc
        generalize needF c = kc at *
        refine ⟨⟨nnI hΩ⟩, _, (rdI hΩ hds hcc).trans (congrArg some hen2), ?_⟩
        cbv
        refine call_pure hΩ 3 htc rfl (fits _) rfl rfl ?_
        cbv
        refine br (fun g => ?_) (fun g => ?_) <;> cbv
        · refine .of (congrArg i64 ?_)
          have g := neI_t hΩ g
          rw [if_pos g] at he
          rw [hr, if_pos (by rw [he]; exact g), he]
        · rw [if_neg (by rw [neI_f hΩ g]; simp)] at he
          exact ⟨i + 1, ⟨by omega, he⟩, by omega, Sbs.mk rfl rfl ⟨rfl, incI hΩ (by omega), trivial⟩⟩
      · replace h := geI hΩ h
        rw [List.drop_of_length_le (by omega), firstF] at he
        rw [if_neg (by rw [he]; simp)] at hr
        refine call_pure hΩ 3 ht rfl (fits _) rfl rfl ?_
        cbv
        exact .of (congrArg i64 hr.symm)
end Go.Proofs.Ytfacpamkigmlaaa

/- Walks: faults of catalogs and sets. Plain theorems. -/
set_option linter.unusedVariables false
set_option linter.unusedSimpArgs false
namespace Go.Proofs.Ytfacpamkigmlaaa
open Go Go.Fw
set_option maxRecDepth 100000
def isP (n : List UInt8) (v : Ver) (p : Pck) : Bool := p.n == n && decide (p.v = v)
def findF (c : List Pck) (n : List UInt8) (v : Ver) : Int := idx (isP n v) c
def catFrom (all : List Pck) : Nat → List Pck → Int
  | _, [] => 0
  | i, x :: xs => if packF x ≠ 0 then packF x else if 0 ≤ findF (all.take i) x.n x.v then 6 else catFrom all (i + 1) xs
theorem catFrom_at {cs : List Pck} {i : Nat} {c : Pck} (h : cs[i]? = some c) : catFrom cs i (cs.drop i) = if packF c ≠ 0 then packF c else if 0 ≤ findF (cs.take i) c.n c.v then 6 else catFrom cs (i + 1) (cs.drop (i + 1)) := by
  obtain ⟨h1, h2⟩ := List.getElem?_eq_some_iff.1 h
  conv => lhs; rw [List.drop_eq_getElem_cons h1, h2, catFrom]
def catF (c : List Pck) : Int := if 24 < c.length then 2 else catFrom c 0 c
def riseAll (s : List Int) : Nat → List Int → Bool
  | _, [] => true
  | i, x :: xs => (i == 0 || decide (s.getD (i - 1) 0 < x)) && riseAll s (i + 1) xs
def setOk (m : Int) (s : List Int) : Nat → List Int → Bool
  | _, [] => true
  | i, x :: xs => (inB x 0 m && (i == 0 || decide (s.getD (i - 1) 0 < x))) && setOk m s (i + 1) xs
theorem setOk_eq (m : Int) (s : List Int) : ∀ (l : List Int) (i : Nat), setOk m s i l = (riseAll s i l && l.all fun x => inB x 0 m)
  | [], i => rfl
  | x :: xs, i => by
    rw [setOk, riseAll, List.all_cons, setOk_eq m s xs (i + 1)]
    generalize inB x 0 m = a
    generalize (i == 0 || decide (s.getD (i - 1) 0 < x)) = b
    generalize riseAll s (i + 1) xs = c
    generalize (xs.all fun x => inB x 0 m) = d
    revert a b c d
    decide
theorem setOk_at (m : Int) {s : List Int} {i : Nat} {c : Int} (h : s[i]? = some c) : setOk m s i (s.drop i) = ((inB c 0 m && (i == 0 || decide (s.getD (i - 1) 0 < c))) && setOk m s (i + 1) (s.drop (i + 1))) := by
  obtain ⟨h1, h2⟩ := List.getElem?_eq_some_iff.1 h
  conv => lhs; rw [List.drop_eq_getElem_cons h1, h2, setOk]
theorem riseAll_at {s : List Int} {i : Nat} {c : Int} (h : s[i]? = some c) : riseAll s i (s.drop i) = ((i == 0 || decide (s.getD (i - 1) 0 < c)) && riseAll s (i + 1) (s.drop (i + 1))) := by
  obtain ⟨h1, h2⟩ := List.getElem?_eq_some_iff.1 h
  conv => lhs; rw [List.drop_eq_getElem_cons h1, h2, riseAll]
theorem rise0 (s : List Int) : riseAll s 0 s = riseAll s 1 (s.drop 1) := by
  cases s with
  | nil => rfl
  | cons x xs => simp [riseAll]
theorem subI {Ω : Opq} (hΩ : Ω = std) {i : Nat} (h0 : 0 < i) (h : i ≤ 4611686018427387904) : 0 ≤ Ω.ar .sub .i64 (Ω.int i) 1 ∧ (Ω.ar .sub .i64 (Ω.int i) 1).toNat = i - 1 := by
  subst hΩ
  show 0 ≤ IntKind.i64.wrap ((i : Int) - 1) ∧ (IntKind.i64.wrap ((i : Int) - 1)).toNat = i - 1
  rw [wrap64 (by omega) (by omega)]
  omega
def setF (c : List Pck) (s : List Int) : Int := if catF c ≠ 0 then catF c else if setOk ((c.length : Int) - 1) s 0 s then 0 else 1
def encP (c : List Pck) : A := .sl false 8 (c.map (Pck.enc false))
theorem c_find1 (o : Pck) (n : List UInt8) (v : Ver) : PCtr PP n_impl_find_1 [o.enc false, .rp [str n], .rp v.cells] (boo (isP n v o)) := by
  obtain ⟨Ω, hΩ⟩ : ∃ Ω, Ω = std := ⟨_, rfl⟩
  obtain ⟨r, hr⟩ : ∃ r, r = isP n v o := ⟨_, rfl⟩
  rw [← hr]
  obtain ⟨ps, ds, bs, hen, hps, hds, hbs⟩ := enc_raw o
  rw [hen]
  unfold isP at hr
  obtain ⟨D, hD⟩ : ∃ x, decide (o.v = v) = x := ⟨_, rfl⟩
  rw [hD] at hr
  have htab := tab
  have hmo := hmo
  have hve := verEq
  refine PCtr.walk tab hΩ fn_impl_find_1 rfl ?_
  generalize PP = P at *
  cbv
  refine br (fun g => ?_) (fun g => ?_) <;> cbv
  · refine eqX_eql hve o.v v ?_
    rw [hD]
    cbv
    exact .of (congrArg boo (by rw [hr, show (o.n == n) = true by subst hΩ; exact g, Bool.true_and]; subst hΩ; rfl))
  · exact .of (congrArg boo (by rw [hr, show (o.n == n) = false by subst hΩ; exact g, Bool.false_and]))
theorem c_find (l : List Pck) (n : List UInt8) (v : Ver) (hl : l.length ≤ 1048576) : PCtr PP n_impl_find [encP l, str n, v.enc] (i64 (findF l n v)) := by
  obtain ⟨Ω, hΩ⟩ : ∃ Ω, Ω = std := ⟨_, rfl⟩
  obtain ⟨r, hr⟩ : ∃ r, r = findF l n v := ⟨_, rfl⟩
  rw [← hr]
  have hc := c_IndexFuncP l (by omega) n_impl_find_1 [.rp [str n], .rp v.cells] (isP n v) ⟨fun _ _ => rfl, rfl, fun _ => rfl, fun o _ => c_find1 o n v⟩
  unfold encP
  rw [show idx (isP n v) l = r from hr.symm] at hc
  generalize l.map (Pck.enc false) = xs at *
  have htab := tab
  have hmo := hmo
  have hve := verEq
  refine PCtr.walk tab hΩ fn_impl_find rfl ?_
  generalize PP = P at *
  cbv
  refine call_pure hΩ 5 hc (ro_clo2 rfl rfl) (fits _) rfl rfl ?_
  cbv
  exact .same
theorem c_l2Find (l : List Pck) (n : List UInt8) (v : Ver) (hl : l.length ≤ 1048576) : PCtr PP n_spec_l2Find [encP l, str n, v.enc] (i64 (findF l n v)) := by
  obtain ⟨Ω, hΩ⟩ : ∃ Ω, Ω = std := ⟨_, rfl⟩
  obtain ⟨r, hr⟩ : ∃ r, r = findF l n v := ⟨_, rfl⟩
  rw [← hr]
  obtain ⟨xs, hxs⟩ : ∃ xs, xs = l.map (Pck.enc false) := ⟨_, rfl⟩
  have hlen : xs.length = l.length := by rw [hxs, List.length_map]
  unfold encP
  rw [← hxs]
  have hcv := c_CompareVersions
  have htab := tab
  have hmo := hmo
  have hve := verEq
  refine PCtr.walk tab hΩ fn_spec_l2Find rfl ?_
  generalize PP = P at *
  cbv
  refine loopX htab hΩ (fun i : Nat => ⟨[(0, .sl false 8 xs), (1, .sc (.string (mkS n))), (5, .pt 0 0 0), (7, .sc (.int .i64 (Ω.int i)))], 32, [some ⟨3, [v.enc], true⟩]⟩) (fun i => i ≤ l.length ∧ r = idxFrom (isP n v) i (l.drop i)) (fun i => l.length - i) 0
    ⟨Nat.zero_le _, hr⟩ (Sbs.mk rfl rfl ⟨rfl, rfl, rfl, zeroI hΩ, trivial⟩) ?_
  rintro i ⟨hi, he⟩
  cbv
  refine br (fun h => ?_) (fun h => ?_) <;> cbv
  · replace h := ltI hΩ h
    obtain ⟨c, hcc⟩ := at_of (cs := l) (by omega : i < l.length)
    rw [idxFrom_at _ hcc] at he
    refine ⟨VC_drawn htab hΩ hmo (by kernel_rfl) ?_⟩
    cbv
    obtain ⟨ps, ds, bs, hen, hps, hds, hbs⟩ := enc_raw c
    refine ⟨⟨nnI hΩ⟩, _, (rdI hΩ hxs hcc).trans (congrArg some hen), ?_⟩
    cbv
    refine br (fun g => ?_) (fun g => ?_) <;> cbv
    · have g : (c.n == n) = true := by subst hΩ; exact g
      refine ⟨⟨nnI hΩ⟩, _, (rdI hΩ hxs hcc).trans (congrArg some hen), ?_⟩
      cbv
      have hcv := hcv c.v v
      have hp : isP n v c = decide (cmpV c.v v = 0) := by rw [isP, g, Bool.true_and]; congr 1; rw [cmpV_zero]
      generalize cmpV c.v v = k at *
      rw [hp] at he
      refine QCall_pure (k := 3) hcv rfl (fits _) rfl ?_
      cbv
      refine br (fun g2 => ?_) (fun g2 => ?_) <;> cbv
      · exact .of (congrArg i64 (by rw [he, if_pos (by subst hΩ; have := eq_t g2; simp [this])]; subst hΩ; rfl))
      · rw [if_neg (by subst hΩ; have := eq_f g2; simp [this])] at he
        exact ⟨i + 1, ⟨by omega, he⟩, by omega, Sbs.mk rfl rfl ⟨rfl, rfl, rfl, incI hΩ (by omega), trivial⟩⟩
    · have g : (c.n == n) = false := by subst hΩ; exact g
      rw [if_neg (by rw [isP, g]; simp)] at he
      exact ⟨i + 1, ⟨by omega, he⟩, by omega, Sbs.mk rfl rfl ⟨rfl, rfl, rfl, incI hΩ (by omega), trivial⟩⟩
  · replace h := geI hΩ h
    exact .of (congrArg i64 (by rw [he, List.drop_of_length_le (by omega)]; rfl))
theorem c_implCatalogFault (l : List Pck) (hl : l.length ≤ 1048576) (hs : ∀ o ∈ l, o.Small) : PCtr PP n_impl_CatalogFault [encP l] (i64 (catF l)) := by
  obtain ⟨Ω, hΩ⟩ : ∃ Ω, Ω = std := ⟨_, rfl⟩
  obtain ⟨r, hr⟩ : ∃ r, r = catF l := ⟨_, rfl⟩
  rw [← hr]
  have hpk : ∀ o ∈ l, PCtr PP n_impl_PackFault [o.enc false] (i64 (packF o)) := fun o ho => c_implPackFault o (hs o ho)
  have hfi := fun (i : Nat) n v => c_find (l.take i) n v (by simp; omega)
  unfold encP at hfi
  obtain ⟨xs, hxs⟩ : ∃ xs, xs = l.map (Pck.enc false) := ⟨_, rfl⟩
  have hlen : xs.length = l.length := by rw [hxs, List.length_map]
  unfold encP
  rw [← hxs]
  rw [show (∀ (i : Nat) n v, PCtr PP n_impl_find [.sl false 8 ((l.take i).map (Pck.enc false)), str n, Ver.enc v] (i64 (findF (l.take i) n v))) = (∀ (i : Nat) n v, PCtr PP n_impl_find [.sl false 8 (xs.take i), str n, Ver.enc v] (i64 (findF (l.take i) n v))) by simp only [List.map_take, ← hxs]] at hfi
  unfold catF at hr
  have htab := tab
  have hmo := hmo
  have hve := verEq
  refine PCtr.walk tab hΩ fn_impl_CatalogFault rfl ?_
  generalize PP = P at *
  cbv
  refine br (fun g => ?_) (fun g => ?_) <;> cbv
  · exact .of (congrArg i64 (by rw [hr, if_pos (by subst hΩ; have g : (24 : Int) < xs.length := gt_t g; omega)]))
  rw [if_neg (by subst hΩ; have g : (xs.length : Int) ≤ 24 := gt_f g; omega)] at hr
  refine loopX htab hΩ (fun i : Nat => ⟨[(0, .sl false 8 xs), (9, .sl false 8 xs), (10, .sc (.int .i64 (Ω.int (Ω.len xs)))), (11, .sc (.int .i64 (Ω.int i)))], 31, []⟩) (fun i => i ≤ l.length ∧ r = catFrom l i (l.drop i)) (fun i => l.length - i) 0
    ⟨Nat.zero_le _, hr⟩ (Sbs.mk rfl rfl ⟨rfl, rfl, rfl, zeroI hΩ, trivial⟩) ?_
  rintro i ⟨hi, he⟩
  cbv
  refine br (fun h => ?_) (fun h => ?_) <;> cbv
  · replace h := ltI hΩ h
    obtain ⟨c, hcc⟩ := at_of (cs := l) (by omega : i < l.length)
    rw [catFrom_at hcc] at he
    obtain ⟨ps, ds, bs, hen, hps, hds, hbs⟩ := enc_raw c
    refine ⟨⟨nnI hΩ⟩, _, (rdI hΩ hxs hcc).trans (congrArg some hen), ?_⟩
    cbv
    have hp := hpk c (List.mem_of_getElem? hcc)
    rw [hen] at hp
    generalize packF c = kc at *
    refine call_pure hΩ 3 hp rfl (fits _) rfl rfl ?_
    cbv
    refine br (fun g => ?_) (fun g => ?_) <;> cbv
    · exact .of (congrArg i64 (by rw [he, if_pos (neI_t hΩ g)]))
    rw [if_neg (by rw [neI_f hΩ g]; simp)] at he
    refine ⟨VC_drawn htab hΩ hmo (by kernel_rfl) ?_⟩
    cbv
    refine ⟨⟨trivial, nnI hΩ, Nat.zero_le _, by subst hΩ; show i ≤ xs.length; omega⟩, ?_⟩
    have hf : PCtr P n_impl_find [.sl false 8 (Ω.seg 0 (Ω.nat (Ω.int i)) xs), str c.n, c.v.enc] (i64 (findF (l.take i) c.n c.v)) := by subst hΩ; exact hfi i c.n c.v
    generalize findF (l.take i) c.n c.v = kf at *
    refine QCall_pure (k := 3) hf rfl (fits _) rfl ?_
    cbv
    refine br (fun g2 => ?_) (fun g2 => ?_) <;> cbv
    · exact .of (congrArg i64 (by rw [he, if_pos (geI_t hΩ g2)]))
    · rw [if_neg (Int.not_le.2 (geI_f hΩ g2))] at he
      exact ⟨i + 1, ⟨by omega, he⟩, by omega, Sbs.mkL (rows := []) rfl rfl rfl ⟨rfl, rfl, rfl, incI hΩ (by omega), trivial⟩⟩
  · replace h := geI hΩ h
    exact .of (congrArg i64 (by rw [he, List.drop_of_length_le (by omega)]; rfl))
theorem c_specCatalogFault (l : List Pck) (hl : l.length ≤ 1048576) (hs : ∀ o ∈ l, o.Small) : PCtr PP n_spec_CatalogFault [encP l] (i64 (catF l)) := by
  obtain ⟨Ω, hΩ⟩ : ∃ Ω, Ω = std := ⟨_, rfl⟩
  obtain ⟨r, hr⟩ : ∃ r, r = catF l := ⟨_, rfl⟩
  rw [← hr]
  have hpk : ∀ o ∈ l, PCtr PP n_spec_PackFault [o.enc false] (i64 (packF o)) := fun o ho => c_specPackFault o (hs o ho)
  have hfi := fun (i : Nat) n v => c_l2Find (l.take i) n v (by simp; omega)
  unfold encP at hfi
  obtain ⟨xs, hxs⟩ : ∃ xs, xs = l.map (Pck.enc false) := ⟨_, rfl⟩
  have hlen : xs.length = l.length := by rw [hxs, List.length_map]
  unfold encP
  rw [← hxs]
  rw [show (∀ (i : Nat) n v, PCtr PP n_spec_l2Find [.sl false 8 ((l.take i).map (Pck.enc false)), str n, Ver.enc v] (i64 (findF (l.take i) n v))) = (∀ (i : Nat) n v, PCtr PP n_spec_l2Find [.sl false 8 (xs.take i), str n, Ver.enc v] (i64 (findF (l.take i) n v))) by simp only [List.map_take, ← hxs]] at hfi
  unfold catF at hr
  have htab := tab
  have hmo := hmo
  have hve := verEq
  refine PCtr.walk tab hΩ fn_spec_CatalogFault rfl ?_
  generalize PP = P at *
  cbv
  refine br (fun g => ?_) (fun g => ?_) <;> cbv
  · exact .of (congrArg i64 (by rw [hr, if_pos (by subst hΩ; have g : (24 : Int) < xs.length := gt_t g; omega)]))
  rw [if_neg (by subst hΩ; have g : (xs.length : Int) ≤ 24 := gt_f g; omega)] at hr
  refine loopX htab hΩ (fun i : Nat => ⟨[(0, .sl false 8 xs), (3, .sc (.int .i64 (Ω.int i)))], 37, []⟩) (fun i => i ≤ l.length ∧ r = catFrom l i (l.drop i)) (fun i => l.length - i) 0
    ⟨Nat.zero_le _, hr⟩ (Sbs.mk rfl rfl ⟨rfl, zeroI hΩ, trivial⟩) ?_
  rintro i ⟨hi, he⟩
  cbv
  refine br (fun h => ?_) (fun h => ?_) <;> cbv
  · replace h := ltI hΩ h
    obtain ⟨c, hcc⟩ := at_of (cs := l) (by omega : i < l.length)
    rw [catFrom_at hcc] at he
    obtain ⟨ps, ds, bs, hen, hps, hds, hbs⟩ := enc_raw c
    refine ⟨⟨nnI hΩ⟩, _, (rdI hΩ hxs hcc).trans (congrArg some hen), ?_⟩
    cbv
    have hp := hpk c (List.mem_of_getElem? hcc)
    rw [hen] at hp
    generalize packF c = kc at *
    refine call_pure hΩ 3 hp rfl (fits _) rfl rfl ?_
    cbv
    refine br (fun g => ?_) (fun g => ?_) <;> cbv
    · exact .of (congrArg i64 (by rw [he, if_pos (neI_t hΩ g)]))
    rw [if_neg (by rw [neI_f hΩ g]; simp)] at he
    refine ⟨VC_drawn htab hΩ hmo (by kernel_rfl) ?_⟩
    cbv
    refine ⟨⟨trivial, nnI hΩ, Nat.zero_le _, by subst hΩ; show i ≤ xs.length; omega⟩, ?_⟩
    have hf : PCtr P n_spec_l2Find [.sl false 8 (Ω.seg 0 (Ω.nat (Ω.int i)) xs), str c.n, c.v.enc] (i64 (findF (l.take i) c.n c.v)) := by subst hΩ; exact hfi i c.n c.v
    generalize findF (l.take i) c.n c.v = kf at *
    refine ⟨⟨nnI hΩ⟩, _, (rdI hΩ hxs hcc).trans (congrArg some hen), ?_⟩
    cbv
    refine ⟨⟨nnI hΩ⟩, _, (rdI hΩ hxs hcc).trans (congrArg some hen), ?_⟩
    cbv
    refine QCall_pure (k := 3) hf rfl (fits _) rfl ?_
    cbv
    refine br (fun g2 => ?_) (fun g2 => ?_) <;> cbv
    · exact .of (congrArg i64 (by rw [he, if_pos (geI_t hΩ g2)]))
    · rw [if_neg (Int.not_le.2 (geI_f hΩ g2))] at he
      exact ⟨i + 1, ⟨by omega, he⟩, by omega, Sbs.mk rfl rfl ⟨rfl, incI hΩ (by omega), trivial⟩⟩
  · replace h := geI hΩ h
    exact .of (congrArg i64 (by rw [he, List.drop_of_length_le (by omega)]; rfl))
theorem c_arePlaces1 (k : Int) (l : List Pck) (hl : l.length ≤ 1048576) : PCtr PP n_impl_arePlaces_1 [i64 k, .rp [encP l]] (boo (!inB k 0 ((l.length : Int) - 1))) := by
  obtain ⟨Ω, hΩ⟩ : ∃ Ω, Ω = std := ⟨_, rfl⟩
  obtain ⟨r, hr⟩ : ∃ r, r = !inB k 0 ((l.length : Int) - 1) := ⟨_, rfl⟩
  rw [← hr]
  obtain ⟨xs, hxs⟩ : ∃ xs, xs = l.map (Pck.enc false) := ⟨_, rfl⟩
  have hlen : xs.length = l.length := by rw [hxs, List.length_map]
  unfold encP
  rw [← hxs]
  have hw : PCtr PP n_impl_within [i64 k, i64 0, i64 (Ω.ar .sub .i64 (Ω.int (Ω.len xs)) 1)] (boo (inB k 0 ((l.length : Int) - 1))) := by
    have := c_within k 0 ((l.length : Int) - 1)
    rw [show ((l.length : Int) - 1) = IntKind.i64.wrap ((xs.length : Int) - 1) by rw [wrap64 (by omega) (by omega), hlen]] at this ⊢
    subst hΩ
    exact this
  generalize inB k 0 ((l.length : Int) - 1) = b at *
  have htab := tab
  have hmo := hmo
  have hve := verEq
  refine PCtr.walk tab hΩ fn_impl_arePlaces_1 rfl ?_
  generalize PP = P at *
  cbv
  refine call_pure hΩ 3 hw rfl (fits _) rfl rfl ?_
  cbv
  exact .of (congrArg boo (by rw [hr]; subst hΩ; rfl))
theorem c_arePlaces (l : List Pck) (s : List Int) (hl : l.length ≤ 1048576) (hs : s.length ≤ 1048576) : PCtr PP n_impl_arePlaces [encP l, .sl false 1 (s.map i64)] (boo (s.all fun x => inB x 0 ((l.length : Int) - 1))) := by
  obtain ⟨Ω, hΩ⟩ : ∃ Ω, Ω = std := ⟨_, rfl⟩
  obtain ⟨r, hr⟩ : ∃ r, r = s.all fun x => inB x 0 ((l.length : Int) - 1) := ⟨_, rfl⟩
  rw [← hr]
  have hc := c_ContainsFuncI s (by omega) n_impl_arePlaces_1 [.rp [encP l]] (fun x => !inB x 0 ((l.length : Int) - 1)) ⟨fun _ _ => rfl, rfl, fun _ => rfl, fun k _ => c_arePlaces1 k l hl⟩
  rw [show (s.all fun x => inB x 0 ((l.length : Int) - 1)) = !(s.any fun x => !inB x 0 ((l.length : Int) - 1)) by rw [List.any_eq_not_all_not]; simp] at hr
  generalize (s.any fun x => !inB x 0 ((l.length : Int) - 1)) = b at *
  unfold encP at *
  generalize l.map (Pck.enc false) = xs at *
  generalize s.map i64 = ys at *
  have htab := tab
  have hmo := hmo
  have hve := verEq
  refine PCtr.walk tab hΩ fn_impl_arePlaces rfl ?_
  generalize PP = P at *
  cbv
  refine call_pure hΩ 5 hc (ro_clo2 rfl rfl) (fits _) rfl rfl ?_
  cbv
  exact .of (congrArg boo (by rw [hr]; subst hΩ; rfl))
theorem c_l3Set (l : List Pck) (s : List Int) (hl : l.length ≤ 1048576) (hs : s.length ≤ 1048576) : PCtr PP n_spec_l3Set [encP l, .sl false 1 (s.map i64)] (boo (setOk ((l.length : Int) - 1) s 0 s)) := by
  obtain ⟨Ω, hΩ⟩ : ∃ Ω, Ω = std := ⟨_, rfl⟩
  obtain ⟨r, hr⟩ : ∃ r, r = setOk ((l.length : Int) - 1) s 0 s := ⟨_, rfl⟩
  rw [← hr]
  obtain ⟨xs, hxs⟩ : ∃ xs, xs = s.map i64 := ⟨_, rfl⟩
  have hlen : xs.length = s.length := by rw [hxs, List.length_map]
  obtain ⟨cs, hcs⟩ : ∃ cs, cs = l.map (Pck.enc false) := ⟨_, rfl⟩
  have hcl : cs.length = l.length := by rw [hcs, List.length_map]
  unfold encP
  rw [← hcs]
  rw [← hxs]
  have hLm : Ω.ar .sub .i64 (Ω.int (Ω.len cs)) 1 = (l.length : Int) - 1 := by subst hΩ; show IntKind.i64.wrap ((cs.length : Int) - 1) = _; rw [hcl]; exact wrap64 (by omega) (by omega)
  have hw : ∀ k, PCtr PP n_spec_l1In [i64 k, i64 0, i64 (Ω.ar .sub .i64 (Ω.int (Ω.len cs)) 1)] (boo (inB k 0 ((l.length : Int) - 1))) := fun k => by rw [hLm]; exact c_l1In k 0 _
  generalize ((l.length : Int) - 1) = m at *
  have htab := tab
  have hmo := hmo
  have hve := verEq
  refine PCtr.walk tab hΩ fn_spec_l3Set rfl ?_
  generalize PP = P at *
  cbv
  refine loopX htab hΩ (fun i : Nat => ⟨[(0, .sl false 8 cs), (1, .sl false 1 xs), (5, .sc (.int .i64 (Ω.int i)))], 37, []⟩) (fun i => i ≤ s.length ∧ r = setOk m s i (s.drop i)) (fun i => s.length - i) 0
    ⟨Nat.zero_le _, hr⟩ (Sbs.mk rfl rfl ⟨rfl, rfl, zeroI hΩ, trivial⟩) ?_
  rintro i ⟨hi, he⟩
  cbv
  refine br (fun h => ?_) (fun h => ?_) <;> cbv
  · replace h := ltI hΩ h
    obtain ⟨c, hcc⟩ := at_of (cs := s) (by omega : i < s.length)
    rw [setOk_at _ hcc] at he
    refine ⟨VC_drawn htab hΩ hmo (by kernel_rfl) ?_⟩
    cbv
    refine ⟨⟨nnI hΩ⟩, _, rdI hΩ hxs hcc, ?_⟩
    cbv
    have hw1 := hw c
    generalize inB c 0 m = B at *
    refine QCall_pure (k := 3) hw1 rfl (fits _) rfl ?_
    cbv
    refine br (fun g => ?_) (fun g => ?_) <;> cbv
    · exact .of (congrArg boo (by rw [he, notT' hΩ g]; rfl))
    rw [notF' hΩ g, Bool.true_and] at he
    refine br (fun g2 => ?_) (fun g2 => ?_) <;> cbv
    · have hi0 : 0 < i := by subst hΩ; have g2 : (0 : Int) < i := gt_t g2; omega
      have hs1 := subI hΩ hi0 (by omega)
      obtain ⟨d, hd⟩ := at_of (cs := s) (by omega : i - 1 < s.length)
      rw [show (i == 0) = false by simp; omega, Bool.false_or, List.getD_eq_getElem?_getD, hd] at he
      refine ⟨⟨nnI hΩ⟩, _, rdI hΩ hxs hcc, ?_⟩
      cbv
      refine ⟨⟨hs1.1⟩, i64 d, by rw [hs1.2, hxs, List.getElem?_map, hd]; rfl, ?_⟩
      cbv
      refine br (fun g3 => ?_) (fun g3 => ?_) <;> cbv
      · exact .of (congrArg boo (by rw [he]; subst hΩ; have g3 : c ≤ d := le_t g3; rw [show decide ((some d).getD 0 < c) = false by simp; omega]; rfl))
      · rw [show decide ((some d).getD 0 < c) = true by subst hΩ; have g3 : d < c := le_f g3; simpa using g3, Bool.true_and] at he
        exact ⟨i + 1, ⟨by omega, he⟩, by omega, Sbs.mk rfl rfl ⟨rfl, rfl, incI hΩ (by omega), trivial⟩⟩
    · have hi0 : i = 0 := by subst hΩ; have g2 : (i : Int) ≤ 0 := gt_f g2; omega
      rw [show (i == 0) = true by simpa using hi0, Bool.true_or, Bool.true_and] at he
      refine br (fun g4 => ?_) (fun g4 => ?_)
      · subst hΩ; cases (show false = true from g4)
      cbv
      exact ⟨i + 1, ⟨by omega, he⟩, by omega, Sbs.mk rfl rfl ⟨rfl, rfl, incI hΩ (by omega), trivial⟩⟩
  · replace h := geI hΩ h
    exact .of (congrArg boo (by rw [he, List.drop_of_length_le (by omega)]; rfl))
theorem c_implSetFault (l : List Pck) (s : List Int) (hl : l.length ≤ 1048576) (ho : ∀ o ∈ l, o.Small) (hs : s.length ≤ 1048576) : PCtr PP n_impl_SetFault [encP l, .sl false 1 (s.map i64)] (i64 (setF l s)) := by
  obtain ⟨Ω, hΩ⟩ : ∃ Ω, Ω = std := ⟨_, rfl⟩
  obtain ⟨r, hr⟩ : ∃ r, r = setF l s := ⟨_, rfl⟩
  rw [← hr]
  have hc := c_implCatalogFault l hl ho
  have hp := c_arePlaces l s hl hs
  unfold setF at hr
  generalize catF l = k at *
  obtain ⟨xs, hxs⟩ : ∃ xs, xs = s.map i64 := ⟨_, rfl⟩
  have hlen : xs.length = s.length := by rw [hxs, List.length_map]
  obtain ⟨cs, hcs⟩ : ∃ cs, cs = l.map (Pck.enc false) := ⟨_, rfl⟩
  have hcl : cs.length = l.length := by rw [hcs, List.length_map]
  unfold encP at hc hp ⊢
  rw [← hcs] at hc hp ⊢
  rw [← hxs] at hp ⊢
  have htab := tab
  have hmo := hmo
  have hve := verEq
  refine PCtr.walk tab hΩ fn_impl_SetFault rfl ?_
  generalize PP = P at *
  cbv
  refine call_pure hΩ 3 hc rfl (fits _) rfl rfl ?_
  cbv
  refine br (fun g => ?_) (fun g => ?_) <;> cbv
  · exact .of (congrArg i64 (by rw [hr, if_pos (neI_t hΩ g)]))
  rw [if_neg (by rw [neI_f hΩ g]; simp)] at hr
  rw [setOk_eq, rise0] at hr
  generalize (s.all fun x => inB x 0 _) = B at *
  have fin : ∀ i, r = (if (riseAll s i (s.drop i) && B) = true then 0 else 1) → s.length ≤ i → r = if B = true then 0 else 1 := fun i he h => by
    rw [he, List.drop_of_length_le h, riseAll, Bool.true_and]
  refine loopX htab hΩ (fun i : Nat => ⟨[(0, .sl false 8 cs), (1, .sl false 1 xs), (6, .sc (.int .i64 (Ω.int i)))], 32, []⟩) (fun i => 1 ≤ i ∧ i ≤ s.length + 1 ∧ r = if (riseAll s i (s.drop i) && B) = true then 0 else 1) (fun i => s.length + 1 - i) 1
    ⟨Nat.le_refl _, by omega, hr⟩ (Sbs.mk rfl rfl ⟨rfl, rfl, by subst hΩ; rfl, trivial⟩) ?_
  rintro i ⟨hi0, hi, he⟩
  cbv
  refine br (fun h => ?_) (fun h => ?_) <;> cbv
  · replace h := ltI hΩ h
    obtain ⟨c, hcc⟩ := at_of (cs := s) (by omega : i < s.length)
    obtain ⟨d, hd⟩ := at_of (cs := s) (by omega : i - 1 < s.length)
    have hs1 := subI hΩ hi0 (by omega)
    rw [riseAll_at hcc, show (i == 0) = false by simp; omega, Bool.false_or, List.getD_eq_getElem?_getD, hd] at he
    refine ⟨VC_drawn htab hΩ hmo (by kernel_rfl) ?_⟩
    cbv
    refine ⟨⟨nnI hΩ⟩, _, rdI hΩ hxs hcc, ?_⟩
    cbv
    refine ⟨⟨hs1.1⟩, i64 d, by rw [hs1.2, hxs, List.getElem?_map, hd]; rfl, ?_⟩
    cbv
    refine br (fun g3 => ?_) (fun g3 => ?_) <;> cbv
    · exact .of (congrArg i64 (by rw [he]; subst hΩ; have g3 : c ≤ d := le_t g3; rw [show decide ((some d).getD 0 < c) = false by simp; omega]; rfl))
    · rw [show decide ((some d).getD 0 < c) = true by subst hΩ; have g3 : d < c := le_f g3; simpa using g3, Bool.true_and] at he
      exact ⟨i + 1, ⟨by omega, by omega, he⟩, by omega, Sbs.mk rfl rfl ⟨rfl, rfl, incI hΩ (by omega), trivial⟩⟩
  · replace h := geI hΩ h
    have hr := fin i he (by omega)
    refine call_pure hΩ 3 hp rfl (fits _) rfl rfl ?_
    cbv
    refine br (fun g => ?_) (fun g => ?_) <;> cbv
    · exact .of (congrArg i64 (by rw [hr, notT' hΩ g]; rfl))
    · exact .of (congrArg i64 (by rw [hr, notF' hΩ g]; rfl))
theorem c_specSetFault (l : List Pck) (s : List Int) (hl : l.length ≤ 1048576) (ho : ∀ o ∈ l, o.Small) (hs : s.length ≤ 1048576) : PCtr PP n_spec_SetFault [encP l, .sl false 1 (s.map i64)] (i64 (setF l s)) := by
  obtain ⟨Ω, hΩ⟩ : ∃ Ω, Ω = std := ⟨_, rfl⟩
  obtain ⟨r, hr⟩ : ∃ r, r = setF l s := ⟨_, rfl⟩
  rw [← hr]
  have hc := c_specCatalogFault l hl ho
  have hp := c_l3Set l s hl hs
  unfold setF at hr
  generalize catF l = k at *
  obtain ⟨xs, hxs⟩ : ∃ xs, xs = s.map i64 := ⟨_, rfl⟩
  have hlen : xs.length = s.length := by rw [hxs, List.length_map]
  obtain ⟨cs, hcs⟩ : ∃ cs, cs = l.map (Pck.enc false) := ⟨_, rfl⟩
  have hcl : cs.length = l.length := by rw [hcs, List.length_map]
  unfold encP at hc hp ⊢
  rw [← hcs] at hc hp ⊢
  rw [← hxs] at hp ⊢
  generalize setOk ((l.length : Int) - 1) s 0 s = b at *
  have htab := tab
  have hmo := hmo
  have hve := verEq
  refine PCtr.walk tab hΩ fn_spec_SetFault rfl ?_
  generalize PP = P at *
  cbv
  refine call_pure hΩ 3 hc rfl (fits _) rfl rfl ?_
  cbv
  refine br (fun g => ?_) (fun g => ?_) <;> cbv
  · exact .of (congrArg i64 (by rw [hr, if_pos (neI_t hΩ g)]))
  rw [if_neg (by rw [neI_f hΩ g]; simp)] at hr
  refine call_pure hΩ 3 hp rfl (fits _) rfl rfl ?_
  cbv
  refine br (fun g => ?_) (fun g => ?_) <;> cbv
  · exact .of (congrArg i64 (by rw [hr, notT' hΩ g]; rfl))
  · exact .of (congrArg i64 (by rw [hr, notF' hΩ g]; rfl))
end Go.Proofs.Ytfacpamkigmlaaa

/- Walks: sets by a function value; who is barred. Plain theorems. -/
set_option linter.unusedVariables false
set_option linter.unusedSimpArgs false
namespace Go.Proofs.Ytfacpamkigmlaaa
open Go Go.Fw
set_option maxRecDepth 100000
def ints (l : List Int) : A := .sl true 1 (l.map i64)
theorem frzInt (l : List Int) : (l.map i64).map frz = l.map i64 := by
  rw [List.map_map]; exact List.map_congr_left fun c _ => rfl
theorem noInt (l : List Int) : (∀ y ∈ l.map i64, noOwn y = true) ∧ (∀ c ∈ flat (l.map i64), okCell c = true) ∧ (∀ y ∈ l.map i64, isAggB y = false) ∧ (∀ y ∈ l.map i64, vStore.isAggA y = false) := by
  refine ⟨fun y hy => ?_, fun y hy => ?_, fun y hy => ?_, fun y hy => ?_⟩
  · obtain ⟨c, _, rfl⟩ := List.mem_map.1 hy; rfl
  · obtain ⟨x, hx, hy⟩ := List.mem_flatMap.1 hy
    obtain ⟨c, _, rfl⟩ := List.mem_map.1 hx
    have : y = i64 c := by simpa [i64, A.cells] using hy
    rw [this]; rfl
  · obtain ⟨c, _, rfl⟩ := List.mem_map.1 hy; rfl
  · obtain ⟨c, _, rfl⟩ := List.mem_map.1 hy; rfl
theorem roFInt (l : List Int) : roFree (.sl true 1 (l.map i64)) = true := by
  rw [roFree_sl, Bool.true_and, List.all_eq_true]
  intro x hx
  obtain ⟨c, _, rfl⟩ := List.mem_map.1 hx
  rfl
theorem idx_spec (p : Int → Bool) : ∀ (l : List Int) (i : Nat), (idxFrom p i l = -1 ∧ (l.filter fun x => !p x) = l) ∨ ∃ m, idxFrom p i l = ((i + m : Nat) : Int) ∧ m < l.length ∧ ((l.take (m + 1)).filter fun x => !p x) = l.take m
  | [], i => .inl ⟨rfl, rfl⟩
  | x :: xs, i => by
    rw [idxFrom]
    by_cases h : p x = true
    · right
      refine ⟨0, by rw [if_pos h]; simp, by simp, by simp [h]⟩
    · rw [if_neg h]
      rcases idx_spec p xs (i + 1) with ⟨h1, h2⟩ | ⟨m, h1, h2, h3⟩
      · left
        refine ⟨h1, ?_⟩
        rw [List.filter_cons_of_pos (by simpa using h), h2]
      · right
        refine ⟨m + 1, by rw [h1]; congr 1; omega, by simp; omega, ?_⟩
        rw [List.take_succ_cons, List.filter_cons_of_pos (by simpa using h), h3, List.take_succ_cons]
theorem filter_at {p : Int → Bool} {s : List Int} {j : Nat} {c : Int} (h : s[j]? = some c) : ((s.take (j + 1)).filter fun x => !p x) = ((s.take j).filter fun x => !p x) ++ (if p c then [] else [c]) := by
  rw [List.take_add_one, h, List.filter_append]
  congr 1
  by_cases hc : p c <;> simp [hc]
theorem take_set_add {ys : List A} {i : Nat} {z : A} (h : i < ys.length) : (ys.set i z).take (i + 1) = ys.take i ++ [z] := by
  rw [List.take_add_one, List.getElem?_set_self h, List.take_set_of_le (Nat.le_refl _)]; rfl
theorem c_Clone (s : List Int) (hs : s.length ≤ 1048576) : PCtr PP n_slices_Clone_L_int64_int64 [.sl false 1 (s.map i64)] (ints s) := by
  obtain ⟨Ω, hΩ⟩ : ∃ Ω, Ω = std := ⟨_, rfl⟩
  unfold ints
  obtain ⟨xs, hxs⟩ : ∃ xs, xs = s.map i64 := ⟨_, rfl⟩
  have hlen : xs.length = s.length := by rw [hxs, List.length_map]
  have hno := noInt s
  have hfz := frzInt s
  rw [← hxs] at hno hfz ⊢
  have htab := tab
  refine PCtr.walk tab hΩ fn_slices_Clone_L_int64_int64 rfl ?_
  generalize PP = P at *
  cbv
  intro b hb
  refine br (fun g => ?_) (fun g => ?_) <;> cbv
  · exact ⟨1, hb g⟩
  refine ⟨⟨hno.1, hno.2.1, ?_, ?_⟩, ⟨rfl, ?_⟩, .of ?_⟩
  · show (0 + xs.length) * 8 ≤ 140737488355328
    omega
  · show 0 + xs.length ≤ 9223372036854775807
    omega
  · subst hΩ; show 0 + xs.length ≤ (List.take 0 [] ++ xs).length; simp
  · subst hΩ; show A.sl true 1 ((List.take 0 [] ++ xs).take (0 + xs.length)) = _; rw [List.take_of_length_le (by simp)]; rfl
theorem c_DeleteFunc (s : List Int) (hs : s.length ≤ 1048576) (g : Nat) (caps : List A) (p : Int → Bool) (hf : CloB PP i64 s g caps p) : ECtr PP n_slices_DeleteFunc_L_int64_int64 [.sl true 1 (s.map i64), .clo g caps] (ints (s.filter fun x => !p x)) := by
  obtain ⟨Ω, hΩ⟩ : ∃ Ω, Ω = std := ⟨_, rfl⟩
  unfold ints
  have hc := c_IndexFuncI s (by omega) g caps p hf
  have hro := hf.ro
  have hcn := hf.no
  have hrun : ∀ x ∈ s, PCtr PP (Ω.cloN g) (Ω.cloA g [i64 x] caps) (boo (p x)) := by subst hΩ; exact hf.run
  obtain ⟨k, hk⟩ : ∃ k, idx p s = k := ⟨_, rfl⟩
  rw [hk] at hc
  obtain ⟨xs, hxs⟩ : ∃ xs, xs = s.map i64 := ⟨_, rfl⟩
  have hlen : xs.length = s.length := by rw [hxs, List.length_map]
  have hno := noInt s
  have hfz := frzInt s
  rw [← hxs] at hno hfz hc ⊢
  have hle : Ω.len xs = xs.length := by subst hΩ; rfl
  obtain ⟨zs, hzs⟩ : ∃ zs, zs = (s.filter fun x => !p x).map i64 := ⟨_, rfl⟩
  rw [← hzs]
  have htab := tab
  refine ECtr.walk tab hΩ 3 fn_slices_DeleteFunc_L_int64_int64 rfl (by simp only [rootO, rootO.rootOL, List.all_cons, List.all_nil, noOwn_vw, noOwn_clo, hcn]; rfl) ?_
  generalize PP = P at *
  cbv
  refine call_pure hΩ 5 hc (ro_clo2 (roV rfl hle hfz) (hro _ 0)) (fits _) rfl rfl ?_
  cbv
  refine br (fun g1 => ?_) (fun g1 => ?_) <;> cbv
  · have g1 : k = -1 := eqI_t hΩ g1
    rcases idx_spec p s 0 with ⟨h1, h2⟩ | ⟨m, h1, _⟩
    · refine ⟨⟨rfl, by subst hΩ; exact Nat.le_refl _⟩, .of ?_⟩
      rw [hzs, h2, ← hxs]
      subst hΩ
      show A.sl true 1 (xs.take xs.length) = _
      rw [List.take_length]
    · have : k = ((0 + m : Nat) : Int) := by rw [← hk]; exact h1
      omega
  have g1 : k ≠ -1 := eqI_f hΩ g1
  obtain ⟨m, hkm, hml, hfm⟩ : ∃ m : Nat, k = Ω.int m ∧ m < s.length ∧ ((s.take (m + 1)).filter fun x => !p x) = s.take m := by
    rcases idx_spec p s 0 with ⟨h1, _⟩ | ⟨m, h1, h2, h3⟩
    · exact absurd (hk.symm.trans h1) g1
    · rw [Nat.zero_add] at h1
      exact ⟨m, by subst hΩ; exact hk.symm.trans h1, h2, h3⟩
  subst hkm
  obtain ⟨F, hF⟩ : ∃ F : Nat → List Int, F = fun j => (s.take j).filter fun x => !p x := ⟨_, rfl⟩
  have hFat : ∀ j c, s[j]? = some c → F (j + 1) = F j ++ (if p c then [] else [c]) := fun j c h => by rw [hF]; exact filter_at h
  have hFm : F (m + 1) = s.take m := by rw [hF]; exact hfm
  have hFml : (F (m + 1)).length = m := by rw [hFm]; simp; omega
  have hFn : F s.length = s.filter fun x => !p x := by rw [hF]; simp only; rw [List.take_length]
  refine loopX htab hΩ (fun i : Nat × List A => ⟨[(0, .vw 0 0 (Ω.len xs)), (1, .clo g caps), (5, .sc (.int .i64 (Ω.int (F i.1).length))), (6, .sc (.int .i64 (Ω.int i.1)))], 42, [some ⟨1, i.2, false⟩]⟩)
    (fun i => (F i.1).length < i.1 ∧ i.1 ≤ s.length ∧ i.2.length = s.length ∧ i.2.take (F i.1).length = (F i.1).map i64 ∧ (∀ q, i.1 ≤ q → i.2[q]? = xs[q]?) ∧ (∀ y ∈ i.2, isAggB y = false) ∧ (∀ y ∈ i.2, vStore.isAggA y = false))
    (fun i => s.length - i.1) (m + 1, xs) ⟨by dsimp only; omega, by dsimp only; omega, hlen, ?_, fun _ _ => rfl, hno.2.2.1, hno.2.2.2⟩ (Sbs.mk rfl rfl ⟨rfl, rfl, by rw [hFml]; rfl, incI hΩ (by omega), trivial⟩) ?_
  · dsimp only
    rw [hFml, hFm, hxs, List.map_take]
  rintro ⟨j, ys⟩ ⟨h1, h2, h3, h4, h5, h6, h7⟩
  dsimp only at h1 h2 h3 h4 h5 h6 h7
  obtain ⟨f, hf2⟩ : ∃ f, f = (F j).length := ⟨_, rfl⟩
  rw [← hf2] at h1 h4
  dsimp only
  rw [← hf2]
  cbv
  refine br (fun h => ?_) (fun h => ?_) <;> cbv
  · replace h := ltI hΩ h
    obtain ⟨c, hcc⟩ := at_of (cs := s) (by omega : j < s.length)
    have hyj : ys[j]? = some (i64 c) := by rw [h5 j (Nat.le_refl _), hxs, List.getElem?_map, hcc]; rfl
    have hFj := hFat j c hcc
    have hr1 := hrun c (List.mem_of_getElem? hcc)
    refine ⟨⟨ixI hΩ (by show j < Ω.len xs; rw [hle]; exact h)⟩, i64 c, atI hΩ hyj, ?_⟩
    cbv
    refine call_pure hΩ 4 hr1 (ro_cloA hΩ rfl (hro _ 0)) (fits _) rfl rfl ?_
    cbv
    refine br (fun g => ?_) (fun g => ?_) <;> cbv
    · have g := notT' hΩ g
      rw [g] at hFj
      have hFl : (F (j + 1)).length = f + 1 := by rw [hFj, hf2]; simp
      have hfl : f < ys.length := by omega
      refine ⟨⟨ixI hΩ (by show f < Ω.len xs; rw [hle]; omega)⟩, ⟨by subst hΩ; show 0 + f < ys.length; omega, h7⟩, ?_⟩
      refine ⟨(j + 1, ys.set f (i64 c)), ⟨by dsimp only; omega, by dsimp only; omega, by simpa using h3, ?_, fun q hq => ?_, fun y hy => ?_, fun y hy => ?_⟩, by dsimp only; omega, Sbs.mk rfl ?_ ⟨rfl, rfl, ?_, incI hΩ (by omega), trivial⟩⟩
      · dsimp only; rw [hFl, take_set_add hfl, h4, hFj, List.map_append]; rfl
      · dsimp only at hq ⊢; rw [List.getElem?_set_ne (by omega)]; exact h5 q (by omega)
      · rcases List.mem_or_eq_of_mem_set hy with hy | rfl
        · exact h6 y hy
        · rfl
      · rcases List.mem_or_eq_of_mem_set hy with hy | rfl
        · exact h7 y hy
        · rfl
      · subst hΩ; show [some (Row.mk 1 (ys.set (0 + f) (i64 c)) false)] = _; rw [Nat.zero_add]
      · dsimp only; rw [hFl]; exact incI hΩ (by omega)
    · have g : p c = true := notF' hΩ g
      rw [g] at hFj
      have hFl : (F (j + 1)).length = f := by rw [hFj, hf2]; simp
      exact ⟨(j + 1, ys), ⟨by dsimp only; omega, by dsimp only; omega, h3, by dsimp only; rw [hFl, h4, hFj]; simp, fun q hq => h5 q (by dsimp only at hq; omega), h6, h7⟩, by dsimp only; omega, Sbs.mk rfl rfl ⟨rfl, rfl, by dsimp only; rw [hFl]; rfl, incI hΩ (by omega), trivial⟩⟩
  · have hj : j = s.length := by have := geI hΩ h; omega
    subst hj
    refine ⟨⟨nnI hΩ, trivial, ?_, Nat.le_refl _⟩, ⟨?_, h6⟩, ⟨trivial, nnI hΩ, Nat.zero_le _, ?_⟩, ⟨?_, ?_⟩, .of ?_⟩
    · subst hΩ; show f ≤ xs.length; omega
    · subst hΩ; show 0 + f + (xs.length - f) = ys.length; omega
    · subst hΩ; show f ≤ xs.length; omega
    · subst hΩ; rfl
    · subst hΩ; show f - 0 ≤ (ys.take (0 + f) ++ List.replicate (xs.length - f) (A.sc (Value.int IntKind.i64 0))).length; simp; omega
    · subst hΩ
      show A.sl true 1 ((ys.take (0 + f) ++ List.replicate (xs.length - f) (A.sc (Value.int IntKind.i64 0))).take (f - 0)) = _
      rw [Nat.zero_add, Nat.sub_zero, List.take_append_of_le_length (by simp; omega), List.take_take, Nat.min_self, h4, hzs, hFn]
theorem c_those1 (g : Nat) (caps : List A) (b : Bool) (k : Int) (hro : ∀ S k, mapO (roO S (k + 4)) caps = some caps) (hf : PCtr PP (Fw.cloN g) (Fw.cloA g [i64 k] caps) (boo b)) : PCtr PP n_impl_those_1 [i64 k, .rp [.clo g caps]] (boo (!b)) := by
  obtain ⟨Ω, hΩ⟩ : ∃ Ω, Ω = std := ⟨_, rfl⟩
  have hrun : PCtr PP (Ω.cloN g) (Ω.cloA g [i64 k] caps) (boo b) := by subst hΩ; exact hf
  have htab := tab
  refine PCtr.walk tab hΩ fn_impl_those_1 rfl ?_
  generalize PP = P at *
  cbv
  refine call_pure hΩ 4 hrun (ro_cloA hΩ rfl (hro _ 0)) (fits _) rfl rfl ?_
  cbv
  exact .of (congrArg boo (by subst hΩ; rfl))
theorem c_those (s : List Int) (hs : s.length ≤ 1048576) (g : Nat) (caps : List A) (p : Int → Bool) (hf : CloB PP i64 s g caps p) : PCtr PP n_impl_those [.sl false 1 (s.map i64), .clo g caps] (ints (s.filter p)) := by
  obtain ⟨Ω, hΩ⟩ : ∃ Ω, Ω = std := ⟨_, rfl⟩
  have hcl := c_Clone s hs
  have hd := c_DeleteFunc s hs n_impl_those_1 [.rp [.clo g caps]] (fun x => !p x) ⟨fun S k => by rfl, rfl, fun _ => rfl, fun x hx => c_those1 g caps (p x) x hf.ro (hf.run x hx)⟩
  have hro := hf.ro
  have hcn := hf.no
  have hkl := hf.kl
  have hroF := roFInt s
  have hroZ := roFInt (s.filter p)
  rw [show (s.filter fun x => !!p x) = s.filter p by congr 1; funext x; simp] at hd
  unfold ints at hcl hd ⊢
  generalize s.map i64 = xs at *
  generalize (s.filter p).map i64 = zs at *
  have htab := tab
  refine PCtr.walk tab hΩ fn_impl_those rfl ?_
  generalize PP = P at *
  cbv
  refine call_pure hΩ 3 hcl rfl (fits _) hroF rfl ?_
  cbv
  refine call_eat2 (row := ⟨1, xs, false⟩) hΩ 8 hd rfl rfl (by subst hΩ; rfl) (ro_clo1 (mapOne (roPt (x := .clo g caps) (by show some (Row.mk 1 [A.clo g (killL 1 caps)] true) = _; rw [hkl]) (ro_clo1 (hro _ 1))))) (fits _) hroZ rfl ?_
  cbv
  refine ⟨⟨rfl, by subst hΩ; exact Nat.le_refl _⟩, .of ?_⟩
  subst hΩ
  show A.sl true 1 (zs.take zs.length) = _
  rw [List.take_length]
end Go.Proofs.Ytfacpamkigmlaaa

/- Sets with a code. Plain theorems. -/
set_option linter.unusedVariables false
set_option linter.unusedSimpArgs false
namespace Go.Proofs.Ytfacpamkigmlaaa
open Go Go.Fw
set_option maxRecDepth 100000
def Pck.zero : Pck := ⟨[], Ver.zero, 0, [], [], []⟩
def pk (c : List Pck) (k : Int) : Pck := c.getD k.toNat Pck.zero
/-- A set with a code. -/
def setR (k a : Int) (s : List Int) : A := .agg [i64 k, i64 a, .sl true 1 (s.map i64)]
theorem fit_nilR (k a : Int) : FitX (.agg [i64 k, i64 a, .nil]) (setR k a []) := ⟨2, by unfold setR; simp [fitA, fitA.fitL, i64]⟩
theorem fit_R {Ω : Opq} (hΩ : Ω = std) (k a : Int) (s : List Int) {zs : List A} (h : zs = s.map i64) : FitX (.agg [i64 k, i64 a, .sl true 1 (Ω.take (Ω.len zs) zs)]) (setR k a s) := .of (by subst hΩ; subst h; unfold setR; show A.agg [_, _, A.sl true 1 ((s.map i64).take (s.map i64).length)] = _; rw [List.take_length])
theorem pk_at {c : List Pck} {k : Int} (h : inB k 0 ((c.length : Int) - 1) = true) : 0 ≤ k ∧ k.toNat < c.length ∧ c[k.toNat]? = some (pk c k) ∧ pk c k ∈ c := by
  unfold inB at h
  simp only [Bool.and_eq_true, decide_eq_true_eq] at h
  have hk : k.toNat < c.length := by omega
  refine ⟨h.1, hk, ?_, ?_⟩
  · rw [pk, List.getD_eq_getElem?_getD, List.getElem?_eq_getElem hk]; rfl
  · rw [pk, List.getD_eq_getElem?_getD, List.getElem?_eq_getElem hk]; exact List.getElem_mem hk
theorem setF_in {c : List Pck} {s : List Int} (h : setF c s = 0) : ∀ k ∈ s, inB k 0 ((c.length : Int) - 1) = true := by
  unfold setF at h
  split at h
  · rename_i h0; exact absurd h h0
  · split at h
    · rename_i h1
      rw [setOk_eq, Bool.and_eq_true] at h1
      exact List.all_eq_true.1 h1.2
    · simp at h
end Go.Proofs.Ytfacpamkigmlaaa

/- Helpers of the walks. Plain theorems. -/
set_option linter.unusedVariables false
set_option linter.unusedSimpArgs false
namespace Go.Proofs.Ytfacpamkigmlaaa
open Go Go.Fw
set_option maxRecDepth 100000
def fill {α : Type} (f : α → A) (z : A) (cs : List α) (i : Nat) : List A := (cs.take i).map f ++ List.replicate (cs.length - i) z
theorem roFAll {n : Nat} {xs : List A} (h : ∀ x ∈ xs, roFree x = true) : roFree (.sl true n xs) = true := by rw [roFree_sl, Bool.true_and, List.all_eq_true]; exact h
theorem enc_own (o : Pck) : ∃ ps ds bs, o.enc true = .agg [str o.n, i64 o.v.a, i64 o.v.b, i64 o.v.c, i64 o.s, .sl true 1 ps, .sl true 1 ds, .sl true 7 bs] ∧ ps = o.p.map str ∧ ds = o.d.map (encTs true) ∧ bs = o.b.map Trm.enc := ⟨_, _, _, rfl, rfl, rfl, rfl⟩
/-- ys is xs but for what stands up to i. -/
structure Like (xs : List A) (i : Nat) (ys : List A) : Prop where
  len : ys.length = xs.length
  at' : ∀ q, i < q → ys[q]? = xs[q]?
theorem Like.set {Ω : Opq} (hΩ : Ω = std) {xs ys : List A} {i : Nat} {z : A} (h : Like xs i ys) : Like xs i (Ω.set ys (Ω.plus 0 (Ω.nat (Ω.int i))) z) := by
  subst hΩ
  show Like xs i (ys.set (0 + i) z)
  rw [Nat.zero_add]
  exact ⟨by simpa using h.len, fun q hq => by rw [List.getElem?_set_ne (by omega)]; exact h.at' q hq⟩
theorem ro_vw {S : State} {k r len n : Nat} {ys zs : List A} (hr : Fw.rowAt S.rows r = some ⟨n, ys, false⟩) (hl : len = ys.length) (hf : ys.map frz = zs) : roO S (k + 1) (.vw r 0 len) = some (.sl false n zs) := by
  simp only [roO, hr]
  rw [hl, List.drop_zero, List.take_length, hf]
  rfl
theorem mapO2 {f : A → Option A} {x x' y y' : A} (h : f x = some x') (h2 : f y = some y') : mapO f [x, y] = some [x', y'] := by simp [mapO, h, h2]
theorem mapO3 {f : A → Option A} {x x' y y' z z' : A} (h : f x = some x') (h2 : f y = some y') (h3 : f z = some z') : mapO f [x, y, z] = some [x', y', z'] := by simp [mapO, h, h2, h3]
theorem frz_Pck (o : Pck) : frz (o.enc true) = o.enc false := by
  show frz (.agg _) = A.agg _
  rw [frz_agg]
  have h1 : (o.p.map str).map frz = o.p.map str := by rw [List.map_map]; exact List.map_congr_left fun c _ => rfl
  have h2 : (o.d.map (encTs true)).map frz = o.d.map (encTs false) := by
    rw [List.map_map]
    refine List.map_congr_left fun c _ => ?_
    show frz (A.sl true 7 _) = A.sl false 7 _
    rw [frz_sl, List.map_map]; rfl
  have h3 : (o.b.map Trm.enc).map frz = o.b.map Trm.enc := by rw [List.map_map]; exact List.map_congr_left fun c _ => rfl
  simp only [Pck.cells, List.map_cons, List.map_nil, frz_sl, h1, h2, h3]
  rfl
theorem frz_I (l : List Int) : (l.map i64).map frz = l.map i64 := by rw [List.map_map]; exact List.map_congr_left fun c _ => rfl
end Go.Proofs.Ytfacpamkigmlaaa

/- Walks: draws of packages. Plain theorems. -/
set_option linter.unusedVariables false
set_option linter.unusedSimpArgs false
namespace Go.Proofs.Ytfacpamkigmlaaa
open Go Go.Fw
set_option maxRecDepth 100000
theorem decI {Ω : Opq} (hΩ : Ω = std) {k : Int} (h0 : 0 ≤ k) (h1 : k ≤ 4611686018427387904) : i64 (Ω.ar .sub .i64 k 1) = i64 (k - 1) := by subst hΩ; exact congrArg i64 (i64w (by omega) (by omega))
structure Pck.Tiny (o : Pck) : Prop where
  p : o.p.length ≤ 8
  d : o.d.length ≤ 8
  b : o.b.length ≤ 8
  e : ∀ l ∈ o.d, l.length ≤ 8
structure Pck.Tiny2 (o : Pck) : Prop where
  p : o.p.length ≤ 16
  d : o.d.length ≤ 16
  b : o.b.length ≤ 16
  e : ∀ l ∈ o.d, l.length ≤ 16
theorem Pck.Tiny2.small {o : Pck} (h : o.Tiny2) : o.Small := ⟨by have := h.p; omega, by have := h.d; omega, by have := h.b; omega, fun l hl => by have := h.e l hl; omega⟩
theorem Pck.Tiny.two {o : Pck} (h : o.Tiny) : o.Tiny2 := ⟨by have := h.p; omega, by have := h.d; omega, by have := h.b; omega, fun l hl => by have := h.e l hl; omega⟩
theorem Pck.Tiny.small {o : Pck} (h : o.Tiny) : o.Small := ⟨by have := h.p; omega, by have := h.d; omega, by have := h.b; omega, fun l hl => by have := h.e l hl; omega⟩
theorem fit_pack {o : Pck} {X D B : A} (hX : X = .sl true 1 (o.p.map str) ∨ X = .nil ∧ o.p = []) (hD : D = .sl true 1 (o.d.map (encTs true)) ∨ D = .nil ∧ o.d = [] ∨ fitA 2 D (.sl true 1 (o.d.map (encTs true)))) (hB : B = .sl true 7 (o.b.map Trm.enc) ∨ B = .nil ∧ o.b = []) :
    FitX (.agg [str o.n, i64 o.v.a, i64 o.v.b, i64 o.v.c, i64 o.s, X, D, B]) (o.enc true) := by
  refine ⟨3, ?_⟩
  have e : ∀ (n : Nat) (Y : A) (ys : List A), (Y = .sl true n ys ∨ Y = .nil ∧ ys = []) → fitA 2 Y (.sl true n ys) := fun n Y ys h => by
    rcases h with rfl | ⟨rfl, rfl⟩
    · exact fitA_refl _ _
    · rfl
  have hD' : fitA 2 D (.sl true 1 (o.d.map (encTs true))) := by
    rcases hD with h | h | h
    · exact e _ _ _ (.inl h)
    · exact e _ _ _ (.inr ⟨h.1, by rw [h.2]; rfl⟩)
    · exact h
  show fitA.fitL 2 _ [str o.n, i64 o.v.a, i64 o.v.b, i64 o.v.c, i64 o.s, .sl true 1 (o.p.map str), .sl true 1 (o.d.map (encTs true)), .sl true 7 (o.b.map Trm.enc)]
  exact ⟨fitA_refl _ _, fitA_refl _ _, fitA_refl _ _, fitA_refl _ _, fitA_refl _ _, e _ _ _ (hX.imp id fun h => ⟨h.1, by rw [h.2]; rfl⟩), hD', e _ _ _ (hB.imp id fun h => ⟨h.1, by rw [h.2]; rfl⟩), trivial⟩
theorem d_l2Pack {bs : List A} (hb : Src bs) (p : Int) (h0 : 0 ≤ p) (h1 : p + 60 ≤ 1099511627776) : XCtr PP n_spec_l2Pack [src bs p] (DR bs p 60 [] fun x => ∃ o : Pck, x = o.enc true ∧ o.Tiny) := by
  obtain ⟨Ω, hΩ⟩ : ∃ Ω, Ω = std := ⟨_, rfl⟩
  have hA := d_AnyTerm
  have hN := fun p n a b c => d_l1Next hb p n a b c
  have hC := fun p n a b c => d_l1Chance hb p n a b c
  have hP := fun p ns a b c d => d_l1Pick hb p ns a b c d
  have hl1DrawName := fun p a b => d_l1DrawName hb p a b
  have hl1Version := fun p a b => d_l1Version hb p a b
  have hl1Term := fun p a b => d_l1Term hb p a b
  have htab := tab
  have hmo := hmo
  refine XCtr.walkO tab hΩ 3 fn_spec_l2Pack rfl rfl ?_
  generalize PP = P at *
  cbv
  refine call_dr false hΩ 3 (hl1DrawName _ (by omega) (by omega)) rfl rfl rfl (fun q1 x q1a q1b ⟨nm, hx⟩ => ?_)
  subst hx
  cbv
  refine call_dr false hΩ 3 (hN _ _ (by omega) (by omega) (by omega)) rfl rfl rfl (fun q2 x q2a q2b ⟨va, hx, hva⟩ => ?_)
  subst hx
  cbv
  refine call_dr false hΩ 3 (hN _ _ (by omega) (by omega) (by omega)) rfl rfl rfl (fun q3 x q3a q3b ⟨sz, hx, hsz⟩ => ?_)
  subst hx
  cbv
  refine call_dr false hΩ 3 (hC _ _ (by omega) (by omega) (by omega)) rfl rfl rfl (fun q4 x q4a q4b ⟨cp, hx⟩ => ?_)
  subst hx
  cbv
  refine br (fun hcp => ?_) (fun hcp => ?_) <;> cbv
  · refine call_dr false hΩ 3 (hN _ 2 (by omega) (by omega) (by omega)) rfl rfl rfl (fun q5 x q5a q5b ⟨r, hx, hr⟩ => ?_)
    subst hx
    cbv
    obtain ⟨pn, _, hnm⟩ := nth_of (f := str) (ns := [[109, 97, 105, 108], [100, 98]]) hΩ rfl (hr.2 (by omega)).1 (hr.2 (by omega)).2
    refine ⟨⟨hr.2 (by omega)⟩, _, hnm, ?_⟩
    cbv
    refine call_pick (ns := [0, 0, 1, 1, 2]) hΩ (hP _ _ (by omega) (by omega) (Nat.zero_lt_succ _) (Nat.le_of_ble_eq_true rfl)) rfl rfl rfl rfl (by decide) (fun q6 n q6a q6b hn => ?_)
    replace hn : 0 ≤ n ∧ n ≤ 2 := by simp at hn; omega
    cbv
    obtain ⟨F, hF⟩ : ∃ F : List (List Trm) → List A, F = fun ds => ds.map (encTs true) := ⟨_, rfl⟩
    have hF0 : F [] = [] := by rw [hF]; rfl
    have hFl : ∀ ds, (F ds).length = ds.length := fun ds => by rw [hF]; exact List.length_map _
    have hFs : ∀ (ds : List (List Trm)) (ts : List Trm), Ω.app (Ω.take ds.length (F ds)) [.sl true 7 (ts.map Trm.enc)] = F (ds ++ [ts]) := fun ds ts => by
      subst hΩ; rw [hF]; show List.take ds.length (List.map (encTs true) ds) ++ _ = List.map (encTs true) (ds ++ [ts])
      rw [List.map_append, List.take_of_length_le (by simp)]; rfl
    have hFd : ∀ ds : List (List Trm), Ω.take ds.length (F ds) = ds.map (encTs true) := fun ds => by subst hΩ; rw [hF]; exact List.take_of_length_le (by simp)
    clear hF
    refine loopX htab hΩ (fun i : Int × Int × List (List Trm) => ⟨[(0, .pt 0 0 0), (2, .pt 1 0 0), (3, .pt 2 0 0), (4, i64 i.1), (63, .pt 0 0 0)], 63, [some ⟨2, [.agg [.sl false 1 bs, i64 i.2.1]], true⟩, some ⟨8, [.agg [str [], i64 0, i64 0, i64 0, i64 0, .nil, .nil, .nil]], true⟩, some ⟨8, [.agg [str nm, i64 (Ω.ar .add .i64 1 va), i64 0, i64 0, i64 (Ω.ar .add .i64 1 sz), .vw 4 0 1, .vw 5 0 i.2.2.length, .nil]], true⟩, none, some ⟨1, [str pn], false⟩, some ⟨1, F i.2.2, false⟩]⟩) (fun i => 0 ≤ i.1 ∧ i.1 ≤ 2 ∧ p ≤ i.2.1 ∧ i.2.1 + 20 * i.1 ≤ p + 46 ∧ (i.2.2.length : Int) + i.1 ≤ 2 ∧ ∀ l ∈ i.2.2, l.length ≤ 8) (fun i => i.1.toNat) (n, q6, [])
      ⟨by dsimp only; omega, by dsimp only; omega, by dsimp only; omega, by dsimp only; omega, by show ((0 : Nat) : Int) + n ≤ 2; omega, by simp⟩ ((Sbs.cut 5 rfl).trans ((Sbs.drop (r := 3) rfl).trans ((Sbs.nilCell (r := 2) (j := 0) (q := 6) (n := 1) rfl rfl rfl).trans (Sbs.mk rfl (by show _ = [_, _, _, _, _, some (Row.mk 1 (F []) false)]; rw [hF0]; rfl) ⟨rfl, rfl, rfl, rfl, rfl, trivial⟩)))) ?_
    rintro ⟨k, q, ds⟩ ⟨i1, i2, i3, i4, i5, i6⟩
    dsimp only at i1 i2 i3 i4 i5 i6
    have hFli := hFl ds
    have hFsi := hFs ds
    obtain ⟨m, hm⟩ : ∃ m, ds.length = m := ⟨_, rfl⟩
    have hrows : ∀ {R0 R1 R4 : Option Row} {a0 a1 a2 a3 a4 a5 a7 : A} {l : Nat} {X : List A} {ts : List Trm}, X = ts.map Trm.enc → l = m + 1 → [R0, R1, some (Row.mk 8 [.agg [a0, a1, a2, a3, a4, a5, .vw 5 0 l, a7]] true), none, R4, some (Row.mk 1 (Ω.app (Ω.take m (F ds)) [.sl true 7 X]) false)] =
        [R0, R1, some (Row.mk 8 [.agg [a0, a1, a2, a3, a4, a5, .vw 5 0 (ds ++ [ts]).length, a7]] true), none, R4, some (Row.mk 1 (F (ds ++ [ts])) false)] := fun {R0 R1 R4 a0 a1 a2 a3 a4 a5 a7 l X ts} h1 h2 => by
      rw [h1, h2, ← hm, hFsi, List.length_append]; rfl
    have hall : ∀ ts : List Trm, ts.length ≤ 8 → ∀ l ∈ ds ++ [ts], l.length ≤ 8 := fun ts h l hl => by
      rcases List.mem_append.1 hl with h1 | h1
      · exact i6 l h1
      · rw [List.mem_singleton.1 h1]; exact h
    rw [hm] at hFli hFsi i5 ⊢
    have hm2 : m ≤ 2 := by omega
    have hds : ds.length ≤ 8 := by omega
    have hFdi : A.sl true 1 (Ω.take m (F ds)) = .sl true 1 (ds.map (encTs true)) := by rw [← hm, hFd]
    have h5 : ∀ ts : List Trm, ((ds ++ [ts]).length : Int) + (k - 1) ≤ 2 := fun ts => by rw [List.length_append, hm, List.length_singleton]; omega
    cbv
    refine br (fun hk => ?_) (fun hk => ?_) <;> cbv
    · have hk := gtI_t hΩ hk
      refine call_dr false hΩ 3 (hl1Term _ (by omega) (by omega)) rfl rfl rfl (fun r1 x r1a r1b ⟨t1, hx⟩ => ?_)
      obtain ⟨t1n, ⟨t1a, t1b, t1c⟩, ⟨t1d, t1e, t1f⟩⟩ := t1
      subst hx
      cbv
      refine call_dr false hΩ 3 (hC _ _ (by omega) (by omega) (by omega)) rfl rfl rfl (fun r2 x r2a r2b ⟨c1, hx⟩ => ?_)
      subst hx
      cbv
      refine br (fun hc1 => ?_) (fun hc1 => ?_) <;> cbv
      · refine call_dr false hΩ 3 (hl1Term _ (by omega) (by omega)) rfl rfl rfl (fun r3 x r3a r3b ⟨t2, hx⟩ => ?_)
        obtain ⟨t2n, ⟨t2a, t2b, t2c⟩, ⟨t2d, t2e, t2f⟩⟩ := t2
        subst hx
        cbv
        refine ⟨⟨rfl, okAll rfl, by show (1 + 1) * 64 ≤ 140737488355328; omega, by show 1 + 1 ≤ 9223372036854775807; omega⟩, ?_⟩
        refine call_dr false hΩ 3 (hC _ _ (by omega) (by omega) (by omega)) rfl rfl rfl (fun r4 x r4a r4b ⟨c2, hx⟩ => ?_)
        subst hx
        cbv
        refine br (fun hc2 => ?_) (fun hc2 => ?_) <;> cbv
        · refine call_pure hΩ 3 (hA _) rfl (fits _) rfl rfl ?_
          cbv
          refine ⟨⟨by subst hΩ; exact ⟨Int.le_refl _, Int.ofNat_lt.2 (Nat.zero_lt_succ _)⟩⟩, ⟨by subst hΩ; exact ⟨show 0 + 0 < _ from Nat.zero_lt_succ _, fun z hz => List.all_eq_true.1 (show List.all _ (isAggN 7) = true from rfl) z hz⟩⟩, ⟨by subst hΩ; exact ⟨rfl, Nat.le_refl _⟩⟩, ⟨rfl, okAll rfl, by show (m + 1) * 24 ≤ 140737488355328; omega, by show m + 1 ≤ 9223372036854775807; omega⟩, (k - 1, r4, ds ++ [[inTop [109, 97, 105, 108], ⟨t2n, ⟨t2a, t2b, t2c⟩, ⟨t2d, t2e, t2f⟩⟩]]), ⟨by dsimp only; omega, by dsimp only; omega, by dsimp only; omega, by dsimp only; omega, h5 _, hall _ (by simp)⟩, by dsimp only; omega, (Sbs.cut 6 rfl).trans (Sbs.mk rfl (hrows (by subst hΩ; rfl) (by subst hΩ; rfl)) ⟨rfl, rfl, rfl, decI hΩ (by omega) (by omega), rfl, trivial⟩)⟩
        · refine ⟨⟨by subst hΩ; exact ⟨rfl, Nat.le_refl _⟩⟩, ⟨rfl, okAll rfl, by show (m + 1) * 24 ≤ 140737488355328; omega, by show m + 1 ≤ 9223372036854775807; omega⟩, (k - 1, r4, ds ++ [[⟨t1n, ⟨t1a, t1b, t1c⟩, ⟨t1d, t1e, t1f⟩⟩, ⟨t2n, ⟨t2a, t2b, t2c⟩, ⟨t2d, t2e, t2f⟩⟩]]), ⟨by dsimp only; omega, by dsimp only; omega, by dsimp only; omega, by dsimp only; omega, h5 _, hall _ (by simp)⟩, by dsimp only; omega, (Sbs.cut 6 rfl).trans (Sbs.mk rfl (hrows (by subst hΩ; rfl) (by subst hΩ; rfl)) ⟨rfl, rfl, rfl, decI hΩ (by omega) (by omega), rfl, trivial⟩)⟩
      · refine call_dr false hΩ 3 (hC _ _ (by omega) (by omega) (by omega)) rfl rfl rfl (fun r4 x r4a r4b ⟨c2, hx⟩ => ?_)
        subst hx
        cbv
        refine br (fun hc2 => ?_) (fun hc2 => ?_) <;> cbv
        · refine call_pure hΩ 3 (hA _) rfl (fits _) rfl rfl ?_
          cbv
          refine ⟨⟨by subst hΩ; exact ⟨Int.le_refl _, Int.ofNat_lt.2 (Nat.zero_lt_succ _)⟩⟩, ⟨by subst hΩ; exact ⟨show 0 + 0 < _ from Nat.zero_lt_succ _, fun z hz => List.all_eq_true.1 (show List.all _ (isAggN 7) = true from rfl) z hz⟩⟩, ⟨by subst hΩ; exact ⟨rfl, Nat.le_refl _⟩⟩, ⟨rfl, okAll rfl, by show (m + 1) * 24 ≤ 140737488355328; omega, by show m + 1 ≤ 9223372036854775807; omega⟩, (k - 1, r4, ds ++ [[inTop [109, 97, 105, 108]]]), ⟨by dsimp only; omega, by dsimp only; omega, by dsimp only; omega, by dsimp only; omega, h5 _, hall _ (by simp)⟩, by dsimp only; omega, (Sbs.cut 6 rfl).trans (Sbs.mk rfl (hrows (by subst hΩ; rfl) (by subst hΩ; rfl)) ⟨rfl, rfl, rfl, decI hΩ (by omega) (by omega), rfl, trivial⟩)⟩
        · refine ⟨⟨by subst hΩ; exact ⟨rfl, Nat.le_refl _⟩⟩, ⟨rfl, okAll rfl, by show (m + 1) * 24 ≤ 140737488355328; omega, by show m + 1 ≤ 9223372036854775807; omega⟩, (k - 1, r4, ds ++ [[⟨t1n, ⟨t1a, t1b, t1c⟩, ⟨t1d, t1e, t1f⟩⟩]]), ⟨by dsimp only; omega, by dsimp only; omega, by dsimp only; omega, by dsimp only; omega, h5 _, hall _ (by simp)⟩, by dsimp only; omega, (Sbs.cut 6 rfl).trans (Sbs.mk rfl (hrows (by subst hΩ; rfl) (by subst hΩ; rfl)) ⟨rfl, rfl, rfl, decI hΩ (by omega) (by omega), rfl, trivial⟩)⟩
    · have hk := gtI_f hΩ hk
      refine call_dr false hΩ 3 (hC _ _ (by omega) (by omega) (by omega)) rfl rfl rfl (fun r5 x r5a r5b ⟨c3, hx⟩ => ?_)
      subst hx
      cbv
      refine br (fun hc3 => ?_) (fun hc3 => ?_) <;> cbv
      · refine ⟨VC_lent htab hΩ hmo [0, 1] [2, 3, 4] [5, 6, 7] [2, 4, 5] [3] (by kernel_rfl) ?_⟩
        cbv
        intro vs
        cbv
        refine call_dr false hΩ 3 (hl1Term _ (by omega) (by omega)) rfl rfl rfl (fun r6 x r6a r6b ⟨t3, hx⟩ => ?_)
        obtain ⟨t3n, ⟨t3a, t3b, t3c⟩, ⟨t3d, t3e, t3f⟩⟩ := t3
        subst hx
        cbv
        exact ⟨⟨Nat.le_refl _, fun y hy => List.all_eq_true.1 (show List.all _ noOwn = true from rfl) y hy, okAll rfl, by decide, by decide⟩, ⟨rfl, Nat.le_refl _⟩, ⟨rfl, by show m ≤ (F ds).length; omega⟩, ⟨rfl, by subst hΩ; exact Nat.le_refl _⟩, _, _,
          fit_pack (o := ⟨nm, ⟨Ω.ar .add .i64 1 va, 0, 0⟩, Ω.ar .add .i64 1 sz, [pn], ds, [⟨t3n, ⟨t3a, t3b, t3c⟩, ⟨t3d, t3e, t3f⟩⟩]⟩) (.inl (by subst hΩ; rfl)) (.inl hFdi) (.inl (by subst hΩ; rfl)), .same, ⟨r6, by omega, by omega, rfl, _, rfl, ⟨Nat.le_of_ble_eq_true rfl, hds, Nat.le_of_ble_eq_true rfl, i6⟩⟩, rfl⟩
      · exact ⟨⟨rfl, Nat.le_refl _⟩, ⟨rfl, by show m ≤ (F ds).length; omega⟩, _, _,
          fit_pack (o := ⟨nm, ⟨Ω.ar .add .i64 1 va, 0, 0⟩, Ω.ar .add .i64 1 sz, [pn], ds, []⟩) (.inl (by subst hΩ; rfl)) (.inl hFdi) (.inr ⟨rfl, rfl⟩), .same, ⟨r5, by omega, by omega, rfl, _, rfl, ⟨Nat.le_of_ble_eq_true rfl, hds, Nat.le_of_ble_eq_true rfl, i6⟩⟩, rfl⟩
  · refine call_pick (ns := [0, 0, 1, 1, 2]) hΩ (hP _ _ (by omega) (by omega) (Nat.zero_lt_succ _) (Nat.le_of_ble_eq_true rfl)) rfl rfl rfl rfl (by decide) (fun q5 n q5a q5b hn => ?_)
    replace hn : 0 ≤ n ∧ n ≤ 2 := by simp at hn; omega
    cbv
    obtain ⟨F, hF⟩ : ∃ F : List (List Trm) → List A, F = fun ds => ds.map (encTs true) := ⟨_, rfl⟩
    have hF0 : F [] = [] := by rw [hF]; rfl
    have hFl : ∀ ds, (F ds).length = ds.length := fun ds => by rw [hF]; exact List.length_map _
    have hFs : ∀ (ds : List (List Trm)) (ts : List Trm), Ω.app (Ω.take ds.length (F ds)) [.sl true 7 (ts.map Trm.enc)] = F (ds ++ [ts]) := fun ds ts => by
      subst hΩ; rw [hF]; show List.take ds.length (List.map (encTs true) ds) ++ _ = List.map (encTs true) (ds ++ [ts])
      rw [List.map_append, List.take_of_length_le (by simp)]; rfl
    have hFd : ∀ ds : List (List Trm), Ω.take ds.length (F ds) = ds.map (encTs true) := fun ds => by subst hΩ; rw [hF]; exact List.take_of_length_le (by simp)
    clear hF
    refine loopX htab hΩ (fun i : Int × Int × List (List Trm) => ⟨[(0, .pt 0 0 0), (2, .pt 1 0 0), (3, .pt 2 0 0), (4, i64 i.1), (63, .pt 0 0 0)], 63, [some ⟨2, [.agg [.sl false 1 bs, i64 i.2.1]], true⟩, some ⟨8, [.agg [str [], i64 0, i64 0, i64 0, i64 0, .nil, .nil, .nil]], true⟩, some ⟨8, [.agg [str nm, i64 (Ω.ar .add .i64 1 va), i64 0, i64 0, i64 (Ω.ar .add .i64 1 sz), .vw 4 0 0, .vw 5 0 i.2.2.length, .nil]], true⟩, none, some ⟨1, [], false⟩, some ⟨1, F i.2.2, false⟩]⟩) (fun i => 0 ≤ i.1 ∧ i.1 ≤ 2 ∧ p ≤ i.2.1 ∧ i.2.1 + 20 * i.1 ≤ p + 46 ∧ (i.2.2.length : Int) + i.1 ≤ 2 ∧ ∀ l ∈ i.2.2, l.length ≤ 8) (fun i => i.1.toNat) (n, q5, [])
      ⟨by dsimp only; omega, by dsimp only; omega, by dsimp only; omega, by dsimp only; omega, by show ((0 : Nat) : Int) + n ≤ 2; omega, by simp⟩ ((Sbs.drop (r := 3) rfl).trans ((Sbs.nilCell (r := 2) (j := 0) (q := 5) (n := 1) rfl rfl rfl).trans ((Sbs.nilCell (r := 2) (j := 0) (q := 6) (n := 1) rfl rfl rfl).trans (Sbs.mk rfl (by show _ = [_, _, _, _, _, some (Row.mk 1 (F []) false)]; rw [hF0]; rfl) ⟨rfl, rfl, rfl, rfl, rfl, trivial⟩)))) ?_
    rintro ⟨k, q, ds⟩ ⟨i1, i2, i3, i4, i5, i6⟩
    dsimp only at i1 i2 i3 i4 i5 i6
    have hFli := hFl ds
    have hFsi := hFs ds
    obtain ⟨m, hm⟩ : ∃ m, ds.length = m := ⟨_, rfl⟩
    have hrows : ∀ {R0 R1 R4 : Option Row} {a0 a1 a2 a3 a4 a5 a7 : A} {l : Nat} {X : List A} {ts : List Trm}, X = ts.map Trm.enc → l = m + 1 → [R0, R1, some (Row.mk 8 [.agg [a0, a1, a2, a3, a4, a5, .vw 5 0 l, a7]] true), none, R4, some (Row.mk 1 (Ω.app (Ω.take m (F ds)) [.sl true 7 X]) false)] =
        [R0, R1, some (Row.mk 8 [.agg [a0, a1, a2, a3, a4, a5, .vw 5 0 (ds ++ [ts]).length, a7]] true), none, R4, some (Row.mk 1 (F (ds ++ [ts])) false)] := fun {R0 R1 R4 a0 a1 a2 a3 a4 a5 a7 l X ts} h1 h2 => by
      rw [h1, h2, ← hm, hFsi, List.length_append]; rfl
    have hall : ∀ ts : List Trm, ts.length ≤ 8 → ∀ l ∈ ds ++ [ts], l.length ≤ 8 := fun ts h l hl => by
      rcases List.mem_append.1 hl with h1 | h1
      · exact i6 l h1
      · rw [List.mem_singleton.1 h1]; exact h
    rw [hm] at hFli hFsi i5 ⊢
    have hm2 : m ≤ 2 := by omega
    have hds : ds.length ≤ 8 := by omega
    have hFdi : A.sl true 1 (Ω.take m (F ds)) = .sl true 1 (ds.map (encTs true)) := by rw [← hm, hFd]
    have h5 : ∀ ts : List Trm, ((ds ++ [ts]).length : Int) + (k - 1) ≤ 2 := fun ts => by rw [List.length_append, hm, List.length_singleton]; omega
    cbv
    refine br (fun hk => ?_) (fun hk => ?_) <;> cbv
    · have hk := gtI_t hΩ hk
      refine call_dr false hΩ 3 (hl1Term _ (by omega) (by omega)) rfl rfl rfl (fun r1 x r1a r1b ⟨t1, hx⟩ => ?_)
      obtain ⟨t1n, ⟨t1a, t1b, t1c⟩, ⟨t1d, t1e, t1f⟩⟩ := t1
      subst hx
      cbv
      refine call_dr false hΩ 3 (hC _ _ (by omega) (by omega) (by omega)) rfl rfl rfl (fun r2 x r2a r2b ⟨c1, hx⟩ => ?_)
      subst hx
      cbv
      refine br (fun hc1 => ?_) (fun hc1 => ?_) <;> cbv
      · refine call_dr false hΩ 3 (hl1Term _ (by omega) (by omega)) rfl rfl rfl (fun r3 x r3a r3b ⟨t2, hx⟩ => ?_)
        obtain ⟨t2n, ⟨t2a, t2b, t2c⟩, ⟨t2d, t2e, t2f⟩⟩ := t2
        subst hx
        cbv
        refine ⟨⟨rfl, okAll rfl, by show (1 + 1) * 64 ≤ 140737488355328; omega, by show 1 + 1 ≤ 9223372036854775807; omega⟩, ?_⟩
        refine call_dr false hΩ 3 (hC _ _ (by omega) (by omega) (by omega)) rfl rfl rfl (fun r4 x r4a r4b ⟨c2, hx⟩ => ?_)
        subst hx
        cbv
        refine br (fun hc2 => ?_) (fun hc2 => ?_) <;> cbv
        · refine call_pure hΩ 3 (hA _) rfl (fits _) rfl rfl ?_
          cbv
          refine ⟨⟨by subst hΩ; exact ⟨Int.le_refl _, Int.ofNat_lt.2 (Nat.zero_lt_succ _)⟩⟩, ⟨by subst hΩ; exact ⟨show 0 + 0 < _ from Nat.zero_lt_succ _, fun z hz => List.all_eq_true.1 (show List.all _ (isAggN 7) = true from rfl) z hz⟩⟩, ⟨by subst hΩ; exact ⟨rfl, Nat.le_refl _⟩⟩, ⟨rfl, okAll rfl, by show (m + 1) * 24 ≤ 140737488355328; omega, by show m + 1 ≤ 9223372036854775807; omega⟩, (k - 1, r4, ds ++ [[inTop [109, 97, 105, 108], ⟨t2n, ⟨t2a, t2b, t2c⟩, ⟨t2d, t2e, t2f⟩⟩]]), ⟨by dsimp only; omega, by dsimp only; omega, by dsimp only; omega, by dsimp only; omega, h5 _, hall _ (by simp)⟩, by dsimp only; omega, (Sbs.cut 6 rfl).trans (Sbs.mk rfl (hrows (by subst hΩ; rfl) (by subst hΩ; rfl)) ⟨rfl, rfl, rfl, decI hΩ (by omega) (by omega), rfl, trivial⟩)⟩
        · refine ⟨⟨by subst hΩ; exact ⟨rfl, Nat.le_refl _⟩⟩, ⟨rfl, okAll rfl, by show (m + 1) * 24 ≤ 140737488355328; omega, by show m + 1 ≤ 9223372036854775807; omega⟩, (k - 1, r4, ds ++ [[⟨t1n, ⟨t1a, t1b, t1c⟩, ⟨t1d, t1e, t1f⟩⟩, ⟨t2n, ⟨t2a, t2b, t2c⟩, ⟨t2d, t2e, t2f⟩⟩]]), ⟨by dsimp only; omega, by dsimp only; omega, by dsimp only; omega, by dsimp only; omega, h5 _, hall _ (by simp)⟩, by dsimp only; omega, (Sbs.cut 6 rfl).trans (Sbs.mk rfl (hrows (by subst hΩ; rfl) (by subst hΩ; rfl)) ⟨rfl, rfl, rfl, decI hΩ (by omega) (by omega), rfl, trivial⟩)⟩
      · refine call_dr false hΩ 3 (hC _ _ (by omega) (by omega) (by omega)) rfl rfl rfl (fun r4 x r4a r4b ⟨c2, hx⟩ => ?_)
        subst hx
        cbv
        refine br (fun hc2 => ?_) (fun hc2 => ?_) <;> cbv
        · refine call_pure hΩ 3 (hA _) rfl (fits _) rfl rfl ?_
          cbv
          refine ⟨⟨by subst hΩ; exact ⟨Int.le_refl _, Int.ofNat_lt.2 (Nat.zero_lt_succ _)⟩⟩, ⟨by subst hΩ; exact ⟨show 0 + 0 < _ from Nat.zero_lt_succ _, fun z hz => List.all_eq_true.1 (show List.all _ (isAggN 7) = true from rfl) z hz⟩⟩, ⟨by subst hΩ; exact ⟨rfl, Nat.le_refl _⟩⟩, ⟨rfl, okAll rfl, by show (m + 1) * 24 ≤ 140737488355328; omega, by show m + 1 ≤ 9223372036854775807; omega⟩, (k - 1, r4, ds ++ [[inTop [109, 97, 105, 108]]]), ⟨by dsimp only; omega, by dsimp only; omega, by dsimp only; omega, by dsimp only; omega, h5 _, hall _ (by simp)⟩, by dsimp only; omega, (Sbs.cut 6 rfl).trans (Sbs.mk rfl (hrows (by subst hΩ; rfl) (by subst hΩ; rfl)) ⟨rfl, rfl, rfl, decI hΩ (by omega) (by omega), rfl, trivial⟩)⟩
        · refine ⟨⟨by subst hΩ; exact ⟨rfl, Nat.le_refl _⟩⟩, ⟨rfl, okAll rfl, by show (m + 1) * 24 ≤ 140737488355328; omega, by show m + 1 ≤ 9223372036854775807; omega⟩, (k - 1, r4, ds ++ [[⟨t1n, ⟨t1a, t1b, t1c⟩, ⟨t1d, t1e, t1f⟩⟩]]), ⟨by dsimp only; omega, by dsimp only; omega, by dsimp only; omega, by dsimp only; omega, h5 _, hall _ (by simp)⟩, by dsimp only; omega, (Sbs.cut 6 rfl).trans (Sbs.mk rfl (hrows (by subst hΩ; rfl) (by subst hΩ; rfl)) ⟨rfl, rfl, rfl, decI hΩ (by omega) (by omega), rfl, trivial⟩)⟩
    · have hk := gtI_f hΩ hk
      refine call_dr false hΩ 3 (hC _ _ (by omega) (by omega) (by omega)) rfl rfl rfl (fun r5 x r5a r5b ⟨c3, hx⟩ => ?_)
      subst hx
      cbv
      refine br (fun hc3 => ?_) (fun hc3 => ?_) <;> cbv
      · refine ⟨VC_lent htab hΩ hmo [0, 1] [2, 3, 4] [5, 6, 7] [2, 4, 5] [3] (by kernel_rfl) ?_⟩
        cbv
        intro vs
        cbv
        refine call_dr false hΩ 3 (hl1Term _ (by omega) (by omega)) rfl rfl rfl (fun r6 x r6a r6b ⟨t3, hx⟩ => ?_)
        obtain ⟨t3n, ⟨t3a, t3b, t3c⟩, ⟨t3d, t3e, t3f⟩⟩ := t3
        subst hx
        cbv
        exact ⟨⟨Nat.le_refl _, fun y hy => List.all_eq_true.1 (show List.all _ noOwn = true from rfl) y hy, okAll rfl, by decide, by decide⟩, ⟨rfl, Nat.le_refl _⟩, ⟨rfl, by show m ≤ (F ds).length; omega⟩, ⟨rfl, by subst hΩ; exact Nat.le_refl _⟩, _, _,
          fit_pack (o := ⟨nm, ⟨Ω.ar .add .i64 1 va, 0, 0⟩, Ω.ar .add .i64 1 sz, [], ds, [⟨t3n, ⟨t3a, t3b, t3c⟩, ⟨t3d, t3e, t3f⟩⟩]⟩) (.inl (by subst hΩ; rfl)) (.inl hFdi) (.inl (by subst hΩ; rfl)), .same, ⟨r6, by omega, by omega, rfl, _, rfl, ⟨Nat.le_of_ble_eq_true rfl, hds, Nat.le_of_ble_eq_true rfl, i6⟩⟩, rfl⟩
      · exact ⟨⟨rfl, Nat.le_refl _⟩, ⟨rfl, by show m ≤ (F ds).length; omega⟩, _, _,
          fit_pack (o := ⟨nm, ⟨Ω.ar .add .i64 1 va, 0, 0⟩, Ω.ar .add .i64 1 sz, [], ds, []⟩) (.inl (by subst hΩ; rfl)) (.inl hFdi) (.inr ⟨rfl, rfl⟩), .same, ⟨r5, by omega, by omega, rfl, _, rfl, ⟨Nat.le_of_ble_eq_true rfl, hds, Nat.le_of_ble_eq_true rfl, i6⟩⟩, rfl⟩

theorem fitL_snoc {k : Nat} {x y : A} (h2 : fitA k x y) : ∀ {xs ys : List A}, fitA.fitL k xs ys → fitA.fitL k (xs ++ [x]) (ys ++ [y])
  | [], [], _ => ⟨h2, trivial⟩
  | a :: xs, b :: ys, h => ⟨h.1, fitL_snoc h2 h.2⟩
theorem tkl {Ω : Opq} (hΩ : Ω = std) (xs : List A) : Ω.take (Ω.len xs) xs = xs := by subst hΩ; exact List.take_length
theorem tka {Ω : Opq} (hΩ : Ω = std) (xs ys : List A) : Ω.take (Ω.plus (Ω.len xs) (Ω.len ys)) (Ω.app (Ω.take (Ω.len xs) xs) ys) = xs ++ ys := by
  subst hΩ; show List.take (xs.length + ys.length) (List.take xs.length xs ++ ys) = _
  rw [List.take_length, List.take_of_length_le (by simp)]
theorem d_l2BentPack {bs : List A} (hb : Src bs) (p : Int) (h0 : 0 ≤ p) (h1 : p + 100 ≤ 1099511627776) : XCtr PP n_spec_l2BentPack [src bs p] (DR bs p 100 [] fun x => ∃ o : Pck, x = o.enc true ∧ o.Tiny2) := by
  obtain ⟨Ω, hΩ⟩ : ∃ Ω, Ω = std := ⟨_, rfl⟩
  have hN := fun p n a b c => d_l1Next hb p n a b c
  have hP := fun p ns a b c d => d_l1Pick hb p ns a b c d
  have hl2Pack := fun p a b => d_l2Pack hb p a b
  have hl1BentName := fun p a b => d_l1BentName hb p a b
  have hl1BentVersion := fun p a b => d_l1BentVersion hb p a b
  have hl1BentTerm := fun p a b => d_l1BentTerm hb p a b
  have htab := tab
  have hmo := hmo
  refine XCtr.walkO tab hΩ 3 fn_spec_l2BentPack rfl rfl ?_
  generalize PP = P at *
  cbv
  refine call_dr false hΩ 3 (hl2Pack _ (by omega) (by omega)) rfl rfl rfl (fun q1 x q1a q1b ⟨o, hx, ht⟩ => ?_)
  subst hx
  obtain ⟨ps, ds, es, hen, hps, hds, hes⟩ := enc_own o
  have hpl : ps.length = o.p.length := by rw [hps, List.length_map]
  have hdl : ds.length = o.d.length := by rw [hds, List.length_map]
  have hel : es.length = o.b.length := by rw [hes, List.length_map]
  have hp8 := ht.p
  have hd8 := ht.d
  have hb8 := ht.b
  have he8 := ht.e
  have he16 : ∀ l ∈ o.d, l.length ≤ 16 := fun l hl => by have := he8 l hl; omega
  have hP2 : ∀ a b, A.sl true 1 (Ω.take (Ω.plus (Ω.len ps) (Ω.len [str a, str b])) (Ω.app (Ω.take (Ω.len ps) ps) [str a, str b])) = .sl true 1 ((o.p ++ [a, b]).map str) := fun a b => by rw [tka hΩ, hps, List.map_append]; rfl
  have hD2 : ∀ (X : A) (l : List Trm), X = encTs true l → A.sl true 1 (Ω.take (Ω.plus (Ω.len ds) (Ω.len [X])) (Ω.app (Ω.take (Ω.len ds) ds) [X])) = .sl true 1 ((o.d ++ [l]).map (encTs true)) := fun X l h => by rw [tka hΩ, hds, List.map_append, h]; rfl
  have hD3 : fitA 2 (A.sl true 1 (Ω.take (Ω.plus (Ω.len ds) (Ω.len [.nil])) (Ω.app (Ω.take (Ω.len ds) ds) [.nil]))) (.sl true 1 ((o.d ++ [[]]).map (encTs true))) := by
    rw [tka hΩ, hds, List.map_append]
    exact ⟨rfl, rfl, fitL_snoc (k := 1) (x := .nil) (y := encTs true []) rfl (fits _)⟩
  have hE2 : ∀ (t : Trm), A.sl true 7 (Ω.take (Ω.plus (Ω.len es) (Ω.len [t.enc])) (Ω.app (Ω.take (Ω.len es) es) [t.enc])) = .sl true 7 ((o.b ++ [t]).map Trm.enc) := fun t => by rw [tka hΩ, hes, List.map_append]; rfl
  have he17 : ∀ l : List Trm, l.length ≤ 16 → ∀ l' ∈ o.d ++ [l], l'.length ≤ 16 := fun l h l' hl => by
    rcases List.mem_append.1 hl with h1 | h1
    · exact he16 _ h1
    · rw [List.mem_singleton.1 h1]; exact h
  have hXp : A.sl true 1 (Ω.take (Ω.len ps) ps) = .sl true 1 (o.p.map str) := by rw [tkl hΩ, hps]
  have hXd : A.sl true 1 (Ω.take (Ω.len ds) ds) = .sl true 1 (o.d.map (encTs true)) := by rw [tkl hΩ, hds]
  have hXe : A.sl true 7 (Ω.take (Ω.len es) es) = .sl true 7 (o.b.map Trm.enc) := by rw [tkl hΩ, hes]
  have hlp : Ω.len ps = o.p.length := by subst hΩ; exact hpl
  have hld : Ω.len ds = o.d.length := by subst hΩ; exact hdl
  have hle : Ω.len es = o.b.length := by subst hΩ; exact hel
  rw [hen]
  cbv
  refine call_dr false hΩ 3 (hN _ 24 (by omega) (by omega) (by omega)) rfl rfl rfl (fun q2 x q2a q2b ⟨sw, hx, hsw⟩ => ?_)
  subst hx
  cbv
  refine br (fun hs => ?_) (fun hs => ?_) <;> cbv
  · refine call_dr false hΩ 3 (hl1BentName _ (by omega) (by omega)) rfl rfl rfl (fun q3 x q3a q3b ⟨nm, hx⟩ => ?_)
    subst hx
    cbv
    exact ⟨⟨rfl, by subst hΩ; exact Nat.le_refl _⟩, ⟨rfl, by subst hΩ; exact Nat.le_refl _⟩, ⟨rfl, by subst hΩ; exact Nat.le_refl _⟩, _, _, fit_pack (o := ⟨nm, o.v, o.s, o.p, o.d, o.b⟩) (.inl hXp) (.inl hXd) (.inl hXe), .same, ⟨q3, by omega, by omega, rfl, _, rfl, ⟨by show o.p.length ≤ 16; omega, by show o.d.length ≤ 16; omega, by show o.b.length ≤ 16; omega, he16⟩⟩, rfl⟩
  refine br (fun hs => ?_) (fun hs => ?_) <;> cbv
  · refine call_dr false hΩ 3 (hl1BentVersion _ (by omega) (by omega)) rfl rfl rfl (fun q3 x q3a q3b ⟨v, hx⟩ => ?_)
    obtain ⟨va, vb, vc⟩ := v
    subst hx
    cbv
    exact ⟨⟨rfl, by subst hΩ; exact Nat.le_refl _⟩, ⟨rfl, by subst hΩ; exact Nat.le_refl _⟩, ⟨rfl, by subst hΩ; exact Nat.le_refl _⟩, _, _, fit_pack (o := ⟨o.n, ⟨va, vb, vc⟩, o.s, o.p, o.d, o.b⟩) (.inl hXp) (.inl hXd) (.inl hXe), .same, ⟨q3, by omega, by omega, rfl, _, rfl, ⟨by show o.p.length ≤ 16; omega, by show o.d.length ≤ 16; omega, by show o.b.length ≤ 16; omega, he16⟩⟩, rfl⟩
  refine br (fun hs => ?_) (fun hs => ?_) <;> cbv
  · refine call_pick (ns := [0, 200, 201]) hΩ (hP _ _ (by omega) (by omega) (Nat.zero_lt_succ _) (Nat.le_of_ble_eq_true rfl)) rfl rfl rfl rfl (by decide) (fun q3 sz q3a q3b hsz => ?_)
    cbv
    exact ⟨⟨rfl, by subst hΩ; exact Nat.le_refl _⟩, ⟨rfl, by subst hΩ; exact Nat.le_refl _⟩, ⟨rfl, by subst hΩ; exact Nat.le_refl _⟩, _, _, fit_pack (o := ⟨o.n, o.v, sz, o.p, o.d, o.b⟩) (.inl hXp) (.inl hXd) (.inl hXe), .same, ⟨q3, by omega, by omega, rfl, _, rfl, ⟨by show o.p.length ≤ 16; omega, by show o.d.length ≤ 16; omega, by show o.b.length ≤ 16; omega, he16⟩⟩, rfl⟩
  refine br (fun hs => ?_) (fun hs => ?_) <;> cbv
  · refine ⟨VC_lent htab hΩ hmo [0, 1, 4, 5] [2, 3, 6] [7, 8, 9] [5, 2, 3, 4] [3, 27] (by kernel_rfl) ?_⟩
    cbv
    intro vs
    cbv
    refine call_dr false hΩ 3 (hl1BentName _ (by omega) (by omega)) rfl rfl rfl (fun q3 x q3a q3b ⟨nm, hx⟩ => ?_)
    subst hx
    cbv
    exact ⟨⟨rfl, okAll rfl, by show (Ω.len ps + 2) * 16 ≤ _; rw [hlp]; omega, by show Ω.len ps + 2 ≤ 9223372036854775807; rw [hlp]; omega⟩, ⟨rfl, by subst hΩ; show ps.length + _ ≤ (List.take ps.length ps ++ _).length; rw [List.take_length, List.length_append]; exact Nat.le_refl _⟩, ⟨rfl, by subst hΩ; exact Nat.le_refl _⟩, ⟨rfl, by subst hΩ; exact Nat.le_refl _⟩, _, _, fit_pack (o := ⟨o.n, o.v, o.s, o.p ++ [nm, o.n], o.d, o.b⟩) (.inl (hP2 nm o.n)) (.inl hXd) (.inl hXe), .same, ⟨q3, by omega, by omega, rfl, _, rfl, ⟨by show (o.p ++ [nm, o.n]).length ≤ 16; simp; omega, by show o.d.length ≤ 16; omega, by show o.b.length ≤ 16; omega, he16⟩⟩, rfl⟩
  refine br (fun hs => ?_) (fun hs => ?_) <;> cbv
  · exact ⟨⟨rfl, okAll rfl, by show (Ω.len ds + 1) * 24 ≤ _; rw [hld]; omega, by show Ω.len ds + 1 ≤ 9223372036854775807; rw [hld]; omega⟩, ⟨rfl, by subst hΩ; exact Nat.le_refl _⟩, ⟨rfl, by subst hΩ; show ds.length + _ ≤ (List.take ds.length ds ++ _).length; rw [List.take_length, List.length_append]; exact Nat.le_refl _⟩, ⟨rfl, by subst hΩ; exact Nat.le_refl _⟩, _, _, fit_pack (o := ⟨o.n, o.v, o.s, o.p, o.d ++ [[]], o.b⟩) (.inl hXp) (.inr (.inr hD3)) (.inl hXe), .same, ⟨q2, by omega, by omega, rfl, _, rfl, ⟨by show o.p.length ≤ 16; omega, by show (o.d ++ [[]]).length ≤ 16; simp; omega, by show o.b.length ≤ 16; omega, he17 [] (by simp)⟩⟩, rfl⟩
  refine br (fun hs => ?_) (fun hs => ?_) <;> cbv
  · refine ⟨VC_lent htab hΩ hmo [0, 1, 4] [2, 3, 5, 6, 7] [8, 9, 10] [5, 2, 3, 4] [3, 45] (by kernel_rfl) ?_⟩
    cbv
    intro vs
    cbv
    refine call_dr false hΩ 3 (hl1BentTerm _ (by omega) (by omega)) rfl rfl rfl (fun q3 x q3a q3b ⟨t1, hx⟩ => ?_)
    obtain ⟨t1n, ⟨t1a, t1b, t1c⟩, ⟨t1d, t1e, t1f⟩⟩ := t1
    subst hx
    cbv
    refine call_dr false hΩ 3 (hl1BentTerm _ (by omega) (by omega)) rfl rfl rfl (fun q4 x q4a q4b ⟨t2, hx⟩ => ?_)
    obtain ⟨t2n, ⟨t2a, t2b, t2c⟩, ⟨t2d, t2e, t2f⟩⟩ := t2
    subst hx
    cbv
    exact ⟨⟨rfl, by subst hΩ; exact Nat.le_refl _⟩, ⟨rfl, okAll rfl, by show (Ω.len ds + 1) * 24 ≤ _; rw [hld]; omega, by show Ω.len ds + 1 ≤ 9223372036854775807; rw [hld]; omega⟩, ⟨rfl, by subst hΩ; exact Nat.le_refl _⟩, ⟨rfl, by subst hΩ; show ds.length + _ ≤ (List.take ds.length ds ++ _).length; rw [List.take_length, List.length_append]; exact Nat.le_refl _⟩, ⟨rfl, by subst hΩ; exact Nat.le_refl _⟩, _, _, fit_pack (o := ⟨o.n, o.v, o.s, o.p, o.d ++ [[(⟨t1n, ⟨t1a, t1b, t1c⟩, ⟨t1d, t1e, t1f⟩⟩ : Trm), (⟨t2n, ⟨t2a, t2b, t2c⟩, ⟨t2d, t2e, t2f⟩⟩ : Trm)]], o.b⟩) (.inl hXp) (.inl (hD2 _ [(⟨t1n, ⟨t1a, t1b, t1c⟩, ⟨t1d, t1e, t1f⟩⟩ : Trm), (⟨t2n, ⟨t2a, t2b, t2c⟩, ⟨t2d, t2e, t2f⟩⟩ : Trm)] (by subst hΩ; rfl))) (.inl hXe), .same, ⟨q4, by omega, by omega, rfl, _, rfl, ⟨by show o.p.length ≤ 16; omega, by show (o.d ++ [_]).length ≤ 16; simp; omega, by show o.b.length ≤ 16; omega, he17 _ (Nat.le_of_ble_eq_true rfl)⟩⟩, rfl⟩
  refine br (fun hs => ?_) (fun hs => ?_) <;> cbv
  · refine ⟨VC_lent htab hΩ hmo [0, 1] [2, 3, 4] [5, 6, 7] [5, 2, 3, 4] [3, 57] (by kernel_rfl) ?_⟩
    cbv
    intro vs
    cbv
    refine call_dr false hΩ 3 (hl1BentTerm _ (by omega) (by omega)) rfl rfl rfl (fun q3 x q3a q3b ⟨t1, hx⟩ => ?_)
    obtain ⟨t1n, ⟨t1a, t1b, t1c⟩, ⟨t1d, t1e, t1f⟩⟩ := t1
    subst hx
    cbv
    exact ⟨⟨rfl, okAll rfl, by show (Ω.len es + 1) * 64 ≤ _; rw [hle]; omega, by show Ω.len es + 1 ≤ 9223372036854775807; rw [hle]; omega⟩, ⟨rfl, by subst hΩ; exact Nat.le_refl _⟩, ⟨rfl, by subst hΩ; exact Nat.le_refl _⟩, ⟨rfl, by subst hΩ; show es.length + _ ≤ (List.take es.length es ++ _).length; rw [List.take_length, List.length_append]; exact Nat.le_refl _⟩, _, _, fit_pack (o := ⟨o.n, o.v, o.s, o.p, o.d, o.b ++ [(⟨t1n, ⟨t1a, t1b, t1c⟩, ⟨t1d, t1e, t1f⟩⟩ : Trm)]⟩) (.inl hXp) (.inl hXd) (.inl (hE2 (⟨t1n, ⟨t1a, t1b, t1c⟩, ⟨t1d, t1e, t1f⟩⟩ : Trm))), .same, ⟨q3, by omega, by omega, rfl, _, rfl, ⟨by show o.p.length ≤ 16; omega, by show o.d.length ≤ 16; omega, by show (o.b ++ [_]).length ≤ 16; simp; omega, he16⟩⟩, rfl⟩
  refine br (fun hs => ?_) (fun hs => ?_) <;> cbv
  · exact ⟨⟨rfl, by decide, by decide, by decide⟩, ⟨rfl, by subst hΩ; exact Nat.le_refl _⟩, ⟨rfl, by subst hΩ; exact Nat.le_refl _⟩, ⟨rfl, by subst hΩ; exact Nat.le_refl _⟩, _, _, fit_pack (o := ⟨o.n, o.v, o.s, o.p, o.d, (List.replicate 5 Trm.zero)⟩) (.inl hXp) (.inl hXd) (.inl (by subst hΩ; rfl)), .same, ⟨q2, by omega, by omega, rfl, _, rfl, ⟨by show o.p.length ≤ 16; omega, by show o.d.length ≤ 16; omega, Nat.le_of_ble_eq_true rfl, he16⟩⟩, rfl⟩
  refine br (fun hs => ?_) (fun hs => ?_) <;> cbv
  · refine ⟨VC_lent htab hΩ hmo [0, 1] [2, 3] [4, 5, 6] [5, 2, 3, 4] [3, 70] (by kernel_rfl) ?_⟩
    cbv
    intro vs
    cbv
    exact ⟨⟨rfl, by decide, by decide, by decide⟩, ⟨rfl, by subst hΩ; exact Nat.le_refl _⟩, ⟨rfl, okAll rfl, by show (Ω.len ds + 1) * 24 ≤ _; rw [hld]; omega, by show Ω.len ds + 1 ≤ 9223372036854775807; rw [hld]; omega⟩, ⟨rfl, by subst hΩ; exact Nat.le_refl _⟩, ⟨rfl, by subst hΩ; show ds.length + _ ≤ (List.take ds.length ds ++ _).length; rw [List.take_length, List.length_append]; exact Nat.le_refl _⟩, ⟨rfl, by subst hΩ; exact Nat.le_refl _⟩, _, _, fit_pack (o := ⟨o.n, o.v, o.s, o.p, o.d ++ [(List.replicate 5 Trm.zero)], o.b⟩) (.inl hXp) (.inl (hD2 _ (List.replicate 5 Trm.zero) (by subst hΩ; rfl))) (.inl hXe), .same, ⟨q2, by omega, by omega, rfl, _, rfl, ⟨by show o.p.length ≤ 16; omega, by show (o.d ++ [_]).length ≤ 16; simp; omega, by show o.b.length ≤ 16; omega, he17 _ (Nat.le_of_ble_eq_true rfl)⟩⟩, rfl⟩
  exact ⟨⟨rfl, by subst hΩ; exact Nat.le_refl _⟩, ⟨rfl, by subst hΩ; exact Nat.le_refl _⟩, ⟨rfl, by subst hΩ; exact Nat.le_refl _⟩, _, _, fit_pack (o := o) (.inl hXp) (.inl hXd) (.inl hXe), .same, ⟨q2, by omega, by omega, rfl, _, rfl, ⟨by show o.p.length ≤ 16; omega, by show o.d.length ≤ 16; omega, by show o.b.length ≤ 16; omega, he16⟩⟩, rfl⟩
end Go.Proofs.Ytfacpamkigmlaaa

/- Walks: sizes of packages. Plain theorems. -/
set_option linter.unusedVariables false
set_option linter.unusedSimpArgs false
namespace Go.Proofs.Ytfacpamkigmlaaa
open Go Go.Fw
set_option maxRecDepth 100000
def szN (n : Nat) (l : Int) : Int := if l - n < 0 then -1 else l - n
def szT (t : Trm) (l : Int) : Int := szN t.n.length l
def costS {α : Type} (g : α → Nat) (cs : List α) : Nat := cs.length + (cs.map g).sum
def cT (t : Trm) : Nat := t.n.length
def cB (s : List UInt8) : Nat := s.length
def cP (o : Pck) : Nat := o.n.length + (costS cB o.p + (costS (costS cT) o.d + costS cT o.b))
end Go.Proofs.Ytfacpamkigmlaaa

/- Walks: the marks' text. Plain theorems. -/
set_option linter.unusedVariables false
set_option linter.unusedSimpArgs false
namespace Go.Proofs.Ytfacpamkigmlaaa
open Go Go.Fw
set_option maxRecDepth 100000
def mkL (k : Nat) (out : List UInt8) : List UInt8 := if k = 0 then out else mkL (k / 10) (UInt8.ofNat (48 + k % 10) :: out)
termination_by k
decreasing_by omega
end Go.Proofs.Ytfacpamkigmlaaa

/- Walks: draws of catalogs. Plain theorems. -/
set_option linter.unusedVariables false
set_option linter.unusedSimpArgs false
namespace Go.Proofs.Ytfacpamkigmlaaa
open Go Go.Fw
set_option maxRecDepth 100000
theorem frz_encP (o : Pck) : fzA true (o.enc true) = o.enc false := frz_Pck o
theorem encF (o : Pck) : frz (o.enc false) = o.enc false := by
  show frz (.agg _) = A.agg _
  rw [frz_agg]
  have h1 : (o.p.map str).map frz = o.p.map str := by rw [List.map_map]; exact List.map_congr_left fun c _ => rfl
  have h2 : (o.d.map (encTs false)).map frz = o.d.map (encTs false) := by
    rw [List.map_map]
    refine List.map_congr_left fun c _ => ?_
    show frz (A.sl false 7 _) = A.sl false 7 _
    rw [frz_sl, List.map_map]; rfl
  have h3 : (o.b.map Trm.enc).map frz = o.b.map Trm.enc := by rw [List.map_map]; exact List.map_congr_left fun c _ => rfl
  simp only [Pck.cells, List.map_cons, List.map_nil, frz_sl, h1, h2, h3]
  rfl
theorem fitL_rep {k : Nat} {x y : A} (h : fitA k x y) : ∀ n : Nat, fitA.fitL k (List.replicate n x) (List.replicate n y)
  | 0 => trivial
  | n + 1 => ⟨h, fitL_rep h n⟩
theorem fit25 {Ω : Opq} (hΩ : Ω = std) : FitX (.sl true 8 (Ω.take (Ω.nat 25) (Ω.rep (Ω.nat 25) (.agg [str [], i64 0, i64 0, i64 0, i64 0, .nil, .nil, .nil])))) (.sl true 8 ((List.replicate 25 (⟨[], Ver.zero, 0, [], [], []⟩ : Pck)).map (Pck.enc false))) := by
  subst hΩ
  refine ⟨3, rfl, rfl, ?_⟩
  show fitA.fitL 2 (List.take 25 (List.replicate 25 _)) _
  rw [List.take_of_length_le (by simp), List.map_replicate]
  exact fitL_rep (k := 2) (x := .agg [str [], i64 0, i64 0, i64 0, i64 0, .nil, .nil, .nil]) (y := .agg [str [], i64 0, i64 0, i64 0, i64 0, .sl false 1 [], .sl false 1 [], .sl false 7 []]) ⟨rfl, rfl, rfl, rfl, rfl, rfl, rfl, rfl, trivial⟩ 25
theorem encP_frz (l : List Pck) : (l.map (Pck.enc false)).map frz = l.map (Pck.enc false) := by rw [List.map_map]; exact List.map_congr_left fun o _ => encF o
theorem d_l2Catalog {bs : List A} (hb : Src bs) (p : Int) (h0 : 0 ≤ p) (h1 : p + 900 ≤ 1099511627776) : XCtr PP n_spec_l2Catalog [src bs p] (DR bs p 900 [] fun x => ∃ l : List Pck, x = .sl true 8 (l.map (Pck.enc false)) ∧ (∀ o ∈ l, o.Small) ∧ l.length ≤ 40) := by
  obtain ⟨Ω, hΩ⟩ : ∃ Ω, Ω = std := ⟨_, rfl⟩
  have hfd : ∀ l : List Pck, l.length ≤ 1048576 → ∀ (n : List UInt8) (v : Ver), ∃ r, PCtr PP n_spec_l2Find [encP l, str n, v.enc] (i64 r) := fun l h n v => ⟨_, c_l2Find l n v h⟩
  unfold encP at hfd
  have hN := fun p n a b c => d_l1Next hb p n a b c
  have hP := fun p ns a b c d => d_l1Pick hb p ns a b c d
  have hl2Pack := fun p a b => d_l2Pack hb p a b
  have hl2BentPack := fun p a b => d_l2BentPack hb p a b
  have htab := tab
  have hmo := hmo
  refine XCtr.walkO tab hΩ 3 fn_spec_l2Catalog rfl rfl ?_
  generalize PP = P at *
  cbv
  refine call_dr false hΩ 3 (hN _ 12 (by omega) (by omega) (by omega)) rfl rfl rfl (fun q1 x q1a q1b ⟨r7, hx, hr7⟩ => ?_)
  subst hx
  cbv
  refine call_pick (ns := [3, 4, 5, 6, 7, 8, r7]) hΩ (hP _ _ (by omega) (by omega) (Nat.zero_lt_succ _) (Nat.le_of_ble_eq_true rfl)) rfl rfl rfl rfl (by decide) (fun q2 n q2a q2b hn => ?_)
  replace hn : 0 ≤ n ∧ n ≤ 11 := by
    have := hr7.2 (by omega)
    simp at hn
    omega
  cbv
  obtain ⟨F, hF⟩ : ∃ F : List Pck → List A, F = fun l => l.map (Pck.enc false) := ⟨_, rfl⟩
  have hF0 : F [] = [] := by rw [hF]; rfl
  have hFl : ∀ l, (F l).length = l.length := fun l => by rw [hF]; exact List.length_map _
  have hFz : ∀ l, (F l).map frz = F l := fun l => by rw [hF]; exact encP_frz l
  have hFs : ∀ (l : List Pck) (o : Pck), Ω.app (Ω.take l.length (F l)) [o.enc false] = F (l ++ [o]) := fun l o => by
    subst hΩ; rw [hF]; show List.take l.length (List.map (Pck.enc false) l) ++ _ = List.map (Pck.enc false) (l ++ [o])
    rw [List.map_append, List.take_of_length_le (by simp)]; rfl
  have hFm : ∀ l, F l = l.map (Pck.enc false) := fun l => by rw [hF]
  clear hF
  replace hfd : ∀ l : List Pck, l.length ≤ 1048576 → ∀ (n : List UInt8) (v : Ver), ∃ r, PCtr P n_spec_l2Find [.sl false 8 (F l), str n, v.enc] (i64 r) := fun l h n v => by rw [hFm]; exact hfd l h n v
  refine loopX htab hΩ (fun i : Int × Int × List Pck => ⟨[(0, .pt 0 0 0), (3, .vw 1 0 i.2.2.length), (4, i64 i.1), (53, .pt 0 0 0)], 53, [some ⟨2, [.agg [.sl false 1 bs, i64 i.2.1]], true⟩, some ⟨8, F i.2.2, false⟩]⟩)
    (fun i => 0 ≤ i.1 ∧ i.1 ≤ 11 ∧ p ≤ i.2.1 ∧ i.2.1 + 60 * i.1 ≤ p + 700 ∧ (i.2.2.length : Int) + i.1 ≤ 11 ∧ ∀ o ∈ i.2.2, o.Small) (fun i => i.1.toNat) (n, q2, [])
    ⟨by dsimp only; omega, by dsimp only; omega, by dsimp only; omega, by dsimp only; omega, by show ((0 : Nat) : Int) + n ≤ 11; omega, by simp⟩ ((Sbs.cut 2 rfl).trans (Sbs.mk rfl (by show _ = [_, some (Row.mk 8 (F []) false)]; rw [hF0]; rfl) ⟨rfl, rfl, rfl, rfl, trivial⟩)) ?_
  rintro ⟨k, q, l⟩ ⟨i1, i2, i3, i4, i5, i6⟩
  dsimp only at i1 i2 i3 i4 i5 i6
  have hFli := hFl l
  have hFzi := hFz l
  obtain ⟨m, hm⟩ : ∃ m, l.length = m := ⟨_, rfl⟩
  have hfi := hfd l (by omega)
  have hrows : ∀ {R0 : Option Row} {X : A} {o : Pck}, X = o.enc false → [R0, some (Row.mk 8 (Ω.app (Ω.take m (F l)) [X]) false)] = [R0, some (Row.mk 8 (F (l ++ [o])) false)] := fun {R0 X o} h => by rw [h, ← hm, hFs]
  have hvw : ∀ {X : A} {o : Pck}, A.vw 1 0 (Ω.plus m (Ω.len [X])) = .vw 1 0 (l ++ [o]).length := fun {X o} => by subst hΩ; rw [List.length_append, hm]; rfl
  have hall : ∀ o : Pck, o.Small → ∀ o' ∈ l ++ [o], o'.Small := fun o h o' ho => by
    rcases List.mem_append.1 ho with h1 | h1
    · exact i6 o' h1
    · rw [List.mem_singleton.1 h1]; exact h
  have hFe : A.sl true 8 (Ω.take m (F l)) = .sl true 8 (l.map (Pck.enc false)) := by rw [← hFm, ← hm]; subst hΩ; exact congrArg _ (List.take_of_length_le (by rw [hFl]; exact Nat.le_refl _))
  have hlm : l.length ≤ 11 := by omega
  have h6 : (l.length : Int) + (k - 1) ≤ 11 := by omega
  have hl40 : ∀ o : Pck, (l ++ [o]).length ≤ 40 := fun o => by rw [List.length_append, List.length_singleton]; omega
  have hl41 : l.length ≤ 40 := by omega
  have hle1 : m ≤ (F l).length := by rw [hFl]; omega
  have hle2 : ∀ {X : A}, Ω.plus m (Ω.len [X]) ≤ (Ω.app (Ω.take m (F l)) [X]).length := fun {X} => by
    subst hΩ; show m + 1 ≤ (List.take m (F l) ++ [X]).length
    rw [List.take_of_length_le (by rw [hFl]; omega), List.length_append, hFl]; show m + 1 ≤ l.length + 1; omega
  have hFe2 : ∀ {X : A} {o : Pck}, X = o.enc false → A.sl true 8 (Ω.take (Ω.plus m (Ω.len [X])) (Ω.app (Ω.take m (F l)) [X])) = .sl true 8 ((l ++ [o]).map (Pck.enc false)) := fun {X o} h => by
    rw [h, ← hm, hFs, ← hFm]; subst hΩ; exact congrArg _ (List.take_of_length_le (by rw [hFl, List.length_append]; exact Nat.le_refl _))
  have hpos : 0 < Ω.int m → 0 < l.length := fun h => by subst hΩ; have h : (0 : Int) < (m : Int) := h; omega
  have hpos2 : 0 < Ω.int m → 0 < (m : Int) := fun h => by subst hΩ; exact h
  have hat : ∀ {o : Pck}, l[0]? = some o → (F l)[Ω.plus 0 (Ω.nat 0)]? = some (o.enc false) := fun {o} h => by
    subst hΩ; show (F l)[0]? = _; rw [hFm, List.getElem?_map, h]; rfl
  have h5 : ∀ o : Pck, ((l ++ [o]).length : Int) + (k - 1) ≤ 11 := fun o => by rw [List.length_append, List.length_singleton]; omega
  rw [hm] at hFli i5 hlm ⊢
  cbv
  refine br (fun hk => ?_) (fun hk => ?_) <;> cbv
  · have hk := gtI_t hΩ hk
    refine call_dr true hΩ 3 (hl2Pack _ (by omega) (by omega)) rfl rfl rfl (fun q3 x q3a q3b ⟨o, hx, ht⟩ => ?_)
    rw [show fzA true x = Pck.enc false o by rw [hx]; exact frz_encP o]
    clear hx
    obtain ⟨op, od, ob, oh, o1, o2, o3⟩ := enc_raw o
    rw [oh]
    cbv
    obtain ⟨fr, hfr⟩ := hfi o.n o.v
    refine call_pure hΩ 3 hfr (mapO3 (ro_vw rfl hFli.symm hFzi) rfl rfl) (fits _) rfl rfl ?_
    cbv
    refine br (fun hf => ?_) (fun hf => ?_) <;> cbv
    · exact ⟨⟨rfl, okAll rfl, by show (m + 1) * 120 ≤ 140737488355328; omega, by show m + 1 ≤ 9223372036854775807; omega⟩, (k - 1, q3, l ++ [o]), ⟨by dsimp only; omega, by dsimp only; omega, by dsimp only; omega, by dsimp only; omega, h5 o, hall o ht.two.small⟩, by dsimp only; omega, (Sbs.cut 2 rfl).trans (Sbs.mk rfl (hrows oh.symm) ⟨rfl, hvw, decI hΩ (by omega) (by omega), rfl, trivial⟩)⟩
    · exact ⟨(k - 1, q3, l), ⟨by dsimp only; omega, by dsimp only; omega, by dsimp only; omega, by dsimp only; omega, h6, i6⟩, by dsimp only; omega, (Sbs.cut 2 rfl).trans (Sbs.mk rfl rfl ⟨rfl, congrArg (A.vw 1 0) hm.symm, decI hΩ (by omega) (by omega), rfl, trivial⟩)⟩
  · have hk := gtI_f hΩ hk
    refine call_dr false hΩ 3 (hN _ 40 (by omega) (by omega) (by omega)) rfl rfl rfl (fun q3 x q3a q3b ⟨sw, hx, hsw⟩ => ?_)
    subst hx
    cbv
    refine br (fun hs => ?_) (fun hs => ?_) <;> cbv
    · refine call_dr true hΩ 3 (hl2BentPack _ (by omega) (by omega)) rfl rfl rfl (fun q4 x q4a q4b ⟨o, hx, ht⟩ => ?_)
      rw [show fzA true x = Pck.enc false o by rw [hx]; exact frz_encP o]
      clear hx
      obtain ⟨op, od, ob, oh, o1, o2, o3⟩ := enc_raw o
      rw [oh]
      cbv
      exact ⟨⟨rfl, okAll rfl, by show (m + 1) * 120 ≤ 140737488355328; omega, by show m + 1 ≤ 9223372036854775807; omega⟩, ⟨rfl, hle2⟩, _, _, .of (hFe2 oh.symm), .same, ⟨q4, by omega, by omega, rfl, l ++ [o], rfl, hall o ht.small, hl40 o⟩, rfl⟩
    refine br (fun hs => ?_) (fun hs => ?_) <;> cbv
    · refine br (fun hz => ?_) (fun hz => ?_) <;> cbv
      · have hz := gtI_t hΩ hz
        obtain ⟨o, ho⟩ := at_of (cs := l) (i := 0) (hpos hz)
        obtain ⟨op, od, ob, oh, o1, o2, o3⟩ := enc_raw o
        refine ⟨⟨Int.le_refl _, hpos2 hz⟩, _, (hat ho).trans (congrArg some oh), ?_⟩
        cbv
        exact ⟨⟨rfl, okAll rfl, by show (m + 1) * 120 ≤ 140737488355328; omega, by show m + 1 ≤ 9223372036854775807; omega⟩, ⟨rfl, hle2⟩, _, _, .of (hFe2 oh.symm), .same, ⟨q3, by omega, by omega, rfl, l ++ [o], rfl, hall o (i6 o (List.mem_of_getElem? ho)), hl40 o⟩, rfl⟩
      · exact ⟨⟨rfl, hle1⟩, _, _, .of hFe, .same, ⟨q3, by omega, by omega, rfl, l, rfl, i6, hl41⟩, rfl⟩
    refine br (fun hs => ?_) (fun hs => ?_) <;> cbv
    · exact ⟨⟨rfl, by decide, by decide, by decide⟩, ⟨rfl, by subst hΩ; exact Nat.le_refl _⟩, _, _, fit25 hΩ, .same, ⟨q3, by omega, by omega, rfl, List.replicate 25 ⟨[], Ver.zero, 0, [], [], []⟩, rfl, fun o ho => by rw [(List.mem_replicate.1 ho).2]; exact ⟨by decide, by decide, by decide, by simp⟩, by decide⟩, rfl⟩
    exact ⟨⟨rfl, hle1⟩, _, _, .of hFe, .same, ⟨q3, by omega, by omega, rfl, l, rfl, i6, hl41⟩, rfl⟩
end Go.Proofs.Ytfacpamkigmlaaa

/- Walks: faults of a set. Plain theorems. -/
set_option linter.unusedVariables false
set_option linter.unusedSimpArgs false
namespace Go.Proofs.Ytfacpamkigmlaaa
open Go Go.Fw
set_option maxRecDepth 100000
structure Flt where
  k : Int
  p : Int
  a : Int
def Flt.enc (f : Flt) : A := .agg [i64 f.k, i64 f.p, i64 f.a]
def twB (c : List Pck) (s : List Int) (i : Nat) (n : List UInt8) : Bool := (s.take i).any fun j => (pk c j).n == n
def metB (c : List Pck) (s : List Int) (l : List Trm) : Bool := s.any fun o => l.any (givesB (pk c o))
def givB (c : List Pck) (s : List Int) (k : Int) (t : Trm) : Bool := s.any fun o => !decide (o = k) && givesB (pk c o) t
def nF (c : List Pck) (s : List Int) (k : Int) : Nat → List (List Trm) → List Flt
  | _, [] => []
  | j, l :: ls => (if metB c s l then [] else [⟨2, k, (j : Int)⟩]) ++ nF c s k (j + 1) ls
def bF (c : List Pck) (s : List Int) (k : Int) : Nat → List Trm → List Flt
  | _, [] => []
  | j, t :: ts => (if givB c s k t then [⟨3, k, (j : Int)⟩] else []) ++ bF c s k (j + 1) ts
def tF (c : List Pck) (s : List Int) (i : Nat) (k : Int) : List Flt := if twB c s i (pk c k).n then [⟨1, k, 0⟩] else []
def aF (c : List Pck) (s : List Int) : Nat → List Int → List Flt
  | _, [] => []
  | i, k :: ks => tF c s i k ++ (nF c s k 0 (pk c k).d ++ (bF c s k 0 (pk c k).b ++ aF c s (i + 1) ks))
/-- All faults of a set. -/
def fltS (c : List Pck) (s : List Int) : List Flt := aF c s 0 s
theorem nF_at {c : List Pck} {s : List Int} {k : Int} {d : List (List Trm)} {j : Nat} {l : List Trm} (h : d[j]? = some l) : nF c s k j (d.drop j) = (if metB c s l then [] else [⟨2, k, (j : Int)⟩]) ++ nF c s k (j + 1) (d.drop (j + 1)) := by
  obtain ⟨h1, h2⟩ := List.getElem?_eq_some_iff.1 h
  rw [List.drop_eq_getElem_cons h1, h2, nF]
theorem bF_at {c : List Pck} {s : List Int} {k : Int} {d : List Trm} {j : Nat} {l : Trm} (h : d[j]? = some l) : bF c s k j (d.drop j) = (if givB c s k l then [⟨3, k, (j : Int)⟩] else []) ++ bF c s k (j + 1) (d.drop (j + 1)) := by
  obtain ⟨h1, h2⟩ := List.getElem?_eq_some_iff.1 h
  rw [List.drop_eq_getElem_cons h1, h2, bF]
theorem aF_at {c : List Pck} {s l : List Int} {i : Nat} {k : Int} (h : l[i]? = some k) : aF c s i (l.drop i) = tF c s i k ++ (nF c s k 0 (pk c k).d ++ (bF c s k 0 (pk c k).b ++ aF c s (i + 1) (l.drop (i + 1)))) := by
  obtain ⟨h1, h2⟩ := List.getElem?_eq_some_iff.1 h
  rw [List.drop_eq_getElem_cons h1, h2, aF]
theorem nF_len (c : List Pck) (s : List Int) (k : Int) : ∀ (d : List (List Trm)) (j : Nat), (nF c s k j d).length ≤ d.length
  | [], _ => by simp [nF]
  | l :: d, j => by
    have := nF_len c s k d (j + 1)
    rw [nF, List.length_append, List.length_cons]
    split <;> simp <;> omega
theorem bF_len (c : List Pck) (s : List Int) (k : Int) : ∀ (d : List Trm) (j : Nat), (bF c s k j d).length ≤ d.length
  | [], _ => by simp [bF]
  | l :: d, j => by
    have := bF_len c s k d (j + 1)
    rw [bF, List.length_append, List.length_cons]
    split <;> simp <;> omega
theorem aF_len (c : List Pck) (s : List Int) : ∀ (l : List Int) (i : Nat), (∀ k ∈ l, (pk c k).d.length ≤ 1048576 ∧ (pk c k).b.length ≤ 1048576) → (aF c s i l).length ≤ l.length * 2097153
  | [], _, _ => by simp [aF]
  | k :: l, i, h => by
    have h1 := aF_len c s l (i + 1) fun x hx => h x (by simp [hx])
    have h2 := nF_len c s k (pk c k).d 0
    have h3 := bF_len c s k (pk c k).b 0
    have h4 := h k (by simp)
    have h5 : (tF c s i k).length ≤ 1 := by unfold tF; split <;> simp
    rw [aF, List.length_append, List.length_append, List.length_append, List.length_cons]
    omega
theorem fltS_len {c : List Pck} {s : List Int} (h : ∀ k ∈ s, (pk c k).d.length ≤ 1048576 ∧ (pk c k).b.length ≤ 1048576) (hs : s.length ≤ 1048576) : (fltS c s).length ≤ 2199024304128 := by
  have := aF_len c s s 0 h
  unfold fltS
  omega
theorem metB_eq {c : List Pck} {s : List Int} (h : ∀ k ∈ s, 0 ≤ k) (l : List Trm) : metB c s l = l.any (givB c s (-1)) := by
  unfold metB givB
  rw [Bool.eq_iff_iff]
  simp only [List.any_eq_true, Bool.and_eq_true, Bool.not_eq_true', decide_eq_false_iff_not]
  constructor
  · rintro ⟨o, ho, t, ht, hg⟩
    exact ⟨t, ht, o, ho, by have := h o ho; omega, hg⟩
  · rintro ⟨t, ht, o, ho, _, hg⟩
    exact ⟨o, ho, t, ht, hg⟩
theorem c_l3Given (l : List Pck) (s : List Int) (t : Trm) (but : Int) (hl : l.length ≤ 1048576) (hs : s.length ≤ 1048576) (ho : ∀ o ∈ l, o.Small) (hk : ∀ k ∈ s, inB k 0 ((l.length : Int) - 1) = true) : PCtr PP n_spec_l3Given [encP l, .sl false 1 (s.map i64), t.enc, i64 but] (boo (givB l s but t)) := by
  obtain ⟨Ω, hΩ⟩ : ∃ Ω, Ω = std := ⟨_, rfl⟩
  obtain ⟨r, hr⟩ : ∃ r, r = givB l s but t := ⟨_, rfl⟩
  rw [← hr]
  unfold givB at hr
  obtain ⟨xs, hxs⟩ : ∃ xs, xs = l.map (Pck.enc false) := ⟨_, rfl⟩
  have hlen : xs.length = l.length := by rw [hxs, List.length_map]
  obtain ⟨ys, hys⟩ : ∃ ys, ys = s.map i64 := ⟨_, rfl⟩
  have hylen : ys.length = s.length := by rw [hys, List.length_map]
  unfold encP at *
  rw [← hxs, ← hys]
  have hat : ∀ k ∈ s, 0 ≤ k ∧ ∃ n v1 v2 v3 sz ps ds bs, xs[k.toNat]? = some (.agg [str n, i64 v1, i64 v2, i64 v3, i64 sz, .sl false 1 ps, .sl false 1 ds, .sl false 7 bs]) ∧ PCtr PP n_spec_l2Gives [.agg [str n, i64 v1, i64 v2, i64 v3, i64 sz, .sl false 1 ps, .sl false 1 ds, .sl false 7 bs], t.enc] (boo (givesB (pk l k) t)) := fun k h => by
    obtain ⟨h0, h1, h2, h3⟩ := pk_at (hk k h)
    obtain ⟨ps, ds, bs, hen, -, -, -⟩ := enc_raw (pk l k)
    have := c_l2Gives (pk l k) t (by have := (ho _ h3).p; omega)
    rw [hen] at this
    exact ⟨h0, _, _, _, _, _, ps, ds, bs, by rw [hxs, List.getElem?_map, h2]; exact congrArg some hen, this⟩
  clear hk ho hxs
  have htab := tab
  have hmo := hmo
  refine PCtr.walk tab hΩ fn_spec_l3Given rfl ?_
  generalize PP = P at *
  cbv
  refine loopX htab hΩ (fun i : Nat => ⟨[(0, .sl false 8 xs), (1, .sl false 1 ys), (3, .sc (.int .i64 but)), (6, .pt 0 0 0), (9, .sc (.int .i64 (Ω.int i)))], 33, [some ⟨7, [t.enc], true⟩]⟩) (fun i => i ≤ s.length ∧ r = (s.drop i).any fun o => !decide (o = but) && givesB (pk l o) t) (fun i => s.length - i) 0
    ⟨Nat.zero_le _, hr⟩ (Sbs.mk rfl rfl ⟨rfl, rfl, rfl, rfl, zeroI hΩ, trivial⟩) ?_
  rintro i ⟨hi, he⟩
  cbv
  refine br (fun h => ?_) (fun h => ?_) <;> cbv
  · replace h := ltI hΩ h
    obtain ⟨c, hcc⟩ := at_of (cs := s) (by omega : i < s.length)
    rw [any_at _ hcc] at he
    obtain ⟨hc0, n, v1, v2, v3, sz, ps, ds, bs, hx, hg⟩ := hat c (List.mem_of_getElem? hcc)
    generalize givesB (pk l c) t = gb at hg he
    refine ⟨VC_drawn htab hΩ hmo (by kernel_rfl) ?_⟩
    cbv
    refine ⟨⟨nnI hΩ⟩, _, rdI hΩ hys hcc, ?_⟩
    cbv
    refine br (fun g => ?_) (fun g => ?_) <;> cbv
    · have g := neI_t hΩ g
      refine ⟨⟨nnI hΩ⟩, _, rdI hΩ hys hcc, ?_⟩
      cbv
      refine ⟨⟨hc0⟩, _, hx, ?_⟩
      cbv
      refine QCall_pure (k := 3) hg rfl (fits _) rfl ?_
      cbv
      refine br (fun h => ?_) (fun h => ?_) <;> cbv
      · have h : gb = true := by subst hΩ; exact h
        exact .of (congrArg boo (by rw [he, h, decide_eq_false g]; rfl))
      · have h : gb = false := by subst hΩ; exact h
        rw [h, Bool.and_false, Bool.false_or] at he
        exact ⟨i + 1, ⟨by omega, he⟩, by omega, Sbs.mk rfl rfl ⟨rfl, rfl, rfl, rfl, incI hΩ (by omega), trivial⟩⟩
    · have g := neI_f hΩ g
      rw [decide_eq_true g, Bool.not_true, Bool.false_and, Bool.false_or] at he
      exact ⟨i + 1, ⟨by omega, he⟩, by omega, Sbs.mk rfl rfl ⟨rfl, rfl, rfl, rfl, incI hΩ (by omega), trivial⟩⟩
  · replace h := geI hΩ h
    exact .of (congrArg boo (by rw [he, List.drop_of_length_le (by omega)]; rfl))
theorem c_l3Met (l : List Pck) (s : List Int) (d : List Trm) (hl : l.length ≤ 1048576) (hs : s.length ≤ 1048576) (hd : d.length ≤ 1048576) (ho : ∀ o ∈ l, o.Small) (hk : ∀ k ∈ s, inB k 0 ((l.length : Int) - 1) = true) : PCtr PP n_spec_l3Met [encP l, .sl false 1 (s.map i64), .sl false 7 (d.map Trm.enc)] (boo (metB l s d)) := by
  obtain ⟨Ω, hΩ⟩ : ∃ Ω, Ω = std := ⟨_, rfl⟩
  obtain ⟨r, hr⟩ : ∃ r, r = metB l s d := ⟨_, rfl⟩
  rw [← hr]
  rw [metB_eq (fun k h => (pk_at (hk k h)).1)] at hr
  obtain ⟨zs, hzs⟩ : ∃ zs, zs = d.map Trm.enc := ⟨_, rfl⟩
  have hlen : zs.length = d.length := by rw [hzs, List.length_map]
  rw [← hzs]
  have hg := fun t => c_l3Given l s t (-1) hl hs ho hk
  unfold encP at *
  generalize givB l s (-1) = G at *
  generalize l.map (Pck.enc false) = xs at *
  generalize s.map i64 = ys at *
  have htab := tab
  have hmo := hmo
  refine PCtr.walk tab hΩ fn_spec_l3Met rfl ?_
  generalize PP = P at *
  cbv
  refine loopX htab hΩ (fun i : Nat => ⟨[(0, .sl false 8 xs), (1, .sl false 1 ys), (2, .sl false 7 zs), (7, .sc (.int .i64 (Ω.int i)))], 21, []⟩) (fun i => i ≤ d.length ∧ r = (d.drop i).any G) (fun i => d.length - i) 0
    ⟨Nat.zero_le _, hr⟩ (Sbs.mk rfl rfl ⟨rfl, rfl, rfl, zeroI hΩ, trivial⟩) ?_
  rintro i ⟨hi, he⟩
  cbv
  refine br (fun h => ?_) (fun h => ?_) <;> cbv
  · replace h := ltI hΩ h
    obtain ⟨c, hcc⟩ := at_of (cs := d) (by omega : i < d.length)
    rw [any_at _ hcc] at he
    refine ⟨⟨nnI hΩ⟩, _, rdI hΩ hzs hcc, ?_⟩
    cbv
    refine call_pure hΩ 3 (hg c) rfl (fits _) rfl rfl ?_
    cbv
    refine br (fun g => ?_) (fun g => ?_) <;> cbv
    · exact .of (congrArg boo (by rw [he, show G c = true from g]; rfl))
    · rw [show G c = false from g, Bool.false_or] at he
      exact ⟨i + 1, ⟨by omega, he⟩, by omega, Sbs.mk rfl rfl ⟨rfl, rfl, rfl, incI hΩ (by omega), trivial⟩⟩
  · replace h := geI hΩ h
    exact .of (congrArg boo (by rw [he, List.drop_of_length_le (by omega)]; rfl))
/-- The place of the package of a name. -/
def nmF (c : List Pck) (n : List UInt8) : List Int → Int
  | [] => -1
  | k :: ks => if (pk c k).n == n then k else nmF c n ks
theorem nmF_at {c : List Pck} {n : List UInt8} {l : List Int} {i : Nat} {k : Int} (h : l[i]? = some k) : nmF c n (l.drop i) = if (pk c k).n == n then k else nmF c n (l.drop (i + 1)) := by
  obtain ⟨h1, h2⟩ := List.getElem?_eq_some_iff.1 h
  rw [List.drop_eq_getElem_cons h1, h2, nmF]
theorem nmF_any {c : List Pck} {n : List UInt8} : ∀ {l : List Int}, (∀ k ∈ l, 0 ≤ k) → (decide (0 ≤ nmF c n l)) = l.any fun j => (pk c j).n == n
  | [], _ => rfl
  | k :: l, h => by
    have ih := nmF_any (c := c) (n := n) (l := l) fun x hx => h x (by simp [hx])
    rw [nmF, List.any_cons]
    by_cases hb : ((pk c k).n == n) = true
    · rw [if_pos hb, hb, Bool.true_or]; exact decide_eq_true (h k (by simp))
    · rw [if_neg hb, ih, Bool.eq_false_iff.2 hb, Bool.false_or]
theorem c_named (l : List Pck) (s : List Int) (n : List UInt8) (hl : l.length ≤ 1048576) (hs : s.length ≤ 1048576) (hk : ∀ k ∈ s, inB k 0 ((l.length : Int) - 1) = true) : PCtr PP n_impl_named [encP l, .sl false 1 (s.map i64), str n] (i64 (nmF l n s)) := by
  obtain ⟨Ω, hΩ⟩ : ∃ Ω, Ω = std := ⟨_, rfl⟩
  obtain ⟨r, hr⟩ : ∃ r, r = nmF l n s := ⟨_, rfl⟩
  rw [← hr]
  have hat : ∀ k, inB k 0 ((l.length : Int) - 1) = true → 0 ≤ k ∧ ∃ v1 v2 v3 sz ps ds bs, (l.map (Pck.enc false))[k.toNat]? = some (.agg [str (pk l k).n, i64 v1, i64 v2, i64 v3, i64 sz, .sl false 1 ps, .sl false 1 ds, .sl false 7 bs]) ∧ pk l k ∈ l ∧
      Pck.enc false (pk l k) = .agg [str (pk l k).n, i64 v1, i64 v2, i64 v3, i64 sz, .sl false 1 ps, .sl false 1 ds, .sl false 7 bs] ∧ ds = (pk l k).d.map (encTs false) ∧ bs = (pk l k).b.map Trm.enc := fun k h => by
    obtain ⟨h0, h1, h2, h3⟩ := pk_at h
    obtain ⟨ps, ds, bs, hen, hp, hd, hb⟩ := enc_raw (pk l k)
    exact ⟨h0, _, _, _, _, ps, ds, bs, by rw [List.getElem?_map, h2]; exact congrArg some hen, h3, hen, hd, hb⟩
  obtain ⟨ys, hys⟩ : ∃ ys, ys = s.map i64 := ⟨_, rfl⟩
  have hylen : ys.length = s.length := by rw [hys, List.length_map]
  unfold encP at *
  rw [← hys]
  generalize l.map (Pck.enc false) = xs at *
  have htab := tab
  have hmo := hmo
  refine PCtr.walk tab hΩ fn_impl_named rfl ?_
  generalize PP = P at *
  cbv
  refine loopX htab hΩ (fun i : Nat => ⟨[(0, .sl false 8 xs), (2, .sc (.string (mkS n))), (9, .sl false 1 ys), (10, .sc (.int .i64 (Ω.int (Ω.len ys)))), (11, .sc (.int .i64 (Ω.int i)))], 24, []⟩) (fun i => i ≤ s.length ∧ r = nmF l n (s.drop i)) (fun i => s.length - i) 0
    ⟨Nat.zero_le _, hr⟩ (Sbs.mk rfl rfl ⟨rfl, rfl, rfl, rfl, zeroI hΩ, trivial⟩) ?_
  rintro i ⟨hi, he⟩
  cbv
  refine br (fun h => ?_) (fun h => ?_) <;> cbv
  · replace h := ltI hΩ h
    obtain ⟨c, hcc⟩ := at_of (cs := s) (by omega : i < s.length)
    rw [nmF_at hcc] at he
    obtain ⟨hc0, v1, v2, v3, sz, ps, ds, bs, hx, -, -, -⟩ := hat c (hk c (List.mem_of_getElem? hcc))
    generalize (pk l c).n = nn at hx he
    refine ⟨⟨nnI hΩ⟩, _, rdI hΩ hys hcc, ?_⟩
    cbv
    refine ⟨⟨hc0⟩, _, hx, ?_⟩
    cbv
    refine br (fun g => ?_) (fun g => ?_) <;> cbv
    · exact .of (congrArg i64 (by rw [he, if_pos (by subst hΩ; exact g)]))
    · rw [if_neg (by subst hΩ; rw [show (nn == n) = false from g]; simp)] at he
      exact ⟨i + 1, ⟨by omega, he⟩, by omega, Sbs.mk rfl rfl ⟨rfl, rfl, rfl, rfl, incI hΩ (by omega), trivial⟩⟩
  · replace h := geI hΩ h
    exact .of (congrArg i64 (by rw [he, List.drop_of_length_le (by omega)]; rfl))
theorem c_faults1 (l : List Pck) (k : Int) (d : List Trm) (hl : l.length ≤ 1048576) (hd : d.length ≤ 1048576) (ho : ∀ o ∈ l, o.Small) (hk : inB k 0 ((l.length : Int) - 1) = true) : PCtr PP n_impl_faults_1 [i64 k, .rp [encP l], .rp [.sl false 7 (d.map Trm.enc)]] (boo (d.any (givesB (pk l k)))) := by
  obtain ⟨Ω, hΩ⟩ : ∃ Ω, Ω = std := ⟨_, rfl⟩
  have hat : ∀ k, inB k 0 ((l.length : Int) - 1) = true → 0 ≤ k ∧ ∃ v1 v2 v3 sz ps ds bs, (l.map (Pck.enc false))[k.toNat]? = some (.agg [str (pk l k).n, i64 v1, i64 v2, i64 v3, i64 sz, .sl false 1 ps, .sl false 1 ds, .sl false 7 bs]) ∧ pk l k ∈ l ∧
      Pck.enc false (pk l k) = .agg [str (pk l k).n, i64 v1, i64 v2, i64 v3, i64 sz, .sl false 1 ps, .sl false 1 ds, .sl false 7 bs] ∧ ds = (pk l k).d.map (encTs false) ∧ bs = (pk l k).b.map Trm.enc := fun k h => by
    obtain ⟨h0, h1, h2, h3⟩ := pk_at h
    obtain ⟨ps, ds, bs, hen, hp, hd, hb⟩ := enc_raw (pk l k)
    exact ⟨h0, _, _, _, _, ps, ds, bs, by rw [List.getElem?_map, h2]; exact congrArg some hen, h3, hen, hd, hb⟩
  obtain ⟨hc0, v1, v2, v3, sz, ps, ds, bs, hx, hm, hen, -, -⟩ := hat k hk
  have hg := c_givesOne (pk l k) d (ho _ hm).p hd
  rw [hen] at hg
  clear hat
  unfold encP
  generalize d.any (givesB (pk l k)) = r at *
  generalize (pk l k).n = nn at *
  generalize l.map (Pck.enc false) = xs at *
  generalize d.map Trm.enc = zs at *
  have htab := tab
  have hmo := hmo
  refine PCtr.walk tab hΩ fn_impl_faults_1 rfl ?_
  generalize PP = P at *
  cbv
  refine ⟨VC_drawn htab hΩ hmo (by kernel_rfl) ?_⟩
  cbv
  refine ⟨⟨hc0⟩, _, hx, ?_⟩
  cbv
  refine QCall_pure (k := 3) hg rfl (fits _) rfl ?_
  cbv
  exact .same
theorem c_faults2 (l : List Pck) (k q : Int) (t : Trm) (hl : l.length ≤ 1048576) (ho : ∀ o ∈ l, o.Small) (hk : inB k 0 ((l.length : Int) - 1) = true) : PCtr PP n_impl_faults_2 [i64 k, .rp [i64 q], .rp [encP l], .rp t.cells] (boo (!decide (k = q) && givesB (pk l k) t)) := by
  obtain ⟨Ω, hΩ⟩ : ∃ Ω, Ω = std := ⟨_, rfl⟩
  have hat : ∀ k, inB k 0 ((l.length : Int) - 1) = true → 0 ≤ k ∧ ∃ v1 v2 v3 sz ps ds bs, (l.map (Pck.enc false))[k.toNat]? = some (.agg [str (pk l k).n, i64 v1, i64 v2, i64 v3, i64 sz, .sl false 1 ps, .sl false 1 ds, .sl false 7 bs]) ∧ pk l k ∈ l ∧
      Pck.enc false (pk l k) = .agg [str (pk l k).n, i64 v1, i64 v2, i64 v3, i64 sz, .sl false 1 ps, .sl false 1 ds, .sl false 7 bs] ∧ ds = (pk l k).d.map (encTs false) ∧ bs = (pk l k).b.map Trm.enc := fun k h => by
    obtain ⟨h0, h1, h2, h3⟩ := pk_at h
    obtain ⟨ps, ds, bs, hen, hp, hd, hb⟩ := enc_raw (pk l k)
    exact ⟨h0, _, _, _, _, ps, ds, bs, by rw [List.getElem?_map, h2]; exact congrArg some hen, h3, hen, hd, hb⟩
  obtain ⟨hc0, v1, v2, v3, sz, ps, ds, bs, hx, hm, hen, -, -⟩ := hat k hk
  have hg := c_gives (pk l k) t (ho _ hm).p
  rw [hen] at hg
  clear hat
  unfold encP
  generalize givesB (pk l k) t = gb at *
  generalize (pk l k).n = nn at *
  generalize l.map (Pck.enc false) = xs at *
  obtain ⟨r, hr⟩ : ∃ r, r = (!decide (k = q) && gb) := ⟨_, rfl⟩
  rw [← hr]
  have htab := tab
  have hmo := hmo
  refine PCtr.walk tab hΩ fn_impl_faults_2 rfl ?_
  generalize PP = P at *
  cbv
  refine ⟨VC_drawn htab hΩ hmo (by kernel_rfl) ?_⟩
  cbv
  repeat' (first | (refine br (fun h => ?_) (fun h => ?_) <;> cbv) | (refine ⟨⟨hc0⟩, _, hx, ?_⟩; cbv) | (refine QCall_pure (k := 3) hg rfl (fits _) rfl ?_; cbv))
  all_goals (refine .of (congrArg boo ?_); subst hΩ; subst hr; clear hg hx htab hmo; simp_all)
theorem c_faults (l : List Pck) (s : List Int) (hl : l.length ≤ 1048576) (hs : s.length ≤ 1048576) (ho : ∀ o ∈ l, o.Small) (hk : ∀ k ∈ s, inB k 0 ((l.length : Int) - 1) = true) : PCtr PP n_impl_faults [encP l, .sl false 1 (s.map i64)] (.sl true 3 ((fltS l s).map Flt.enc)) := by
  obtain ⟨Ω, hΩ⟩ : ∃ Ω, Ω = std := ⟨_, rfl⟩
  have hat : ∀ k, inB k 0 ((l.length : Int) - 1) = true → 0 ≤ k ∧ ∃ v1 v2 v3 sz ps ds bs, (l.map (Pck.enc false))[k.toNat]? = some (.agg [str (pk l k).n, i64 v1, i64 v2, i64 v3, i64 sz, .sl false 1 ps, .sl false 1 ds, .sl false 7 bs]) ∧ pk l k ∈ l ∧
      Pck.enc false (pk l k) = .agg [str (pk l k).n, i64 v1, i64 v2, i64 v3, i64 sz, .sl false 1 ps, .sl false 1 ds, .sl false 7 bs] ∧ ds = (pk l k).d.map (encTs false) ∧ bs = (pk l k).b.map Trm.enc := fun k h => by
    obtain ⟨h0, h1, h2, h3⟩ := pk_at h
    obtain ⟨ps, ds, bs, hen, hp, hd, hb⟩ := enc_raw (pk l k)
    exact ⟨h0, _, _, _, _, ps, ds, bs, by rw [List.getElem?_map, h2]; exact congrArg some hen, h3, hen, hd, hb⟩
  obtain ⟨tot, htot⟩ : ∃ tot, tot = fltS l s := ⟨_, rfl⟩
  have hb : tot.length ≤ 2199024304128 := by rw [htot]; exact fltS_len (fun k h => ⟨(ho _ (pk_at (hk k h)).2.2.2).d, (ho _ (pk_at (hk k h)).2.2.2).b⟩) hs
  rw [← htot]
  obtain ⟨e, he⟩ : ∃ e : List Flt → List A, e = List.map Flt.enc := ⟨_, rfl⟩
  have hel : ∀ o, (e o).length = o.length := fun o => by rw [he, List.length_map]
  have hea : ∀ o f, e (o ++ [f]) = e o ++ [f.enc] := fun o f => by rw [he, List.map_append]; rfl
  have he0 : e [] = [] := by rw [he]; rfl
  have hap : ∀ o f m, o.length = m → Ω.app (Ω.take m (e o)) [f.enc] = e (o ++ [f]) := fun o f m h => by
    rw [hea]
    subst hΩ
    show (e o).take m ++ [f.enc] = _
    rw [List.take_of_length_le (by rw [hel]; omega)]
  have hlp : ∀ (o : List Flt) (f : Flt) (x : A) m, o.length = m → Ω.plus m (Ω.len [x]) = (o ++ [f]).length := fun o f x m h => by
    rw [List.length_append, h]; subst hΩ; rfl
  rw [show List.map Flt.enc = e from he.symm]
  clear he
  obtain ⟨cs, hcs⟩ : ∃ cs, cs = l.map (Pck.enc false) := ⟨_, rfl⟩
  obtain ⟨xs, hxs⟩ : ∃ xs, xs = s.map i64 := ⟨_, rfl⟩
  have hxl : xs.length = s.length := by rw [hxs, List.length_map]
  have hnm : ∀ i n, PCtr PP n_impl_named [encP l, .sl false 1 (xs.take i), str n] (i64 (nmF l n (s.take i))) := fun i n => by
    rw [hxs, ← List.map_take]
    exact c_named l (s.take i) n hl (by simp; omega) fun k h => hk k (List.mem_of_mem_take h)
  have htw : ∀ i n, decide (0 ≤ nmF l n (s.take i)) = twB l s i n := fun i n => nmF_any fun k h => (pk_at (hk k (List.mem_of_mem_take h))).1
  have hmet : ∀ d : List Trm, d.length ≤ 1048576 → PCtr PP n_slices_ContainsFunc_L_int64_int64 [.sl false 1 xs, .clo n_impl_faults_1 [.rp [encP l], .rp [.sl false 7 (d.map Trm.enc)]]] (boo (metB l s d)) := fun d hd => by
    rw [hxs]
    exact c_ContainsFuncI s (by omega) _ _ _ ⟨fun _ _ => rfl, rfl, fun _ => rfl, fun k h => c_faults1 l k d hl hd ho (hk k h)⟩
  have hgiv : ∀ q t, PCtr PP n_slices_ContainsFunc_L_int64_int64 [.sl false 1 xs, .clo n_impl_faults_2 [.rp [i64 q], .rp [encP l], .rp t.cells]] (boo (givB l s q t)) := fun q t => by
    rw [hxs]
    exact c_ContainsFuncI s (by omega) _ _ _ ⟨fun _ _ => rfl, rfl, fun _ => rfl, fun k h => c_faults2 l k q t hl ho (hk k h)⟩
  unfold encP at *
  unfold fltS at htot
  rw [← hcs] at hat hnm hmet hgiv ⊢
  rw [← hxs]
  have htab := tab
  have hmo := hmo
  refine PCtr.walk tab hΩ fn_impl_faults rfl ?_
  generalize PP = P at *
  cbv
  refine loopX htab hΩ (fun i : Nat × List Flt => ⟨[(1, .sl false 1 xs), (2, .pt 0 0 0), (5, .vw 1 0 i.2.length), (14, .sl false 1 xs), (15, .sc (.int .i64 (Ω.int (Ω.len xs)))), (16, .sc (.int .i64 (Ω.int i.1)))], 77,
      [some ⟨1, [.sl false 8 cs], true⟩, some ⟨3, e i.2, false⟩]⟩) (fun i => i.1 ≤ s.length ∧ i.2 ++ aF l s i.1 (s.drop i.1) = tot) (fun i => s.length - i.1) (0, []) ⟨Nat.zero_le _, htot.symm⟩
    (Sbs.mk rfl (by dsimp only; rw [he0]) ⟨rfl, rfl, rfl, rfl, rfl, zeroI hΩ, trivial⟩) ?_
  rintro ⟨i, out⟩ ⟨hi, hout⟩
  dsimp only at hi hout
  dsimp only
  obtain ⟨m, hm⟩ : ∃ m, out.length = m := ⟨_, rfl⟩
  rw [hm]
  cbv
  refine br (fun h => ?_) (fun h => ?_) <;> cbv
  · replace h := ltI hΩ h
    obtain ⟨c, hcc⟩ := at_of (cs := s) (by omega : i < s.length)
    rw [aF_at hcc] at hout
    have hcin := hk c (List.mem_of_getElem? hcc)
    obtain ⟨hc0, v1, v2, v3, sz, ps, ds, bs, hx, hm2, hen, hds, hbs⟩ := hat c hcin
    have hdl : ds.length = (pk l c).d.length := by rw [hds, List.length_map]
    have hbl : bs.length = (pk l c).b.length := by rw [hbs, List.length_map]
    have hsm := ho _ hm2
    have hn1 := hnm i (pk l c).n
    have htwi : decide (0 ≤ nmF l (pk l c).n (s.take i)) = twB l s i (pk l c).n := htw i (pk l c).n
    unfold tF at hout
    generalize nmF l (pk l c).n (s.take i) = nm at *
    generalize twB l s i (pk l c).n = tw at *
    have hd1 := hsm.d
    have hd2 := hsm.e
    have hb1 := hsm.b
    generalize (pk l c).d = d at *
    generalize (pk l c).b = b at *
    generalize (pk l c).n = nn at *
    refine ⟨⟨nnI hΩ⟩, _, rdI hΩ hxs hcc, ?_⟩
    cbv
    refine ⟨⟨hc0⟩, _, hx, ?_⟩
    cbv
    refine ⟨VC_drawn htab hΩ hmo (by kernel_rfl) ?_⟩
    cbv
    have hn2 : PCtr P n_impl_named [.sl false 8 cs, .sl false 1 (Ω.seg 0 (Ω.nat (Ω.int i)) xs), str nn] (i64 nm) := by subst hΩ; exact hn1
    refine ⟨⟨⟨trivial, (nnI hΩ), Nat.zero_le _, by subst hΩ; show ((i : Int)).toNat ≤ xs.length; omega⟩⟩, ?_⟩
    refine QCall_pure (k := 3) hn2 rfl (fits _) rfl ?_
    cbv
    obtain ⟨rest, hrest⟩ : ∃ rest, rest = nF l s c 0 d ++ (bF l s c 0 b ++ aF l s (i + 1) (s.drop (i + 1))) := ⟨_, rfl⟩
    rw [← hrest] at hout
    have hml : m + 1 ≤ 2199024304129 := by
      have := congrArg List.length hout
      simp only [List.length_append] at this
      omega
    refine br (fun g => ?_) (fun g => ?_) <;> cbv
    · have g : tw = true := by rw [← htwi]; exact decide_eq_true (geI_t hΩ g)
      rw [g, if_pos rfl, ← List.append_assoc] at hout
      refine ⟨⟨rfl, okAll rfl, by show (m + 1) * 24 ≤ 140737488355328; omega, by show m + 1 ≤ 9223372036854775807; omega⟩, ?_⟩
      refine loopX htab hΩ (fun j : Nat × List Flt => ⟨[(1, .sl false 1 xs), (2, .pt 0 0 0), (5, .vw 1 0 j.2.length), (14, .sl false 1 xs), (15, .sc (.int .i64 (Ω.int (Ω.len xs)))), (16, .sc (.int .i64 (Ω.int i))), (7, .pt 2 0 0), (8, .pt 3 0 0), (39, .sl false 1 ds), (40, .sc (.int .i64 (Ω.int (Ω.len ds)))), (41, .sc (.int .i64 (Ω.int j.1)))], 77, [some ⟨1, [.sl false 8 cs], true⟩, some ⟨3, e j.2, false⟩, some ⟨1, [i64 c], true⟩, some ⟨8, [.agg [str nn, i64 v1, i64 v2, i64 v3, i64 sz, .sl false 1 ps, .sl false 1 ds, .sl false 7 bs]], true⟩]⟩) (fun j => j.1 ≤ d.length ∧ j.2 ++ (nF l s c j.1 (d.drop j.1) ++ (bF l s c 0 b ++ aF l s (i + 1) (s.drop (i + 1)))) = tot) (fun j => d.length - j.1) (0, out ++ [(⟨1, c, 0⟩ : Flt)]) ⟨Nat.zero_le _, by rw [hrest] at hout; exact hout⟩
        (Sbs.trans (Sbs.lastN (rows := [_, _, _, _]) rfl) (Sbs.mk rfl (by dsimp only; rw [← hap out ⟨1, c, 0⟩ m hm]; subst hΩ; rfl) ⟨rfl, rfl, congrArg (A.vw 1 0) (hlp out ⟨1, c, 0⟩ _ m hm), rfl, rfl, rfl, rfl, rfl, rfl, rfl, zeroI hΩ, trivial⟩)) ?_
      rintro ⟨j, o2⟩ ⟨hj, hj2⟩
      dsimp only at hj hj2
      dsimp only
      obtain ⟨m2, hm2⟩ : ∃ m2, o2.length = m2 := ⟨_, rfl⟩
      rw [hm2]
      cbv
      have hml2 : m2 ≤ 2199024304128 := by
        have := congrArg List.length hj2
        rw [List.length_append, hm2] at this
        omega
      refine br (fun h => ?_) (fun h => ?_) <;> cbv
      · replace h := ltI hΩ h
        obtain ⟨u, huu⟩ := at_of (cs := d) (by omega : j < d.length)
        rw [nF_at huu, List.append_assoc] at hj2
        have hc := hmet u (hd2 u (List.mem_of_getElem? huu))
        obtain ⟨us, hus⟩ : ∃ us, us = u.map Trm.enc := ⟨_, rfl⟩
        rw [← hus] at hc
        have hrd : ds[(Ω.int j).toNat]? = some (.sl false 7 us) := (rdI hΩ hds huu).trans (by rw [hus]; rfl)
        generalize metB l s u = gu at hc hj2
        refine ⟨⟨nnI hΩ⟩, _, hrd, ?_⟩
        cbv
        refine call_pure hΩ 5 hc (ro_clo2 rfl rfl) (fits _) rfl rfl ?_
        cbv
        refine br (fun g => ?_) (fun g => ?_) <;> cbv
        · have g : gu = false := notT' hΩ g
          rw [g, if_neg (by simp), ← List.append_assoc] at hj2
          refine ⟨⟨rfl, okAll rfl, by show (m2 + 1) * 24 ≤ 140737488355328; omega, by show m2 + 1 ≤ 9223372036854775807; omega⟩, (j + 1, o2 ++ [⟨2, c, j⟩]), ⟨by dsimp only; omega, hj2⟩, by dsimp only; omega, ?_⟩
          exact Sbs.trans (Sbs.lastN (rows := [_, _, _, _, _]) rfl) (Sbs.mkL (rows := [_, _, _, _]) rfl rfl (by dsimp only; rw [← hap o2 ⟨2, c, j⟩ m2 hm2]; subst hΩ; rfl) ⟨rfl, rfl, congrArg (A.vw 1 0) (hlp o2 ⟨2, c, j⟩ _ m2 hm2), rfl, rfl, rfl, rfl, rfl, rfl, rfl, incI hΩ (by omega), trivial⟩)
        · have g : gu = true := notF' hΩ g
          rw [g] at hj2
          exact ⟨(j + 1, o2), ⟨by dsimp only; omega, hj2⟩, by dsimp only; omega, Sbs.mkL (rows := [_, _, _, _]) rfl rfl rfl ⟨rfl, rfl, congrArg (A.vw 1 0) hm2.symm, rfl, rfl, rfl, rfl, rfl, rfl, rfl, incI hΩ (by omega), trivial⟩⟩
      · replace h := geI hΩ h
        rw [List.drop_of_length_le (by omega : d.length ≤ j), nF, List.nil_append] at hj2
        obtain ⟨o1, m1, hm1, rfl⟩ : ∃ o1 m1, o1.length = m1 ∧ o1 = o2 := ⟨_, _, rfl, rfl⟩
        obtain rfl : m2 = m1 := hm2.symm.trans hm1
        clear hm2
        refine loopX htab hΩ (fun j : Nat × List Flt => ⟨[(1, .sl false 1 xs), (2, .pt 0 0 0), (5, .vw 1 0 j.2.length), (14, .sl false 1 xs), (15, .sc (.int .i64 (Ω.int (Ω.len xs)))), (16, .sc (.int .i64 (Ω.int i))), (7, .pt 2 0 0), (8, .pt 3 0 0), (58, .sl false 7 bs), (59, .sc (.int .i64 (Ω.int (Ω.len bs)))), (60, .sc (.int .i64 (Ω.int j.1)))], 77, [some ⟨1, [.sl false 8 cs], true⟩, some ⟨3, e j.2, false⟩, some ⟨1, [i64 c], true⟩, some ⟨8, [.agg [str nn, i64 v1, i64 v2, i64 v3, i64 sz, .sl false 1 ps, .sl false 1 ds, .sl false 7 bs]], true⟩]⟩) (fun j => j.1 ≤ b.length ∧ j.2 ++ (bF l s c j.1 (b.drop j.1) ++ aF l s (i + 1) (s.drop (i + 1))) = tot) (fun j => b.length - j.1) (0, o1) ⟨Nat.zero_le _, hj2⟩
          (Sbs.mk rfl rfl ⟨rfl, rfl, congrArg (A.vw 1 0) hm1.symm, rfl, rfl, rfl, rfl, rfl, rfl, rfl, zeroI hΩ, trivial⟩) ?_
        rintro ⟨j, o2⟩ ⟨hj, hj2⟩
        dsimp only at hj hj2
        dsimp only
        obtain ⟨m2, hm2⟩ : ∃ m2, o2.length = m2 := ⟨_, rfl⟩
        rw [hm2]
        cbv
        have hml2 : m2 ≤ 2199024304128 := by
          have := congrArg List.length hj2
          rw [List.length_append, hm2] at this
          omega
        refine br (fun h => ?_) (fun h => ?_) <;> cbv
        · replace h := ltI hΩ h
          obtain ⟨u, huu⟩ := at_of (cs := b) (by omega : j < b.length)
          rw [bF_at huu, List.append_assoc] at hj2
          have hc := hgiv c u
          generalize givB l s c u = gu at hc hj2
          refine ⟨⟨nnI hΩ⟩, _, rdI hΩ hbs huu, ?_⟩
          cbv
          refine call_pure hΩ 5 hc (ro_clo2 rfl rfl) (fits _) rfl rfl ?_
          cbv
          refine br (fun g => ?_) (fun g => ?_) <;> cbv
          · have g : gu = true := g
            rw [g, if_pos rfl, ← List.append_assoc] at hj2
            refine ⟨⟨rfl, okAll rfl, by show (m2 + 1) * 24 ≤ 140737488355328; omega, by show m2 + 1 ≤ 9223372036854775807; omega⟩, (j + 1, o2 ++ [⟨3, c, j⟩]), ⟨by dsimp only; omega, hj2⟩, by dsimp only; omega, ?_⟩
            exact Sbs.trans (Sbs.lastN (rows := [_, _, _, _, _]) rfl) (Sbs.mkL (rows := [_, _, _, _]) rfl rfl (by dsimp only; rw [← hap o2 ⟨3, c, j⟩ m2 hm2]; subst hΩ; rfl) ⟨rfl, rfl, congrArg (A.vw 1 0) (hlp o2 ⟨3, c, j⟩ _ m2 hm2), rfl, rfl, rfl, rfl, rfl, rfl, rfl, incI hΩ (by omega), trivial⟩)
          · have g : gu = false := g
            rw [g] at hj2
            exact ⟨(j + 1, o2), ⟨by dsimp only; omega, hj2⟩, by dsimp only; omega, Sbs.mkL (rows := [_, _, _, _]) rfl rfl rfl ⟨rfl, rfl, congrArg (A.vw 1 0) hm2.symm, rfl, rfl, rfl, rfl, rfl, rfl, rfl, incI hΩ (by omega), trivial⟩⟩
        · replace h := geI hΩ h
          rw [List.drop_of_length_le (by omega : b.length ≤ j), bF, List.nil_append] at hj2
          exact ⟨(i + 1, o2), ⟨by dsimp only; omega, hj2⟩, by dsimp only; omega, Sbs.trans (Sbs.last (rows := [_, _, _]) rfl) (Sbs.mkL (rows := [_, _]) rfl rfl rfl ⟨rfl, rfl, congrArg (A.vw 1 0) hm2.symm, rfl, rfl, incI hΩ (by omega), trivial⟩)⟩
    · have g : tw = false := by rw [← htwi]; exact decide_eq_false (by have := geI_f hΩ g; omega)
      rw [g] at hout
      refine loopX htab hΩ (fun j : Nat × List Flt => ⟨[(1, .sl false 1 xs), (2, .pt 0 0 0), (5, .vw 1 0 j.2.length), (14, .sl false 1 xs), (15, .sc (.int .i64 (Ω.int (Ω.len xs)))), (16, .sc (.int .i64 (Ω.int i))), (7, .pt 2 0 0), (8, .pt 3 0 0), (39, .sl false 1 ds), (40, .sc (.int .i64 (Ω.int (Ω.len ds)))), (41, .sc (.int .i64 (Ω.int j.1)))], 77, [some ⟨1, [.sl false 8 cs], true⟩, some ⟨3, e j.2, false⟩, some ⟨1, [i64 c], true⟩, some ⟨8, [.agg [str nn, i64 v1, i64 v2, i64 v3, i64 sz, .sl false 1 ps, .sl false 1 ds, .sl false 7 bs]], true⟩]⟩) (fun j => j.1 ≤ d.length ∧ j.2 ++ (nF l s c j.1 (d.drop j.1) ++ (bF l s c 0 b ++ aF l s (i + 1) (s.drop (i + 1)))) = tot) (fun j => d.length - j.1) (0, out) ⟨Nat.zero_le _, by rw [hrest] at hout; exact hout⟩
        (Sbs.mk rfl rfl ⟨rfl, rfl, congrArg (A.vw 1 0) hm.symm, rfl, rfl, rfl, rfl, rfl, rfl, rfl, zeroI hΩ, trivial⟩) ?_
      rintro ⟨j, o2⟩ ⟨hj, hj2⟩
      dsimp only at hj hj2
      dsimp only
      obtain ⟨m2, hm2⟩ : ∃ m2, o2.length = m2 := ⟨_, rfl⟩
      rw [hm2]
      cbv
      have hml2 : m2 ≤ 2199024304128 := by
        have := congrArg List.length hj2
        rw [List.length_append, hm2] at this
        omega
      refine br (fun h => ?_) (fun h => ?_) <;> cbv
      · replace h := ltI hΩ h
        obtain ⟨u, huu⟩ := at_of (cs := d) (by omega : j < d.length)
        rw [nF_at huu, List.append_assoc] at hj2
        have hc := hmet u (hd2 u (List.mem_of_getElem? huu))
        obtain ⟨us, hus⟩ : ∃ us, us = u.map Trm.enc := ⟨_, rfl⟩
        rw [← hus] at hc
        have hrd : ds[(Ω.int j).toNat]? = some (.sl false 7 us) := (rdI hΩ hds huu).trans (by rw [hus]; rfl)
        generalize metB l s u = gu at hc hj2
        refine ⟨⟨nnI hΩ⟩, _, hrd, ?_⟩
        cbv
        refine call_pure hΩ 5 hc (ro_clo2 rfl rfl) (fits _) rfl rfl ?_
        cbv
        refine br (fun g => ?_) (fun g => ?_) <;> cbv
        · have g : gu = false := notT' hΩ g
          rw [g, if_neg (by simp), ← List.append_assoc] at hj2
          refine ⟨⟨rfl, okAll rfl, by show (m2 + 1) * 24 ≤ 140737488355328; omega, by show m2 + 1 ≤ 9223372036854775807; omega⟩, (j + 1, o2 ++ [⟨2, c, j⟩]), ⟨by dsimp only; omega, hj2⟩, by dsimp only; omega, ?_⟩
          exact Sbs.trans (Sbs.lastN (rows := [_, _, _, _, _]) rfl) (Sbs.mkL (rows := [_, _, _, _]) rfl rfl (by dsimp only; rw [← hap o2 ⟨2, c, j⟩ m2 hm2]; subst hΩ; rfl) ⟨rfl, rfl, congrArg (A.vw 1 0) (hlp o2 ⟨2, c, j⟩ _ m2 hm2), rfl, rfl, rfl, rfl, rfl, rfl, rfl, incI hΩ (by omega), trivial⟩)
        · have g : gu = true := notF' hΩ g
          rw [g] at hj2
          exact ⟨(j + 1, o2), ⟨by dsimp only; omega, hj2⟩, by dsimp only; omega, Sbs.mkL (rows := [_, _, _, _]) rfl rfl rfl ⟨rfl, rfl, congrArg (A.vw 1 0) hm2.symm, rfl, rfl, rfl, rfl, rfl, rfl, rfl, incI hΩ (by omega), trivial⟩⟩
      · replace h := geI hΩ h
        rw [List.drop_of_length_le (by omega : d.length ≤ j), nF, List.nil_append] at hj2
        obtain ⟨o1, m1, hm1, rfl⟩ : ∃ o1 m1, o1.length = m1 ∧ o1 = o2 := ⟨_, _, rfl, rfl⟩
        obtain rfl : m2 = m1 := hm2.symm.trans hm1
        clear hm2
        refine loopX htab hΩ (fun j : Nat × List Flt => ⟨[(1, .sl false 1 xs), (2, .pt 0 0 0), (5, .vw 1 0 j.2.length), (14, .sl false 1 xs), (15, .sc (.int .i64 (Ω.int (Ω.len xs)))), (16, .sc (.int .i64 (Ω.int i))), (7, .pt 2 0 0), (8, .pt 3 0 0), (58, .sl false 7 bs), (59, .sc (.int .i64 (Ω.int (Ω.len bs)))), (60, .sc (.int .i64 (Ω.int j.1)))], 77, [some ⟨1, [.sl false 8 cs], true⟩, some ⟨3, e j.2, false⟩, some ⟨1, [i64 c], true⟩, some ⟨8, [.agg [str nn, i64 v1, i64 v2, i64 v3, i64 sz, .sl false 1 ps, .sl false 1 ds, .sl false 7 bs]], true⟩]⟩) (fun j => j.1 ≤ b.length ∧ j.2 ++ (bF l s c j.1 (b.drop j.1) ++ aF l s (i + 1) (s.drop (i + 1))) = tot) (fun j => b.length - j.1) (0, o1) ⟨Nat.zero_le _, hj2⟩
          (Sbs.mk rfl rfl ⟨rfl, rfl, congrArg (A.vw 1 0) hm1.symm, rfl, rfl, rfl, rfl, rfl, rfl, rfl, zeroI hΩ, trivial⟩) ?_
        rintro ⟨j, o2⟩ ⟨hj, hj2⟩
        dsimp only at hj hj2
        dsimp only
        obtain ⟨m2, hm2⟩ : ∃ m2, o2.length = m2 := ⟨_, rfl⟩
        rw [hm2]
        cbv
        have hml2 : m2 ≤ 2199024304128 := by
          have := congrArg List.length hj2
          rw [List.length_append, hm2] at this
          omega
        refine br (fun h => ?_) (fun h => ?_) <;> cbv
        · replace h := ltI hΩ h
          obtain ⟨u, huu⟩ := at_of (cs := b) (by omega : j < b.length)
          rw [bF_at huu, List.append_assoc] at hj2
          have hc := hgiv c u
          generalize givB l s c u = gu at hc hj2
          refine ⟨⟨nnI hΩ⟩, _, rdI hΩ hbs huu, ?_⟩
          cbv
          refine call_pure hΩ 5 hc (ro_clo2 rfl rfl) (fits _) rfl rfl ?_
          cbv
          refine br (fun g => ?_) (fun g => ?_) <;> cbv
          · have g : gu = true := g
            rw [g, if_pos rfl, ← List.append_assoc] at hj2
            refine ⟨⟨rfl, okAll rfl, by show (m2 + 1) * 24 ≤ 140737488355328; omega, by show m2 + 1 ≤ 9223372036854775807; omega⟩, (j + 1, o2 ++ [⟨3, c, j⟩]), ⟨by dsimp only; omega, hj2⟩, by dsimp only; omega, ?_⟩
            exact Sbs.trans (Sbs.lastN (rows := [_, _, _, _, _]) rfl) (Sbs.mkL (rows := [_, _, _, _]) rfl rfl (by dsimp only; rw [← hap o2 ⟨3, c, j⟩ m2 hm2]; subst hΩ; rfl) ⟨rfl, rfl, congrArg (A.vw 1 0) (hlp o2 ⟨3, c, j⟩ _ m2 hm2), rfl, rfl, rfl, rfl, rfl, rfl, rfl, incI hΩ (by omega), trivial⟩)
          · have g : gu = false := g
            rw [g] at hj2
            exact ⟨(j + 1, o2), ⟨by dsimp only; omega, hj2⟩, by dsimp only; omega, Sbs.mkL (rows := [_, _, _, _]) rfl rfl rfl ⟨rfl, rfl, congrArg (A.vw 1 0) hm2.symm, rfl, rfl, rfl, rfl, rfl, rfl, rfl, incI hΩ (by omega), trivial⟩⟩
        · replace h := geI hΩ h
          rw [List.drop_of_length_le (by omega : b.length ≤ j), bF, List.nil_append] at hj2
          exact ⟨(i + 1, o2), ⟨by dsimp only; omega, hj2⟩, by dsimp only; omega, Sbs.trans (Sbs.last (rows := [_, _, _]) rfl) (Sbs.mkL (rows := [_, _]) rfl rfl rfl ⟨rfl, rfl, congrArg (A.vw 1 0) hm2.symm, rfl, rfl, incI hΩ (by omega), trivial⟩)⟩
  · have hil : i = s.length := by have := geI hΩ h; omega
    rw [hil, List.drop_length, aF, List.append_nil] at hout
    refine ⟨⟨rfl, by show m ≤ (e out).length; rw [hel, hm]; exact Nat.le_refl _⟩, .of ?_⟩
    rw [← hout]
    subst hΩ
    show A.sl true 3 ((e out).take m) = _
    rw [List.take_of_length_le (by rw [hel]; omega)]
theorem c_l3Faults (l : List Pck) (s : List Int) (hl : l.length ≤ 1048576) (hs : s.length ≤ 1048576) (ho : ∀ o ∈ l, o.Small) (hk : ∀ k ∈ s, inB k 0 ((l.length : Int) - 1) = true) : PCtr PP n_spec_l3Faults [encP l, .sl false 1 (s.map i64)] (.sl true 3 ((fltS l s).map Flt.enc)) := by
  obtain ⟨Ω, hΩ⟩ : ∃ Ω, Ω = std := ⟨_, rfl⟩
  have hat : ∀ k, inB k 0 ((l.length : Int) - 1) = true → 0 ≤ k ∧ ∃ v1 v2 v3 sz ps ds bs, (l.map (Pck.enc false))[k.toNat]? = some (.agg [str (pk l k).n, i64 v1, i64 v2, i64 v3, i64 sz, .sl false 1 ps, .sl false 1 ds, .sl false 7 bs]) ∧ pk l k ∈ l ∧
      Pck.enc false (pk l k) = .agg [str (pk l k).n, i64 v1, i64 v2, i64 v3, i64 sz, .sl false 1 ps, .sl false 1 ds, .sl false 7 bs] ∧ ds = (pk l k).d.map (encTs false) ∧ bs = (pk l k).b.map Trm.enc := fun k h => by
    obtain ⟨h0, h1, h2, h3⟩ := pk_at h
    obtain ⟨ps, ds, bs, hen, hp, hd, hb⟩ := enc_raw (pk l k)
    exact ⟨h0, _, _, _, _, ps, ds, bs, by rw [List.getElem?_map, h2]; exact congrArg some hen, h3, hen, hd, hb⟩
  obtain ⟨tot, htot⟩ : ∃ tot, tot = fltS l s := ⟨_, rfl⟩
  have hb : tot.length ≤ 2199024304128 := by rw [htot]; exact fltS_len (fun k h => ⟨(ho _ (pk_at (hk k h)).2.2.2).d, (ho _ (pk_at (hk k h)).2.2.2).b⟩) hs
  rw [← htot]
  obtain ⟨e, he⟩ : ∃ e : List Flt → List A, e = List.map Flt.enc := ⟨_, rfl⟩
  have hel : ∀ o, (e o).length = o.length := fun o => by rw [he, List.length_map]
  have hea : ∀ o f, e (o ++ [f]) = e o ++ [f.enc] := fun o f => by rw [he, List.map_append]; rfl
  have he0 : e [] = [] := by rw [he]; rfl
  have hap : ∀ o f m, o.length = m → Ω.app (Ω.take m (e o)) [f.enc] = e (o ++ [f]) := fun o f m h => by
    rw [hea]
    subst hΩ
    show (e o).take m ++ [f.enc] = _
    rw [List.take_of_length_le (by rw [hel]; omega)]
  have hlp : ∀ (o : List Flt) (f : Flt) (x : A) m, o.length = m → Ω.plus m (Ω.len [x]) = (o ++ [f]).length := fun o f x m h => by
    rw [List.length_append, h]; subst hΩ; rfl
  rw [show List.map Flt.enc = e from he.symm]
  clear he
  obtain ⟨cs, hcs⟩ : ∃ cs, cs = l.map (Pck.enc false) := ⟨_, rfl⟩
  obtain ⟨xs, hxs⟩ : ∃ xs, xs = s.map i64 := ⟨_, rfl⟩
  have hxl : xs.length = s.length := by rw [hxs, List.length_map]
  have hmet : ∀ d : List Trm, d.length ≤ 1048576 → PCtr PP n_spec_l3Met [encP l, .sl false 1 xs, .sl false 7 (d.map Trm.enc)] (boo (metB l s d)) := fun d hd => by
    rw [hxs]
    exact c_l3Met l s d hl hs hd ho hk
  have hgiv : ∀ q t, PCtr PP n_spec_l3Given [encP l, .sl false 1 xs, t.enc, i64 q] (boo (givB l s q t)) := fun q t => by
    rw [hxs]
    exact c_l3Given l s t q hl hs ho hk
  unfold encP at *
  unfold fltS at htot
  rw [← hcs] at hat hmet hgiv ⊢
  rw [← hxs]
  have htab := tab
  have hmo := hmo
  refine PCtr.walk tab hΩ fn_spec_l3Faults rfl ?_
  generalize PP = P at *
  cbv
  refine loopX htab hΩ (fun i : Nat × List Flt => ⟨[(0, .sl false 8 cs), (1, .sl false 1 xs), (5, .vw 0 0 i.2.length), (6, .sc (.int .i64 (Ω.int i.1)))], 103,
      [some ⟨3, e i.2, false⟩]⟩) (fun i => i.1 ≤ s.length ∧ i.2 ++ aF l s i.1 (s.drop i.1) = tot) (fun i => s.length - i.1) (0, []) ⟨Nat.zero_le _, htot.symm⟩
    (Sbs.mk rfl (by dsimp only; rw [he0]) ⟨rfl, rfl, rfl, zeroI hΩ, trivial⟩) ?_
  rintro ⟨i, out⟩ ⟨hi, hout⟩
  dsimp only at hi hout
  dsimp only
  obtain ⟨m, hm⟩ : ∃ m, out.length = m := ⟨_, rfl⟩
  rw [hm]
  cbv
  refine br (fun h => ?_) (fun h => ?_) <;> cbv
  · replace h := ltI hΩ h
    obtain ⟨c, hcc⟩ := at_of (cs := s) (by omega : i < s.length)
    rw [aF_at hcc] at hout
    have hcin := hk c (List.mem_of_getElem? hcc)
    obtain ⟨hc0, v1, v2, v3, sz, ps, ds, bs, hx, hm2, hen, hds, hbs⟩ := hat c hcin
    have hdl : ds.length = (pk l c).d.length := by rw [hds, List.length_map]
    have hbl : bs.length = (pk l c).b.length := by rw [hbs, List.length_map]
    have hsm := ho _ hm2
    unfold tF at hout
    have hd1 := hsm.d
    have hd2 := hsm.e
    have hb1 := hsm.b
    generalize (pk l c).d = d at *
    generalize (pk l c).b = b at *
    generalize (pk l c).n = nn at *
    obtain ⟨tw, htw⟩ : ∃ tw, tw = twB l s i nn := ⟨_, rfl⟩
    rw [← htw] at hout
    unfold twB at htw
    refine ⟨⟨nnI hΩ⟩, _, rdI hΩ hxs hcc, ?_⟩
    cbv
    refine ⟨⟨hc0⟩, _, hx, ?_⟩
    cbv
    obtain ⟨rest, hrest⟩ : ∃ rest, rest = nF l s c 0 d ++ (bF l s c 0 b ++ aF l s (i + 1) (s.drop (i + 1))) := ⟨_, rfl⟩
    rw [← hrest] at hout
    have hml : tw = true → m + 1 ≤ 2199024304129 := fun _ => by
      have := congrArg List.length hout
      simp only [List.length_append] at this
      omega
    refine loopX htab hΩ (fun q : Nat => ⟨[(0, .sl false 8 cs), (1, .sl false 1 xs), (5, .vw 0 0 m), (6, .sc (.int .i64 (Ω.int i))), (7, .pt 1 0 0), (8, .sc (.int .i64 (Ω.int q)))], 103,
        [some ⟨3, e out, false⟩, some ⟨8, [.agg [str nn, i64 v1, i64 v2, i64 v3, i64 sz, .sl false 1 ps, .sl false 1 ds, .sl false 7 bs]], true⟩]⟩)
      (fun q => q ≤ i ∧ tw = ((s.take i).drop q).any fun j => (pk l j).n == nn) (fun q => i - q) 0 ⟨Nat.zero_le _, htw⟩ (Sbs.mk rfl rfl ⟨rfl, rfl, rfl, rfl, rfl, zeroI hΩ, trivial⟩) ?_
    rintro q ⟨hq, hqa⟩
    cbv
    refine br (fun g => ?_) (fun g => ?_) <;> cbv
    · replace g := ltN hΩ g
      obtain ⟨p, hpp⟩ := at_of (cs := s) (by omega : q < s.length)
      rw [any_at _ (show (s.take i)[q]? = some p by rw [List.getElem?_take_of_lt g]; exact hpp)] at hqa
      obtain ⟨hp0, w1, w2, w3, wz, ps', ds', bs', hx', -, -, -, -⟩ := hat p (hk p (List.mem_of_getElem? hpp))
      generalize (pk l p).n = n2 at hqa hx'
      refine ⟨VC_drawn htab hΩ hmo (by kernel_rfl) ?_⟩
      cbv
      refine ⟨⟨nnI hΩ⟩, _, rdI hΩ hxs hpp, ?_⟩
      cbv
      refine ⟨⟨hp0⟩, _, hx', ?_⟩
      cbv
      refine br (fun g2 => ?_) (fun g2 => ?_) <;> cbv
      · have g2 : tw = true := by rw [hqa, show (n2 == nn) = true by subst hΩ; exact g2]; rfl
        have hml := hml g2
        rw [g2, if_pos rfl, ← List.append_assoc] at hout
        refine ⟨⟨nnI hΩ⟩, _, rdI hΩ hxs hcc, ?_⟩
        cbv
        refine ⟨⟨rfl, okAll rfl, by show (m + 1) * 24 ≤ 140737488355328; omega, by show m + 1 ≤ 9223372036854775807; omega⟩, ?_⟩
        refine loopX htab hΩ (fun j : Nat × List Flt => ⟨[(0, .sl false 8 cs), (1, .sl false 1 xs), (5, .vw 0 0 j.2.length), (6, .sc (.int .i64 (Ω.int i))), (7, .pt 1 0 0), (9, .sc (.int .i64 (Ω.int j.1)))], 103, [some ⟨3, e j.2, false⟩, some ⟨8, [.agg [str nn, i64 v1, i64 v2, i64 v3, i64 sz, .sl false 1 ps, .sl false 1 ds, .sl false 7 bs]], true⟩]⟩) (fun j => j.1 ≤ d.length ∧ j.2 ++ (nF l s c j.1 (d.drop j.1) ++ (bF l s c 0 b ++ aF l s (i + 1) (s.drop (i + 1)))) = tot) (fun j => d.length - j.1) (0, out ++ [(⟨1, c, 0⟩ : Flt)]) ⟨Nat.zero_le _, by rw [hrest] at hout; exact hout⟩
          (Sbs.trans (Sbs.lastN (rows := [_, _]) rfl) (Sbs.mk rfl (by dsimp only; rw [← hap out ⟨1, c, 0⟩ m hm]; subst hΩ; rfl) ⟨rfl, rfl, congrArg (A.vw 0 0) (hlp out ⟨1, c, 0⟩ _ m hm), rfl, rfl, zeroI hΩ, trivial⟩)) ?_
        rintro ⟨j, o2⟩ ⟨hj, hj2⟩
        dsimp only at hj hj2
        dsimp only
        obtain ⟨m2, hm2⟩ : ∃ m2, o2.length = m2 := ⟨_, rfl⟩
        rw [hm2]
        cbv
        have hml2 : m2 ≤ 2199024304128 := by
          have := congrArg List.length hj2
          rw [List.length_append, hm2] at this
          omega
        refine br (fun h => ?_) (fun h => ?_) <;> cbv
        · replace h := ltI hΩ h
          obtain ⟨u, huu⟩ := at_of (cs := d) (by omega : j < d.length)
          rw [nF_at huu, List.append_assoc] at hj2
          have hc := hmet u (hd2 u (List.mem_of_getElem? huu))
          obtain ⟨us, hus⟩ : ∃ us, us = u.map Trm.enc := ⟨_, rfl⟩
          rw [← hus] at hc
          have hrd : ds[(Ω.int j).toNat]? = some (.sl false 7 us) := (rdI hΩ hds huu).trans (by rw [hus]; rfl)
          generalize metB l s u = gu at hc hj2
          refine ⟨⟨nnI hΩ⟩, _, hrd, ?_⟩
          cbv
          refine call_pure hΩ 3 hc rfl (fits _) rfl rfl ?_
          cbv
          refine br (fun g => ?_) (fun g => ?_) <;> cbv
          · have g : gu = false := notT' hΩ g
            rw [g, if_neg (by simp), ← List.append_assoc] at hj2
            refine ⟨⟨nnI hΩ⟩, _, rdI hΩ hxs hcc, ?_⟩
            cbv
            refine ⟨⟨rfl, okAll rfl, by show (m2 + 1) * 24 ≤ 140737488355328; omega, by show m2 + 1 ≤ 9223372036854775807; omega⟩, (j + 1, o2 ++ [⟨2, c, j⟩]), ⟨by dsimp only; omega, hj2⟩, by dsimp only; omega, ?_⟩
            exact Sbs.trans (Sbs.lastN (rows := [_, _]) rfl) (Sbs.mk rfl (by dsimp only; rw [← hap o2 ⟨2, c, j⟩ m2 hm2]; subst hΩ; rfl) ⟨rfl, rfl, congrArg (A.vw 0 0) (hlp o2 ⟨2, c, j⟩ _ m2 hm2), rfl, rfl, incI hΩ (by omega), trivial⟩)
          · have g : gu = true := notF' hΩ g
            rw [g] at hj2
            exact ⟨(j + 1, o2), ⟨by dsimp only; omega, hj2⟩, by dsimp only; omega, Sbs.mk rfl rfl ⟨rfl, rfl, congrArg (A.vw 0 0) hm2.symm, rfl, rfl, incI hΩ (by omega), trivial⟩⟩
        · replace h := geI hΩ h
          rw [List.drop_of_length_le (by omega : d.length ≤ j), nF, List.nil_append] at hj2
          obtain ⟨o1, m1, hm1, rfl⟩ : ∃ o1 m1, o1.length = m1 ∧ o1 = o2 := ⟨_, _, rfl, rfl⟩
          obtain rfl : m2 = m1 := hm2.symm.trans hm1
          clear hm2
          refine loopX htab hΩ (fun j : Nat × List Flt => ⟨[(0, .sl false 8 cs), (1, .sl false 1 xs), (5, .vw 0 0 j.2.length), (6, .sc (.int .i64 (Ω.int i))), (7, .pt 1 0 0), (10, .sc (.int .i64 (Ω.int j.1)))], 103, [some ⟨3, e j.2, false⟩, some ⟨8, [.agg [str nn, i64 v1, i64 v2, i64 v3, i64 sz, .sl false 1 ps, .sl false 1 ds, .sl false 7 bs]], true⟩]⟩) (fun j => j.1 ≤ b.length ∧ j.2 ++ (bF l s c j.1 (b.drop j.1) ++ aF l s (i + 1) (s.drop (i + 1))) = tot) (fun j => b.length - j.1) (0, o1) ⟨Nat.zero_le _, hj2⟩
            (Sbs.mk rfl rfl ⟨rfl, rfl, congrArg (A.vw 0 0) hm1.symm, rfl, rfl, zeroI hΩ, trivial⟩) ?_
          rintro ⟨j, o2⟩ ⟨hj, hj2⟩
          dsimp only at hj hj2
          dsimp only
          obtain ⟨m2, hm2⟩ : ∃ m2, o2.length = m2 := ⟨_, rfl⟩
          rw [hm2]
          cbv
          have hml2 : m2 ≤ 2199024304128 := by
            have := congrArg List.length hj2
            rw [List.length_append, hm2] at this
            omega
          refine br (fun h => ?_) (fun h => ?_) <;> cbv
          · replace h := ltI hΩ h
            obtain ⟨u, huu⟩ := at_of (cs := b) (by omega : j < b.length)
            rw [bF_at huu, List.append_assoc] at hj2
            have hc := hgiv c u
            generalize givB l s c u = gu at hc hj2
            refine ⟨VC_drawn htab hΩ hmo (by kernel_rfl) ?_⟩
            cbv
            refine ⟨⟨nnI hΩ⟩, _, rdI hΩ hbs huu, ?_⟩
            cbv
            refine ⟨⟨nnI hΩ⟩, _, rdI hΩ hxs hcc, ?_⟩
            cbv
            refine QCall_pure (k := 3) hc rfl (fits _) rfl ?_
            cbv
            refine br (fun g => ?_) (fun g => ?_) <;> cbv
            · have g : gu = true := g
              rw [g, if_pos rfl, ← List.append_assoc] at hj2
              refine ⟨⟨nnI hΩ⟩, _, rdI hΩ hxs hcc, ?_⟩
              cbv
              refine ⟨⟨rfl, okAll rfl, by show (m2 + 1) * 24 ≤ 140737488355328; omega, by show m2 + 1 ≤ 9223372036854775807; omega⟩, (j + 1, o2 ++ [⟨3, c, j⟩]), ⟨by dsimp only; omega, hj2⟩, by dsimp only; omega, ?_⟩
              exact Sbs.trans (Sbs.lastN (rows := [_, _]) rfl) (Sbs.mk rfl (by dsimp only; rw [← hap o2 ⟨3, c, j⟩ m2 hm2]; subst hΩ; rfl) ⟨rfl, rfl, congrArg (A.vw 0 0) (hlp o2 ⟨3, c, j⟩ _ m2 hm2), rfl, rfl, incI hΩ (by omega), trivial⟩)
            · have g : gu = false := g
              rw [g] at hj2
              exact ⟨(j + 1, o2), ⟨by dsimp only; omega, hj2⟩, by dsimp only; omega, Sbs.mk rfl rfl ⟨rfl, rfl, congrArg (A.vw 0 0) hm2.symm, rfl, rfl, incI hΩ (by omega), trivial⟩⟩
          · replace h := geI hΩ h
            rw [List.drop_of_length_le (by omega : b.length ≤ j), bF, List.nil_append] at hj2
            exact ⟨(i + 1, o2), ⟨by dsimp only; omega, hj2⟩, by dsimp only; omega, Sbs.mkL (rows := [_]) rfl rfl rfl ⟨rfl, rfl, congrArg (A.vw 0 0) hm2.symm, incI hΩ (by omega), trivial⟩⟩

      · rw [show (n2 == nn) = false by subst hΩ; exact g2, Bool.false_or] at hqa
        exact ⟨q + 1, ⟨by omega, hqa⟩, by omega, Sbs.mk rfl rfl ⟨rfl, rfl, rfl, rfl, rfl, incI hΩ (by omega), trivial⟩⟩
    · replace g := geN hΩ g
      rw [List.drop_of_length_le (by simp; omega), List.any_nil] at hqa
      rw [hqa] at hout
      refine loopX htab hΩ (fun j : Nat × List Flt => ⟨[(0, .sl false 8 cs), (1, .sl false 1 xs), (5, .vw 0 0 j.2.length), (6, .sc (.int .i64 (Ω.int i))), (7, .pt 1 0 0), (9, .sc (.int .i64 (Ω.int j.1)))], 103, [some ⟨3, e j.2, false⟩, some ⟨8, [.agg [str nn, i64 v1, i64 v2, i64 v3, i64 sz, .sl false 1 ps, .sl false 1 ds, .sl false 7 bs]], true⟩]⟩) (fun j => j.1 ≤ d.length ∧ j.2 ++ (nF l s c j.1 (d.drop j.1) ++ (bF l s c 0 b ++ aF l s (i + 1) (s.drop (i + 1)))) = tot) (fun j => d.length - j.1) (0, out) ⟨Nat.zero_le _, by rw [hrest] at hout; exact hout⟩
        (Sbs.mk rfl rfl ⟨rfl, rfl, congrArg (A.vw 0 0) hm.symm, rfl, rfl, zeroI hΩ, trivial⟩) ?_
      rintro ⟨j, o2⟩ ⟨hj, hj2⟩
      dsimp only at hj hj2
      dsimp only
      obtain ⟨m2, hm2⟩ : ∃ m2, o2.length = m2 := ⟨_, rfl⟩
      rw [hm2]
      cbv
      have hml2 : m2 ≤ 2199024304128 := by
        have := congrArg List.length hj2
        rw [List.length_append, hm2] at this
        omega
      refine br (fun h => ?_) (fun h => ?_) <;> cbv
      · replace h := ltI hΩ h
        obtain ⟨u, huu⟩ := at_of (cs := d) (by omega : j < d.length)
        rw [nF_at huu, List.append_assoc] at hj2
        have hc := hmet u (hd2 u (List.mem_of_getElem? huu))
        obtain ⟨us, hus⟩ : ∃ us, us = u.map Trm.enc := ⟨_, rfl⟩
        rw [← hus] at hc
        have hrd : ds[(Ω.int j).toNat]? = some (.sl false 7 us) := (rdI hΩ hds huu).trans (by rw [hus]; rfl)
        generalize metB l s u = gu at hc hj2
        refine ⟨⟨nnI hΩ⟩, _, hrd, ?_⟩
        cbv
        refine call_pure hΩ 3 hc rfl (fits _) rfl rfl ?_
        cbv
        refine br (fun g => ?_) (fun g => ?_) <;> cbv
        · have g : gu = false := notT' hΩ g
          rw [g, if_neg (by simp), ← List.append_assoc] at hj2
          refine ⟨⟨nnI hΩ⟩, _, rdI hΩ hxs hcc, ?_⟩
          cbv
          refine ⟨⟨rfl, okAll rfl, by show (m2 + 1) * 24 ≤ 140737488355328; omega, by show m2 + 1 ≤ 9223372036854775807; omega⟩, (j + 1, o2 ++ [⟨2, c, j⟩]), ⟨by dsimp only; omega, hj2⟩, by dsimp only; omega, ?_⟩
          exact Sbs.trans (Sbs.lastN (rows := [_, _]) rfl) (Sbs.mk rfl (by dsimp only; rw [← hap o2 ⟨2, c, j⟩ m2 hm2]; subst hΩ; rfl) ⟨rfl, rfl, congrArg (A.vw 0 0) (hlp o2 ⟨2, c, j⟩ _ m2 hm2), rfl, rfl, incI hΩ (by omega), trivial⟩)
        · have g : gu = true := notF' hΩ g
          rw [g] at hj2
          exact ⟨(j + 1, o2), ⟨by dsimp only; omega, hj2⟩, by dsimp only; omega, Sbs.mk rfl rfl ⟨rfl, rfl, congrArg (A.vw 0 0) hm2.symm, rfl, rfl, incI hΩ (by omega), trivial⟩⟩
      · replace h := geI hΩ h
        rw [List.drop_of_length_le (by omega : d.length ≤ j), nF, List.nil_append] at hj2
        obtain ⟨o1, m1, hm1, rfl⟩ : ∃ o1 m1, o1.length = m1 ∧ o1 = o2 := ⟨_, _, rfl, rfl⟩
        obtain rfl : m2 = m1 := hm2.symm.trans hm1
        clear hm2
        refine loopX htab hΩ (fun j : Nat × List Flt => ⟨[(0, .sl false 8 cs), (1, .sl false 1 xs), (5, .vw 0 0 j.2.length), (6, .sc (.int .i64 (Ω.int i))), (7, .pt 1 0 0), (10, .sc (.int .i64 (Ω.int j.1)))], 103, [some ⟨3, e j.2, false⟩, some ⟨8, [.agg [str nn, i64 v1, i64 v2, i64 v3, i64 sz, .sl false 1 ps, .sl false 1 ds, .sl false 7 bs]], true⟩]⟩) (fun j => j.1 ≤ b.length ∧ j.2 ++ (bF l s c j.1 (b.drop j.1) ++ aF l s (i + 1) (s.drop (i + 1))) = tot) (fun j => b.length - j.1) (0, o1) ⟨Nat.zero_le _, hj2⟩
          (Sbs.mk rfl rfl ⟨rfl, rfl, congrArg (A.vw 0 0) hm1.symm, rfl, rfl, zeroI hΩ, trivial⟩) ?_
        rintro ⟨j, o2⟩ ⟨hj, hj2⟩
        dsimp only at hj hj2
        dsimp only
        obtain ⟨m2, hm2⟩ : ∃ m2, o2.length = m2 := ⟨_, rfl⟩
        rw [hm2]
        cbv
        have hml2 : m2 ≤ 2199024304128 := by
          have := congrArg List.length hj2
          rw [List.length_append, hm2] at this
          omega
        refine br (fun h => ?_) (fun h => ?_) <;> cbv
        · replace h := ltI hΩ h
          obtain ⟨u, huu⟩ := at_of (cs := b) (by omega : j < b.length)
          rw [bF_at huu, List.append_assoc] at hj2
          have hc := hgiv c u
          generalize givB l s c u = gu at hc hj2
          refine ⟨VC_drawn htab hΩ hmo (by kernel_rfl) ?_⟩
          cbv
          refine ⟨⟨nnI hΩ⟩, _, rdI hΩ hbs huu, ?_⟩
          cbv
          refine ⟨⟨nnI hΩ⟩, _, rdI hΩ hxs hcc, ?_⟩
          cbv
          refine QCall_pure (k := 3) hc rfl (fits _) rfl ?_
          cbv
          refine br (fun g => ?_) (fun g => ?_) <;> cbv
          · have g : gu = true := g
            rw [g, if_pos rfl, ← List.append_assoc] at hj2
            refine ⟨⟨nnI hΩ⟩, _, rdI hΩ hxs hcc, ?_⟩
            cbv
            refine ⟨⟨rfl, okAll rfl, by show (m2 + 1) * 24 ≤ 140737488355328; omega, by show m2 + 1 ≤ 9223372036854775807; omega⟩, (j + 1, o2 ++ [⟨3, c, j⟩]), ⟨by dsimp only; omega, hj2⟩, by dsimp only; omega, ?_⟩
            exact Sbs.trans (Sbs.lastN (rows := [_, _]) rfl) (Sbs.mk rfl (by dsimp only; rw [← hap o2 ⟨3, c, j⟩ m2 hm2]; subst hΩ; rfl) ⟨rfl, rfl, congrArg (A.vw 0 0) (hlp o2 ⟨3, c, j⟩ _ m2 hm2), rfl, rfl, incI hΩ (by omega), trivial⟩)
          · have g : gu = false := g
            rw [g] at hj2
            exact ⟨(j + 1, o2), ⟨by dsimp only; omega, hj2⟩, by dsimp only; omega, Sbs.mk rfl rfl ⟨rfl, rfl, congrArg (A.vw 0 0) hm2.symm, rfl, rfl, incI hΩ (by omega), trivial⟩⟩
        · replace h := geI hΩ h
          rw [List.drop_of_length_le (by omega : b.length ≤ j), bF, List.nil_append] at hj2
          exact ⟨(i + 1, o2), ⟨by dsimp only; omega, hj2⟩, by dsimp only; omega, Sbs.mkL (rows := [_]) rfl rfl rfl ⟨rfl, rfl, congrArg (A.vw 0 0) hm2.symm, incI hΩ (by omega), trivial⟩⟩

  · have hil : i = s.length := by have := geI hΩ h; omega
    rw [hil, List.drop_length, aF, List.append_nil] at hout
    refine ⟨⟨rfl, by show m ≤ (e out).length; rw [hel, hm]; exact Nat.le_refl _⟩, .of ?_⟩
    rw [← hout]
    subst hΩ
    show A.sl true 3 ((e out).take m) = _
    rw [List.take_of_length_le (by rw [hel]; omega)]
end Go.Proofs.Ytfacpamkigmlaaa

/- Walks: draws of sets. Plain theorems. -/
set_option linter.unusedVariables false
set_option linter.unusedSimpArgs false
namespace Go.Proofs.Ytfacpamkigmlaaa
open Go Go.Fw
set_option maxRecDepth 100000
theorem nF_mem {c : List Pck} {s : List Int} {k : Int} : ∀ {d : List (List Trm)} {j : Nat} {f : Flt}, f ∈ nF c s k j d → f.p = k
  | [], _, _, h => by simp [nF] at h
  | l :: d, j, f, h => by
    rw [nF, List.mem_append] at h
    rcases h with h | h
    · split at h
      · cases h
      · simp at h; rw [h]
    · exact nF_mem h
theorem bF_mem {c : List Pck} {s : List Int} {k : Int} : ∀ {d : List Trm} {j : Nat} {f : Flt}, f ∈ bF c s k j d → f.p = k
  | [], _, _, h => by simp [bF] at h
  | l :: d, j, f, h => by
    rw [bF, List.mem_append] at h
    rcases h with h | h
    · split at h
      · simp at h; rw [h]
      · cases h
    · exact bF_mem h
theorem aF_mem {c : List Pck} {s : List Int} : ∀ {l : List Int} {i : Nat} {f : Flt}, f ∈ aF c s i l → f.p ∈ l
  | [], _, _, h => by simp [aF] at h
  | k :: l, i, f, h => by
    rw [aF, List.mem_append, List.mem_append, List.mem_append] at h
    rcases h with h | h | h | h
    · unfold tF at h
      split at h
      · simp at h; rw [h]; simp
      · cases h
    · rw [nF_mem h]; simp
    · rw [bF_mem h]; simp
    · exact List.mem_cons_of_mem _ (aF_mem h)
theorem fltS_mem {c : List Pck} {s : List Int} {f : Flt} (h : f ∈ fltS c s) : f.p ∈ s := aF_mem h
theorem d_l3DrawSet {bs : List A} (hb : Src bs) (l : List Pck) (hl : l.length ≤ 40) (ho : ∀ o ∈ l, o.Small) (p : Int) (h0 : 0 ≤ p) (h1 : p + 50 ≤ 1099511627776) :
    XCtr PP n_spec_l3DrawSet [src bs p, encP l] (DR bs p 50 [encP l] fun x => ∃ s : List Int, x = .sl true 1 (s.map i64) ∧ s.length ≤ 41) := by
  obtain ⟨Ω, hΩ⟩ : ∃ Ω, Ω = std := ⟨_, rfl⟩
  have hC := fun p n a b c => d_l1Chance hb p n a b c
  have hP := fun p ns a b c d => d_l1Pick hb p ns a b c d
  have hcat := c_specCatalogFault l (by omega) ho
  have hflt : ∀ s : List Int, s.length ≤ 40 → (∀ k ∈ s, 0 ≤ k ∧ k < (l.length : Int)) → PCtr PP n_spec_l3Faults [encP l, .sl false 1 (s.map i64)] (.sl true 3 ((fltS l s).map Flt.enc)) := fun s hs hk =>
    c_l3Faults l s (by omega) (by omega) ho fun k h => by
      have := hk k h
      simp only [inB, Bool.and_eq_true, decide_eq_true_eq]; omega
  generalize catF l = cf at *
  obtain ⟨F, hF⟩ : ∃ F : List Int → List A, F = fun s => s.map i64 := ⟨_, rfl⟩
  have hF0 : F [] = [] := by rw [hF]; rfl
  have hFl : ∀ s, (F s).length = s.length := fun s => by rw [hF]; exact List.length_map _
  have hFz : ∀ s, (F s).map frz = F s := fun s => by rw [hF]; exact frz_I s
  have hFs : ∀ (s : List Int) (n : Int), Ω.app (Ω.take s.length (F s)) [i64 n] = F (s ++ [n]) := fun s n => by
    subst hΩ; rw [hF]; show List.take s.length (List.map i64 s) ++ _ = List.map i64 (s ++ [n])
    rw [List.map_append, List.take_of_length_le (by simp)]; rfl
  have hFt : ∀ s, A.sl true 1 (Ω.take s.length (F s)) = .sl true 1 (s.map i64) := fun s => by
    subst hΩ; rw [hF]; exact congrArg _ (List.take_of_length_le (by simp))
  have hFt0 : ∀ s m, s.length = m → A.sl true 1 (Ω.take m (F s)) = .sl true 1 (s.map i64) := fun s m h => by rw [← h, hFt]
  have hFt1 : ∀ s n m, s.length = m → A.sl true 1 (Ω.take (Ω.plus m (Ω.len [i64 n])) (Ω.app (Ω.take m (F s)) [i64 n])) = .sl true 1 ((s ++ [n]).map i64) := fun s n m h => by
    rw [← h, hFs, ← hFt]; congr 2; subst hΩ; rw [List.length_append]; rfl
  have hFle0 : ∀ s {m}, s.length = m → m ≤ (F s).length := fun s {m} h => by rw [hFl]; omega
  have hFle : ∀ s {m} {X : A}, s.length = m → Ω.plus m (Ω.len [X]) ≤ (Ω.app (Ω.take m (F s)) [X]).length := fun s {m X} h => by
    subst hΩ; show m + 1 ≤ (List.take m (F s) ++ [X]).length
    rw [List.take_of_length_le (by rw [hFl]; omega), List.length_append, hFl]; show m + 1 ≤ s.length + 1; omega
  have hFat : ∀ (s : List Int) (j : Nat) (c : Int), s[j]? = some c → (F s)[Ω.plus 0 (Ω.nat (Ω.int j))]? = some (i64 c) := fun s j c h => by
    subst hΩ; show (F s)[0 + j]? = _; rw [Nat.zero_add, hF]; simp [h]
  replace hflt : ∀ s : List Int, s.length ≤ 40 → (∀ k ∈ s, 0 ≤ k ∧ k < (l.length : Int)) → PCtr PP n_spec_l3Faults [encP l, .sl false 1 (F s)] (.sl true 3 ((fltS l s).map Flt.enc)) := fun s a b => by rw [hF]; exact hflt s a b
  clear hF
  obtain ⟨xs, hxs⟩ : ∃ xs, xs = l.map (Pck.enc false) := ⟨_, rfl⟩
  have hxl : xs.length = l.length := by rw [hxs, List.length_map]
  obtain ⟨L, hL⟩ : ∃ L, L = l.length := ⟨_, rfl⟩
  have hlx : Ω.int (Ω.len xs) = (L : Int) := by subst hΩ; rw [hL, ← hxl]; rfl
  unfold encP at *
  rw [← hxs] at hcat hflt ⊢
  rw [← hL] at hflt hl hxl
  have htab := tab
  have hmo := hmo
  refine XCtr.walkO tab hΩ 3 fn_spec_l3DrawSet rfl rfl ?_
  generalize PP = P at *
  cbv
  refine loopX htab hΩ (fun i : Nat × Int × List Int => ⟨[(0, .pt 0 0 0), (1, .sl false 8 xs), (5, .vw 1 0 i.2.2.length), (6, i64 (Ω.int i.1)), (73, .pt 0 0 0), (74, .sl false 8 xs)], 73, [some ⟨2, [.agg [.sl false 1 bs, i64 i.2.1]], true⟩, some ⟨1, F i.2.2, false⟩]⟩)
    (fun i => i.1 ≤ L ∧ p ≤ i.2.1 ∧ i.2.1 ≤ p + (i.1 : Int) ∧ i.2.2.length ≤ i.1 ∧ ∀ k ∈ i.2.2, 0 ≤ k ∧ k < (i.1 : Int)) (fun i => L - i.1) (0, p, [])
    ⟨Nat.zero_le _, by dsimp only; omega, by dsimp only; omega, Nat.le_refl _, by simp⟩ (Sbs.mk rfl (by show _ = [_, some (Row.mk 1 (F []) false)]; rw [hF0]; rfl) ⟨rfl, rfl, rfl, zeroI hΩ, rfl, rfl, trivial⟩) ?_
  rintro ⟨i, q, s⟩ ⟨i1, i2, i3, i4, i5⟩
  dsimp only at i1 i2 i3 i4 i5
  have hFli := hFl s
  obtain ⟨m, hm⟩ : ∃ m, s.length = m := ⟨_, rfl⟩
  have hrows : ∀ {R0 : Option Row} {n : Int}, [R0, some (Row.mk 1 (Ω.app (Ω.take m (F s)) [i64 n]) false)] = [R0, some (Row.mk 1 (F (s ++ [n])) false)] := fun {R0 n} => by rw [← hm, hFs]
  have hvw : ∀ {X : A} {n : Int}, A.vw 1 0 (Ω.plus m (Ω.len [X])) = .vw 1 0 (s ++ [n]).length := fun {X n} => by subst hΩ; rw [List.length_append, hm]; rfl
  have hall : ∀ k ∈ s ++ [Ω.int i], 0 ≤ k ∧ k < ((i + 1 : Nat) : Int) := fun k hk => by
    rcases List.mem_append.1 hk with h | h
    · have := i5 k h; omega
    · rw [List.mem_singleton.1 h]; subst hΩ; show 0 ≤ (i : Int) ∧ (i : Int) < _; omega
  have hall2 : ∀ k ∈ s, 0 ≤ k ∧ k < ((i + 1 : Nat) : Int) := fun k hk => by have := i5 k hk; omega
  have hqb : q + 10 ≤ p + 50 := by omega
  have hq3 : ∀ q' : Int, q' ≤ q + 1 → q' ≤ p + ((i + 1 : Nat) : Int) := fun q' h => by omega
  have hsl : (s ++ [Ω.int i]).length ≤ i + 1 := by rw [List.length_append, hm, List.length_singleton]; omega
  have hlt : Ω.cmp .lss (Ω.int i) (Ω.int (Ω.len xs)) = true → i < L := fun h => by have := ltI hΩ h; omega
  have hsF : ∀ k ∈ s, 0 ≤ k ∧ k < (L : Int) := fun k hk => by have := i5 k hk; omega
  rw [hm] at hFli i4 ⊢
  cbv
  refine br (fun hk => ?_) (fun hk => ?_) <;> cbv
  · have hk := hlt hk
    refine call_dr false hΩ 3 (hC _ _ (by omega) (by omega) (by omega)) rfl rfl rfl (fun q2 x q2a q2b ⟨c1, hx⟩ => ?_)
    subst hx
    cbv
    refine br (fun hc => ?_) (fun hc => ?_) <;> cbv
    · exact ⟨⟨rfl, okAll rfl, by show (m + 1) * 8 ≤ 140737488355328; omega, by show m + 1 ≤ 9223372036854775807; omega⟩, (i + 1, q2, s ++ [Ω.int i]), ⟨by dsimp only; omega, by dsimp only; omega, hq3 q2 q2b, hsl, hall⟩, by dsimp only; omega, (Sbs.cut 2 rfl).trans (Sbs.mk rfl hrows ⟨rfl, rfl, hvw, incI hΩ (by omega), rfl, rfl, trivial⟩)⟩
    · exact ⟨(i + 1, q2, s), ⟨by dsimp only; omega, by dsimp only; omega, hq3 q2 q2b, by dsimp only; omega, hall2⟩, by dsimp only; omega, (Sbs.cut 2 rfl).trans (Sbs.mk rfl rfl ⟨rfl, rfl, congrArg (A.vw 1 0) hm.symm, incI hΩ (by omega), rfl, rfl, trivial⟩)⟩
  · refine call_dr false hΩ 3 (hC _ _ (by omega) (by omega) (by omega)) rfl rfl rfl (fun q4 x q4a q4b ⟨c2, hx⟩ => ?_)
    subst hx
    cbv
    refine br (fun hc2 => ?_) (fun hc2 => ?_) <;> cbv
    · refine call_pure hΩ 3 hcat rfl (fits _) rfl rfl ?_
      cbv
      refine br (fun hc4 => ?_) (fun hc4 => ?_) <;> cbv
      · refine loopX htab hΩ (fun t : List Int => ⟨[(0, .pt 0 0 0), (1, .sl false 8 xs), (5, .vw 1 0 t.length), (73, .pt 0 0 0), (74, .sl false 8 xs)], 73, [some ⟨2, [.agg [.sl false 1 bs, i64 q4]], true⟩, some ⟨1, F t, false⟩]⟩)
          (fun t => t.length ≤ 40 ∧ ∀ k ∈ t, 0 ≤ k ∧ k < (L : Int)) (fun t => t.length) s ⟨by omega, hsF⟩ (Sbs.mk rfl rfl ⟨rfl, rfl, congrArg (A.vw 1 0) hm.symm, rfl, rfl, trivial⟩) ?_
        rintro t ⟨t1, t2⟩
        have hft := hflt t t1 t2
        have hFlt := hFl t
        have hFzt := hFz t
        obtain ⟨es, hes⟩ : ∃ es, es = (fltS l t).map Flt.enc := ⟨_, rfl⟩
        have hro : roFree (.sl true 3 es) = true := by rw [hes]; exact roFAll fun x hx => by obtain ⟨c, _, rfl⟩ := List.mem_map.1 hx; rfl
        have hesl : es.length = (fltS l t).length := by rw [hes, List.length_map]
        have hfirst : 0 < es.length → ∃ f : Flt, es[0]? = some f.enc ∧ f.p ∈ t := fun h => by
          obtain ⟨f, hf⟩ := at_of (cs := fltS l t) (i := 0) (by omega)
          exact ⟨f, by rw [hes, List.getElem?_map, hf]; rfl, fltS_mem (List.mem_of_getElem? hf)⟩
        have hgt : Ω.cmp .gtr (Ω.int (Ω.len es)) 0 = true → 0 < es.length := fun h => by have := gtI_t hΩ h; subst hΩ; have this : (0 : Int) < (es.length : Int) := this; omega
        rw [← hes] at hft
        obtain ⟨M, hM⟩ : ∃ M, t.length = M := ⟨_, rfl⟩
        rw [hM] at hFlt t1 ⊢
        clear hes hesl hflt
        cbv
        refine call_pure hΩ 3 hft (mapO2 rfl (ro_vw rfl hFlt.symm hFzt)) (fits _) hro rfl ?_
        cbv
        refine br (fun hg => ?_) (fun hg => ?_) <;> cbv
        · obtain ⟨f, hf, hfp⟩ := hfirst (hgt hg)
          refine call_pure hΩ 3 hft (mapO2 rfl (ro_vw rfl hFlt.symm hFzt)) (fits _) hro rfl ?_
          cbv
          refine ⟨⟨by subst hΩ; exact ⟨Int.le_refl _, Int.ofNat_lt.2 (hgt hg)⟩⟩, _, (show es[Ω.plus 0 (Ω.nat 0)]? = some (.agg [i64 f.k, i64 f.p, i64 f.a]) by subst hΩ; exact hf), ?_⟩
          cbv
          obtain ⟨fp, hfp2⟩ : ∃ x, x = f.p := ⟨_, rfl⟩
          have hflt1 : (t.filter fun k => !decide (k = fp)).length < M := by
            rw [← hM, hfp2]
            refine List.length_filter_lt_length_iff_exists.2 ⟨f.p, hfp, by simp⟩
          refine loopX htab hΩ (fun i : Nat × List Int => ⟨[(0, .pt 0 0 0), (1, .sl false 8 xs), (5, .vw 1 0 M), (7, .pt 4 0 0), (8, .vw 5 0 i.2.length), (9, i64 (Ω.int i.1)), (73, .pt 0 0 0), (74, .sl false 8 xs)], 73,
              [some ⟨2, [.agg [.sl false 1 bs, i64 q4]], true⟩, some ⟨1, F t, false⟩, none, none, some ⟨3, [.agg [i64 f.k, i64 fp, i64 f.a]], true⟩, some ⟨1, F i.2, false⟩]⟩)
            (fun i => i.1 ≤ M ∧ i.2 = (t.take i.1).filter fun k => !decide (k = fp)) (fun i => M - i.1) (0, []) ⟨Nat.zero_le _, rfl⟩
            ((Sbs.drop (r := 2) rfl).trans ((Sbs.drop (r := 3) rfl).trans (Sbs.mk rfl (by show _ = [_, _, none, none, some (Row.mk 3 [.agg [i64 f.k, i64 fp, i64 f.a]] true), some (Row.mk 1 (F []) false)]; rw [hF0, hfp2]; rfl) ⟨rfl, rfl, rfl, rfl, rfl, zeroI hΩ, rfl, rfl, trivial⟩))) ?_
          rintro ⟨j, r⟩ ⟨j1, j2⟩
          dsimp only at j1 j2
          have hrl : r.length ≤ j := by rw [j2]; exact Nat.le_trans (List.length_filter_le _ _) (by simp; omega)
          have hFr := hFs r
          obtain ⟨R, hR⟩ : ∃ R, r.length = R := ⟨_, rfl⟩
          have hvr : ∀ {X : A} {n : Int}, A.vw 5 0 (Ω.plus R (Ω.len [X])) = .vw 5 0 (r ++ [n]).length := fun {X n} => by subst hΩ; rw [List.length_append, hR]; rfl
          have hstep : ∀ c, t[j]? = some c → (t.take (j + 1)).filter (fun k => !decide (k = fp)) = r ++ (if c = fp then [] else [c]) := fun c hc => by
            rw [List.take_add_one, hc, List.filter_append, ← j2]
            congr 1
            by_cases h : c = fp <;> simp [h]
          have hend : j = M → r.length < M ∧ r.length ≤ 40 ∧ ∀ k ∈ r, 0 ≤ k ∧ k < (L : Int) := fun h => by
            have e : r = t.filter fun k => !decide (k = fp) := by rw [j2, h, ← hM, List.take_length]
            refine ⟨by rw [e]; exact hflt1, by rw [e]; omega, fun k hk => t2 k ?_⟩
            rw [e] at hk; exact (List.mem_filter.1 hk).1
          rw [hR] at hrl hFr ⊢
          have hat : ∀ c, t[j]? = some c → (F t)[Ω.plus 0 (Ω.nat (Ω.int j))]? = some (i64 c) := hFat t j
          cbv
          refine br (fun hj => ?_) (fun hj => ?_) <;> cbv
          · have hj := ltN hΩ hj
            obtain ⟨c, hc⟩ := at_of (cs := t) (i := j) (by omega)
            refine ⟨VC_drawn htab hΩ hmo (by kernel_rfl) ?_⟩
            cbv
            refine ⟨⟨ixI hΩ hj⟩, _, hat c hc, ?_⟩
            cbv
            refine br (fun hn => ?_) (fun hn => ?_) <;> cbv
            · have hn := neI_t hΩ hn
              have e := hstep c hc
              rw [if_neg hn] at e
              refine ⟨⟨ixI hΩ hj⟩, _, hat c hc, ?_⟩
              cbv
              exact ⟨⟨rfl, okAll rfl, by show (R + 1) * 8 ≤ 140737488355328; omega, by show R + 1 ≤ 9223372036854775807; omega⟩, (j + 1, r ++ [c]), ⟨by dsimp only; omega, e.symm⟩, by dsimp only; omega, (Sbs.cut 6 rfl).trans (Sbs.mk rfl (by rw [show some (Row.mk 1 (F (r ++ [c])) false) = some (Row.mk 1 (Ω.app (Ω.take R (F r)) [i64 c]) false) by rw [hFr]]; rfl) ⟨rfl, rfl, rfl, rfl, hvr, incI hΩ (by omega), rfl, rfl, trivial⟩)⟩
            · have hn := neI_f hΩ hn
              have e := hstep c hc
              rw [if_pos hn, List.append_nil] at e
              exact ⟨(j + 1, r), ⟨by dsimp only; omega, e.symm⟩, by dsimp only; omega, (Sbs.cut 6 rfl).trans (Sbs.mk rfl rfl ⟨rfl, rfl, rfl, rfl, congrArg (A.vw 5 0) hR.symm, incI hΩ (by omega), rfl, rfl, trivial⟩)⟩
          · have hj := geN hΩ hj
            obtain ⟨e1, e2, e3⟩ := hend (by omega)
            exact ⟨r, ⟨e2, e3⟩, by omega, (Sbs.drop (r := 1) rfl).trans ((Sbs.mv (a := 5) (b := 1) rfl rfl (Nat.le_of_ble_eq_true rfl)).trans ((Sbs.cut 2 rfl).trans (Sbs.mk rfl rfl ⟨rfl, rfl, congrArg (A.vw 1 0) hR.symm, rfl, rfl, trivial⟩)))⟩
        · clear hfirst hgt
          refine call_dr false hΩ 3 (hC _ _ (by omega) (by omega) (by omega)) rfl rfl rfl (fun q8 x q8a q8b ⟨c3, hx⟩ => ?_)
          subst hx
          cbv
          refine br (fun hc3 => ?_) (fun hc3 => ?_) <;> cbv
          · refine call_pick (ns := [_, -1, 0]) hΩ (hP _ _ (by omega) (by omega) (Nat.zero_lt_succ _) (Nat.le_of_ble_eq_true rfl)) rfl rfl rfl rfl (by decide) (fun q9 n q9a q9b hn => ?_)
            cbv
            exact ⟨⟨rfl, okAll rfl, by show (M + 1) * 8 ≤ 140737488355328; omega, by show M + 1 ≤ 9223372036854775807; omega⟩, ⟨rfl, hFle _ hM⟩, _, _, .of (hFt1 t n M hM), .same, ⟨q9, by omega, by omega, rfl, t ++ [n], rfl, by rw [List.length_append, List.length_singleton, hM]; omega⟩, rfl⟩
          · exact ⟨⟨rfl, hFle0 _ hM⟩, _, _, .of (hFt0 t M hM), .same, ⟨q8, by omega, by omega, rfl, t, rfl, by rw [hM]; omega⟩, rfl⟩
      · refine call_dr false hΩ 3 (hC _ _ (by omega) (by omega) (by omega)) rfl rfl rfl (fun q8 x q8a q8b ⟨c3, hx⟩ => ?_)
        subst hx
        cbv
        refine br (fun hc3 => ?_) (fun hc3 => ?_) <;> cbv
        · refine call_pick (ns := [_, -1, 0]) hΩ (hP _ _ (by omega) (by omega) (Nat.zero_lt_succ _) (Nat.le_of_ble_eq_true rfl)) rfl rfl rfl rfl (by decide) (fun q9 n q9a q9b hn => ?_)
          cbv
          exact ⟨⟨rfl, okAll rfl, by show (m + 1) * 8 ≤ 140737488355328; omega, by show m + 1 ≤ 9223372036854775807; omega⟩, ⟨rfl, hFle _ hm⟩, _, _, .of (hFt1 s n m hm), .same, ⟨q9, by omega, by omega, rfl, s ++ [n], rfl, by rw [List.length_append, List.length_singleton, hm]; omega⟩, rfl⟩
        · exact ⟨⟨rfl, hFle0 _ hm⟩, _, _, .of (hFt0 s m hm), .same, ⟨q8, by omega, by omega, rfl, s, rfl, by rw [hm]; omega⟩, rfl⟩
    · refine call_dr false hΩ 3 (hC _ _ (by omega) (by omega) (by omega)) rfl rfl rfl (fun q8 x q8a q8b ⟨c3, hx⟩ => ?_)
      subst hx
      cbv
      refine br (fun hc3 => ?_) (fun hc3 => ?_) <;> cbv
      · refine call_pick (ns := [_, -1, 0]) hΩ (hP _ _ (by omega) (by omega) (Nat.zero_lt_succ _) (Nat.le_of_ble_eq_true rfl)) rfl rfl rfl rfl (by decide) (fun q9 n q9a q9b hn => ?_)
        cbv
        exact ⟨⟨rfl, okAll rfl, by show (m + 1) * 8 ≤ 140737488355328; omega, by show m + 1 ≤ 9223372036854775807; omega⟩, ⟨rfl, hFle _ hm⟩, _, _, .of (hFt1 s n m hm), .same, ⟨q9, by omega, by omega, rfl, s ++ [n], rfl, by rw [List.length_append, List.length_singleton, hm]; omega⟩, rfl⟩
      · exact ⟨⟨rfl, hFle0 _ hm⟩, _, _, .of (hFt0 s m hm), .same, ⟨q8, by omega, by omega, rfl, s, rfl, by rw [hm]; omega⟩, rfl⟩
end Go.Proofs.Ytfacpamkigmlaaa

/- Walks: draws of catalogs with sets. Plain theorems. -/
set_option linter.unusedVariables false
set_option linter.unusedSimpArgs false
namespace Go.Proofs.Ytfacpamkigmlaaa
open Go Go.Fw
set_option maxRecDepth 100000
theorem call_d0 {P : Program} {S : State} {Ω : Opq} (hΩ : Ω = std) (k : Nat) {g : Nat} {args : List A} {R : A → List A → Prop} {K : A → State → Prop} (hc : XCtr P g args R) (hd : args.all isData = true) (hn : args.all noOwn = true)
    (h : ∀ x outs, R x outs → outs = args ∧ noOwn (rootO Ω k S x).1 = true ∧ K (rootO Ω k S x).1 (rootO Ω k S x).2) : CallX P g args S K :=
  call_rel hΩ k hc [] (by simp) ⟨_, mutL_data hd hn⟩ fun x outs hR => let ⟨h1, h2, h3⟩ := h x outs hR; ⟨[], rfl, by rw [h1]; exact mutL_data hd hn, h2, h3⟩
theorem c_l1Source (bs : List A) : PCtr PP n_spec_l1Source [.sl false 1 bs] (src bs 0) := by
  obtain ⟨Ω, hΩ⟩ : ∃ Ω, Ω = std := ⟨_, rfl⟩
  have htab := tab
  refine PCtr.walk tab hΩ fn_spec_l1Source rfl ?_
  generalize PP = P at *
  cbv
  exact .same
/-- A draw of what is told apart from its source. -/
def D0 (bs : List A) (Q : A → Prop) : A → List A → Prop := fun x o => o = [.sl false 1 bs] ∧ Q x
theorem d_l3Both {bs : List A} (hb : Src bs) : XCtr PP n_spec_l3Both [.sl false 1 bs] (D0 bs fun x => ∃ (l : List Pck) (s : List Int) (q : Int), x = .tup [encP l, .sl true 1 (s.map i64), src bs q] ∧ (∀ o ∈ l, o.Small) ∧ l.length ≤ 40 ∧ s.length ≤ 41 ∧ 0 ≤ q ∧ q ≤ 1000) := by
  obtain ⟨Ω, hΩ⟩ : ∃ Ω, Ω = std := ⟨_, rfl⟩
  have hS := c_l1Source bs
  have hcat := d_l2Catalog hb 0 (by omega) (by omega)
  have hset := fun l a b p c d => d_l3DrawSet hb l a b p c d
  have htab := tab
  refine XCtr.walkO tab hΩ 3 fn_spec_l3Both rfl rfl ?_
  generalize PP = P at *
  cbv
  refine call_share hΩ 3 hS rfl (fits _) rfl ?_
  cbv
  refine call_dr true hΩ 3 hcat rfl rfl rfl (fun q1 x q1a q1b ⟨l, hx, hl, hll⟩ => ?_)
  rw [show fzA true x = encP l by rw [hx]; show frz (A.sl true 8 _) = _; rw [frz_sl, encP_frz]; rfl]
  have hset := hset l hll hl
  obtain ⟨cs, hcs⟩ : ∃ cs, cs = l.map (Pck.enc false) := ⟨_, rfl⟩
  unfold encP at *
  rw [← hcs] at hset ⊢
  cbv
  refine call_dr false hΩ 3 (hset _ (by omega) (by omega)) rfl rfl rfl (fun q2 x q2a q2b ⟨s, hx, hs⟩ => ?_)
  subst hx
  obtain ⟨ss, hss⟩ : ∃ ss, ss = s.map i64 := ⟨_, rfl⟩
  rw [← hss]
  cbv
  refine ⟨⟨rfl, by subst hΩ; exact Nat.le_refl _⟩, _, _, .same, .same, ⟨rfl, l, s, q2, ?_, hl, hll, hs, by omega, by omega⟩, rfl⟩
  subst hΩ; rw [← hcs, ← hss]
  show A.tup [_, A.sl true 1 (List.take ss.length ss), _] = _
  rw [List.take_length]; rfl
theorem d_DrawSetFault {bs : List A} (hb : Src bs) : XCtr PP n_spec_DrawSetFault [.sl false 1 bs] (D0 bs fun x => ∃ (l : List Pck) (s : List Int), x = .tup [encP l, .sl true 1 (s.map i64)] ∧ (∀ o ∈ l, o.Small) ∧ l.length ≤ 40 ∧ s.length ≤ 41) := by
  obtain ⟨Ω, hΩ⟩ : ∃ Ω, Ω = std := ⟨_, rfl⟩
  have hB := d_l3Both hb
  have htab := tab
  refine XCtr.walkO tab hΩ 3 fn_spec_DrawSetFault rfl rfl ?_
  generalize PP = P at *
  cbv
  refine call_d0 hΩ 3 hB rfl rfl ?_
  rintro x o ⟨ho, l, s, q, rfl, hl, hll, hs, hq1, hq2⟩
  refine ⟨ho, ?_⟩
  obtain ⟨cs, hcs⟩ : ∃ cs, cs = l.map (Pck.enc false) := ⟨_, rfl⟩
  obtain ⟨ss, hss⟩ : ∃ ss, ss = s.map i64 := ⟨_, rfl⟩
  unfold encP
  rw [← hcs, ← hss]
  cbv
  refine ⟨⟨rfl, by subst hΩ; exact Nat.le_refl _⟩, _, _, .same, .same, ⟨rfl, l, s, ?_, hl, hll, hs⟩, rfl⟩
  subst hΩ; rw [← hcs, ← hss]
  show A.tup [_, A.sl true 1 (List.take ss.length ss)] = _
  rw [List.take_length]; rfl
theorem d_DrawConsistent {bs : List A} (hb : Src bs) : XCtr PP n_spec_DrawConsistent [.sl false 1 bs] (D0 bs fun x => ∃ (l : List Pck) (s : List Int), x = .tup [encP l, .sl true 1 (s.map i64)] ∧ (∀ o ∈ l, o.Small) ∧ l.length ≤ 40 ∧ s.length ≤ 41) := by
  obtain ⟨Ω, hΩ⟩ : ∃ Ω, Ω = std := ⟨_, rfl⟩
  have hB := d_DrawSetFault hb
  have htab := tab
  refine XCtr.walkO tab hΩ 3 fn_spec_DrawConsistent rfl rfl ?_
  generalize PP = P at *
  cbv
  refine call_d0 hΩ 3 hB rfl rfl ?_
  rintro x o ⟨ho, l, s, rfl, hl, hll, hs⟩
  refine ⟨ho, ?_⟩
  obtain ⟨cs, hcs⟩ : ∃ cs, cs = l.map (Pck.enc false) := ⟨_, rfl⟩
  obtain ⟨ss, hss⟩ : ∃ ss, ss = s.map i64 := ⟨_, rfl⟩
  unfold encP
  rw [← hcs, ← hss]
  cbv
  refine ⟨⟨rfl, by subst hΩ; exact Nat.le_refl _⟩, _, _, .same, .same, ⟨rfl, l, s, ?_, hl, hll, hs⟩, rfl⟩
  subst hΩ; rw [← hcs, ← hss]
  show A.tup [_, A.sl true 1 (List.take ss.length ss)] = _
  rw [List.take_length]; rfl
end Go.Proofs.Ytfacpamkigmlaaa

/- Walks: who holds what is asked. Plain theorems. -/
set_option linter.unusedVariables false
set_option linter.unusedSimpArgs false
namespace Go.Proofs.Ytfacpamkigmlaaa
open Go Go.Fw
set_option maxRecDepth 100000
def consB (c : List Pck) (s : List Int) : Bool := decide ((fltS c s).length = 0)
theorem roFlt (o : List Flt) : roFree (.sl true 3 (o.map Flt.enc)) = true := roFAll fun x hx => by obtain ⟨c, _, rfl⟩ := List.mem_map.1 hx; rfl
theorem c_consistent (l : List Pck) (s : List Int) (hl : l.length ≤ 1048576) (hs : s.length ≤ 1048576) (ho : ∀ o ∈ l, o.Small) (hk : ∀ k ∈ s, inB k 0 ((l.length : Int) - 1) = true) : PCtr PP n_impl_consistent [encP l, .sl false 1 (s.map i64)] (boo (consB l s)) := by
  obtain ⟨Ω, hΩ⟩ : ∃ Ω, Ω = std := ⟨_, rfl⟩
  have hc := c_faults l s hl hs ho hk
  have hrf := roFlt (fltS l s)
  obtain ⟨r, hr⟩ : ∃ r, r = consB l s := ⟨_, rfl⟩
  rw [← hr]
  unfold consB at hr
  obtain ⟨es, hes⟩ : ∃ es, es = (fltS l s).map Flt.enc := ⟨_, rfl⟩
  have hel : es.length = (fltS l s).length := by rw [hes, List.length_map]
  rw [← hel] at hr
  rw [← hes] at hc hrf
  clear hel hes
  unfold encP at *
  generalize l.map (Pck.enc false) = xs at *
  generalize s.map i64 = ys at *
  have htab := tab
  have hmo := hmo
  refine PCtr.walk tab hΩ fn_impl_consistent rfl ?_
  generalize PP = P at *
  cbv
  refine call_pure hΩ 3 hc rfl (fits _) hrf rfl ?_
  cbv
  refine .of (congrArg boo ?_)
  subst hΩ
  show decide ((es.length : Int) = 0) = r
  rw [hr]
  rw [Bool.eq_iff_iff, decide_eq_true_eq, decide_eq_true_eq]
  omega
theorem c_l3Good (l : List Pck) (s : List Int) (hl : l.length ≤ 1048576) (hs : s.length ≤ 1048576) (ho : ∀ o ∈ l, o.Small) (hk : ∀ k ∈ s, inB k 0 ((l.length : Int) - 1) = true) : PCtr PP n_spec_l3Good [encP l, .sl false 1 (s.map i64)] (boo (consB l s)) := by
  obtain ⟨Ω, hΩ⟩ : ∃ Ω, Ω = std := ⟨_, rfl⟩
  have hc := c_l3Faults l s hl hs ho hk
  have hrf := roFlt (fltS l s)
  obtain ⟨r, hr⟩ : ∃ r, r = consB l s := ⟨_, rfl⟩
  rw [← hr]
  unfold consB at hr
  obtain ⟨es, hes⟩ : ∃ es, es = (fltS l s).map Flt.enc := ⟨_, rfl⟩
  have hel : es.length = (fltS l s).length := by rw [hes, List.length_map]
  rw [← hel] at hr
  rw [← hes] at hc hrf
  clear hel hes
  unfold encP at *
  generalize l.map (Pck.enc false) = xs at *
  generalize s.map i64 = ys at *
  have htab := tab
  have hmo := hmo
  refine PCtr.walk tab hΩ fn_spec_l3Good rfl ?_
  generalize PP = P at *
  cbv
  refine call_pure hΩ 3 hc rfl (fits _) hrf rfl ?_
  cbv
  refine .of (congrArg boo ?_)
  subst hΩ
  show decide ((es.length : Int) = 0) = r
  rw [hr]
  rw [Bool.eq_iff_iff, decide_eq_true_eq, decide_eq_true_eq]
  omega
end Go.Proofs.Ytfacpamkigmlaaa

/- Walks: is a set consistent? Plain theorems. -/
set_option linter.unusedVariables false
set_option linter.unusedSimpArgs false
namespace Go.Proofs.Ytfacpamkigmlaaa
open Go Go.Fw
set_option maxRecDepth 100000
theorem c_implConsistent (l : List Pck) (s : List Int) (hl : l.length ≤ 1048576) (hs : s.length ≤ 1048576) (ho : ∀ o ∈ l, o.Small) : PCtr PP n_impl_Consistent [encP l, .sl false 1 (s.map i64)] (boo (decide (setF l s = 0) && consB l s)) := by
  obtain ⟨Ω, hΩ⟩ : ∃ Ω, Ω = std := ⟨_, rfl⟩
  have hc := c_implSetFault l s hl ho hs
  have hk : setF l s = 0 → PCtr PP n_impl_consistent [encP l, .sl false 1 (s.map i64)] (boo (consB l s)) := fun h => c_consistent l s hl hs ho (setF_in h)
  obtain ⟨r, hr⟩ : ∃ r, r = (decide (setF l s = 0) && consB l s) := ⟨_, rfl⟩
  rw [← hr]
  generalize setF l s = k at *
  generalize consB l s = b at *
  unfold encP at *
  generalize l.map (Pck.enc false) = xs at *
  generalize s.map i64 = ys at *
  have htab := tab
  refine PCtr.walk tab hΩ fn_impl_Consistent rfl ?_
  generalize PP = P at *
  cbv
  refine call_pure hΩ 3 hc rfl (fits _) rfl rfl ?_
  cbv
  refine br (fun h => ?_) (fun h => ?_) <;> cbv
  · have h := eqI_t hΩ h
    refine call_pure hΩ 3 (hk h) rfl (fits _) rfl rfl ?_
    cbv
    repeat' (first | (refine br (fun h => ?_) (fun h => ?_) <;> cbv))
    all_goals (refine .of (congrArg boo ?_); subst hΩ; subst hr; simp_all)
  · have h := eqI_f hΩ h
    repeat' (first | (refine br (fun h => ?_) (fun h => ?_) <;> cbv))
    all_goals (refine .of (congrArg boo ?_); subst hΩ; subst hr; simp_all)
theorem c_specConsistent (l : List Pck) (s : List Int) (hl : l.length ≤ 1048576) (hs : s.length ≤ 1048576) (ho : ∀ o ∈ l, o.Small) : PCtr PP n_spec_Consistent [encP l, .sl false 1 (s.map i64)] (boo (decide (setF l s = 0) && consB l s)) := by
  obtain ⟨Ω, hΩ⟩ : ∃ Ω, Ω = std := ⟨_, rfl⟩
  have hc := c_specSetFault l s hl ho hs
  have hk : setF l s = 0 → PCtr PP n_spec_l3Good [encP l, .sl false 1 (s.map i64)] (boo (consB l s)) := fun h => c_l3Good l s hl hs ho (setF_in h)
  obtain ⟨r, hr⟩ : ∃ r, r = (decide (setF l s = 0) && consB l s) := ⟨_, rfl⟩
  rw [← hr]
  generalize setF l s = k at *
  generalize consB l s = b at *
  unfold encP at *
  generalize l.map (Pck.enc false) = xs at *
  generalize s.map i64 = ys at *
  have htab := tab
  refine PCtr.walk tab hΩ fn_spec_Consistent rfl ?_
  generalize PP = P at *
  cbv
  refine call_pure hΩ 3 hc rfl (fits _) rfl rfl ?_
  cbv
  refine br (fun h => ?_) (fun h => ?_) <;> cbv
  · have h := eqI_t hΩ h
    refine call_pure hΩ 3 (hk h) rfl (fits _) rfl rfl ?_
    cbv
    repeat' (first | (refine br (fun h => ?_) (fun h => ?_) <;> cbv))
    all_goals (refine .of (congrArg boo ?_); subst hΩ; subst hr; simp_all)
  · have h := eqI_f hΩ h
    repeat' (first | (refine br (fun h => ?_) (fun h => ?_) <;> cbv))
    all_goals (refine .of (congrArg boo ?_); subst hΩ; subst hr; simp_all)
end Go.Proofs.Ytfacpamkigmlaaa

/- Walks: who is barred. Plain theorems. -/
set_option linter.unusedVariables false
set_option linter.unusedSimpArgs false
namespace Go.Proofs.Ytfacpamkigmlaaa
open Go Go.Fw
set_option maxRecDepth 100000
def barB (c : List Pck) (t k : Int) : Bool := !decide (k = t) && ((pk c k).b.any (givesB (pk c t)) || (pk c t).b.any (givesB (pk c k)))
def barC (c : List Pck) (s : List Int) (t : Int) : Int := if setF c s ≠ 0 then setF c s else if inB t 0 ((c.length : Int) - 1) then 0 else 4
def barS (c : List Pck) (s : List Int) (t : Int) : List Int := if barC c s t ≠ 0 then [] else s.filter (barB c t)
theorem c_BarredBy1 (l : List Pck) (t k : Int) (hl : l.length ≤ 1048576) (hs : ∀ o ∈ l, o.Small) (hk : inB k 0 ((l.length : Int) - 1) = true) (ht : inB t 0 ((l.length : Int) - 1) = true) : PCtr PP n_impl_BarredBy_1 [i64 k, .rp [i64 t], .rp [encP l]] (boo (barB l t k)) := by
  obtain ⟨Ω, hΩ⟩ : ∃ Ω, Ω = std := ⟨_, rfl⟩
  obtain ⟨r, hr⟩ : ∃ r, r = barB l t k := ⟨_, rfl⟩
  rw [← hr]
  obtain ⟨xs, hxs⟩ : ∃ xs, xs = l.map (Pck.enc false) := ⟨_, rfl⟩
  have hlen : xs.length = l.length := by rw [hxs, List.length_map]
  unfold encP at *
  rw [← hxs]
  obtain ⟨ht0, htl, hta, htm⟩ := pk_at ht
  obtain ⟨hk0, hkl, hka, hkm⟩ := pk_at hk
  obtain ⟨ps1, ds1, bs1, hen1, hps1, hds1, hbs1⟩ := enc_raw (pk l t)
  obtain ⟨ps2, ds2, bs2, hen2, hps2, hds2, hbs2⟩ := enc_raw (pk l k)
  have hx1 : xs[t.toNat]? = some (Pck.enc false (pk l t)) := by rw [hxs, List.getElem?_map, hta]; rfl
  rw [hen1] at hx1
  have hx2 : xs[k.toNat]? = some (Pck.enc false (pk l k)) := by rw [hxs, List.getElem?_map, hka]; rfl
  rw [hen2] at hx2
  have h1 := c_givesOne (pk l t) (pk l k).b (hs _ htm).p (hs _ hkm).b
  have h2 := c_givesOne (pk l k) (pk l t).b (hs _ hkm).p (hs _ htm).b
  rw [hen1, ← hbs2] at h1
  rw [hen2, ← hbs1] at h2
  unfold barB at hr
  generalize (pk l k).b.any (givesB (pk l t)) = B1 at *
  generalize (pk l t).b.any (givesB (pk l k)) = B2 at *
  clear hbs1 hbs2 hps1 hps2 hds1 hds2 hen1 hen2 hs hk ht htm hkm hta hka hxs
  generalize pk l t = p1 at *
  generalize pk l k = p2 at *
  have htab := tab
  have hmo := hmo
  have hve := verEq
  refine PCtr.walk tab hΩ fn_impl_BarredBy_1 rfl ?_
  generalize PP = P at *
  cbv
  refine ⟨VC_drawn htab hΩ hmo (by kernel_rfl) ?_⟩
  cbv
  repeat' (first | (refine br (fun h => ?_) (fun h => ?_) <;> cbv) | (refine ⟨⟨ht0⟩, _, hx1, ?_⟩; cbv) | (refine ⟨⟨hk0⟩, _, hx2, ?_⟩; cbv) | (refine QCall_pure (k := 3) h1 rfl (fits _) rfl ?_; cbv) | (refine QCall_pure (k := 3) h2 rfl (fits _) rfl ?_; cbv))
  all_goals (refine .of (congrArg boo ?_); subst hΩ; subst hr; clear h1 h2 htab hmo hve; simp_all)
theorem c_implBarredBy (l : List Pck) (s : List Int) (t : Int) (hl : l.length ≤ 1048576) (ho : ∀ o ∈ l, o.Small) (hs : s.length ≤ 1048576) : PCtr PP n_impl_BarredBy [encP l, .sl false 1 (s.map i64), i64 t] (setR (barC l s t) 0 (barS l s t)) := by
  obtain ⟨Ω, hΩ⟩ : ∃ Ω, Ω = std := ⟨_, rfl⟩
  have hc := c_implSetFault l s hl ho hs
  have hp := c_arePlaces l [t] hl (by simp)
  rw [show ([t].all fun x => inB x 0 ((l.length : Int) - 1)) = inB t 0 ((l.length : Int) - 1) by simp] at hp
  obtain ⟨k0, hk0⟩ : ∃ x, setF l s = x := ⟨_, rfl⟩
  obtain ⟨bi, hbi⟩ : ∃ x, inB t 0 ((l.length : Int) - 1) = x := ⟨_, rfl⟩
  rw [hk0] at hc
  rw [hbi] at hp
  have hth : k0 = 0 → bi = true → PCtr PP n_impl_those [.sl false 1 (s.map i64), .clo n_impl_BarredBy_1 [.rp [i64 t], .rp [encP l]]] (ints (s.filter (barB l t))) := fun e1 e2 =>
    c_those s hs _ _ _ ⟨fun _ _ => rfl, rfl, fun _ => rfl, fun k hk => c_BarredBy1 l t k hl ho (setF_in (hk0.trans e1) k hk) (hbi.trans e2)⟩
  have hroZ := roFInt (s.filter (barB l t))
  unfold ints encP at *
  have hC : barC l s t = if k0 ≠ 0 then k0 else if bi then 0 else 4 := by rw [barC, hk0, hbi]
  have hS : barS l s t = if barC l s t ≠ 0 then [] else s.filter (barB l t) := rfl
  generalize barC l s t = C at *
  generalize barS l s t = Z at *
  generalize s.filter (barB l t) = zs at *
  have htab := tab
  have hmo := hmo
  generalize s.map i64 = xs at *
  generalize l.map (Pck.enc false) = cs at *
  refine PCtr.walk tab hΩ fn_impl_BarredBy rfl ?_
  generalize hA : setR C 0 Z = R
  generalize PP = P at *
  cbv
  refine call_pure hΩ 3 hc rfl (fits _) rfl rfl ?_
  cbv
  refine br (fun g1 => ?_) (fun g1 => ?_) <;> cbv
  · have g1 : k0 = 0 := eqI_t hΩ g1
    refine call_pure hΩ 3 hp (mapTwo rfl (roV rfl rfl rfl)) (fits _) rfl rfl ?_
    cbv
    refine br (fun g2 => ?_) (fun g2 => ?_) <;> cbv
    · have g2 : bi = false := notT' hΩ (b := bi) (by subst hΩ; exact g2)
      refine br (fun g3 => ?_) (fun g3 => absurd (neI_f hΩ g3) (by decide)) <;> cbv
      have e1 : C = 4 := by rw [hC, g1, g2]; rfl
      have e2 : Z = [] := by rw [hS, e1]; rfl
      rw [← hA, e1, e2]
      exact fit_nilR 4 0
    · have g2 : bi = true := notF' hΩ (b := bi) (by subst hΩ; exact g2)
      have e1 : C = 0 := by rw [hC, g1, g2]; rfl
      have e2 : Z = zs := by rw [hS, e1]; rfl
      have hth := hth g1 g2
      refine br (fun g3 => absurd g1 (neI_t hΩ g3)) (fun g3 => ?_) <;> cbv
      obtain ⟨zz, hzz⟩ : ∃ zz, zz = zs.map i64 := ⟨_, rfl⟩
      rw [← hzz] at hth hroZ
      refine call_pure hΩ 5 hth (ro_clo2 rfl rfl) (fits _) hroZ rfl ?_
      cbv
      exact ⟨⟨rfl, by subst hΩ; exact Nat.le_refl _⟩, by rw [← hA, e1, e2]; exact fit_R hΩ 0 0 zs hzz⟩
  · have g1 : k0 ≠ 0 := eqI_f hΩ g1
    have e1 : C = k0 := by rw [hC, if_pos g1]
    have e2 : Z = [] := by rw [hS, e1, if_pos g1]
    refine br (fun g3 => ?_) (fun g3 => absurd (neI_f hΩ g3) g1) <;> cbv
    rw [← hA, e1, e2]
    exact fit_nilR k0 0
end Go.Proofs.Ytfacpamkigmlaaa

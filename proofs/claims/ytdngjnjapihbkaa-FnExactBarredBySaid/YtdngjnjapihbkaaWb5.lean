/- Walks: function values over slices. Plain theorems. -/
import Derived.Test.YtdngjnjapihbkaaWb4
set_option linter.unusedVariables false
set_option linter.unusedSimpArgs false
namespace Go.Proofs.Ytdngjnjapihbkaa
open Go Go.Fw
set_option maxRecDepth 100000
theorem mapO_append (f : A → Option A) {xs ys xs' ys' : List A} (h1 : mapO f xs = some xs') (h2 : mapO f ys = some ys') : mapO f (xs ++ ys) = some (xs' ++ ys') := by
  induction xs generalizing xs' with
  | nil => simp only [mapO, Option.some.injEq] at h1; subst h1; exact h2
  | cons x xs ih =>
    simp only [mapO, List.cons_append] at h1 ⊢
    cases hx : f x with
    | none => rw [hx] at h1; simp at h1
    | some y =>
      rw [hx] at h1
      cases hxs : mapO f xs with
      | none => rw [hxs] at h1; simp at h1
      | some us =>
        rw [hxs] at h1
        simp only [Option.some.injEq] at h1
        subst h1
        rw [ih hxs]; rfl
theorem ro_cloA {Ω : Opq} (hΩ : Ω = std) {S : State} {k g : Nat} {xs caps xs' caps' : List A} (h1 : mapO (roO S k) xs = some xs') (h2 : mapO (roO S k) caps = some caps') : mapO (roO S k) (Ω.cloA g xs caps) = some (Ω.cloA g xs' caps') := by
  subst hΩ
  show mapO _ (Fw.cloA g xs caps) = some (Fw.cloA g xs' caps')
  unfold Fw.cloA
  split
  · exact mapO_append _ h1 h2
  · exact mapO_append _ h2 h1
theorem roO_clo (S : State) (k g : Nat) (xs : List A) : roO S (k + 1) (.clo g xs) = (mapO (roO S k) xs).map (A.clo g) := rfl
theorem ro_clo2 {S : State} {k g : Nat} {x x' : A} {caps caps' : List A} (h1 : roO S (k + 1) x = some x') (h2 : mapO (roO S k) caps = some caps') : mapO (roO S (k + 1)) [x, .clo g caps] = some [x', .clo g caps'] := by
  simp [mapO, roO_clo, h1, h2]
theorem ro_clo1 {S : State} {k g : Nat} {caps caps' : List A} (h2 : mapO (roO S k) caps = some caps') : mapO (roO S (k + 1)) [.clo g caps] = some [.clo g caps'] := by
  simp [mapO, roO_clo, h2]
theorem roPt {S : State} {k r n : Nat} {x : A} {ys : List A} (hr : Fw.rowAt S.rows r = some ⟨n, [x], true⟩) (h : mapO (roO S k) x.cells = some ys) : roO S (k + 1) (.pt r 0 0) = some (.rp ys) := by
  simp [roO, hr, h]
theorem mapOne {f : A → Option A} {x x' : A} (h : f x = some x') : mapO f [x] = some [x'] := by simp [mapO, h]
theorem mapTwo {f : A → Option A} {x x' y y' : A} (h : f x = some x') (h2 : f y = some y') : mapO f [x, y] = some [x', y'] := by simp [mapO, h, h2]
/-- What a function value with these captured values answers. -/
structure CloB (P : Program) {α : Type} (enc : α → A) (l : List α) (g : Nat) (caps : List A) (p : α → Bool) : Prop where
  ro : ∀ S k, mapO (roO S (k + 4)) caps = some caps
  no : caps.all noOwn = true
  kl : ∀ r, killL r caps = caps
  run : ∀ s ∈ l, PCtr P (Fw.cloN g) (Fw.cloA g [enc s] caps) (boo (p s))
theorem c_IndexFuncS (l : List (List UInt8)) (hl : l.length ≤ 4611686018427387904) (g : Nat) (caps : List A) (p : List UInt8 → Bool) (hf : CloB PP (str) l g caps p) : PCtr PP n_slices_IndexFunc_L_string_string [.sl false 1 (l.map (str)), .clo g caps] (i64 (idx p l)) := by
  obtain ⟨Ω, hΩ⟩ : ∃ Ω, Ω = std := ⟨_, rfl⟩
  obtain ⟨r, hr⟩ : ∃ r, r = idx p l := ⟨_, rfl⟩
  rw [← hr]
  obtain ⟨xs, hxs⟩ : ∃ xs, xs = l.map (str) := ⟨_, rfl⟩
  have hlen : xs.length = l.length := by rw [hxs, List.length_map]
  rw [← hxs]
  have hro := hf.ro
  have hrun : ∀ s ∈ l, PCtr PP (Ω.cloN g) (Ω.cloA g [str s] caps) (boo (p s)) := by subst hΩ; exact hf.run
  have htab := tab
  have hmo := hmo
  have hve := verEq
  refine PCtr.walk tab hΩ fn_slices_IndexFunc_L_string_string rfl ?_
  generalize PP = P at *
  cbv
  refine loopX htab hΩ (fun i : Nat => ⟨[(0, .sl false 1 xs), (1, .clo g caps), (7, .sc (.int .i64 (Ω.int (Ω.len xs)))), (8, .sc (.int .i64 (Ω.int i)))], 19, []⟩) (fun i => i ≤ l.length ∧ r = idxFrom p i (l.drop i)) (fun i => l.length - i) 0
    ⟨Nat.zero_le _, hr⟩ (Sbs.mk rfl rfl ⟨rfl, rfl, rfl, zeroI hΩ, trivial⟩) ?_
  rintro i ⟨hi, he⟩
  cbv
  refine br (fun h => ?_) (fun h => ?_) <;> cbv
  · replace h := ltI hΩ h
    obtain ⟨c, hcc⟩ := at_of (cs := l) (by omega : i < l.length)
    rw [idxFrom_at _ hcc] at he
    refine ⟨⟨nnI hΩ⟩, _, rdI hΩ hxs hcc, ?_⟩
    cbv
    have h1 := hrun c (List.mem_of_getElem? hcc)

    refine call_pure hΩ 4 h1 (ro_cloA hΩ rfl (hro _ 0)) (fits _) rfl rfl ?_
    cbv
    refine br (fun g => ?_) (fun g => ?_) <;> cbv
    · exact .of (congrArg i64 (by rw [he, if_pos g]; subst hΩ; rfl))
    · rw [if_neg (by rw [show p c = false from g]; simp)] at he
      exact ⟨i + 1, ⟨by omega, he⟩, by omega, Sbs.mk rfl rfl ⟨rfl, rfl, rfl, incI hΩ (by omega), trivial⟩⟩
  · replace h := geI hΩ h
    exact .of (congrArg i64 (by rw [he, List.drop_of_length_le (by omega)]; rfl))
theorem c_ContainsFuncS (l : List (List UInt8)) (hl : l.length ≤ 4611686018427387904) (g : Nat) (caps : List A) (p : List UInt8 → Bool) (hf : CloB PP (str) l g caps p) : PCtr PP n_slices_ContainsFunc_L_string_string [.sl false 1 (l.map (str)), .clo g caps] (boo (l.any p)) := by
  obtain ⟨Ω, hΩ⟩ : ∃ Ω, Ω = std := ⟨_, rfl⟩
  obtain ⟨r, hr⟩ : ∃ r, r = l.any p := ⟨_, rfl⟩
  rw [← hr]
  have hc := c_IndexFuncS l hl g caps p hf
  have hro := hf.ro
  rw [← idx_any] at hr
  generalize idx p l = k at *
  generalize l.map (str) = xs at *
  have htab := tab
  have hmo := hmo
  have hve := verEq
  refine PCtr.walk tab hΩ fn_slices_ContainsFunc_L_string_string rfl ?_
  generalize PP = P at *
  cbv
  refine call_pure hΩ 5 hc (ro_clo2 rfl (hro _ 0)) (fits _) rfl rfl ?_
  cbv
  refine .of (congrArg boo ?_)
  subst hΩ; subst hr; rfl
theorem c_IndexFuncT (l : List (Trm)) (hl : l.length ≤ 4611686018427387904) (g : Nat) (caps : List A) (p : Trm → Bool) (hf : CloB PP (Trm.enc) l g caps p) : PCtr PP n_slices_IndexFunc_L_impl_Term_impl_Term [.sl false 7 (l.map (Trm.enc)), .clo g caps] (i64 (idx p l)) := by
  obtain ⟨Ω, hΩ⟩ : ∃ Ω, Ω = std := ⟨_, rfl⟩
  obtain ⟨r, hr⟩ : ∃ r, r = idx p l := ⟨_, rfl⟩
  rw [← hr]
  obtain ⟨xs, hxs⟩ : ∃ xs, xs = l.map (Trm.enc) := ⟨_, rfl⟩
  have hlen : xs.length = l.length := by rw [hxs, List.length_map]
  rw [← hxs]
  have hro := hf.ro
  have hrun : ∀ s ∈ l, PCtr PP (Ω.cloN g) (Ω.cloA g [Trm.enc s] caps) (boo (p s)) := by subst hΩ; exact hf.run
  have htab := tab
  have hmo := hmo
  have hve := verEq
  refine PCtr.walk tab hΩ fn_slices_IndexFunc_L_impl_Term_impl_Term rfl ?_
  generalize PP = P at *
  cbv
  refine loopX htab hΩ (fun i : Nat => ⟨[(0, .sl false 7 xs), (1, .clo g caps), (7, .sc (.int .i64 (Ω.int (Ω.len xs)))), (8, .sc (.int .i64 (Ω.int i)))], 19, []⟩) (fun i => i ≤ l.length ∧ r = idxFrom p i (l.drop i)) (fun i => l.length - i) 0
    ⟨Nat.zero_le _, hr⟩ (Sbs.mk rfl rfl ⟨rfl, rfl, rfl, zeroI hΩ, trivial⟩) ?_
  rintro i ⟨hi, he⟩
  cbv
  refine br (fun h => ?_) (fun h => ?_) <;> cbv
  · replace h := ltI hΩ h
    obtain ⟨c, hcc⟩ := at_of (cs := l) (by omega : i < l.length)
    rw [idxFrom_at _ hcc] at he
    refine ⟨⟨nnI hΩ⟩, _, rdI hΩ hxs hcc, ?_⟩
    cbv
    have h1 := hrun c (List.mem_of_getElem? hcc)

    refine call_pure hΩ 4 h1 (ro_cloA hΩ rfl (hro _ 0)) (fits _) rfl rfl ?_
    cbv
    refine br (fun g => ?_) (fun g => ?_) <;> cbv
    · exact .of (congrArg i64 (by rw [he, if_pos g]; subst hΩ; rfl))
    · rw [if_neg (by rw [show p c = false from g]; simp)] at he
      exact ⟨i + 1, ⟨by omega, he⟩, by omega, Sbs.mk rfl rfl ⟨rfl, rfl, rfl, incI hΩ (by omega), trivial⟩⟩
  · replace h := geI hΩ h
    exact .of (congrArg i64 (by rw [he, List.drop_of_length_le (by omega)]; rfl))
theorem c_ContainsFuncT (l : List (Trm)) (hl : l.length ≤ 4611686018427387904) (g : Nat) (caps : List A) (p : Trm → Bool) (hf : CloB PP (Trm.enc) l g caps p) : PCtr PP n_slices_ContainsFunc_L_impl_Term_impl_Term [.sl false 7 (l.map (Trm.enc)), .clo g caps] (boo (l.any p)) := by
  obtain ⟨Ω, hΩ⟩ : ∃ Ω, Ω = std := ⟨_, rfl⟩
  obtain ⟨r, hr⟩ : ∃ r, r = l.any p := ⟨_, rfl⟩
  rw [← hr]
  have hc := c_IndexFuncT l hl g caps p hf
  have hro := hf.ro
  rw [← idx_any] at hr
  generalize idx p l = k at *
  generalize l.map (Trm.enc) = xs at *
  have htab := tab
  have hmo := hmo
  have hve := verEq
  refine PCtr.walk tab hΩ fn_slices_ContainsFunc_L_impl_Term_impl_Term rfl ?_
  generalize PP = P at *
  cbv
  refine call_pure hΩ 5 hc (ro_clo2 rfl (hro _ 0)) (fits _) rfl rfl ?_
  cbv
  refine .of (congrArg boo ?_)
  subst hΩ; subst hr; rfl
theorem c_IndexFuncI (l : List (Int)) (hl : l.length ≤ 4611686018427387904) (g : Nat) (caps : List A) (p : Int → Bool) (hf : CloB PP (i64) l g caps p) : PCtr PP n_slices_IndexFunc_L_int64_int64 [.sl false 1 (l.map (i64)), .clo g caps] (i64 (idx p l)) := by
  obtain ⟨Ω, hΩ⟩ : ∃ Ω, Ω = std := ⟨_, rfl⟩
  obtain ⟨r, hr⟩ : ∃ r, r = idx p l := ⟨_, rfl⟩
  rw [← hr]
  obtain ⟨xs, hxs⟩ : ∃ xs, xs = l.map (i64) := ⟨_, rfl⟩
  have hlen : xs.length = l.length := by rw [hxs, List.length_map]
  rw [← hxs]
  have hro := hf.ro
  have hrun : ∀ s ∈ l, PCtr PP (Ω.cloN g) (Ω.cloA g [i64 s] caps) (boo (p s)) := by subst hΩ; exact hf.run
  have htab := tab
  have hmo := hmo
  have hve := verEq
  refine PCtr.walk tab hΩ fn_slices_IndexFunc_L_int64_int64 rfl ?_
  generalize PP = P at *
  cbv
  refine loopX htab hΩ (fun i : Nat => ⟨[(0, .sl false 1 xs), (1, .clo g caps), (7, .sc (.int .i64 (Ω.int (Ω.len xs)))), (8, .sc (.int .i64 (Ω.int i)))], 19, []⟩) (fun i => i ≤ l.length ∧ r = idxFrom p i (l.drop i)) (fun i => l.length - i) 0
    ⟨Nat.zero_le _, hr⟩ (Sbs.mk rfl rfl ⟨rfl, rfl, rfl, zeroI hΩ, trivial⟩) ?_
  rintro i ⟨hi, he⟩
  cbv
  refine br (fun h => ?_) (fun h => ?_) <;> cbv
  · replace h := ltI hΩ h
    obtain ⟨c, hcc⟩ := at_of (cs := l) (by omega : i < l.length)
    rw [idxFrom_at _ hcc] at he
    refine ⟨⟨nnI hΩ⟩, _, rdI hΩ hxs hcc, ?_⟩
    cbv
    have h1 := hrun c (List.mem_of_getElem? hcc)

    refine call_pure hΩ 4 h1 (ro_cloA hΩ rfl (hro _ 0)) (fits _) rfl rfl ?_
    cbv
    refine br (fun g => ?_) (fun g => ?_) <;> cbv
    · exact .of (congrArg i64 (by rw [he, if_pos g]; subst hΩ; rfl))
    · rw [if_neg (by rw [show p c = false from g]; simp)] at he
      exact ⟨i + 1, ⟨by omega, he⟩, by omega, Sbs.mk rfl rfl ⟨rfl, rfl, rfl, incI hΩ (by omega), trivial⟩⟩
  · replace h := geI hΩ h
    exact .of (congrArg i64 (by rw [he, List.drop_of_length_le (by omega)]; rfl))
theorem c_ContainsFuncI (l : List (Int)) (hl : l.length ≤ 4611686018427387904) (g : Nat) (caps : List A) (p : Int → Bool) (hf : CloB PP (i64) l g caps p) : PCtr PP n_slices_ContainsFunc_L_int64_int64 [.sl false 1 (l.map (i64)), .clo g caps] (boo (l.any p)) := by
  obtain ⟨Ω, hΩ⟩ : ∃ Ω, Ω = std := ⟨_, rfl⟩
  obtain ⟨r, hr⟩ : ∃ r, r = l.any p := ⟨_, rfl⟩
  rw [← hr]
  have hc := c_IndexFuncI l hl g caps p hf
  have hro := hf.ro
  rw [← idx_any] at hr
  generalize idx p l = k at *
  generalize l.map (i64) = xs at *
  have htab := tab
  have hmo := hmo
  have hve := verEq
  refine PCtr.walk tab hΩ fn_slices_ContainsFunc_L_int64_int64 rfl ?_
  generalize PP = P at *
  cbv
  refine call_pure hΩ 5 hc (ro_clo2 rfl (hro _ 0)) (fits _) rfl rfl ?_
  cbv
  refine .of (congrArg boo ?_)
  subst hΩ; subst hr; rfl
theorem c_IndexFuncL (l : List (List Trm)) (hl : l.length ≤ 4611686018427387904) (g : Nat) (caps : List A) (p : List Trm → Bool) (hf : CloB PP (encTs false) l g caps p) : PCtr PP n_slices_IndexFunc_L_L_impl_Term_L_impl_Term [.sl false 1 (l.map (encTs false)), .clo g caps] (i64 (idx p l)) := by
  obtain ⟨Ω, hΩ⟩ : ∃ Ω, Ω = std := ⟨_, rfl⟩
  obtain ⟨r, hr⟩ : ∃ r, r = idx p l := ⟨_, rfl⟩
  rw [← hr]
  obtain ⟨xs, hxs⟩ : ∃ xs, xs = l.map (encTs false) := ⟨_, rfl⟩
  have hlen : xs.length = l.length := by rw [hxs, List.length_map]
  rw [← hxs]
  have hro := hf.ro
  have hrun : ∀ s ∈ l, PCtr PP (Ω.cloN g) (Ω.cloA g [encTs false s] caps) (boo (p s)) := by subst hΩ; exact hf.run
  have htab := tab
  have hmo := hmo
  have hve := verEq
  refine PCtr.walk tab hΩ fn_slices_IndexFunc_L_L_impl_Term_L_impl_Term rfl ?_
  generalize PP = P at *
  cbv
  refine loopX htab hΩ (fun i : Nat => ⟨[(0, .sl false 1 xs), (1, .clo g caps), (7, .sc (.int .i64 (Ω.int (Ω.len xs)))), (8, .sc (.int .i64 (Ω.int i)))], 19, []⟩) (fun i => i ≤ l.length ∧ r = idxFrom p i (l.drop i)) (fun i => l.length - i) 0
    ⟨Nat.zero_le _, hr⟩ (Sbs.mk rfl rfl ⟨rfl, rfl, rfl, zeroI hΩ, trivial⟩) ?_
  rintro i ⟨hi, he⟩
  cbv
  refine br (fun h => ?_) (fun h => ?_) <;> cbv
  · replace h := ltI hΩ h
    obtain ⟨c, hcc⟩ := at_of (cs := l) (by omega : i < l.length)
    rw [idxFrom_at _ hcc] at he
    obtain ⟨cs, hen, hcs⟩ : ∃ cs, encTs false c = .sl false 7 cs ∧ cs = c.map Trm.enc := ⟨_, rfl, rfl⟩
    refine ⟨⟨nnI hΩ⟩, _, (rdI hΩ hxs hcc).trans (congrArg some hen), ?_⟩
    cbv
    have h1 := hrun c (List.mem_of_getElem? hcc)
    rw [hen] at h1
    refine call_pure hΩ 4 h1 (ro_cloA hΩ rfl (hro _ 0)) (fits _) rfl rfl ?_
    cbv
    refine br (fun g => ?_) (fun g => ?_) <;> cbv
    · exact .of (congrArg i64 (by rw [he, if_pos g]; subst hΩ; rfl))
    · rw [if_neg (by rw [show p c = false from g]; simp)] at he
      exact ⟨i + 1, ⟨by omega, he⟩, by omega, Sbs.mk rfl rfl ⟨rfl, rfl, rfl, incI hΩ (by omega), trivial⟩⟩
  · replace h := geI hΩ h
    exact .of (congrArg i64 (by rw [he, List.drop_of_length_le (by omega)]; rfl))
theorem c_ContainsFuncL (l : List (List Trm)) (hl : l.length ≤ 4611686018427387904) (g : Nat) (caps : List A) (p : List Trm → Bool) (hf : CloB PP (encTs false) l g caps p) : PCtr PP n_slices_ContainsFunc_L_L_impl_Term_L_impl_Term [.sl false 1 (l.map (encTs false)), .clo g caps] (boo (l.any p)) := by
  obtain ⟨Ω, hΩ⟩ : ∃ Ω, Ω = std := ⟨_, rfl⟩
  obtain ⟨r, hr⟩ : ∃ r, r = l.any p := ⟨_, rfl⟩
  rw [← hr]
  have hc := c_IndexFuncL l hl g caps p hf
  have hro := hf.ro
  rw [← idx_any] at hr
  generalize idx p l = k at *
  generalize l.map (encTs false) = xs at *
  have htab := tab
  have hmo := hmo
  have hve := verEq
  refine PCtr.walk tab hΩ fn_slices_ContainsFunc_L_L_impl_Term_L_impl_Term rfl ?_
  generalize PP = P at *
  cbv
  refine call_pure hΩ 5 hc (ro_clo2 rfl (hro _ 0)) (fits _) rfl rfl ?_
  cbv
  refine .of (congrArg boo ?_)
  subst hΩ; subst hr; rfl
theorem c_IndexFuncP (l : List (Pck)) (hl : l.length ≤ 4611686018427387904) (g : Nat) (caps : List A) (p : Pck → Bool) (hf : CloB PP (Pck.enc false) l g caps p) : PCtr PP n_slices_IndexFunc_L_impl_Pack_impl_Pack [.sl false 8 (l.map (Pck.enc false)), .clo g caps] (i64 (idx p l)) := by
  obtain ⟨Ω, hΩ⟩ : ∃ Ω, Ω = std := ⟨_, rfl⟩
  obtain ⟨r, hr⟩ : ∃ r, r = idx p l := ⟨_, rfl⟩
  rw [← hr]
  obtain ⟨xs, hxs⟩ : ∃ xs, xs = l.map (Pck.enc false) := ⟨_, rfl⟩
  have hlen : xs.length = l.length := by rw [hxs, List.length_map]
  rw [← hxs]
  have hro := hf.ro
  have hrun : ∀ s ∈ l, PCtr PP (Ω.cloN g) (Ω.cloA g [Pck.enc false s] caps) (boo (p s)) := by subst hΩ; exact hf.run
  have htab := tab
  have hmo := hmo
  have hve := verEq
  refine PCtr.walk tab hΩ fn_slices_IndexFunc_L_impl_Pack_impl_Pack rfl ?_
  generalize PP = P at *
  cbv
  refine loopX htab hΩ (fun i : Nat => ⟨[(0, .sl false 8 xs), (1, .clo g caps), (7, .sc (.int .i64 (Ω.int (Ω.len xs)))), (8, .sc (.int .i64 (Ω.int i)))], 19, []⟩) (fun i => i ≤ l.length ∧ r = idxFrom p i (l.drop i)) (fun i => l.length - i) 0
    ⟨Nat.zero_le _, hr⟩ (Sbs.mk rfl rfl ⟨rfl, rfl, rfl, zeroI hΩ, trivial⟩) ?_
  rintro i ⟨hi, he⟩
  cbv
  refine br (fun h => ?_) (fun h => ?_) <;> cbv
  · replace h := ltI hΩ h
    obtain ⟨c, hcc⟩ := at_of (cs := l) (by omega : i < l.length)
    rw [idxFrom_at _ hcc] at he
    obtain ⟨ps, ds, bs, hen, hps, hds, hbs⟩ := enc_raw c
    refine ⟨⟨nnI hΩ⟩, _, (rdI hΩ hxs hcc).trans (congrArg some hen), ?_⟩
    cbv
    have h1 := hrun c (List.mem_of_getElem? hcc)
    rw [hen] at h1
    refine call_pure hΩ 4 h1 (ro_cloA hΩ rfl (hro _ 0)) (fits _) rfl rfl ?_
    cbv
    refine br (fun g => ?_) (fun g => ?_) <;> cbv
    · exact .of (congrArg i64 (by rw [he, if_pos g]; subst hΩ; rfl))
    · rw [if_neg (by rw [show p c = false from g]; simp)] at he
      exact ⟨i + 1, ⟨by omega, he⟩, by omega, Sbs.mk rfl rfl ⟨rfl, rfl, rfl, incI hΩ (by omega), trivial⟩⟩
  · replace h := geI hΩ h
    exact .of (congrArg i64 (by rw [he, List.drop_of_length_le (by omega)]; rfl))
end Go.Proofs.Ytdngjnjapihbkaa

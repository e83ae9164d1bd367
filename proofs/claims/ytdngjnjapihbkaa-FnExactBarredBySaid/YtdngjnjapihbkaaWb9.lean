/- Walks: sets by a function value; who is barred. Plain theorems. -/
import Derived.Test.YtdngjnjapihbkaaWb8
set_option linter.unusedVariables false
set_option linter.unusedSimpArgs false
namespace Go.Proofs.Ytdngjnjapihbkaa
open Go Go.Fw
set_option maxRecDepth 100000
def ints (l : List Int) : A := .sl true 1 (l.map i64)
theorem frzInt (l : List Int) : (l.map i64).map frz = l.map i64 := by
  rw [List.map_map]; exact List.map_congr_left fun c _ => rfl
theorem noInt (l : List Int) : (∀ y ∈ l.map i64, noOwn y = true) ∧ (∀ c ∈ flat (l.map i64), okCell c = true) ∧ (∀ y ∈ l.map i64, isAggB y = false) ∧ (∀ y ∈ l.map i64, vStore.isAggA y = false) := by
  refine ⟨fun y hy => ?_, fun y hy => ?_, fun y hy => ?_, fun y hy => ?_⟩
  · obtain ⟨c, _, rfl⟩ := List.mem_map.1 hy; rfl
  · obtain ⟨x, hx, hy⟩ := List.mem_flatMap.1 hy
    obtain ⟨c, _, rfl⟩ := List.mem_map.1 hx
    have : y = i64 c := by simpa [i64, A.cells] using hy
    rw [this]; rfl
  · obtain ⟨c, _, rfl⟩ := List.mem_map.1 hy; rfl
  · obtain ⟨c, _, rfl⟩ := List.mem_map.1 hy; rfl
theorem roFInt (l : List Int) : roFree (.sl true 1 (l.map i64)) = true := by
  rw [roFree_sl, Bool.true_and, List.all_eq_true]
  intro x hx
  obtain ⟨c, _, rfl⟩ := List.mem_map.1 hx
  rfl
theorem idx_spec (p : Int → Bool) : ∀ (l : List Int) (i : Nat), (idxFrom p i l = -1 ∧ (l.filter fun x => !p x) = l) ∨ ∃ m, idxFrom p i l = ((i + m : Nat) : Int) ∧ m < l.length ∧ ((l.take (m + 1)).filter fun x => !p x) = l.take m
  | [], i => .inl ⟨rfl, rfl⟩
  | x :: xs, i => by
    rw [idxFrom]
    by_cases h : p x = true
    · right
      refine ⟨0, by rw [if_pos h]; simp, by simp, by simp [h]⟩
    · rw [if_neg h]
      rcases idx_spec p xs (i + 1) with ⟨h1, h2⟩ | ⟨m, h1, h2, h3⟩
      · left
        refine ⟨h1, ?_⟩
        rw [List.filter_cons_of_pos (by simpa using h), h2]
      · right
        refine ⟨m + 1, by rw [h1]; congr 1; omega, by simp; omega, ?_⟩
        rw [List.take_succ_cons, List.filter_cons_of_pos (by simpa using h), h3, List.take_succ_cons]
theorem filter_at {p : Int → Bool} {s : List Int} {j : Nat} {c : Int} (h : s[j]? = some c) : ((s.take (j + 1)).filter fun x => !p x) = ((s.take j).filter fun x => !p x) ++ (if p c then [] else [c]) := by
  rw [List.take_add_one, h, List.filter_append]
  congr 1
  by_cases hc : p c <;> simp [hc]
theorem take_set_add {ys : List A} {i : Nat} {z : A} (h : i < ys.length) : (ys.set i z).take (i + 1) = ys.take i ++ [z] := by
  rw [List.take_add_one, List.getElem?_set_self h, List.take_set_of_le (Nat.le_refl _)]; rfl
theorem c_Clone (s : List Int) (hs : s.length ≤ 1048576) : PCtr PP n_slices_Clone_L_int64_int64 [.sl false 1 (s.map i64)] (ints s) := by
  obtain ⟨Ω, hΩ⟩ : ∃ Ω, Ω = std := ⟨_, rfl⟩
  unfold ints
  obtain ⟨xs, hxs⟩ : ∃ xs, xs = s.map i64 := ⟨_, rfl⟩
  have hlen : xs.length = s.length := by rw [hxs, List.length_map]
  have hno := noInt s
  have hfz := frzInt s
  rw [← hxs] at hno hfz ⊢
  have htab := tab
  refine PCtr.walk tab hΩ fn_slices_Clone_L_int64_int64 rfl ?_
  generalize PP = P at *
  cbv
  intro b hb
  refine br (fun g => ?_) (fun g => ?_) <;> cbv
  · exact ⟨1, hb g⟩
  refine ⟨⟨hno.1, hno.2.1, ?_, ?_⟩, ⟨rfl, ?_⟩, .of ?_⟩
  · show (0 + xs.length) * 8 ≤ 140737488355328
    omega
  · show 0 + xs.length ≤ 9223372036854775807
    omega
  · subst hΩ; show 0 + xs.length ≤ (List.take 0 [] ++ xs).length; simp
  · subst hΩ; show A.sl true 1 ((List.take 0 [] ++ xs).take (0 + xs.length)) = _; rw [List.take_of_length_le (by simp)]; rfl
theorem c_DeleteFunc (s : List Int) (hs : s.length ≤ 1048576) (g : Nat) (caps : List A) (p : Int → Bool) (hf : CloB PP i64 s g caps p) : ECtr PP n_slices_DeleteFunc_L_int64_int64 [.sl true 1 (s.map i64), .clo g caps] (ints (s.filter fun x => !p x)) := by
  obtain ⟨Ω, hΩ⟩ : ∃ Ω, Ω = std := ⟨_, rfl⟩
  unfold ints
  have hc := c_IndexFuncI s (by omega) g caps p hf
  have hro := hf.ro
  have hcn := hf.no
  have hrun : ∀ x ∈ s, PCtr PP (Ω.cloN g) (Ω.cloA g [i64 x] caps) (boo (p x)) := by subst hΩ; exact hf.run
  obtain ⟨k, hk⟩ : ∃ k, idx p s = k := ⟨_, rfl⟩
  rw [hk] at hc
  obtain ⟨xs, hxs⟩ : ∃ xs, xs = s.map i64 := ⟨_, rfl⟩
  have hlen : xs.length = s.length := by rw [hxs, List.length_map]
  have hno := noInt s
  have hfz := frzInt s
  rw [← hxs] at hno hfz hc ⊢
  have hle : Ω.len xs = xs.length := by subst hΩ; rfl
  obtain ⟨zs, hzs⟩ : ∃ zs, zs = (s.filter fun x => !p x).map i64 := ⟨_, rfl⟩
  rw [← hzs]
  have htab := tab
  refine ECtr.walk tab hΩ 3 fn_slices_DeleteFunc_L_int64_int64 rfl (by simp only [rootO, rootO.rootOL, List.all_cons, List.all_nil, noOwn_vw, noOwn_clo, hcn]; rfl) ?_
  generalize PP = P at *
  cbv
  refine call_pure hΩ 5 hc (ro_clo2 (roV rfl hle hfz) (hro _ 0)) (fits _) rfl rfl ?_
  cbv
  refine br (fun g1 => ?_) (fun g1 => ?_) <;> cbv
  · have g1 : k = -1 := eqI_t hΩ g1
    rcases idx_spec p s 0 with ⟨h1, h2⟩ | ⟨m, h1, _⟩
    · refine ⟨⟨rfl, by subst hΩ; exact Nat.le_refl _⟩, .of ?_⟩
      rw [hzs, h2, ← hxs]
      subst hΩ
      show A.sl true 1 (xs.take xs.length) = _
      rw [List.take_length]
    · have : k = ((0 + m : Nat) : Int) := by rw [← hk]; exact h1
      omega
  have g1 : k ≠ -1 := eqI_f hΩ g1
  obtain ⟨m, hkm, hml, hfm⟩ : ∃ m : Nat, k = Ω.int m ∧ m < s.length ∧ ((s.take (m + 1)).filter fun x => !p x) = s.take m := by
    rcases idx_spec p s 0 with ⟨h1, _⟩ | ⟨m, h1, h2, h3⟩
    · exact absurd (hk.symm.trans h1) g1
    · rw [Nat.zero_add] at h1
      exact ⟨m, by subst hΩ; exact hk.symm.trans h1, h2, h3⟩
  subst hkm
  obtain ⟨F, hF⟩ : ∃ F : Nat → List Int, F = fun j => (s.take j).filter fun x => !p x := ⟨_, rfl⟩
  have hFat : ∀ j c, s[j]? = some c → F (j + 1) = F j ++ (if p c then [] else [c]) := fun j c h => by rw [hF]; exact filter_at h
  have hFm : F (m + 1) = s.take m := by rw [hF]; exact hfm
  have hFml : (F (m + 1)).length = m := by rw [hFm]; simp; omega
  have hFn : F s.length = s.filter fun x => !p x := by rw [hF]; simp only; rw [List.take_length]
  refine loopX htab hΩ (fun i : Nat × List A => ⟨[(0, .vw 0 0 (Ω.len xs)), (1, .clo g caps), (5, .sc (.int .i64 (Ω.int (F i.1).length))), (6, .sc (.int .i64 (Ω.int i.1)))], 42, [some ⟨1, i.2, false⟩]⟩)
    (fun i => (F i.1).length < i.1 ∧ i.1 ≤ s.length ∧ i.2.length = s.length ∧ i.2.take (F i.1).length = (F i.1).map i64 ∧ (∀ q, i.1 ≤ q → i.2[q]? = xs[q]?) ∧ (∀ y ∈ i.2, isAggB y = false) ∧ (∀ y ∈ i.2, vStore.isAggA y = false))
    (fun i => s.length - i.1) (m + 1, xs) ⟨by dsimp only; omega, by dsimp only; omega, hlen, ?_, fun _ _ => rfl, hno.2.2.1, hno.2.2.2⟩ (Sbs.mk rfl rfl ⟨rfl, rfl, by rw [hFml]; rfl, incI hΩ (by omega), trivial⟩) ?_
  · dsimp only
    rw [hFml, hFm, hxs, List.map_take]
  rintro ⟨j, ys⟩ ⟨h1, h2, h3, h4, h5, h6, h7⟩
  dsimp only at h1 h2 h3 h4 h5 h6 h7
  obtain ⟨f, hf2⟩ : ∃ f, f = (F j).length := ⟨_, rfl⟩
  rw [← hf2] at h1 h4
  dsimp only
  rw [← hf2]
  cbv
  refine br (fun h => ?_) (fun h => ?_) <;> cbv
  · replace h := ltI hΩ h
    obtain ⟨c, hcc⟩ := at_of (cs := s) (by omega : j < s.length)
    have hyj : ys[j]? = some (i64 c) := by rw [h5 j (Nat.le_refl _), hxs, List.getElem?_map, hcc]; rfl
    have hFj := hFat j c hcc
    have hr1 := hrun c (List.mem_of_getElem? hcc)
    refine ⟨⟨ixI hΩ (by show j < Ω.len xs; rw [hle]; exact h)⟩, i64 c, atI hΩ hyj, ?_⟩
    cbv
    refine call_pure hΩ 4 hr1 (ro_cloA hΩ rfl (hro _ 0)) (fits _) rfl rfl ?_
    cbv
    refine br (fun g => ?_) (fun g => ?_) <;> cbv
    · have g := notT' hΩ g
      rw [g] at hFj
      have hFl : (F (j + 1)).length = f + 1 := by rw [hFj, hf2]; simp
      have hfl : f < ys.length := by omega
      refine ⟨⟨ixI hΩ (by show f < Ω.len xs; rw [hle]; omega)⟩, ⟨by subst hΩ; show 0 + f < ys.length; omega, h7⟩, ?_⟩
      refine ⟨(j + 1, ys.set f (i64 c)), ⟨by dsimp only; omega, by dsimp only; omega, by simpa using h3, ?_, fun q hq => ?_, fun y hy => ?_, fun y hy => ?_⟩, by dsimp only; omega, Sbs.mk rfl ?_ ⟨rfl, rfl, ?_, incI hΩ (by omega), trivial⟩⟩
      · dsimp only; rw [hFl, take_set_add hfl, h4, hFj, List.map_append]; rfl
      · dsimp only at hq ⊢; rw [List.getElem?_set_ne (by omega)]; exact h5 q (by omega)
      · rcases List.mem_or_eq_of_mem_set hy with hy | rfl
        · exact h6 y hy
        · rfl
      · rcases List.mem_or_eq_of_mem_set hy with hy | rfl
        · exact h7 y hy
        · rfl
      · subst hΩ; show [some (Row.mk 1 (ys.set (0 + f) (i64 c)) false)] = _; rw [Nat.zero_add]
      · dsimp only; rw [hFl]; exact incI hΩ (by omega)
    · have g : p c = true := notF' hΩ g
      rw [g] at hFj
      have hFl : (F (j + 1)).length = f := by rw [hFj, hf2]; simp
      exact ⟨(j + 1, ys), ⟨by dsimp only; omega, by dsimp only; omega, h3, by dsimp only; rw [hFl, h4, hFj]; simp, fun q hq => h5 q (by dsimp only at hq; omega), h6, h7⟩, by dsimp only; omega, Sbs.mk rfl rfl ⟨rfl, rfl, by dsimp only; rw [hFl]; rfl, incI hΩ (by omega), trivial⟩⟩
  · have hj : j = s.length := by have := geI hΩ h; omega
    subst hj
    refine ⟨⟨nnI hΩ, trivial, ?_, Nat.le_refl _⟩, ⟨?_, h6⟩, ⟨trivial, nnI hΩ, Nat.zero_le _, ?_⟩, ⟨?_, ?_⟩, .of ?_⟩
    · subst hΩ; show f ≤ xs.length; omega
    · subst hΩ; show 0 + f + (xs.length - f) = ys.length; omega
    · subst hΩ; show f ≤ xs.length; omega
    · subst hΩ; rfl
    · subst hΩ; show f - 0 ≤ (ys.take (0 + f) ++ List.replicate (xs.length - f) (A.sc (Value.int IntKind.i64 0))).length; simp; omega
    · subst hΩ
      show A.sl true 1 ((ys.take (0 + f) ++ List.replicate (xs.length - f) (A.sc (Value.int IntKind.i64 0))).take (f - 0)) = _
      rw [Nat.zero_add, Nat.sub_zero, List.take_append_of_le_length (by simp; omega), List.take_take, Nat.min_self, h4, hzs, hFn]
theorem c_those1 (g : Nat) (caps : List A) (b : Bool) (k : Int) (hro : ∀ S k, mapO (roO S (k + 4)) caps = some caps) (hf : PCtr PP (Fw.cloN g) (Fw.cloA g [i64 k] caps) (boo b)) : PCtr PP n_impl_those_1 [i64 k, .rp [.clo g caps]] (boo (!b)) := by
  obtain ⟨Ω, hΩ⟩ : ∃ Ω, Ω = std := ⟨_, rfl⟩
  have hrun : PCtr PP (Ω.cloN g) (Ω.cloA g [i64 k] caps) (boo b) := by subst hΩ; exact hf
  have htab := tab
  refine PCtr.walk tab hΩ fn_impl_those_1 rfl ?_
  generalize PP = P at *
  cbv
  refine call_pure hΩ 4 hrun (ro_cloA hΩ rfl (hro _ 0)) (fits _) rfl rfl ?_
  cbv
  exact .of (congrArg boo (by subst hΩ; rfl))
theorem c_those (s : List Int) (hs : s.length ≤ 1048576) (g : Nat) (caps : List A) (p : Int → Bool) (hf : CloB PP i64 s g caps p) : PCtr PP n_impl_those [.sl false 1 (s.map i64), .clo g caps] (ints (s.filter p)) := by
  obtain ⟨Ω, hΩ⟩ : ∃ Ω, Ω = std := ⟨_, rfl⟩
  have hcl := c_Clone s hs
  have hd := c_DeleteFunc s hs n_impl_those_1 [.rp [.clo g caps]] (fun x => !p x) ⟨fun S k => by rfl, rfl, fun _ => rfl, fun x hx => c_those1 g caps (p x) x hf.ro (hf.run x hx)⟩
  have hro := hf.ro
  have hcn := hf.no
  have hkl := hf.kl
  have hroF := roFInt s
  have hroZ := roFInt (s.filter p)
  rw [show (s.filter fun x => !!p x) = s.filter p by congr 1; funext x; simp] at hd
  unfold ints at hcl hd ⊢
  generalize s.map i64 = xs at *
  generalize (s.filter p).map i64 = zs at *
  have htab := tab
  refine PCtr.walk tab hΩ fn_impl_those rfl ?_
  generalize PP = P at *
  cbv
  refine call_pure hΩ 3 hcl rfl (fits _) hroF rfl ?_
  cbv
  refine call_eat2 (row := ⟨1, xs, false⟩) hΩ 8 hd rfl rfl (by subst hΩ; rfl) (ro_clo1 (mapOne (roPt (x := .clo g caps) (by show some (Row.mk 1 [A.clo g (killL 1 caps)] true) = _; rw [hkl]) (ro_clo1 (hro _ 1))))) (fits _) hroZ rfl ?_
  cbv
  refine ⟨⟨rfl, by subst hΩ; exact Nat.le_refl _⟩, .of ?_⟩
  subst hΩ
  show A.sl true 1 (zs.take zs.length) = _
  rw [List.take_length]
end Go.Proofs.Ytdngjnjapihbkaa

/- Walks: lists of texts by a function value; words, lines. Plain theorems. -/
import Derived.Test.YthlfefblhlmbgaaDoorC3
import Derived.Deep.Slices
import Derived.ChangeStays
import Derived.OpenShut
import Derived.WalkKit
import Derived.ProofKit
set_option linter.unusedVariables false
set_option linter.unusedSimpArgs false
namespace Go.Proofs.YthlfefblhlmbgaaDoor
open Go Go.Fw
set_option maxRecDepth 100000
theorem noStrS (l : List (List UInt8)) : (∀ y ∈ l.map str, noOwn y = true) ∧ (∀ c ∈ flat (l.map str), okCell c = true) ∧ (∀ y ∈ l.map str, isAggB y = false) ∧ (∀ y ∈ l.map str, vStore.isAggA y = false) := by
  refine ⟨fun y hy => ?_, fun y hy => ?_, fun y hy => ?_, fun y hy => ?_⟩
  · obtain ⟨c, _, rfl⟩ := List.mem_map.1 hy; rfl
  · rw [flatS1] at hy; obtain ⟨c, _, rfl⟩ := List.mem_map.1 hy; rfl
  · obtain ⟨c, _, rfl⟩ := List.mem_map.1 hy; rfl
  · obtain ⟨c, _, rfl⟩ := List.mem_map.1 hy; rfl
theorem idx_specS (p : List UInt8 → Bool) : ∀ (l : List (List UInt8)) (i : Nat), (idxFrom p i l = -1 ∧ (l.filter fun x => !p x) = l) ∨ ∃ m, idxFrom p i l = ((i + m : Nat) : Int) ∧ m < l.length ∧ ((l.take (m + 1)).filter fun x => !p x) = l.take m
  | [], i => .inl ⟨rfl, rfl⟩
  | x :: xs, i => by
    rw [idxFrom]
    by_cases h : p x = true
    · right
      refine ⟨0, by rw [if_pos h]; simp, by simp, by simp [h]⟩
    · rw [if_neg h]
      rcases idx_specS p xs (i + 1) with ⟨h1, h2⟩ | ⟨m, h1, h2, h3⟩
      · left
        refine ⟨h1, ?_⟩
        rw [List.filter_cons_of_pos (by simpa using h), h2]
      · right
        refine ⟨m + 1, by rw [h1]; congr 1; omega, by simp; omega, ?_⟩
        rw [List.take_succ_cons, List.filter_cons_of_pos (by simpa using h), h3, List.take_succ_cons]
theorem filter_atS {p : List UInt8 → Bool} {s : List (List UInt8)} {j : Nat} {c : List UInt8} (h : s[j]? = some c) : ((s.take (j + 1)).filter fun x => !p x) = ((s.take j).filter fun x => !p x) ++ (if p c then [] else [c]) := by
  rw [List.take_add_one, h, List.filter_append]
  congr 1
  by_cases hc : p c <;> simp [hc]
theorem c_DeleteFuncS (s : List (List UInt8)) (hs : s.length ≤ 1048576) (g : Nat) (caps : List A) (p : List UInt8 → Bool) (hf : CloB PP str s g caps p) : ECtr PP n_slices_DeleteFunc_L_string_string [.sl true 1 (s.map str), .clo g caps] (.sl true 1 ((s.filter fun x => !p x).map str)) := by
  obtain ⟨Ω, hΩ⟩ : ∃ Ω, Ω = std := ⟨_, rfl⟩
  have hc := c_IndexFuncS s (by omega) g caps p hf
  have hro := hf.ro
  have hcn := hf.no
  have hrun : ∀ x ∈ s, PCtr PP (Ω.cloN g) (Ω.cloA g [str x] caps) (boo (p x)) := by subst hΩ; exact hf.run
  obtain ⟨k, hk⟩ : ∃ k, idx p s = k := ⟨_, rfl⟩
  rw [hk] at hc
  obtain ⟨xs, hxs⟩ : ∃ xs, xs = s.map str := ⟨_, rfl⟩
  have hlen : xs.length = s.length := by rw [hxs, List.length_map]
  have hno := noStrS s
  have hfz := frzStr s
  rw [← hxs] at hno hfz hc ⊢
  have hle : Ω.len xs = xs.length := by subst hΩ; rfl
  obtain ⟨zs, hzs⟩ : ∃ zs, zs = (s.filter fun x => !p x).map str := ⟨_, rfl⟩
  rw [← hzs]
  have htab := tab
  refine ECtr.walk tab hΩ 3 fn_slices_DeleteFunc_L_string_string rfl (by simp only [rootO, rootO.rootOL, List.all_cons, List.all_nil, noOwn_vw, noOwn_clo, hcn]; rfl) ?_
  generalize PP = P at *
  cbv
  refine call_pure hΩ 5 hc (ro_clo2 (roV rfl hle hfz) (hro _ 0)) (fits _) rfl rfl ?_
  cbv
  refine br (fun g1 => ?_) (fun g1 => ?_) <;> cbv
  · have g1 : k = -1 := eqI_t hΩ g1
    rcases idx_specS p s 0 with ⟨h1, h2⟩ | ⟨m, h1, _⟩
    · refine ⟨⟨rfl, by subst hΩ; exact Nat.le_refl _⟩, .of ?_⟩
      rw [hzs, h2, ← hxs]
      subst hΩ
      show A.sl true 1 (xs.take xs.length) = _
      rw [List.take_length]
    · have : k = ((0 + m : Nat) : Int) := by rw [← hk]; exact h1
      omega
  have g1 : k ≠ -1 := eqI_f hΩ g1
  obtain ⟨m, hkm, hml, hfm⟩ : ∃ m : Nat, k = Ω.int m ∧ m < s.length ∧ ((s.take (m + 1)).filter fun x => !p x) = s.take m := by
    rcases idx_specS p s 0 with ⟨h1, _⟩ | ⟨m, h1, h2, h3⟩
    · exact absurd (hk.symm.trans h1) g1
    · rw [Nat.zero_add] at h1
      exact ⟨m, by subst hΩ; exact hk.symm.trans h1, h2, h3⟩
  subst hkm
  obtain ⟨F, hF⟩ : ∃ F : Nat → List (List UInt8), F = fun j => (s.take j).filter fun x => !p x := ⟨_, rfl⟩
  have hFat : ∀ j c, s[j]? = some c → F (j + 1) = F j ++ (if p c then [] else [c]) := fun j c h => by rw [hF]; exact filter_atS h
  have hFm : F (m + 1) = s.take m := by rw [hF]; exact hfm
  have hFml : (F (m + 1)).length = m := by rw [hFm]; simp; omega
  have hFn : F s.length = s.filter fun x => !p x := by rw [hF]; simp only; rw [List.take_length]
  refine loopX htab hΩ (fun i : Nat × List A => ⟨[(0, .vw 0 0 (Ω.len xs)), (1, .clo g caps), (5, .sc (.int .i64 (Ω.int (F i.1).length))), (6, .sc (.int .i64 (Ω.int i.1)))], 42, [some ⟨1, i.2, false⟩]⟩)
    (fun i => (F i.1).length < i.1 ∧ i.1 ≤ s.length ∧ i.2.length = s.length ∧ i.2.take (F i.1).length = (F i.1).map str ∧ (∀ q, i.1 ≤ q → i.2[q]? = xs[q]?) ∧ (∀ y ∈ i.2, isAggB y = false) ∧ (∀ y ∈ i.2, vStore.isAggA y = false))
    (fun i => s.length - i.1) (m + 1, xs) ⟨by dsimp only; omega, by dsimp only; omega, hlen, ?_, fun _ _ => rfl, hno.2.2.1, hno.2.2.2⟩ (Sbs.mk rfl rfl ⟨rfl, rfl, by rw [hFml]; rfl, incI hΩ (by omega), trivial⟩) ?_
  · dsimp only
    rw [hFml, hFm, hxs, List.map_take]
  rintro ⟨j, ys⟩ ⟨h1, h2, h3, h4, h5, h6, h7⟩
  dsimp only at h1 h2 h3 h4 h5 h6 h7
  obtain ⟨f, hf2⟩ : ∃ f, f = (F j).length := ⟨_, rfl⟩
  rw [← hf2] at h1 h4
  dsimp only
  rw [← hf2]
  cbv
  refine br (fun h => ?_) (fun h => ?_) <;> cbv
  · replace h := ltI hΩ h
    obtain ⟨c, hcc⟩ := at_of (cs := s) (by omega : j < s.length)
    have hyj : ys[j]? = some (str c) := by rw [h5 j (Nat.le_refl _), hxs, List.getElem?_map, hcc]; rfl
    have hFj := hFat j c hcc
    have hr1 := hrun c (List.mem_of_getElem? hcc)
    refine ⟨⟨ixI hΩ (by show j < Ω.len xs; rw [hle]; exact h)⟩, str c, atI hΩ hyj, ?_⟩
    cbv
    refine call_pure hΩ 4 hr1 (ro_cloA hΩ rfl (hro _ 0)) (fits _) rfl rfl ?_
    cbv
    refine br (fun g => ?_) (fun g => ?_) <;> cbv
    · have g := notT' hΩ g
      rw [g] at hFj
      have hFl : (F (j + 1)).length = f + 1 := by rw [hFj, hf2]; simp
      have hfl : f < ys.length := by omega
      refine ⟨⟨ixI hΩ (by show f < Ω.len xs; rw [hle]; omega)⟩, ⟨by subst hΩ; show 0 + f < ys.length; omega, h7⟩, ?_⟩
      refine ⟨(j + 1, ys.set f (str c)), ⟨by dsimp only; omega, by dsimp only; omega, by simpa using h3, ?_, fun q hq => ?_, fun y hy => ?_, fun y hy => ?_⟩, by dsimp only; omega, Sbs.mk rfl ?_ ⟨rfl, rfl, ?_, incI hΩ (by omega), trivial⟩⟩
      · dsimp only; rw [hFl, take_set_add hfl, h4, hFj, List.map_append]; rfl
      · dsimp only at hq ⊢; rw [List.getElem?_set_ne (by omega)]; exact h5 q (by omega)
      · rcases List.mem_or_eq_of_mem_set hy with hy | rfl
        · exact h6 y hy
        · rfl
      · rcases List.mem_or_eq_of_mem_set hy with hy | rfl
        · exact h7 y hy
        · rfl
      · subst hΩ; show [some (Row.mk 1 (ys.set (0 + f) (str c)) false)] = _; rw [Nat.zero_add]
      · dsimp only; rw [hFl]; exact incI hΩ (by omega)
    · have g : p c = true := notF' hΩ g
      rw [g] at hFj
      have hFl : (F (j + 1)).length = f := by rw [hFj, hf2]; simp
      exact ⟨(j + 1, ys), ⟨by dsimp only; omega, by dsimp only; omega, h3, by dsimp only; rw [hFl, h4, hFj]; simp, fun q hq => h5 q (by dsimp only at hq; omega), h6, h7⟩, by dsimp only; omega, Sbs.mk rfl rfl ⟨rfl, rfl, by dsimp only; rw [hFl]; rfl, incI hΩ (by omega), trivial⟩⟩
  · have hj : j = s.length := by have := geI hΩ h; omega
    subst hj
    refine ⟨⟨nnI hΩ, trivial, ?_, Nat.le_refl _⟩, ⟨?_, h6⟩, ⟨trivial, nnI hΩ, Nat.zero_le _, ?_⟩, ⟨?_, ?_⟩, .of ?_⟩
    · subst hΩ; show f ≤ xs.length; omega
    · subst hΩ; show 0 + f + (xs.length - f) = ys.length; omega
    · subst hΩ; show f ≤ xs.length; omega
    · subst hΩ; rfl
    · subst hΩ; show f - 0 ≤ (ys.take (0 + f) ++ List.replicate (xs.length - f) (A.sc (.string (mkS [])))).length; simp; omega
    · subst hΩ
      show A.sl true 1 ((ys.take (0 + f) ++ List.replicate (xs.length - f) (A.sc (.string (mkS [])))).take (f - 0)) = _
      rw [Nat.zero_add, Nat.sub_zero, List.take_append_of_le_length (by simp; omega), List.take_take, Nat.min_self, h4, hzs, hFn]
theorem roSS (l : List (List UInt8)) : roFree (.sl true 1 (l.map str)) = true := roFAll fun x hx => by obtain ⟨c, _, rfl⟩ := List.mem_map.1 hx; rfl
theorem seqT {Ω : Opq} (hΩ : Ω = std) {x y : List UInt8} (h : Ω.cmpS .eql x y = true) : x = y := by subst hΩ; exact of_decide_eq_true ((by simpa [cmpSS] using (show cmpSS .eql x y = true from h)))
theorem seqF {Ω : Opq} (hΩ : Ω = std) {x y : List UInt8} (h : Ω.cmpS .eql x y = false) : x ≠ y := by subst hΩ; exact fun e => by subst e; have h : cmpSS .eql x x = false := h; simp [cmpSS] at h
theorem sneT {Ω : Opq} (hΩ : Ω = std) {x y : List UInt8} (h : Ω.cmpS .neq x y = true) : x ≠ y := by subst hΩ; exact fun e => by subst e; have h : cmpSS .neq x x = true := h; simp [cmpSS] at h
theorem sneF {Ω : Opq} (hΩ : Ω = std) {x y : List UInt8} (h : Ω.cmpS .neq x y = false) : x = y := by subst hΩ; simpa [cmpSS] using (show cmpSS .neq x y = false from h)
/-- The words of a line. -/
def wordsP (s : List UInt8) : List (List UInt8) := (cutAt 32 s).filter fun w => !decide (w = [])
/-- The lines of a text. -/
def linesP (s : List UInt8) : List (List UInt8) := if (cutAt 10 s).getD ((cutAt 10 s).length - 1) [] = [] then (cutAt 10 s).take ((cutAt 10 s).length - 1) else cutAt 10 s
theorem c_wordsOf1 (s : List UInt8) : PCtr PP n_impl_wordsOf_1 [str s] (boo (decide (s = []))) := by
  obtain ⟨Ω, hΩ⟩ : ∃ Ω, Ω = std := ⟨_, rfl⟩
  have htab := tab
  refine PCtr.walk tab hΩ fn_impl_wordsOf_1 rfl ?_
  generalize PP = P at *
  cbv
  refine .of (congrArg boo ?_)
  show Ω.cmpS .eql s [] = _
  rcases h : Ω.cmpS .eql s [] with _ | _
  · exact (decide_eq_false (seqF hΩ h)).symm
  · exact (decide_eq_true (seqT hΩ h)).symm
theorem c_wordsOf (s : List UInt8) (hs : s.length ≤ 1048575) : PCtr PP n_impl_wordsOf [str s] (.sl true 1 ((wordsP s).map str)) := by
  obtain ⟨Ω, hΩ⟩ : ∃ Ω, Ω = std := ⟨_, rfl⟩
  have hl := cutAt_len (c := 32) (s := s)
  have h1 := c_Split 32 s (by omega)
  have h2 := c_DeleteFuncS (cutAt 32 s) (by omega) n_impl_wordsOf_1 [] (fun x => decide (x = [])) ⟨fun S k => rfl, rfl, fun _ => rfl, fun x hx => c_wordsOf1 x⟩
  have r1 := roSS (cutAt 32 s)
  have r2 := roSS (wordsP s)
  have hz : (cutAt 32 s).length = ((cutAt 32 s).map str).length := (List.length_map _).symm
  unfold wordsP at *
  generalize ((cutAt 32 s).filter fun w => !decide (w = [])).map str = zs at *
  generalize (cutAt 32 s).map str = ys at *
  have lo : Ω.len ys = ys.length := by subst hΩ; rfl
  have htab := tab
  refine PCtr.walk tab hΩ fn_impl_wordsOf rfl ?_
  generalize PP = P at *
  cbv
  refine call_pure hΩ 3 h1 rfl (fits _) r1 rfl ?_
  cbv
  refine call_eat2 (row := ⟨1, ys, false⟩) hΩ 3 h2 rfl rfl lo rfl (fits _) r2 rfl ?_
  cbv
  exact ⟨⟨rfl, by subst hΩ; exact Nat.le_refl _⟩, .of (congrArg (A.sl true 1) (takeAll hΩ _))⟩
theorem lastI {Ω : Opq} (hΩ : Ω = std) {ys : List A} {k : Nat} (hl : ys.length = k + 1) (hb : k < 4611686018427387904) : Ω.ar .sub .i64 (Ω.int (Ω.len ys)) 1 = Ω.int k := by
  subst hΩ
  show IntKind.i64.wrap ((ys.length : Int) - 1) = (k : Int)
  rw [hl, wrap64 (by omega) (by omega)]; omega
theorem linesP_len {s : List UInt8} : (linesP s).length ≤ s.length + 1 := by
  have := cutAt_len (c := 10) (s := s)
  unfold linesP
  split
  · rw [List.length_take]; omega
  · exact this
theorem linesP_mem {s l : List UInt8} (h : l ∈ linesP s) : l.length ≤ s.length := by
  unfold linesP at h
  split at h
  · exact cutAt_mem (List.mem_of_mem_take h)
  · exact cutAt_mem h
theorem c_linesOf (s : List UInt8) (hs : s.length ≤ 1048575) : PCtr PP n_impl_linesOf [str s] (.sl false 1 ((linesP s).map str)) := by
  obtain ⟨Ω, hΩ⟩ : ∃ Ω, Ω = std := ⟨_, rfl⟩
  have hl := cutAt_len (c := 10) (s := s)
  have hn0 := cutAt_ne (c := 10) (s := s)
  have h1 := c_Split 10 s (by omega)
  have r1 := roSS (cutAt 10 s)
  have f1 : Fw.frz (.sl true 1 ((cutAt 10 s).map str)) = .sl false 1 ((cutAt 10 s).map str) := by rw [frz_sl, frzStr]
  obtain ⟨k, hk⟩ : ∃ k, (cutAt 10 s).length = k + 1 := ⟨(cutAt 10 s).length - 1, by have := List.length_pos_iff.2 hn0; omega⟩
  unfold linesP
  rw [hk, Nat.add_sub_cancel]
  generalize cutAt 10 s = ls at *
  obtain ⟨ys, hys⟩ : ∃ ys, ys = ls.map str := ⟨_, rfl⟩
  have hyl : ys.length = k + 1 := by rw [hys, List.length_map, hk]
  obtain ⟨z, hz⟩ := at_of (cs := ls) (i := k) (by omega)
  obtain ⟨zs, hzs⟩ : ∃ zs, zs = (if ls.getD k [] = [] then ls.take k else ls).map str := ⟨_, rfl⟩
  have hgd : ls.getD k [] = z := by rw [List.getD_eq_getElem?_getD, hz]; rfl
  rw [hgd] at hzs ⊢
  rw [← hzs]
  rw [← hys] at h1 r1 f1
  have hla := lastI hΩ hyl (by omega)
  have htab := tab
  refine PCtr.walk tab hΩ fn_impl_linesOf rfl ?_
  generalize PP = P at *
  cbv
  refine call_pf hΩ 3 h1 rfl (fits _) r1 f1 rfl ?_
  cbv
  refine ⟨⟨by show 0 ≤ Ω.ar .sub .i64 (Ω.int (Ω.len ys)) 1; rw [hla]; exact nnI hΩ⟩, str z, by show ys[(Ω.ar .sub .i64 (Ω.int (Ω.len ys)) 1).toNat]? = _; rw [hla, hys]; subst hΩ; show (ls.map str)[k]? = _; rw [List.getElem?_map, hz]; rfl, ?_⟩
  cbv
  refine br (fun h => ?_) (fun h => ?_) <;> cbv
  · have h := seqT hΩ h
    have hsg : Ω.seg 0 (Ω.nat (Ω.ar .sub .i64 (Ω.int (Ω.len ys)) 1)) ys = zs := by
      rw [hla, hzs, if_pos h, hys]; subst hΩ
      show ((ls.map str).take k).drop 0 = _
      rw [List.drop_zero, List.map_take]
    exact ⟨⟨trivial, by show 0 ≤ Ω.ar .sub .i64 (Ω.int (Ω.len ys)) 1; rw [hla]; exact nnI hΩ, Nat.zero_le _, by show Ω.nat (Ω.ar .sub .i64 (Ω.int (Ω.len ys)) 1) ≤ ys.length; rw [hla]; subst hΩ; show k ≤ ys.length; omega⟩, .of (congrArg (A.sl false 1) hsg)⟩
  · have h := seqF hΩ h
    rw [if_neg h, ← hys] at hzs
    exact .of (congrArg (A.sl false 1) hzs.symm)
theorem c_l2Lines (s : List UInt8) (hs : s.length ≤ 1048575) : PCtr PP n_spec_l2Lines [str s] (.sl false 1 ((linesP s).map str)) := by
  obtain ⟨Ω, hΩ⟩ : ∃ Ω, Ω = std := ⟨_, rfl⟩
  have hl := cutAt_len (c := 10) (s := s)
  have hn0 := cutAt_ne (c := 10) (s := s)
  have h1 := c_l1Parts 10 s (by omega)
  have r1 := roSS (cutAt 10 s)
  have f1 : Fw.frz (.sl true 1 ((cutAt 10 s).map str)) = .sl false 1 ((cutAt 10 s).map str) := by rw [frz_sl, frzStr]
  obtain ⟨k, hk⟩ : ∃ k, (cutAt 10 s).length = k + 1 := ⟨(cutAt 10 s).length - 1, by have := List.length_pos_iff.2 hn0; omega⟩
  unfold linesP
  rw [hk, Nat.add_sub_cancel]
  generalize cutAt 10 s = ls at *
  obtain ⟨ys, hys⟩ : ∃ ys, ys = ls.map str := ⟨_, rfl⟩
  have hyl : ys.length = k + 1 := by rw [hys, List.length_map, hk]
  obtain ⟨z, hz⟩ := at_of (cs := ls) (i := k) (by omega)
  obtain ⟨zs, hzs⟩ : ∃ zs, zs = (if ls.getD k [] = [] then ls.take k else ls).map str := ⟨_, rfl⟩
  have hgd : ls.getD k [] = z := by rw [List.getD_eq_getElem?_getD, hz]; rfl
  rw [hgd] at hzs ⊢
  rw [← hzs]
  rw [← hys] at h1 r1 f1
  have hla := lastI hΩ hyl (by omega)
  have htab := tab
  refine PCtr.walk tab hΩ fn_spec_l2Lines rfl ?_
  generalize PP = P at *
  cbv
  refine call_pf hΩ 3 h1 rfl (fits _) r1 f1 rfl ?_
  cbv
  refine ⟨⟨by show 0 ≤ Ω.ar .sub .i64 (Ω.int (Ω.len ys)) 1; rw [hla]; exact nnI hΩ⟩, str z, by show ys[(Ω.ar .sub .i64 (Ω.int (Ω.len ys)) 1).toNat]? = _; rw [hla, hys]; subst hΩ; show (ls.map str)[k]? = _; rw [List.getElem?_map, hz]; rfl, ?_⟩
  cbv
  refine br (fun h => ?_) (fun h => ?_) <;> cbv
  · have h := seqT hΩ h
    have hsg : Ω.seg 0 (Ω.nat (Ω.ar .sub .i64 (Ω.int (Ω.len ys)) 1)) ys = zs := by
      rw [hla, hzs, if_pos h, hys]; subst hΩ
      show ((ls.map str).take k).drop 0 = _
      rw [List.drop_zero, List.map_take]
    exact ⟨⟨trivial, by show 0 ≤ Ω.ar .sub .i64 (Ω.int (Ω.len ys)) 1; rw [hla]; exact nnI hΩ, Nat.zero_le _, by show Ω.nat (Ω.ar .sub .i64 (Ω.int (Ω.len ys)) 1) ≤ ys.length; rw [hla]; subst hΩ; show k ≤ ys.length; omega⟩, .of (congrArg (A.sl false 1) hsg)⟩
  · have h := seqF hΩ h
    rw [if_neg h, ← hys] at hzs
    exact .of (congrArg (A.sl false 1) hzs.symm)
theorem filt_at {s : List (List UInt8)} {j : Nat} {c : List UInt8} (h : s[j]? = some c) : ((s.take (j + 1)).filter fun w => !decide (w = [])) = ((s.take j).filter fun w => !decide (w = [])) ++ (if c = [] then [] else [c]) := by
  rw [List.take_add_one, h, List.filter_append]
  congr 1
  by_cases hc : c = [] <;> simp [hc]
theorem c_l2Words (s : List UInt8) (hs : s.length ≤ 1048575) : PCtr PP n_spec_l2Words [str s] (.sl true 1 ((wordsP s).map str)) := by
  obtain ⟨Ω, hΩ⟩ : ∃ Ω, Ω = std := ⟨_, rfl⟩
  have hl := cutAt_len (c := 32) (s := s)
  have h1 := c_l1Parts 32 s (by omega)
  have r1 := roSS (cutAt 32 s)
  have f1 : Fw.frz (.sl true 1 ((cutAt 32 s).map str)) = .sl false 1 ((cutAt 32 s).map str) := by rw [frz_sl, frzStr]
  unfold wordsP
  generalize cutAt 32 s = ls at *
  obtain ⟨ys, hys⟩ : ∃ ys, ys = ls.map str := ⟨_, rfl⟩
  have hyl : ys.length = ls.length := by rw [hys, List.length_map]
  rw [← hys] at h1 r1 f1
  obtain ⟨F, hF⟩ : ∃ F : List (List UInt8) → List A, F = fun l => l.map str := ⟨_, rfl⟩
  have hFm : ∀ t : List (List UInt8), t.map str = F t := fun t => by rw [hF]
  have hlen : ∀ t, (F t).length = t.length := fun t => by rw [hF, List.length_map]
  have hap : ∀ t x, Ω.app (Ω.take (Ω.len (F t)) (F t)) [str x] = F (t ++ [x]) := fun t x => by rw [takeAll hΩ, ← hFm, ← hFm, List.map_append]; subst hΩ; rfl
  have hpl : ∀ t x, Ω.plus (Ω.len (F t)) (Ω.len [str x]) = Ω.len (F (t ++ [x])) := fun t x => by rw [← hap, takeAll hΩ]; subst hΩ; exact (List.length_append).symm
  have hF0 : F [] = [] := by rw [hF]; rfl
  obtain ⟨n, hn⟩ : ∃ n, n = ls.length := ⟨_, rfl⟩
  obtain ⟨W, hW⟩ : ∃ W : Nat → List (List UInt8), W = fun i => (ls.take i).filter fun w => !decide (w = []) := ⟨_, rfl⟩
  have hWs : ∀ i c, ls[i]? = some c → W (i + 1) = W i ++ (if c = [] then [] else [c]) := fun i c h => by rw [hW]; exact filt_at h
  have hW0 : W 0 = [] := by rw [hW]; rfl
  have hWn : (ls.filter fun w => !decide (w = [])) = W n := by rw [hW, hn]; simp only [List.take_length]
  have hWl : ∀ i, (W i).length ≤ i := fun i => by rw [hW]; exact Nat.le_trans (List.length_filter_le _ _) (by rw [List.length_take]; omega)
  rw [hWn, hFm]
  clear hW hWn
  have htab := tab
  refine PCtr.walk tab hΩ fn_spec_l2Words rfl ?_
  generalize PP = P at *
  cbv
  refine call_pf hΩ 3 h1 rfl (fits _) r1 f1 rfl ?_
  cbv
  refine loopX htab hΩ (fun i : Nat => ⟨[(3, .vw 0 0 (Ω.len (F (W i)))), (4, .sl false 1 ys), (5, i64 (Ω.int i))], 28, [some ⟨1, F (W i), false⟩]⟩) (fun i => i ≤ n) (fun i => n - i) 0 (Nat.zero_le _)
    ((Sbs.cut 1 rfl).trans (Sbs.mk rfl (by dsimp only; rw [hW0, hF0]; rfl) ⟨by dsimp only; rw [hW0, hF0]; subst hΩ; rfl, rfl, zeroI hΩ, trivial⟩)) (fun i hi => ?_)
  have hol := hlen (W i)
  have hlo : Ω.len (F (W i)) = (F (W i)).length := by subst hΩ; rfl
  have hle : Ω.len (F (W i)) ≤ (F (W i)).length := by rw [hlo]; exact Nat.le_refl _
  have htk : Ω.take (Ω.len (F (W i))) (F (W i)) = F (W i) := takeAll hΩ _
  have hwi := hWl i
  cbv
  refine br (fun h => ?_) (fun h => ?_) <;> cbv
  · replace h := ltI hΩ h
    obtain ⟨c, hcc⟩ := at_of (cs := ls) (by omega : i < _)
    have hst := hWs i c hcc
    have hap0 := hap (W i) c
    have hpl0 := hpl (W i) c
    refine ⟨⟨nnI hΩ⟩, _, rdI hΩ hys hcc, ?_⟩
    cbv
    refine br (fun q => ?_) (fun q => ?_) <;> cbv
    · have q := sneT hΩ q
      rw [if_neg q] at hst
      refine ⟨⟨nnI hΩ⟩, _, rdI hΩ hys hcc, ?_⟩
      cbv
      exact ⟨⟨rfl, okAll rfl, by show (Ω.len (F (W i)) + 1) * 16 ≤ 140737488355328; omega, by show Ω.len (F (W i)) + 1 ≤ 9223372036854775807; omega⟩,
        i + 1, by omega, by omega, (Sbs.cut 1 rfl).trans (Sbs.mk rfl (by show [some (Row.mk 1 (Ω.app (Ω.take (Ω.len (F (W i))) (F (W i))) [str c]) false)] = _; rw [hap0, hst]) ⟨congrArg (A.vw 0 0) (by rw [hst]; exact hpl0), rfl, incI hΩ (by omega), trivial⟩)⟩
    · have q := sneF hΩ q
      rw [if_pos q, List.append_nil] at hst
      exact ⟨i + 1, by omega, by omega, Sbs.mk rfl (by rw [hst]) ⟨by rw [hst]; rfl, rfl, incI hΩ (by omega), trivial⟩⟩
  · replace h := geI hΩ h
    have : i = n := by omega
    subst this
    exact ⟨⟨rfl, hle⟩, .of (congrArg (A.sl true 1) htk)⟩
end Go.Proofs.YthlfefblhlmbgaaDoor

/- Walks: numbers read from text. Plain theorems. -/
set_option linter.unusedVariables false
set_option linter.unusedSimpArgs false
namespace Go.Proofs.YthlfefblhlmbgaaDoor
open Go Go.Fw
set_option maxRecDepth 100000
/-- Digits as a number; -1: there is another byte. -/
def numL : List UInt8 → Int → Int
  | [], n => n
  | c :: cs, n => if 48 ≤ c.toNat ∧ c.toNat ≤ 57 then numL cs (10 * n + ((c.toNat : Int) - 48)) else -1
/-- The number of 1 to 3 digits; -1: none. -/
def numC (s : List UInt8) : Int := if s.length < 1 ∨ 3 < s.length then -1 else numL s 0
theorem numL_at {s : List UInt8} {i : Nat} {c : UInt8} {n : Int} (h : s[i]? = some c) : numL (s.drop i) n = if 48 ≤ c.toNat ∧ c.toNat ≤ 57 then numL (s.drop (i + 1)) (10 * n + ((c.toNat : Int) - 48)) else -1 := by
  obtain ⟨hi, rfl⟩ := List.getElem?_eq_some_iff.1 h
  rw [List.drop_eq_getElem_cons hi]; rfl
theorem numL_ge : ∀ {s : List UInt8} {n : Int}, 0 ≤ n → numL s n = -1 ∨ 0 ≤ numL s n
  | [], n, h => .inr h
  | c :: cs, n, h => by
    unfold numL
    split
    · rename_i hc; exact numL_ge (by omega)
    · exact .inl rfl
theorem numC_ge (s : List UInt8) : numC s = -1 ∨ 0 ≤ numC s := by
  unfold numC
  split
  · exact .inl rfl
  · exact numL_ge (Int.le_refl 0)
theorem stepN {Ω : Opq} (hΩ : Ω = std) {c : UInt8} {n : Int} (h1 : 48 ≤ c.toNat) (h2 : c.toNat ≤ 57) (h3 : 0 ≤ n) (h4 : n ≤ 1000) : Ω.ar .add .i64 (Ω.ar .mul .i64 10 n) (Ω.wrap .i64 (Ω.ar .sub .u8 (Ω.u8 c) 48)) = 10 * n + ((c.toNat : Int) - 48) := by
  subst hΩ
  show IntKind.i64.wrap (IntKind.i64.wrap (10 * n) + IntKind.i64.wrap (IntKind.u8.wrap ((c.toNat : Int) - 48))) = _
  have e : IntKind.u8.wrap ((c.toNat : Int) - 48) = (c.toNat : Int) - 48 := by
    show ((c.toNat : Int) - 48) % 256 = _
    omega
  rw [e, wrap64 (x := 10 * n) (by omega) (by omega), wrap64 (x := (c.toNat : Int) - 48) (by omega) (by omega), wrap64 (by omega) (by omega)]
theorem stepN2 {Ω : Opq} (hΩ : Ω = std) {c : UInt8} {n : Int} (h1 : 48 ≤ c.toNat) (h2 : c.toNat ≤ 57) (h3 : 0 ≤ n) (h4 : n ≤ 1000) : Ω.ar .add .i64 (Ω.ar .mul .i64 n 10) (Ω.wrap .i64 (Ω.ar .sub .u8 (Ω.u8 c) 48)) = 10 * n + ((c.toNat : Int) - 48) := by
  rw [← stepN hΩ h1 h2 h3 h4]
  subst hΩ
  show IntKind.i64.wrap (IntKind.i64.wrap (n * 10) + _) = IntKind.i64.wrap (IntKind.i64.wrap (10 * n) + _)
  rw [Int.mul_comm]
theorem u8I {Ω : Opq} (hΩ : Ω = std) (c : UInt8) : Ω.u8 c = (c.toNat : Int) := by subst hΩ; rfl
theorem c_number (s : List UInt8) (hs : s.length ≤ 1048576) : PCtr PP n_impl_number [str s, i64 3] (i64 (numC s)) := by
  obtain ⟨Ω, hΩ⟩ : ∃ Ω, Ω = std := ⟨_, rfl⟩
  obtain ⟨r, hr⟩ : ∃ r, r = numC s := ⟨_, rfl⟩
  rw [← hr]
  unfold numC at hr
  obtain ⟨n, hn⟩ : ∃ n, n = s.length := ⟨_, rfl⟩
  have htab := tab
  refine PCtr.walk tab hΩ fn_impl_number rfl ?_
  generalize PP = P at *
  cbv
  have none : n < 1 ∨ 3 < n → r = -1 := fun h => by rw [hr, if_pos (by omega)]
  have go : ¬ (n < 1 ∨ 3 < n) → r = numL s 0 := fun h => by rw [hr, if_neg (by omega)]
  refine br (fun h => ?_) (fun h => ?_) <;> cbv
  · have h := seqT hΩ h
    exact .of (congrArg i64 (none (.inl (by rw [hn, h]; exact Nat.zero_lt_one))).symm)
  have h0 := seqF hΩ h
  have h0 : 0 < n := by rw [hn]; exact List.length_pos_iff.2 h0
  refine br (fun h => ?_) (fun h => ?_) <;> cbv
  · have h : 3 < n := by have h := gtZt hΩ (iteB hΩ h); subst hΩ; have h : (3 : Int) < (s.length : Int) := h; omega
    exact .of (congrArg i64 (none (.inr (by omega))).symm)
  have h3 : n ≤ 3 := by have h := gtZf hΩ (iteB hΩ h); subst hΩ; have h : (s.length : Int) ≤ 3 := h; omega
  have hrl := go (by omega)
  clear go none hr
  refine loopX htab hΩ (fun i : Nat × Int => ⟨[(0, str s), (5, i64 i.2), (16, i64 (Ω.int (Ω.lenS s))), (17, i64 (Ω.int i.1))], 40, []⟩)
    (fun i => i.1 ≤ n ∧ (0 ≤ i.2 ∧ i.2 ≤ 999 ∧ (i.1 ≤ 2 → i.2 ≤ 99) ∧ (i.1 ≤ 1 → i.2 ≤ 9) ∧ (i.1 ≤ 0 → i.2 ≤ 0)) ∧ r = numL (s.drop i.1) i.2) (fun i => n - i.1) (0, 0)
    ⟨Nat.zero_le _, ⟨Int.le_refl _, by decide, fun _ => by decide, fun _ => by decide, fun _ => Int.le_refl _⟩, hrl⟩ (Sbs.mk rfl rfl ⟨rfl, rfl, rfl, zeroI hΩ, trivial⟩) ?_
  rintro ⟨i, v⟩ ⟨hi, ⟨v0, v1, v2, v3, v4⟩, hv⟩
  dsimp only at hi v0 v1 v2 v3 v4 hv ⊢
  cbv
  refine br (fun h => ?_) (fun h => ?_) <;> cbv
  · have h : i < n := by have h := ltZt hΩ h; subst hΩ; have h : (i : Int) < (s.length : Int) := h; omega
    obtain ⟨c, hc⟩ := at_of (cs := s) (by omega : i < _)
    have hci : s[(Ω.int i).toNat]? = some c := by subst hΩ; exact hc
    rw [numL_at hc] at hv
    have hst := stepN hΩ (c := c) (n := v)
    refine ⟨⟨nnI hΩ⟩, c, hci, ?_⟩
    cbv
    refine br (fun k => ?_) (fun k => ?_)
    · have k : (c.toNat : Int) < 48 := by have k := ltZt hΩ k; subst hΩ; exact k
      rw [if_neg (by omega)] at hv
      cbv
      exact .of (congrArg i64 hv.symm)
    have k1 : (48 : Int) ≤ c.toNat := by have k := ltZf hΩ k; subst hΩ; exact k
    have k1 : 48 ≤ c.toNat := by omega
    cbv
    refine ⟨⟨nnI hΩ⟩, c, hci, ?_⟩
    cbv
    refine br (fun k => ?_) (fun k => ?_)
    · have k : (57 : Int) < c.toNat := by have k := gtZt hΩ (iteB hΩ k); subst hΩ; exact k
      rw [if_neg (by omega)] at hv
      cbv
      exact .of (congrArg i64 hv.symm)
    have k2 : (c.toNat : Int) ≤ 57 := by have k := gtZf hΩ (iteB hΩ k); subst hΩ; exact k
    have k2 : c.toNat ≤ 57 := by omega
    rw [if_pos (by omega)] at hv
    cbv
    refine ⟨⟨nnI hΩ⟩, c, hci, ?_⟩
    cbv
    obtain ⟨d, hd⟩ : ∃ d : Int, d = c.toNat - 48 := ⟨_, rfl⟩
    rw [← hd] at hv hst
    exact ⟨(i + 1, 10 * v + d), ⟨by show i + 1 ≤ n; omega, by show 0 ≤ 10 * v + d ∧ 10 * v + d ≤ 999 ∧ (i + 1 ≤ 2 → 10 * v + d ≤ 99) ∧ (i + 1 ≤ 1 → 10 * v + d ≤ 9) ∧ (i + 1 ≤ 0 → 10 * v + d ≤ 0); omega, hv⟩, by show n - (i + 1) < n - i; omega,
      Sbs.mk rfl rfl ⟨rfl, congrArg i64 (hst (by omega) (by omega) (by omega) (by omega)), rfl, incI hΩ (by omega), trivial⟩⟩
  · have h : n ≤ i := by have h := ltZf hΩ h; subst hΩ; have h : (s.length : Int) ≤ (i : Int) := h; omega
    rw [List.drop_of_length_le (by omega)] at hv
    exact .of (congrArg i64 hv.symm)
/-- The reference's answer. -/
def numR (s : List UInt8) : A := .tup [i64 (if numC s < 0 then 0 else numC s), boo (decide (0 ≤ numC s))]
theorem c_l1Number (s : List UInt8) (hs : s.length ≤ 1048576) : PCtr PP n_spec_l1Number [str s, i64 3] (numR s) := by
  obtain ⟨Ω, hΩ⟩ : ∃ Ω, Ω = std := ⟨_, rfl⟩
  obtain ⟨r, hr⟩ : ∃ r, r = numC s := ⟨_, rfl⟩
  obtain ⟨R, hR⟩ : ∃ R, R = numR s := ⟨_, rfl⟩
  rw [← hR]
  unfold numR at hR
  rw [← hr] at hR
  have bad : r = -1 → A.tup [i64 0, boo false] = R := fun h => by rw [hR, h]; rfl
  have good : 0 ≤ r → A.tup [i64 r, boo true] = R := fun h => by rw [hR, if_neg (by omega), decide_eq_true h]
  clear hR
  unfold numC at hr
  obtain ⟨n, hn⟩ : ∃ n, n = s.length := ⟨_, rfl⟩
  have hdg := c_l1Digit
  have htab := tab
  refine PCtr.walk tab hΩ fn_spec_l1Number rfl ?_
  generalize PP = P at *
  cbv
  have none : n < 1 ∨ 3 < n → r = -1 := fun h => by rw [hr, if_pos (by omega)]
  have go : ¬ (n < 1 ∨ 3 < n) → r = numL s 0 := fun h => by rw [hr, if_neg (by omega)]
  refine br (fun h => ?_) (fun h => ?_) <;> cbv
  · have h : n < 1 := by have h := ltZt hΩ h; subst hΩ; have h : (s.length : Int) < 1 := h; omega
    exact .of (bad (none (.inl h)))
  have h0 : 0 < n := by have h := ltZf hΩ h; subst hΩ; have h : (1 : Int) ≤ (s.length : Int) := h; omega
  refine br (fun h => ?_) (fun h => ?_) <;> cbv
  · have h : 3 < n := by have h := gtZt hΩ (iteB hΩ h); subst hΩ; have h : (3 : Int) < (s.length : Int) := h; omega
    exact .of (bad (none (.inr h)))
  have h3 : n ≤ 3 := by have h := gtZf hΩ (iteB hΩ h); subst hΩ; have h : (s.length : Int) ≤ 3 := h; omega
  have hrl := go (by omega)
  clear go none hr
  refine loopX htab hΩ (fun i : Nat × Int => ⟨[(0, str s), (6, i64 i.2), (7, i64 (Ω.int i.1))], 37, []⟩)
    (fun i => i.1 ≤ n ∧ (0 ≤ i.2 ∧ i.2 ≤ 999 ∧ (i.1 ≤ 2 → i.2 ≤ 99) ∧ (i.1 ≤ 1 → i.2 ≤ 9) ∧ (i.1 ≤ 0 → i.2 ≤ 0)) ∧ r = numL (s.drop i.1) i.2) (fun i => n - i.1) (0, 0)
    ⟨Nat.zero_le _, ⟨Int.le_refl _, by decide, fun _ => by decide, fun _ => by decide, fun _ => Int.le_refl _⟩, hrl⟩ (Sbs.mk rfl rfl ⟨rfl, rfl, zeroI hΩ, trivial⟩) ?_
  rintro ⟨i, v⟩ ⟨hi, ⟨v0, v1, v2, v3, v4⟩, hv⟩
  dsimp only at hi v0 v1 v2 v3 v4 hv ⊢
  cbv
  refine br (fun h => ?_) (fun h => ?_) <;> cbv
  · have h : i < n := by have h := ltZt hΩ h; subst hΩ; have h : (i : Int) < (s.length : Int) := h; omega
    obtain ⟨c, hc⟩ := at_of (cs := s) (by omega : i < _)
    have hci : s[(Ω.int i).toNat]? = some c := by subst hΩ; exact hc
    rw [numL_at hc] at hv
    have hst := stepN2 hΩ (c := c) (n := v)
    have hfit : [A.sc (.int .u8 (Ω.u8 c))] = [u8 c] := congrArg (fun z => [A.sc (.int .u8 z)]) (u8I hΩ c)
    have hdc := hdg c
    have hdB : digitB c = true → 48 ≤ c.toNat ∧ c.toNat ≤ 57 := fun h => by simp only [digitB, Bool.and_eq_true, decide_eq_true_eq] at h; omega
    have hdF : digitB c = false → ¬ (48 ≤ c.toNat ∧ c.toNat ≤ 57) := fun h => by simp only [digitB, Bool.and_eq_false_iff, decide_eq_false_iff_not] at h; omega
    generalize digitB c = dg at *
    refine ⟨⟨nnI hΩ⟩, c, hci, ?_⟩
    cbv
    refine call_pure hΩ 3 hdc rfl (fitsE hfit) rfl rfl ?_
    cbv
    refine br (fun k => ?_) (fun k => ?_) <;> cbv
    · rw [if_neg (hdF (notT' hΩ k))] at hv
      exact .of (bad hv)
    have k := hdB (notF' hΩ k)
    rw [if_pos k] at hv
    refine ⟨⟨nnI hΩ⟩, c, hci, ?_⟩
    cbv
    obtain ⟨d, hd⟩ : ∃ d : Int, d = c.toNat - 48 := ⟨_, rfl⟩
    rw [← hd] at hv hst
    exact ⟨(i + 1, 10 * v + d), ⟨by show i + 1 ≤ n; omega, by show 0 ≤ 10 * v + d ∧ 10 * v + d ≤ 999 ∧ (i + 1 ≤ 2 → 10 * v + d ≤ 99) ∧ (i + 1 ≤ 1 → 10 * v + d ≤ 9) ∧ (i + 1 ≤ 0 → 10 * v + d ≤ 0); omega, hv⟩, by show n - (i + 1) < n - i; omega,
      Sbs.mk rfl rfl ⟨rfl, congrArg i64 (hst (by omega) (by omega) (by omega) (by omega)), incI hΩ (by omega), trivial⟩⟩
  · have h : n ≤ i := by have h := ltZf hΩ h; subst hΩ; have h : (s.length : Int) ≤ (i : Int) := h; omega
    rw [List.drop_of_length_le (by omega)] at hv
    have hv : r = v := hv
    exact .of (by have := good (by omega); rw [hv] at this; exact this)
end Go.Proofs.YthlfefblhlmbgaaDoor

/- Walks: versions read from text. Plain theorems. -/
set_option linter.unusedVariables false
set_option linter.unusedSimpArgs false
namespace Go.Proofs.YthlfefblhlmbgaaDoor
open Go Go.Fw
set_option maxRecDepth 100000
def numAt (ps : List (List UInt8)) (k : Nat) : Int := match ps[k]? with
  | some p => numC p
  | none => 0
def verOK (ps : List (List UInt8)) : Bool := decide (ps.length ≤ 3) && ps.all fun p => decide (0 ≤ numC p)
/-- A version read: code and version. -/
def verP (s : List UInt8) : Int × Ver := if verOK (cutAt 46 s) then (0, ⟨numAt (cutAt 46 s) 0, numAt (cutAt 46 s) 1, numAt (cutAt 46 s) 2⟩) else (5, Ver.zero)
def verA (x : Int × Ver) : A := .agg [i64 x.1, i64 x.2.a, i64 x.2.b, i64 x.2.c]
def partAt (ps : List (List UInt8)) (k i : Nat) : Int := if k < i then numAt ps k else 0
theorem partAt_new {ps : List (List UInt8)} {i : Nat} {p : List UInt8} (h : ps[i]? = some p) : partAt ps i (i + 1) = numC p := by
  unfold partAt numAt; rw [if_pos (by omega), h]
theorem partAt_old {ps : List (List UInt8)} {k i : Nat} (h : k ≠ i) : partAt ps k (i + 1) = partAt ps k i := by
  unfold partAt
  by_cases hk : k < i
  · rw [if_pos hk, if_pos (by omega)]
  · rw [if_neg hk, if_neg (by omega)]
theorem partAt_end {ps : List (List UInt8)} {k : Nat} : partAt ps k ps.length = numAt ps k := by
  unfold partAt
  split
  · rfl
  · unfold numAt; rw [List.getElem?_eq_none (by omega)]
theorem all_at {ps : List (List UInt8)} {i : Nat} {p : List UInt8} {q : List UInt8 → Bool} (h : ps[i]? = some p) : (ps.drop i).all q = (q p && (ps.drop (i + 1)).all q) := by
  obtain ⟨hi, rfl⟩ := List.getElem?_eq_some_iff.1 h
  rw [List.drop_eq_getElem_cons hi]; rfl
theorem c_implParseVersion (s : List UInt8) (hs : s.length ≤ 1048575) : PCtr PP n_impl_ParseVersion [str s] (verA (verP s)) := by
  obtain ⟨Ω, hΩ⟩ : ∃ Ω, Ω = std := ⟨_, rfl⟩
  have hl := cutAt_len (c := 46) (s := s)
  have hme := fun l => cutAt_mem (c := 46) (s := s) (l := l)
  have h1 := c_Split 46 s (by omega)
  have r1 := roSS (cutAt 46 s)
  have f1 : Fw.frz (.sl true 1 ((cutAt 46 s).map str)) = .sl false 1 ((cutAt 46 s).map str) := by rw [frz_sl, frzStr]
  unfold verP
  generalize cutAt 46 s = ps at *
  obtain ⟨ys, hys⟩ : ∃ ys, ys = ps.map str := ⟨_, rfl⟩
  have hyl : ys.length = ps.length := by rw [hys, List.length_map]
  rw [← hys] at h1 r1 f1
  obtain ⟨n, hn⟩ : ∃ n, n = ps.length := ⟨_, rfl⟩
  have hnum := c_number
  obtain ⟨R, hR⟩ : ∃ R, R = verA (if verOK ps then (0, ⟨numAt ps 0, numAt ps 1, numAt ps 2⟩) else (5, Ver.zero)) := ⟨_, rfl⟩
  rw [← hR]
  have bad : verOK ps = false → A.agg [i64 5, i64 0, i64 0, i64 0] = R := fun h => by rw [hR, h]; rfl
  have good : verOK ps = true → A.agg [i64 0, i64 (numAt ps 0), i64 (numAt ps 1), i64 (numAt ps 2)] = R := fun h => by rw [hR, h]; rfl
  clear hR
  have hn3 : 3 < n → verOK ps = false := fun h => by unfold verOK; rw [decide_eq_false (by omega)]; rfl
  have hok : n ≤ 3 → verOK ps = (ps.drop 0).all fun p => decide (0 ≤ numC p) := fun h => by unfold verOK; rw [decide_eq_true (by omega)]; rfl
  generalize verOK ps = b at *
  have pnew := fun i p => partAt_new (ps := ps) (i := i) (p := p)
  have pold := fun k i => partAt_old (ps := ps) (k := k) (i := i)
  have pend := fun k => partAt_end (ps := ps) (k := k)
  have p0 : ∀ k, partAt ps k 0 = 0 := fun k => rfl
  generalize partAt ps = g at *
  have htab := tab
  refine PCtr.walk tab hΩ fn_impl_ParseVersion rfl ?_
  generalize PP = P at *
  cbv
  refine call_pf hΩ 3 h1 rfl (fits _) r1 f1 rfl ?_
  cbv
  refine br (fun h => ?_) (fun h => ?_) <;> cbv
  · have h : 3 < n := by have h := gtZt hΩ h; subst hΩ; have h : (3 : Int) < (ys.length : Int) := h; omega
    exact .of (bad (hn3 h))
  have h3 : n ≤ 3 := by have h := gtZf hΩ h; subst hΩ; have h : (ys.length : Int) ≤ 3 := h; omega
  have hok := hok h3
  clear hn3
  refine loopX htab hΩ (fun i : Nat => ⟨[(4, .pt 1 0 0), (2, .pt 0 0 0), (14, .sl false 1 ys), (15, i64 (Ω.int (Ω.len ys))), (16, i64 (i : Int))], 39,
    [some ⟨4, [.agg [i64 0, i64 0, i64 0, i64 0]], true⟩, some ⟨3, [.agg [i64 (g 0 i), i64 (g 1 i), i64 (g 2 i)]], true⟩]⟩) (fun i => i ≤ n ∧ b = (ps.drop i).all fun p => decide (0 ≤ numC p)) (fun i => n - i) 0 ⟨Nat.zero_le _, hok⟩
    (Sbs.mk rfl (by dsimp only; rw [p0, p0, p0]; rfl) ⟨rfl, rfl, rfl, rfl, rfl, trivial⟩) (fun i hi => ?_)
  obtain ⟨hi, hb⟩ := hi
  cbv
  refine br (fun h => ?_) (fun h => ?_) <;> cbv
  · have h : i < n := by have h := ltZt hΩ h; subst hΩ; have h : (i : Int) < (ys.length : Int) := h; omega
    obtain ⟨p, hp⟩ := at_of (cs := ps) (by omega : i < _)
    rw [all_at hp] at hb
    have hnp := hnum p (Nat.le_trans (hme p (List.mem_of_getElem? hp)) (by omega))
    have pn := pnew i p hp
    have hge := numC_ge p
    have hyp : ys[((i : Nat) : Int).toNat]? = some (str p) := by rw [hys, Int.toNat_natCast, List.getElem?_map, hp]; rfl
    refine ⟨⟨Int.natCast_nonneg i⟩, str p, hyp, ?_⟩
    generalize numC p = v at *
    cbv
    refine call_pure hΩ 3 hnp rfl (fits _) rfl rfl ?_
    cbv
    rcases (by omega : i = 0 ∨ i = 1 ∨ i = 2) with rfl | rfl | rfl
    · cbv
      refine ⟨⟨by decide, by decide⟩, ⟨by decide, by decide⟩, ?_⟩
      refine br (fun k => ?_) (fun k => ?_) <;> cbv
      · have k := ltZt hΩ k
        rw [decide_eq_false (by omega)] at hb
        exact .of (bad hb)
      · have k := ltZf hΩ k
        rw [decide_eq_true k, Bool.true_and] at hb
        exact ⟨1, ⟨by omega, hb⟩, by omega, Sbs.mk rfl (congrArg (fun z => [some (Row.mk 4 [A.agg [i64 0, i64 0, i64 0, i64 0]] true), some (Row.mk 3 [A.agg z] true)]) (show [i64 v, i64 (g 1 0), i64 (g 2 0)] = [i64 (g 0 1), i64 (g 1 1), i64 (g 2 1)] by rw [show g 0 1 = v from pn, show g 1 1 = g 1 0 from pold 1 0 (by decide), show g 2 1 = g 2 0 from pold 2 0 (by decide)])) ⟨rfl, rfl, rfl, rfl, congrArg i64 (by subst hΩ; rfl), trivial⟩⟩
    · cbv
      refine ⟨⟨by decide, by decide⟩, ⟨by decide, by decide⟩, ?_⟩
      refine br (fun k => ?_) (fun k => ?_) <;> cbv
      · have k := ltZt hΩ k
        rw [decide_eq_false (by omega)] at hb
        exact .of (bad hb)
      · have k := ltZf hΩ k
        rw [decide_eq_true k, Bool.true_and] at hb
        exact ⟨2, ⟨by omega, hb⟩, by omega, Sbs.mk rfl (congrArg (fun z => [some (Row.mk 4 [A.agg [i64 0, i64 0, i64 0, i64 0]] true), some (Row.mk 3 [A.agg z] true)]) (show [i64 (g 0 1), i64 v, i64 (g 2 1)] = [i64 (g 0 2), i64 (g 1 2), i64 (g 2 2)] by rw [show g 1 2 = v from pn, show g 0 2 = g 0 1 from pold 0 1 (by decide), show g 2 2 = g 2 1 from pold 2 1 (by decide)])) ⟨rfl, rfl, rfl, rfl, congrArg i64 (by subst hΩ; rfl), trivial⟩⟩
    · cbv
      refine ⟨⟨by decide, by decide⟩, ⟨by decide, by decide⟩, ?_⟩
      refine br (fun k => ?_) (fun k => ?_) <;> cbv
      · have k := ltZt hΩ k
        rw [decide_eq_false (by omega)] at hb
        exact .of (bad hb)
      · have k := ltZf hΩ k
        rw [decide_eq_true k, Bool.true_and] at hb
        exact ⟨3, ⟨by omega, hb⟩, by omega, Sbs.mk rfl (congrArg (fun z => [some (Row.mk 4 [A.agg [i64 0, i64 0, i64 0, i64 0]] true), some (Row.mk 3 [A.agg z] true)]) (show [i64 (g 0 2), i64 (g 1 2), i64 v] = [i64 (g 0 3), i64 (g 1 3), i64 (g 2 3)] by rw [show g 2 3 = v from pn, show g 0 3 = g 0 2 from pold 0 2 (by decide), show g 1 3 = g 1 2 from pold 1 2 (by decide)])) ⟨rfl, rfl, rfl, rfl, congrArg i64 (by subst hΩ; rfl), trivial⟩⟩
  · have h : n ≤ i := by have h := ltZf hΩ h; subst hΩ; have h : (ys.length : Int) ≤ (i : Int) := h; omega
    have hin : i = ps.length := by omega
    rw [List.drop_of_length_le (by omega)] at hb
    have hb : b = true := hb
    have e : A.agg [i64 0, i64 (g 0 i), i64 (g 1 i), i64 (g 2 i)] = R := by rw [hin, pend, pend, pend]; exact good hb
    refine ⟨⟨by decide, by decide⟩, ⟨by decide, by decide⟩, ⟨by decide, by decide⟩, ?_⟩
    cbv
    exact .of e
theorem c_specParseVersion (s : List UInt8) (hs : s.length ≤ 1048575) : PCtr PP n_spec_ParseVersion [str s] (verA (verP s)) := by
  obtain ⟨Ω, hΩ⟩ : ∃ Ω, Ω = std := ⟨_, rfl⟩
  have hl := cutAt_len (c := 46) (s := s)
  have hme := fun l => cutAt_mem (c := 46) (s := s) (l := l)
  have h1 := c_l1Parts 46 s (by omega)
  have r1 := roSS (cutAt 46 s)
  have f1 : Fw.frz (.sl true 1 ((cutAt 46 s).map str)) = .sl false 1 ((cutAt 46 s).map str) := by rw [frz_sl, frzStr]
  unfold verP
  generalize cutAt 46 s = ps at *
  obtain ⟨ys, hys⟩ : ∃ ys, ys = ps.map str := ⟨_, rfl⟩
  have hyl : ys.length = ps.length := by rw [hys, List.length_map]
  rw [← hys] at h1 r1 f1
  obtain ⟨n, hn⟩ : ∃ n, n = ps.length := ⟨_, rfl⟩
  have hnum := c_l1Number
  obtain ⟨R, hR⟩ : ∃ R, R = verA (if verOK ps then (0, ⟨numAt ps 0, numAt ps 1, numAt ps 2⟩) else (5, Ver.zero)) := ⟨_, rfl⟩
  rw [← hR]
  have bad : verOK ps = false → A.agg [i64 5, i64 0, i64 0, i64 0] = R := fun h => by rw [hR, h]; rfl
  have good : verOK ps = true → A.agg [i64 0, i64 (numAt ps 0), i64 (numAt ps 1), i64 (numAt ps 2)] = R := fun h => by rw [hR, h]; rfl
  clear hR
  have hn3 : 3 < n → verOK ps = false := fun h => by unfold verOK; rw [decide_eq_false (by omega)]; rfl
  have hok : n ≤ 3 → verOK ps = (ps.drop 0).all fun p => decide (0 ≤ numC p) := fun h => by unfold verOK; rw [decide_eq_true (by omega)]; rfl
  generalize verOK ps = b at *
  have pnew := fun i p => partAt_new (ps := ps) (i := i) (p := p)
  have pold := fun k i => partAt_old (ps := ps) (k := k) (i := i)
  have pend := fun k => partAt_end (ps := ps) (k := k)
  have p0 : ∀ k, partAt ps k 0 = 0 := fun k => rfl
  generalize partAt ps = g at *
  have htab := tab
  have hmo : PP.follows .mixedOrders = true := by kernel_rfl
  refine PCtr.walk tab hΩ fn_spec_ParseVersion rfl ?_
  generalize PP = P at *
  cbv
  refine call_pf hΩ 3 h1 rfl (fits _) r1 f1 rfl ?_
  cbv
  refine br (fun h => ?_) (fun h => ?_) <;> cbv
  · have h : 3 < n := by have h := gtZt hΩ h; subst hΩ; have h : (3 : Int) < (ys.length : Int) := h; omega
    exact .of (bad (hn3 h))
  have h3 : n ≤ 3 := by have h := gtZf hΩ h; subst hΩ; have h : (ys.length : Int) ≤ 3 := h; omega
  have hok := hok h3
  clear hn3
  refine loopX htab hΩ (fun i : Nat => ⟨[(2, .pt 0 0 0), (3, .sl false 1 ys), (4, .vw 1 0 3), (5, i64 (Ω.int i))], 47,
    [some ⟨4, [.agg [i64 0, i64 0, i64 0, i64 0]], true⟩, some ⟨1, [i64 (g 0 i), i64 (g 1 i), i64 (g 2 i)], false⟩]⟩) (fun i => i ≤ n ∧ b = (ps.drop i).all fun p => decide (0 ≤ numC p)) (fun i => n - i) 0 ⟨Nat.zero_le _, hok⟩
    (Sbs.mk rfl (by dsimp only; rw [p0, p0, p0]; rfl) ⟨rfl, rfl, rfl, zeroI hΩ, trivial⟩) (fun i hi => ?_)
  obtain ⟨hi, hb⟩ := hi
  cbv
  refine br (fun h => ?_) (fun h => ?_) <;> cbv
  · have h : i < n := by have h := ltZt hΩ h; subst hΩ; have h : (i : Int) < (ys.length : Int) := h; omega
    obtain ⟨p, hp⟩ := at_of (cs := ps) (by omega : i < _)
    rw [all_at hp] at hb
    have hnp := hnum p (Nat.le_trans (hme p (List.mem_of_getElem? hp)) (by omega))
    unfold numR at hnp
    have pn := pnew i p hp
    have hge := numC_ge p
    refine ⟨⟨nnI hΩ⟩, _, rdI hΩ hys hp, ?_⟩
    generalize numC p = v at *
    obtain ⟨x, hx⟩ : ∃ x, x = if v < 0 then 0 else v := ⟨_, rfl⟩
    obtain ⟨q, hq⟩ : ∃ q, q = decide (0 ≤ v) := ⟨_, rfl⟩
    rw [← hx, ← hq] at hnp
    rw [← hq] at hb
    cbv
    refine call_pure hΩ 3 hnp rfl (fits _) rfl rfl ?_
    cbv
    refine br (fun k => ?_) (fun k => ?_) <;> cbv
    · rw [notT' hΩ k] at hb
      exact .of (bad hb)
    · have k := notF' hΩ k
      have hv : 0 ≤ v := by rw [k] at hq; exact of_decide_eq_true hq.symm
      rw [if_neg (by omega)] at hx
      subst hx
      rw [k, Bool.true_and] at hb
      have hset : Ω.set [i64 (g 0 i), i64 (g 1 i), i64 (g 2 i)] (Ω.plus 0 (Ω.nat (Ω.int i))) (i64 x) = [i64 (g 0 (i + 1)), i64 (g 1 (i + 1)), i64 (g 2 (i + 1))] := by
        subst hΩ
        show List.set [i64 (g 0 i), i64 (g 1 i), i64 (g 2 i)] (0 + i) (i64 x) = _
        rw [Nat.zero_add]
        rcases (by omega : i = 0 ∨ i = 1 ∨ i = 2) with rfl | rfl | rfl
        · rw [pn, pold 1 0 (by decide), pold 2 0 (by decide)]; rfl
        · rw [pn, pold 0 1 (by decide), pold 2 1 (by decide)]; rfl
        · rw [pn, pold 0 2 (by decide), pold 1 2 (by decide)]; rfl
      refine ⟨⟨nnI hΩ, by subst hΩ; show (i : Int) < 3; omega⟩, ⟨by subst hΩ; show 0 + i < 3; omega, fun z hz => ?_⟩, i + 1, ⟨by omega, hb⟩, by omega,
        Sbs.mk rfl (congrArg (fun z => [some (Row.mk 4 [A.agg [i64 0, i64 0, i64 0, i64 0]] true), some (Row.mk 1 z false)]) hset) ⟨rfl, rfl, rfl, incI hΩ (by omega), trivial⟩⟩
      rcases List.mem_cons.1 hz with rfl | hz
      · rfl
      rcases List.mem_cons.1 hz with rfl | hz
      · rfl
      rcases List.mem_cons.1 hz with rfl | hz
      · rfl
      cases hz
  · have h : n ≤ i := by have h := ltZf hΩ h; subst hΩ; have h : (ys.length : Int) ≤ (i : Int) := h; omega
    have hin : i = ps.length := by omega
    rw [List.drop_of_length_le (by omega)] at hb
    have hb : b = true := hb
    have e : A.agg [i64 0, i64 (g 0 i), i64 (g 1 i), i64 (g 2 i)] = R := by rw [hin, pend, pend, pend]; exact good hb
    refine ⟨VC.sub (VC_lord htab hΩ hmo [0, 1, 2, 3, 4, 5, 6, 7, 8] (.step 9 (.step 10 (.step 11 .fin))) [] [] (by kernel_rfl) ?_) (Sbs.thaw0 (r := 1) rfl rfl rfl)⟩
    cbv
    refine ⟨⟨Int.le_refl 0⟩, i64 (g 0 i), rfl, ?_⟩
    cbv
    refine ⟨⟨by decide⟩, i64 (g 1 i), rfl, ?_⟩
    cbv
    refine ⟨⟨by decide⟩, i64 (g 2 i), rfl, ?_⟩
    cbv
    intro vs
    cbv
    exact .of e
end Go.Proofs.YthlfefblhlmbgaaDoor

/- Walks: changes read from words. Plain theorems. -/
set_option linter.unusedVariables false
set_option linter.unusedSimpArgs false
namespace Go.Proofs.YthlfefblhlmbgaaDoor
open Go Go.Fw
set_option maxRecDepth 100000
/-- A change read from words. -/
def readC (ws : List (List UInt8)) : Option Chg :=
  if ws.length < 3 then none else if nameF (ws.getD 1 []) ≠ 0 then none else if (verP (ws.getD 2 [])).1 ≠ 0 then none
  else if ws.getD 0 [] = [43] ∧ ws.length = 3 then some ⟨1, ws.getD 1 [], Ver.zero, (verP (ws.getD 2 [])).2⟩
  else if ws.getD 0 [] = [45] ∧ ws.length = 3 then some ⟨2, ws.getD 1 [], (verP (ws.getD 2 [])).2, Ver.zero⟩
  else if ws.getD 0 [] = [42] ∧ ws.length = 4 then (if (verP (ws.getD 3 [])).1 = 0 then some ⟨3, ws.getD 1 [], (verP (ws.getD 2 [])).2, (verP (ws.getD 3 [])).2⟩ else none)
  else none
/-- The answer of a reader: what is read, and whether it is. -/
def Reads (o : Option Chg) (x : A) : Prop := ∃ c : Chg, x = .tup [c.enc, boo o.isSome] ∧ ∀ d, o = some d → c = d
theorem reads_none {o : Option Chg} {c : Chg} (h : o = none) : Reads o (.tup [c.enc, boo false]) := ⟨c, by rw [h]; rfl, fun d hd => by rw [h] at hd; cases hd⟩
theorem reads_some {o : Option Chg} {c : Chg} (h : o = some c) : Reads o (.tup [c.enc, boo true]) := ⟨c, by rw [h]; rfl, fun d hd => by rw [h] at hd; cases hd; rfl⟩
theorem c_readChange (ws : List (List UInt8)) (hw : ws.length ≤ 1048576) (hs : ∀ w ∈ ws, w.length ≤ 1048575) : RCtr PP n_impl_readChange [.sl false 1 (ws.map str)] (Reads (readC ws)) := by
  obtain ⟨Ω, hΩ⟩ : ∃ Ω, Ω = std := ⟨_, rfl⟩
  obtain ⟨xs, hxs⟩ : ∃ xs, xs = ws.map str := ⟨_, rfl⟩
  have hxl : xs.length = ws.length := by rw [hxs, List.length_map]
  have hlx : Ω.len xs = xs.length := by subst hΩ; rfl
  have hat : ∀ i, i < ws.length → xs[i]? = some (str (ws.getD i [])) := fun i hi => by rw [hxs, List.getElem?_map, List.getElem?_eq_getElem hi, List.getD_eq_getElem?_getD, List.getElem?_eq_getElem hi]; rfl
  have hsm : ∀ i, (ws.getD i []).length ≤ 1048575 := fun i => by
    rw [List.getD_eq_getElem?_getD]
    cases h : ws[i]? with
    | none => simp
    | some w => exact hs w (List.mem_of_getElem? h)
  have hnm := c_implNameFault (ws.getD 1 [])
  have hv2 := c_implParseVersion (ws.getD 2 []) (hsm 2)
  have hv3 := c_implParseVersion (ws.getD 3 []) (hsm 3)
  obtain ⟨O, hO⟩ : ∃ O, O = readC ws := ⟨_, rfl⟩
  rw [← hO, ← hxs]
  unfold readC at hO
  obtain ⟨n, hn⟩ : ∃ n, n = ws.length := ⟨_, rfl⟩
  rw [← hn] at hO hxl hat
  have h0 := hat 0
  have h1 := hat 1
  have h2 := hat 2
  have h3 := hat 3
  clear hat hsm hs
  generalize ws.getD 0 [] = w0 at *
  generalize ws.getD 1 [] = w1 at *
  generalize ws.getD 2 [] = w2 at *
  generalize ws.getD 3 [] = w3 at *
  generalize nameF w1 = N at *
  obtain ⟨⟨c2, v2⟩, e2⟩ : ∃ z, z = verP w2 := ⟨_, rfl⟩
  obtain ⟨⟨c3, v3⟩, e3⟩ : ∃ z, z = verP w3 := ⟨_, rfl⟩
  rw [← e2] at hO hv2
  rw [← e3] at hO hv3
  dsimp only at hO
  unfold verA at hv2 hv3
  dsimp only at hv2 hv3
  clear e2 e3
  have Z : A.agg [i64 0, str [], i64 0, i64 0, i64 0, i64 0, i64 0, i64 0] = Chg.enc ⟨0, [], Ver.zero, Ver.zero⟩ := rfl
  have no : O = none → ∃ x, Reads O x ∧ FitX (.tup [.agg [i64 0, str [], i64 0, i64 0, i64 0, i64 0, i64 0, i64 0], boo false]) x := fun h => ⟨_, reads_none (c := ⟨0, [], Ver.zero, Ver.zero⟩) h, .of rfl⟩
  have hmo : PP.follows .mixedOrders = true := by kernel_rfl
  have htab := tab
  refine RCtr.walk tab hΩ fn_impl_readChange rfl ?_
  generalize PP = P at *
  cbv
  refine br (fun h => ?_) (fun h => ?_) <;> cbv
  · have h : n < 3 := by have h := ltZt hΩ h; subst hΩ; have h : (xs.length : Int) < 3 := h; omega
    exact no (by rw [hO, if_pos h])
  have hn3 : ¬ n < 3 := by have h := ltZf hΩ h; subst hΩ; have h : (3 : Int) ≤ (xs.length : Int) := h; omega
  rw [if_neg hn3] at hO
  replace h0 := h0 (by omega)
  replace h1 := h1 (by omega)
  replace h2 := h2 (by omega)
  refine ⟨⟨by decide⟩, _, h1, ?_⟩
  cbv
  refine call_pure hΩ 3 hnm rfl (fits _) rfl rfl ?_
  cbv
  refine br (fun h => ?_) (fun h => ?_) <;> cbv
  · have h := neZt hΩ (iteB hΩ h)
    exact no (by rw [hO, if_pos h])
  have h := neZf hΩ (iteB hΩ h)
  rw [if_neg (fun e => e h)] at hO
  refine ⟨⟨by decide⟩, _, h2, ?_⟩
  cbv
  refine call_pure hΩ 3 hv2 rfl (fits _) rfl rfl ?_
  cbv
  refine ⟨⟨by decide⟩, _, h1, ?_⟩
  cbv
  refine br (fun h => ?_) (fun h => ?_) <;> cbv
  · have h := neZt hΩ h
    exact no (by rw [hO, if_pos h])
  have h := neZf hΩ h
  rw [if_neg (fun e => e h)] at hO
  refine ⟨⟨by decide⟩, _, h0, ?_⟩
  have hP : w0 = [43] → n = 3 → O = some ⟨1, w1, Ver.zero, v2⟩ := fun a b => by rw [hO, if_pos ⟨a, b⟩]
  have hM : w0 = [45] → n = 3 → O = some ⟨2, w1, v2, Ver.zero⟩ := fun a b => by rw [hO, if_neg (fun e => absurd (a.symm.trans e.1) (by decide)), if_pos ⟨a, b⟩]
  have hS : w0 = [42] → n = 4 → O = if c3 = 0 then some ⟨3, w1, v2, v3⟩ else none := fun a b => by rw [hO, if_neg (fun e => absurd (a.symm.trans e.1) (by decide)), if_neg (fun e => absurd (a.symm.trans e.1) (by decide)), if_pos ⟨a, b⟩]
  have hNo : (w0 = [43] → ¬ n = 3) → (w0 = [45] → ¬ n = 3) → (w0 = [42] → ¬ n = 4) → O = none := fun a b c => by rw [hO, if_neg (fun e => a e.1 e.2), if_neg (fun e => b e.1 e.2), if_neg (fun e => c e.1 e.2)]
  clear hO
  have l3T : ∀ {q : Bool}, Ω.ite true (Ω.cmp .eql (Ω.int (Ω.len xs)) 3) q = true → n = 3 := fun h => by have h := eqZt hΩ (iteA hΩ h); subst hΩ; have h : (xs.length : Int) = 3 := h; omega
  have l3F : ∀ {q : Bool}, Ω.ite true (Ω.cmp .eql (Ω.int (Ω.len xs)) 3) q = false → ¬ n = 3 := fun h => by have h := eqZf hΩ (iteA hΩ h); subst hΩ; have h : (xs.length : Int) ≠ 3 := h; omega
  have l4T : ∀ {q : Bool}, Ω.ite true (Ω.cmp .eql (Ω.int (Ω.len xs)) 4) q = true → n = 4 := fun h => by have h := eqZt hΩ (iteA hΩ h); subst hΩ; have h : (xs.length : Int) = 4 := h; omega
  have l4F : ∀ {q : Bool}, Ω.ite true (Ω.cmp .eql (Ω.int (Ω.len xs)) 4) q = false → ¬ n = 4 := fun h => by have h := eqZf hΩ (iteA hΩ h); subst hΩ; have h : (xs.length : Int) ≠ 4 := h; omega
  cbv
  repeat' (first
    | (refine br (fun h => ?_) (fun h => ?_) <;> (first | replace h := seqT hΩ h | replace h := seqF hΩ h | replace h := l3T h | replace h := l3F h | replace h := l4T h | replace h := l4F h) <;> cbv)
    | (refine ⟨⟨by decide⟩, _, h0, ?_⟩; cbv)
    | exact no (hNo (by first | (intro _; assumption) | (intro e; exact absurd e (by assumption))) (by first | (intro _; assumption) | (intro e; exact absurd e (by assumption))) (by first | (intro _; assumption) | (intro e; exact absurd e (by assumption)))))
  all_goals first
    | (have hk := hP ‹w0 = [43]› ‹n = 3›
       refine ⟨VC.sub (VC_lord htab hΩ hmo [0, 1, 2] (.step 3 (.step 4 (.step 5 .fin))) [] [] (by kernel_rfl) ?_) ((Sbs.unlk (r := 1) rfl rfl).trans (Sbs.thaw0 (r := 1) rfl rfl rfl))⟩
       cbv
       intro vs
       cbv
       exact ⟨_, reads_some hk, .of rfl⟩)
    | (have hk := hM ‹w0 = [45]› ‹n = 3›
       refine ⟨VC.sub (VC_lord htab hΩ hmo [0, 1, 2] (.step 3 (.step 4 (.step 5 .fin))) [] [] (by kernel_rfl) ?_) ((Sbs.unlk (r := 1) rfl rfl).trans (Sbs.thaw0 (r := 1) rfl rfl rfl))⟩
       cbv
       intro vs
       cbv
       exact ⟨_, reads_some hk, .of rfl⟩)
    | (have hk := hS ‹w0 = [42]› ‹n = 4›
       have hn4 : 3 < n := by omega
       refine ⟨⟨by decide⟩, _, h3 hn4, ?_⟩
       cbv
       refine call_pure hΩ 3 hv3 rfl (fits _) rfl rfl ?_
       cbv
       refine ⟨VC.sub (VC_lord htab hΩ hmo [0, 1, 2, 3, 4] (.step 5 (.step 6 (.step 7 (.step 8 (.step 9 .fin))))) [] [] (by kernel_rfl) ?_) (((Sbs.unlk (r := 1) rfl rfl).trans (Sbs.thaw0 (r := 1) rfl rfl rfl)).trans ((Sbs.unlk (r := 3) rfl rfl).trans (Sbs.thaw0 (r := 3) rfl rfl rfl)))⟩
       cbv
       intro vs
       cbv
       refine ⟨VC.sub (VC_lord htab hΩ hmo [0, 1, 2, 3] (.step 4 (.step 5 .fin)) [] [] (by kernel_rfl) ?_) ((Sbs.unlk (r := 2) rfl rfl).trans (Sbs.thaw0 (r := 2) rfl rfl rfl))⟩
       cbv
       intro vs
       cbv
       have hc3 : Ω.cmp .eql c3 0 = O.isSome := by
         by_cases q : c3 = 0
         · rw [hk, if_pos q, q]; subst hΩ; rfl
         · rw [hk, if_neg q]; subst hΩ; exact decide_eq_false q
       exact ⟨_, ⟨⟨3, w1, v2, v3⟩, congrArg (fun b => A.tup [Chg.enc ⟨3, w1, v2, v3⟩, boo b]) hc3, fun d hd => by
         by_cases q : c3 = 0
         · rw [hk, if_pos q] at hd; exact Option.some.inj hd
         · rw [hk, if_neg q] at hd; cases hd⟩, .of rfl⟩)
end Go.Proofs.YthlfefblhlmbgaaDoor

/- Walks: changes read from words, the reference's. Plain theorems. -/
set_option linter.unusedVariables false
set_option linter.unusedSimpArgs false
namespace Go.Proofs.YthlfefblhlmbgaaDoor
open Go Go.Fw
set_option maxRecDepth 100000
theorem c_l15Read (ws : List (List UInt8)) (hw : ws.length ≤ 1048576) (hs : ∀ w ∈ ws, w.length ≤ 1048575) : RCtr PP n_spec_l15Read [.sl false 1 (ws.map str)] (Reads (readC ws)) := by
  obtain ⟨Ω, hΩ⟩ : ∃ Ω, Ω = std := ⟨_, rfl⟩
  obtain ⟨xs, hxs⟩ : ∃ xs, xs = ws.map str := ⟨_, rfl⟩
  have hxl : xs.length = ws.length := by rw [hxs, List.length_map]
  have hlx : Ω.len xs = xs.length := by subst hΩ; rfl
  have hat : ∀ i, i < ws.length → xs[i]? = some (str (ws.getD i [])) := fun i hi => by rw [hxs, List.getElem?_map, List.getElem?_eq_getElem hi, List.getD_eq_getElem?_getD, List.getElem?_eq_getElem hi]; rfl
  have hsm : ∀ i, (ws.getD i []).length ≤ 1048575 := fun i => by
    rw [List.getD_eq_getElem?_getD]
    cases h : ws[i]? with
    | none => simp
    | some w => exact hs w (List.mem_of_getElem? h)
  have hnm := c_specNameFault (ws.getD 1 [])
  have hv2 := c_specParseVersion (ws.getD 2 []) (hsm 2)
  have hv3 := c_specParseVersion (ws.getD 3 []) (hsm 3)
  obtain ⟨O, hO⟩ : ∃ O, O = readC ws := ⟨_, rfl⟩
  rw [← hO, ← hxs]
  unfold readC at hO
  obtain ⟨n, hn⟩ : ∃ n, n = ws.length := ⟨_, rfl⟩
  rw [← hn] at hO hxl hat
  have h0 := hat 0
  have h1 := hat 1
  have h2 := hat 2
  have h3 := hat 3
  clear hat hsm hs
  generalize ws.getD 0 [] = w0 at *
  generalize ws.getD 1 [] = w1 at *
  generalize ws.getD 2 [] = w2 at *
  generalize ws.getD 3 [] = w3 at *
  generalize nameF w1 = N at *
  obtain ⟨⟨c2, v2⟩, e2⟩ : ∃ z, z = verP w2 := ⟨_, rfl⟩
  obtain ⟨⟨c3, v3⟩, e3⟩ : ∃ z, z = verP w3 := ⟨_, rfl⟩
  rw [← e2] at hO hv2
  rw [← e3] at hO hv3
  dsimp only at hO
  unfold verA at hv2 hv3
  dsimp only at hv2 hv3
  clear e2 e3
  have Z : A.agg [i64 0, str [], i64 0, i64 0, i64 0, i64 0, i64 0, i64 0] = Chg.enc ⟨0, [], Ver.zero, Ver.zero⟩ := rfl
  have no : O = none → ∃ x, Reads O x ∧ FitX (.tup [.agg [i64 0, str [], i64 0, i64 0, i64 0, i64 0, i64 0, i64 0], boo false]) x := fun h => ⟨_, reads_none (c := ⟨0, [], Ver.zero, Ver.zero⟩) h, .of rfl⟩
  have nx : O = none → ∃ x, Reads O x ∧ FitX (.tup [.agg [i64 0, str w1, i64 0, i64 0, i64 0, i64 0, i64 0, i64 0], boo false]) x := fun h => ⟨_, reads_none (c := ⟨0, w1, Ver.zero, Ver.zero⟩) h, .of rfl⟩
  have hmo : PP.follows .mixedOrders = true := by kernel_rfl
  have htab := tab
  refine RCtr.walk tab hΩ fn_spec_l15Read rfl ?_
  generalize PP = P at *
  cbv
  refine br (fun h => ?_) (fun h => ?_) <;> cbv
  · have h : n < 3 := by have h := ltZt hΩ h; subst hΩ; have h : (xs.length : Int) < 3 := h; omega
    exact no (by rw [hO, if_pos h])
  have hn3 : ¬ n < 3 := by have h := ltZf hΩ h; subst hΩ; have h : (3 : Int) ≤ (xs.length : Int) := h; omega
  rw [if_neg hn3] at hO
  replace h0 := h0 (by omega)
  replace h1 := h1 (by omega)
  replace h2 := h2 (by omega)
  refine ⟨⟨by decide⟩, _, h1, ?_⟩
  cbv
  refine call_pure hΩ 3 hnm rfl (fits _) rfl rfl ?_
  cbv
  refine br (fun h => ?_) (fun h => ?_) <;> cbv
  · have h := neZt hΩ (iteB hΩ h)
    exact no (by rw [hO, if_pos h])
  have h := neZf hΩ (iteB hΩ h)
  rw [if_neg (fun e => e h)] at hO
  refine ⟨⟨by decide⟩, _, h1, ?_⟩
  cbv
  refine ⟨⟨by decide⟩, _, h2, ?_⟩
  cbv
  refine call_pure hΩ 3 hv2 rfl (fits _) rfl rfl ?_
  cbv
  refine br (fun h => ?_) (fun h => ?_) <;> cbv
  · have h := neZt hΩ h
    exact nx (by rw [hO, if_pos h])
  have h := neZf hΩ h
  rw [if_neg (fun e => e h)] at hO
  refine ⟨⟨by decide⟩, _, h0, ?_⟩
  have hP : w0 = [43] → n = 3 → O = some ⟨1, w1, Ver.zero, v2⟩ := fun a b => by rw [hO, if_pos ⟨a, b⟩]
  have hM : w0 = [45] → n = 3 → O = some ⟨2, w1, v2, Ver.zero⟩ := fun a b => by rw [hO, if_neg (fun e => absurd (a.symm.trans e.1) (by decide)), if_pos ⟨a, b⟩]
  have hS : w0 = [42] → n = 4 → O = if c3 = 0 then some ⟨3, w1, v2, v3⟩ else none := fun a b => by rw [hO, if_neg (fun e => absurd (a.symm.trans e.1) (by decide)), if_neg (fun e => absurd (a.symm.trans e.1) (by decide)), if_pos ⟨a, b⟩]
  have hNo : (w0 = [43] → ¬ n = 3) → (w0 = [45] → ¬ n = 3) → (w0 = [42] → ¬ n = 4) → O = none := fun a b c => by rw [hO, if_neg (fun e => a e.1 e.2), if_neg (fun e => b e.1 e.2), if_neg (fun e => c e.1 e.2)]
  clear hO
  have l3T : ∀ {q : Bool}, Ω.ite true (Ω.cmp .eql (Ω.int (Ω.len xs)) 3) q = true → n = 3 := fun h => by have h := eqZt hΩ (iteA hΩ h); subst hΩ; have h : (xs.length : Int) = 3 := h; omega
  have l3F : ∀ {q : Bool}, Ω.ite true (Ω.cmp .eql (Ω.int (Ω.len xs)) 3) q = false → ¬ n = 3 := fun h => by have h := eqZf hΩ (iteA hΩ h); subst hΩ; have h : (xs.length : Int) ≠ 3 := h; omega
  have l4T : ∀ {q : Bool}, Ω.ite true (Ω.cmp .eql (Ω.int (Ω.len xs)) 4) q = true → n = 4 := fun h => by have h := eqZt hΩ (iteA hΩ h); subst hΩ; have h : (xs.length : Int) = 4 := h; omega
  have l4F : ∀ {q : Bool}, Ω.ite true (Ω.cmp .eql (Ω.int (Ω.len xs)) 4) q = false → ¬ n = 4 := fun h => by have h := eqZf hΩ (iteA hΩ h); subst hΩ; have h : (xs.length : Int) ≠ 4 := h; omega
  cbv
  repeat' (first
    | (refine br (fun h => ?_) (fun h => ?_) <;> (first | replace h := seqT hΩ h | replace h := seqF hΩ h | replace h := l3T h | replace h := l3F h | replace h := l4T h | replace h := l4F h) <;> cbv)
    | (refine ⟨⟨by decide⟩, _, h0, ?_⟩; cbv)
    | exact nx (hNo (by first | (intro _; assumption) | (intro e; exact absurd e (by assumption))) (by first | (intro _; assumption) | (intro e; exact absurd e (by assumption))) (by first | (intro _; assumption) | (intro e; exact absurd e (by assumption)))))
  all_goals first
    | (have hk := hP ‹w0 = [43]› ‹n = 3›
       exact ⟨_, reads_some hk, .of rfl⟩)
    | (have hk := hM ‹w0 = [45]› ‹n = 3›
       exact ⟨_, reads_some hk, .of rfl⟩)
    | (have hk := hS ‹w0 = [42]› ‹n = 4›
       have hn4 : 3 < n := by omega
       refine ⟨⟨by decide⟩, _, h3 hn4, ?_⟩
       cbv
       refine call_pure hΩ 3 hv3 rfl (fits _) rfl rfl ?_
       cbv
       refine ⟨VC.sub (VC_lord htab hΩ hmo [0, 1, 2, 3] (.step 4 (.step 5 .fin)) [] [] (by kernel_rfl) ?_) (((Sbs.unlk (r := 1) rfl rfl).trans (Sbs.thaw0 (r := 1) rfl rfl rfl)).trans ((Sbs.unlk (r := 3) rfl rfl).trans (Sbs.thaw0 (r := 3) rfl rfl rfl)))⟩
       cbv
       intro vs
       cbv
       have hc3 : Ω.cmp .eql c3 0 = O.isSome := by
         by_cases q : c3 = 0
         · rw [hk, if_pos q, q]; subst hΩ; rfl
         · rw [hk, if_neg q]; subst hΩ; exact decide_eq_false q
       exact ⟨_, ⟨⟨3, w1, v2, v3⟩, congrArg (fun b => A.tup [Chg.enc ⟨3, w1, v2, v3⟩, boo b]) hc3, fun d hd => by
         by_cases q : c3 = 0
         · rw [hk, if_pos q] at hd; exact Option.some.inj hd
         · rw [hk, if_neg q] at hd; cases hd⟩, .of rfl⟩)
end Go.Proofs.YthlfefblhlmbgaaDoor

/- Walks: sizes of packages. Plain theorems. -/
set_option linter.unusedVariables false
set_option linter.unusedSimpArgs false
namespace Go.Proofs.YthlfefblhlmbgaaDoor
open Go Go.Fw
set_option maxRecDepth 100000
def szN (n : Nat) (l : Int) : Int := if l - n < 0 then -1 else l - n
def szT (t : Trm) (l : Int) : Int := szN t.n.length l
end Go.Proofs.YthlfefblhlmbgaaDoor

/- Walks: what is equal is told so. Plain theorems. -/
set_option linter.unusedVariables false
set_option linter.unusedSimpArgs false
namespace Go.Proofs.YthlfefblhlmbgaaDoor
open Go Go.Fw
set_option maxRecDepth 100000
theorem c_eqVersion (v : Ver) : PCtr PP n_laws_eqVersion [v.enc, v.enc] (boo true) := by
  obtain ⟨Ω, hΩ⟩ : ∃ Ω, Ω = std := ⟨_, rfl⟩
  have htab := tab
  have hmo := hmo
  refine PCtr.walk tab hΩ fn_laws_eqVersion rfl ?_
  generalize PP = P at *
  cbv
  repeat' (first | (refine br (fun h => (notT hΩ h).elim) (fun h => ?_); cbv) | (refine br (fun h => (ne_self hΩ h).elim) (fun h => ?_); cbv) | (refine br (fun h => (sne_self hΩ h).elim) (fun h => ?_); cbv) | (refine ⟨VC_drawn htab hΩ hmo (by kernel_rfl) ?_⟩; cbv))
  exact .same
end Go.Proofs.YthlfefblhlmbgaaDoor

/- Walks: the marks' text. Plain theorems. -/
set_option linter.unusedVariables false
set_option linter.unusedSimpArgs false
namespace Go.Proofs.YthlfefblhlmbgaaDoor
open Go Go.Fw
set_option maxRecDepth 100000
def mkL (k : Nat) (out : List UInt8) : List UInt8 := if k = 0 then out else mkL (k / 10) (UInt8.ofNat (48 + k % 10) :: out)
termination_by k
decreasing_by omega
def markT (k : Int) : List UInt8 := if k ≤ 0 then [109, 48] else 109 :: mkL k.toNat []
theorem mark_byte (k : Nat) : IntKind.u8.wrap (IntKind.i64.wrap (48 + Int.tmod (k : Int) 10)) = ((UInt8.ofNat (48 + k % 10)).toNat : Int) := by
  have h1 : Int.tmod (k : Int) 10 = ((k % 10 : Nat) : Int) := by rw [Int.tmod_eq_emod_of_nonneg (by omega)]; omega
  have h2 : k % 10 < 10 := Nat.mod_lt _ (by omega)
  have h3 : (UInt8.ofNat (48 + k % 10)).toNat = 48 + k % 10 := by simp; omega
  rw [h1, wrap64 (by omega) (by omega), h3]
  have h4 : ∀ y : Int, IntKind.u8.wrap y = y % 256 := fun y => rfl
  rw [h4]
  omega
theorem c_markText (k : Int) (hk : k ≤ 1152921504606846976) : PCtr PP n_laws_markText [i64 k] (str (markT k)) := by
  obtain ⟨Ω, hΩ⟩ : ∃ Ω, Ω = std := ⟨_, rfl⟩
  obtain ⟨r, hr⟩ : ∃ r, r = markT k := ⟨_, rfl⟩
  rw [← hr]
  have htab := tab
  refine PCtr.walk tab hΩ fn_laws_markText rfl ?_
  generalize PP = P at *
  cbv
  refine br (fun h => ?_) (fun h => ?_)
  · replace h : r = [109, 48] := by rw [hr, markT, if_pos (leI_t hΩ h)]
    cbv
    exact .of (congrArg str h.symm)
  obtain ⟨n, hn, hrn, hnb⟩ : ∃ n : Nat, k = Ω.int n ∧ r = 109 :: mkL n [] ∧ n ≤ 1152921504606846976 := by
    have h := leI_f hΩ h
    refine ⟨k.toNat, ?_, by rw [hr, markT, if_neg (by omega)], by omega⟩
    subst hΩ
    exact (Int.toNat_of_nonneg (by omega)).symm
  subst hn
  cbv
  refine loopX htab hΩ (fun i : Nat × List UInt8 => ⟨[(0, .sc (.int .i64 (Ω.int i.1))), (3, .sc (.string (mkS i.2)))], 20, []⟩) (fun i => i.1 + i.2.length ≤ 1152921504606846976 ∧ r = 109 :: mkL i.1 i.2) (fun i => i.1) (n, []) ⟨by simpa using hnb, hrn⟩
    (Sbs.mk rfl rfl ⟨rfl, rfl, trivial⟩) ?_
  rintro ⟨m, out⟩ ⟨hm, he⟩
  dsimp only at hm he
  cbv
  refine br (fun h => ?_) (fun h => ?_)
  · have hm0 : m ≠ 0 := by subst hΩ; have h : (0 : Int) < (m : Int) := gt_t h; omega
    rw [mkL, if_neg hm0] at he
    obtain ⟨b, hb⟩ : ∃ b, b = UInt8.ofNat (48 + m % 10) := ⟨_, rfl⟩
    rw [← hb] at he
    have hb2 : Ω.wrap .u8 (Ω.ar .add .i64 48 (Ω.ar .rem .i64 (Ω.int m) 10)) = (b.toNat : Int) := by subst hΩ; rw [hb]; exact mark_byte m
    have hq : i64 (Ω.ar .quo .i64 (Ω.int m) 10) = i64 (Ω.int (m / 10)) := by
      subst hΩ
      show i64 (IntKind.i64.wrap ((m : Int).tdiv 10)) = i64 ((m / 10 : Nat) : Int)
      rw [show (m : Int).tdiv 10 = ((m / 10 : Nat) : Int) by rw [Int.tdiv_eq_ediv_of_nonneg (by omega)]; omega, wrap64 (by omega) (by omega)]
    have hm2 : m / 10 + (b :: out).length ≤ 1152921504606846976 := by simp only [List.length_cons]; omega
    have hm3 : m / 10 < m := by omega
    have hl : (([b] : List UInt8).length + out.length : Nat) ≤ 9223372036854775807 := by simp only [List.length_singleton]; omega
    have hl2 : ((([b] : List UInt8).length + out.length : Nat) : Int) ≤ 9223372036854775807 := by omega
    cbv
    refine ⟨⟨by decide⟩, [b], ⟨Nat.le_refl 1, congrArg (fun v => [A.sc (.int .u8 v)]) hb2⟩, ?_⟩
    cbv
    refine ⟨⟨hl2⟩, ⟨by decide⟩, (m / 10, b :: out), ⟨hm2, he⟩, hm3, Sbs.mkL (rows := []) rfl rfl rfl ⟨hq, ?_, trivial⟩⟩
    subst hΩ; rfl
  · have hm0 : m = 0 := by subst hΩ; have h : (m : Int) ≤ 0 := gt_f h; omega
    rw [mkL, if_pos hm0] at he
    have hl2 : ((([109] : List UInt8).length + out.length : Nat) : Int) ≤ 9223372036854775807 := by simp only [List.length_singleton]; omega
    cbv
    refine ⟨⟨hl2⟩, .of ?_⟩
    rw [he]; subst hΩ; rfl
end Go.Proofs.YthlfefblhlmbgaaDoor

/- Walks: changes: sizes, copies, equality, marks. Plain theorems. -/
set_option linter.unusedVariables false
set_option linter.unusedSimpArgs false
namespace Go.Proofs.YthlfefblhlmbgaaDoor
open Go Go.Fw
set_option maxRecDepth 100000
set_option maxRecDepth 100000
theorem c_eqChange (v : Chg) : PCtr PP n_laws_eqChange [v.enc, v.enc] (boo true) := by
  obtain ⟨Ω, hΩ⟩ : ∃ Ω, Ω = std := ⟨_, rfl⟩
  refine PCtr.walk tab hΩ fn_laws_eqChange rfl ?_
  have hc := c_eqVersion
  generalize PP = P at *
  cbv
  refine br (fun h => (ne_self hΩ h).elim) (fun h => ?_)
  cbv
  refine br (fun h => (sne_self hΩ h).elim) (fun h => ?_)
  cbv
  refine ⟨CallOK_pure (k := 3) (hc v.o) rfl (fits _) (by cbv) (by cbv) ?_⟩
  cbv
  refine br (fun h => (notT hΩ h).elim) (fun h => ?_)
  cbv
  refine ⟨CallOK_pure (k := 3) (hc v.w) rfl (fits _) (by cbv) (by cbv) ?_⟩
  cbv
  refine br (fun h => (notT hΩ h).elim) (fun h => ?_)
  cbv
  exact .same
theorem c_eqChangeS (cs : List Chg) (hb : cs.length ≤ 9223372036854775806) : PCtr PP n_laws_eqChangeS [.sl false 8 (cs.map Chg.enc), .sl false 8 (cs.map Chg.enc)] (boo true) := by
  obtain ⟨Ω, hΩ⟩ : ∃ Ω, Ω = std := ⟨_, rfl⟩
  obtain ⟨xs, hxs⟩ : ∃ xs, xs = cs.map Chg.enc := ⟨_, rfl⟩
  have hlen : xs.length = cs.length := by rw [hxs, List.length_map]
  rw [← hxs]
  have hc := c_eqChange
  have htab := tab
  have hmo := hmo
  refine PCtr.walk tab hΩ fn_laws_eqChangeS rfl ?_
  generalize PP = P at *
  cbv
  refine br (fun h => (ne_self hΩ h).elim) (fun h => ?_)
  cbv
  refine loopX htab hΩ (fun i : Nat => ⟨[(0, .sl false 8 xs), (1, .sl false 8 xs), (5, .sc (.int .i64 (Ω.int i)))], 27, []⟩) (fun i => i ≤ cs.length) (fun i => cs.length - i) 0 (Nat.zero_le _) (Sbs.mk rfl rfl ⟨rfl, rfl, zeroI hΩ, trivial⟩) (fun i hi => ?_)
  cbv
  refine br (fun h => ?_) (fun h => ?_)
  · replace h := ltI hΩ h
    obtain ⟨c, hcc⟩ := at_of (cs := cs) (by omega : i < _)
    cbv
    refine ⟨VC_drawn htab hΩ hmo (by kernel_rfl) ?_⟩
    cbv
    refine ⟨⟨nnI hΩ⟩, _, rdI hΩ hxs hcc, ?_⟩
    cbv
    refine ⟨⟨nnI hΩ⟩, _, rdI hΩ hxs hcc, ?_⟩
    cbv
    refine QCall_pure (k := 3) (hc c) rfl (fits _) rfl ?_
    cbv
    refine br (fun h => (notT hΩ h).elim) (fun h => ?_)
    cbv
    refine ⟨i + 1, by omega, by omega, Sbs.mk rfl rfl ⟨rfl, rfl, incI hΩ (by omega), trivial⟩⟩
  · cbv
    exact .same
set_option maxRecDepth 100000
/-- The marks from k on. -/
def Chg.mark (k : Int) : Chg := ⟨k, markT (k + 1), ⟨k + 2, k + 3, k + 4⟩, ⟨k + 5, k + 6, k + 7⟩⟩
def marksC (k : Int) (n : Nat) : List Chg := (List.range n).map fun i : Nat => Chg.mark (k + 8 * i)
theorem mark_inc {k : Int} (h0 : 0 ≤ k) (h1 : k ≤ 2199023255552) :
    Chg.mark k = ⟨k, markT (inc k), ⟨inc (inc k), inc (inc (inc k)), inc (inc (inc (inc k)))⟩, ⟨inc (inc (inc (inc (inc k)))), inc (inc (inc (inc (inc (inc k))))), inc (inc (inc (inc (inc (inc (inc k))))))⟩⟩ ∧
    inc (inc (inc (inc (inc (inc (inc (inc k))))))) = k + 8 := by
  have e1 := inc_eq h0 (by omega)
  have e2 := inc_eq (x := k + 1) (by omega) (by omega)
  have e3 := inc_eq (x := k + 1 + 1) (by omega) (by omega)
  have e4 := inc_eq (x := k + 1 + 1 + 1) (by omega) (by omega)
  have e5 := inc_eq (x := k + 1 + 1 + 1 + 1) (by omega) (by omega)
  have e6 := inc_eq (x := k + 1 + 1 + 1 + 1 + 1) (by omega) (by omega)
  have e7 := inc_eq (x := k + 1 + 1 + 1 + 1 + 1 + 1) (by omega) (by omega)
  have e8 := inc_eq (x := k + 1 + 1 + 1 + 1 + 1 + 1 + 1) (by omega) (by omega)
  rw [e1, e2, e3, e4, e5, e6, e7, e8]
  refine ⟨?_, by omega⟩
  simp only [Chg.mark, Chg.mk.injEq, Ver.mk.injEq, true_and]
  refine ⟨⟨?_, ?_, ?_⟩, ?_, ?_, ?_⟩ <;> omega
theorem marksC_at {k : Int} {n i : Nat} (h : i < n) : (marksC k n)[i]? = some (Chg.mark (k + 8 * i)) := by
  unfold marksC
  rw [List.getElem?_map, List.getElem?_range h]; rfl
theorem marksC_length (k : Int) (n : Nat) : (marksC k n).length = n := by simp [marksC]
/-- The first i ones are marked. -/
def half (cs ms : List Chg) (i : Nat) : List A := (ms.take i).map Chg.enc ++ (cs.drop i).map Chg.enc
theorem half_set {cs ms : List Chg} {i : Nat} {m : Chg} (hl : ms.length = cs.length) (h : ms[i]? = some m) : (half cs ms i).set i m.enc = half cs ms (i + 1) := by
  have hi := (List.getElem?_eq_some_iff.1 h).1
  unfold half
  rw [List.take_add_one, h, List.map_append, List.set_append]
  have e : cs.drop i = cs[i] :: cs.drop (i + 1) := List.drop_eq_getElem_cons (by omega)
  rw [e]
  simp only [List.map_cons, List.length_map, List.length_take, Nat.min_eq_left (Nat.le_of_lt hi), Nat.lt_irrefl, if_false, Nat.sub_self, List.set_cons_zero]
  simp
theorem half_at {cs ms : List Chg} {i : Nat} {c : Chg} (hl : ms.length = cs.length) (h : cs[i]? = some c) : (half cs ms i)[i]? = some c.enc := by
  have hi := (List.getElem?_eq_some_iff.1 h).1
  unfold half
  rw [List.getElem?_append_right (by simp; omega)]
  simp [Nat.min_eq_left (by omega : i ≤ ms.length), h]
theorem half_length {cs ms : List Chg} {i : Nat} (hl : ms.length = cs.length) (hi : i ≤ cs.length) : (half cs ms i).length = cs.length := by simp [half]; omega
theorem c_markChangeS (cs : List Chg) (k : Int) (h0 : 0 ≤ k) (h1 : k ≤ 1099511627776) (hb : cs.length ≤ 1048576) :
    MCtr PP n_laws_markChangeS [.sl true 8 (cs.map Chg.enc), i64 k] (i64 (k + 8 * cs.length)) [.sl true 8 ((marksC k cs.length).map Chg.enc), i64 k] := by
  obtain ⟨Ω, hΩ⟩ : ∃ Ω, Ω = std := ⟨_, rfl⟩
  obtain ⟨n, hn⟩ : ∃ n, n = cs.length := ⟨_, rfl⟩
  obtain ⟨ms, hms⟩ : ∃ ms, ms = marksC k n := ⟨_, rfl⟩
  have hml : ms.length = cs.length := by rw [hms, marksC_length, hn]
  obtain ⟨ys, hys⟩ : ∃ ys, ys = half cs ms := ⟨_, rfl⟩
  have hyl : ∀ i, i ≤ n → (ys i).length = n := fun i hi => by rw [hys, hn]; exact half_length hml (by omega)
  obtain ⟨xs, hxs⟩ : ∃ xs, xs = cs.map Chg.enc := ⟨_, rfl⟩
  have hlen : xs.length = n := by rw [hxs, hn, List.length_map]
  have hx0 : xs = ys 0 := by rw [hxs, hys]; rfl
  obtain ⟨kf, hk0, hkm, hkn, hkb⟩ : ∃ kf : Nat → Int, kf 0 = k ∧
      (∀ i, i < n → ms[i]? = some ⟨kf i, markT (inc (kf i)), ⟨inc (inc (kf i)), inc (inc (inc (kf i))), inc (inc (inc (inc (kf i))))⟩, ⟨inc (inc (inc (inc (inc (kf i))))), inc (inc (inc (inc (inc (inc (kf i)))))), inc (inc (inc (inc (inc (inc (inc (kf i)))))))⟩⟩ ∧
        inc (inc (inc (inc (inc (inc (inc (inc (kf i)))))))) = kf (i + 1)) ∧ kf n = k + 8 * cs.length ∧ ∀ i, i < n → inc (kf i) ≤ 1152921504606846976 := by
    refine ⟨fun i => k + 8 * i, by simp, fun i hi => ?_, by simp only; rw [hn], fun i hi => ?_⟩
    · have h := mark_inc (k := k + 8 * i) (by omega) (by omega)
      simp only
      rw [hms, marksC_at hi, ← h.1, h.2]
      exact ⟨rfl, by omega⟩
    · simp only; rw [inc_eq (by omega) (by omega)]; omega
  rw [← hxs, ← hn, ← hms]
  rw [← hn] at hkn
  rw [← hkn]
  obtain ⟨zs, hzs⟩ : ∃ zs, zs = ms.map Chg.enc := ⟨_, rfl⟩
  rw [← hzs]
  have hzn : zs = ys n := by rw [hzs, hys, half, hn, ← hml, List.take_length, hml, List.drop_length]; simp
  have hc := c_markText
  have htab := tab
  have hinc : ∀ x, i64 (Ω.ar .add .i64 x 1) = i64 (inc x) := fun x => by subst hΩ; rfl
  refine MCtr.walkO tab hΩ 3 fn_laws_markChangeS rfl rfl rfl ?_
  have hlo : Ω.len xs = n := by subst hΩ; exact hlen
  generalize PP = P at *
  cbv
  refine loopX htab hΩ (fun i : Nat => ⟨[(0, .vw 0 0 n), (1, .sc (.int .i64 (kf i))), (5, .sc (.int .i64 (Ω.int i))), (76, .vw 0 0 n), (77, .sc (.int .i64 k))], 76, [some ⟨8, ys i, false⟩]⟩) (fun i => i ≤ n) (fun i => n - i) 0 (Nat.zero_le _)
    (Sbs.mk rfl (by rw [← hx0]) ⟨congrArg (A.vw 0 0) hlo, congrArg i64 hk0.symm, zeroI hΩ, congrArg (A.vw 0 0) hlo, rfl, trivial⟩) (fun i hi => ?_)
  cbv
  refine br (fun h => ?_) (fun h => ?_)
  · replace h := ltN hΩ h
    have hi1 := hyl i hi
    have hlt : i < (ys i).length := by omega
    obtain ⟨c, hcc⟩ := at_of (cs := cs) (by omega : i < _)
    have hyc : (ys i)[i]? = some c.enc := by rw [hys]; exact half_at hml hcc
    cbv
    refine ⟨⟨ixI hΩ h⟩, c.enc, atI hΩ hyc, ?_⟩
    cbv
    refine ⟨CallOK_pure (k := 3) (hc (Ω.ar .add .i64 (kf i) 1) (by subst hΩ; exact hkb i h)) rfl (fits _) rfl rfl ?_⟩
    generalize hmt : markT (Ω.ar .add .i64 (kf i) 1) = mt
    cbv
    refine ⟨⟨ixI hΩ h⟩, _, setI hΩ hlt, ?_⟩
    cbv
    refine ⟨⟨ixI hΩ h⟩, _, setI hΩ (setI_lt hΩ hlt), ?_⟩
    cbv
    refine ⟨⟨ixI hΩ h⟩, _, setI hΩ (setI_lt hΩ (setI_lt hΩ hlt)), ?_⟩
    cbv
    refine ⟨⟨ixI hΩ h⟩, _, setI hΩ (setI_lt hΩ (setI_lt hΩ (setI_lt hΩ hlt))), ?_⟩
    cbv
    refine ⟨⟨ixI hΩ h⟩, _, setI hΩ (setI_lt hΩ (setI_lt hΩ (setI_lt hΩ (setI_lt hΩ hlt)))), ?_⟩
    cbv
    refine ⟨⟨ixI hΩ h⟩, _, setI hΩ (setI_lt hΩ (setI_lt hΩ (setI_lt hΩ (setI_lt hΩ (setI_lt hΩ hlt))))), ?_⟩
    cbv
    refine ⟨⟨ixI hΩ h⟩, _, setI hΩ (setI_lt hΩ (setI_lt hΩ (setI_lt hΩ (setI_lt hΩ (setI_lt hΩ (setI_lt hΩ hlt)))))), ?_⟩
    cbv
    refine ⟨i + 1, by omega, by omega, Sbs.mk rfl ?_ ⟨rfl, by subst hΩ; exact congrArg i64 (hkm i h).2, incI hΩ (by omega), rfl, rfl, trivial⟩⟩
    have hset := half_set hml (hkm i h).1
    rw [← hys] at hset
    rw [← hset]
    subst hΩ
    subst hmt
    simp only [std, Int.toNat_natCast, Nat.zero_add, List.set_set]
    rfl
  · replace h : i = n := by have := geN hΩ h; omega
    subst h
    cbv
    refine ⟨⟨rfl, Nat.le_of_eq (hyl i hi).symm⟩, .same, .of ?_⟩
    rw [hzn]
    exact congrArg (fun q => [A.sl true 8 q, i64 k]) (takeI hΩ (hyl i hi))
end Go.Proofs.YthlfefblhlmbgaaDoor

/- Results of changes: alike, marked, held. Plain theorems. -/
set_option linter.unusedVariables false
set_option linter.unusedSimpArgs false
namespace Go.Proofs.YthlfefblhlmbgaaDoor
open Go Go.Fw
set_option maxRecDepth 100000
theorem c_eqChangesResult (k a : Int) (g : List Chg) (hg : g.length ≤ 1048576) : PCtr PP n_laws_eqChangesResult [.agg [i64 k, i64 a, .sl false 8 (g.map Chg.enc)], .agg [i64 k, i64 a, .sl false 8 (g.map Chg.enc)]] (boo true) := by
  obtain ⟨Ω, hΩ⟩ : ∃ Ω, Ω = std := ⟨_, rfl⟩
  have h1 := c_eqChangeS g (by omega)
  generalize g.map Chg.enc = xs at *
  have htab := tab
  have hmo := hmo
  refine PCtr.walk tab hΩ fn_laws_eqChangesResult rfl ?_
  generalize PP = P at *
  cbv
  repeat' (first | (refine br (fun h => (notT hΩ h).elim) (fun h => ?_); cbv) | (refine br (fun h => (ne_self hΩ h).elim) (fun h => ?_); cbv) | (refine ⟨VC_drawn htab hΩ hmo (by kernel_rfl) ?_⟩; cbv) | (refine call_pure hΩ 3 h1 rfl (fits _) rfl rfl ?_; cbv) | (refine QCall_pure (k := 3) h1 rfl (fits _) rfl ?_; cbv))
  exact .same
theorem c_heldChangeS (n : Nat) (k : Int) (h0 : 0 ≤ k) (h1 : k ≤ 1099511627776) (hb : n ≤ 1048576) :
    PCtr PP n_laws_heldChangeS [.sl false 8 ((marksC k n).map Chg.enc), i64 k] (i64 (k + 8 * n)) := by
  obtain ⟨Ω, hΩ⟩ : ∃ Ω, Ω = std := ⟨_, rfl⟩
  obtain ⟨ms, hms⟩ : ∃ ms, ms = (marksC k n).map Chg.enc := ⟨_, rfl⟩
  have hml : ms.length = n := by rw [hms, List.length_map, marksC_length]
  obtain ⟨kf, hk0, hkm, hkn, hkb⟩ : ∃ kf : Nat → Int, kf 0 = k ∧
      (∀ i, i < n → ms[i]? = some (Chg.enc ⟨kf i, markT (inc (kf i)), ⟨inc (inc (kf i)), inc (inc (inc (kf i))), inc (inc (inc (inc (kf i))))⟩, ⟨inc (inc (inc (inc (inc (kf i))))), inc (inc (inc (inc (inc (inc (kf i)))))), inc (inc (inc (inc (inc (inc (inc (kf i)))))))⟩⟩) ∧
        inc (inc (inc (inc (inc (inc (inc (inc (kf i)))))))) = kf (i + 1)) ∧ kf n = k + 8 * n ∧ ∀ i, i < n → inc (kf i) ≤ 1152921504606846976 := by
    refine ⟨fun i => k + 8 * i, by simp, fun i hi => ?_, rfl, fun i hi => ?_⟩
    · have h := mark_inc (k := k + 8 * i) (by omega) (by omega)
      simp only
      rw [hms, List.getElem?_map, marksC_at hi, ← h.1, h.2]
      exact ⟨rfl, by omega⟩
    · simp only; rw [inc_eq (by omega) (by omega)]; omega
  rw [← hms, ← hkn]
  have hc := c_markText
  have hinc : ∀ x, i64 (Ω.ar .add .i64 x 1) = i64 (inc x) := fun x => by subst hΩ; rfl
  have htab := tab
  have hmo := hmo
  refine PCtr.walk tab hΩ fn_laws_heldChangeS rfl ?_
  generalize PP = P at *
  cbv
  refine loopX htab hΩ (fun i : Nat => ⟨[(0, .sl false 8 ms), (1, .sc (.int .i64 (kf i))), (5, .sc (.int .i64 (Ω.int i)))], 92, []⟩) (fun i => i ≤ n) (fun i => n - i) 0 (Nat.zero_le _)
    (Sbs.mk rfl rfl ⟨rfl, congrArg i64 hk0.symm, zeroI hΩ, trivial⟩) (fun i hi => ?_)
  cbv
  refine br (fun h => ?_) (fun h => ?_)
  · replace h : i < n := by have := ltI hΩ h; omega
    obtain ⟨hat, hnx⟩ := hkm i h
    have hcc := hc (Ω.ar .add .i64 (kf i) 1) (by subst hΩ; exact hkb i h)
    generalize hmt : markT (Ω.ar .add .i64 (kf i) 1) = mt at *
    have hat : ms[i]? = some (.agg [i64 (kf i), str mt, i64 (Ω.ar .add .i64 (Ω.ar .add .i64 (kf i) 1) 1), i64 (Ω.ar .add .i64 (Ω.ar .add .i64 (Ω.ar .add .i64 (kf i) 1) 1) 1), i64 (Ω.ar .add .i64 (Ω.ar .add .i64 (Ω.ar .add .i64 (Ω.ar .add .i64 (kf i) 1) 1) 1) 1),
      i64 (Ω.ar .add .i64 (Ω.ar .add .i64 (Ω.ar .add .i64 (Ω.ar .add .i64 (Ω.ar .add .i64 (kf i) 1) 1) 1) 1) 1), i64 (Ω.ar .add .i64 (Ω.ar .add .i64 (Ω.ar .add .i64 (Ω.ar .add .i64 (Ω.ar .add .i64 (Ω.ar .add .i64 (kf i) 1) 1) 1) 1) 1) 1), i64 (Ω.ar .add .i64 (Ω.ar .add .i64 (Ω.ar .add .i64 (Ω.ar .add .i64 (Ω.ar .add .i64 (Ω.ar .add .i64 (Ω.ar .add .i64 (kf i) 1) 1) 1) 1) 1) 1) 1)]) := by
      rw [hat, ← hmt]; subst hΩ; rfl
    have hrd := rdJ hΩ hat
    clear hkm hms hat hc
    cbv
    repeat' (first
      | (refine br (fun h => (neSame hΩ h rfl).elim) (fun h => ?_); cbv)
      | (refine br (fun h => (sne_self hΩ h).elim) (fun h => ?_); cbv)
      | (refine ⟨⟨nnI hΩ⟩, _, hrd, ?_⟩; cbv)
      | (refine ⟨VC_drawn htab hΩ hmo (by kernel_rfl) ?_⟩; cbv)
      | (refine QCall_pure (k := 3) hcc rfl (fits _) rfl ?_; cbv))
    exact ⟨i + 1, by omega, by omega, Sbs.mk rfl rfl ⟨rfl, by subst hΩ; exact congrArg i64 hnx, incI hΩ (by omega), trivial⟩⟩
  · replace h : i = n := by have := geI hΩ h; omega
    subst h
    cbv
    exact .same
theorem c_heldChangesResult (a b : Int) (n : Nat) (k : Int) (h0 : 0 ≤ k) (h1 : k ≤ 1099511627776) (hb : n ≤ 1048576) :
    PCtr PP n_laws_heldChangesResult [.agg [i64 a, i64 b, .sl false 8 ((marksC k n).map Chg.enc)], i64 k] (i64 (k + 8 * n)) := by
  obtain ⟨Ω, hΩ⟩ : ∃ Ω, Ω = std := ⟨_, rfl⟩
  have h := c_heldChangeS n k h0 h1 hb
  generalize (marksC k n).map Chg.enc = ms at *
  obtain ⟨kk, hkk, hk0⟩ : ∃ kk : Int, kk = k + 8 * n ∧ 0 ≤ kk := ⟨_, rfl, by omega⟩
  rw [← hkk] at h ⊢
  clear hkk
  have htab := tab
  have hmo := hmo
  refine PCtr.walk tab hΩ fn_laws_heldChangesResult rfl ?_
  generalize PP = P at *
  cbv
  refine call_pure hΩ 3 h rfl (fits _) rfl rfl ?_
  cbv
  refine br (fun h => absurd (ltI_t hΩ h) (Int.not_lt.2 hk0)) (fun h => ?_)
  cbv
  exact .same
theorem c_markChangesResult (a b : Int) (cs : List Chg) (k : Int) (h0 : 0 ≤ k) (h1 : k ≤ 1099511627776) (hb : cs.length ≤ 1048576) :
    MCtr PP n_laws_markChangesResult [.agg [i64 a, i64 b, .sl true 8 (cs.map Chg.enc)], i64 k] (i64 (k + 8 * cs.length)) [.agg [i64 a, i64 b, .sl true 8 ((marksC k cs.length).map Chg.enc)], i64 k] := by
  obtain ⟨Ω, hΩ⟩ : ∃ Ω, Ω = std := ⟨_, rfl⟩
  have h := c_markChangeS cs k h0 h1 hb
  have hml : ((marksC k cs.length).map Chg.enc).length = (cs.map Chg.enc).length := by rw [List.length_map, marksC_length, List.length_map]
  generalize (marksC k cs.length).map Chg.enc = ms at *
  generalize cs.map Chg.enc = xs at *
  generalize k + 8 * (cs.length : Int) = kk at *
  have hl : Ω.len xs = xs.length := by subst hΩ; rfl
  have hlm : Ω.len xs = ms.length := by omega
  have htab := tab
  refine MCtr.walkO tab hΩ 3 fn_laws_markChangesResult rfl rfl rfl ?_
  generalize PP = P at *
  cbv
  refine call_mut hΩ 3 (l := [(0, ms)] ++ ([] ++ [])) h (.cons (mutVw rfl hl hml) (.cons (.data rfl rfl) .nil)) (by simp) rfl ?_
  cbv
  exact ⟨⟨rfl, Nat.le_of_eq hlm⟩, .same, .of (congrArg (fun z => [A.agg [i64 a, i64 b, A.sl true 8 z], i64 k]) (takeI hΩ hlm.symm))⟩
theorem roF_chgR (k a : Int) (g : List Chg) : roFree (.agg [i64 k, i64 a, .sl true 8 (g.map Chg.enc)]) = true := by
  rw [roFree_agg]
  have : roFree (.sl true 8 (g.map Chg.enc)) = true := roFAll fun x hx => by obtain ⟨c, _, rfl⟩ := List.mem_map.1 hx; rfl
  simp only [List.all_cons, List.all_nil, this]
  rfl
end Go.Proofs.YthlfefblhlmbgaaDoor

/- Walks: lists of changes read from text. Plain theorems. -/
set_option linter.unusedVariables false
set_option linter.unusedSimpArgs false
namespace Go.Proofs.YthlfefblhlmbgaaDoor
open Go Go.Fw
set_option maxRecDepth 100000
/-- Changes read line by line: code, place, changes. -/
def parseL : List (List UInt8) → Nat → List Chg → Int × Int × List Chg
  | [], _, acc => (0, 0, acc)
  | l :: ls, i, acc => match readC (wordsP l) with
    | some c => parseL ls (i + 1) (acc ++ [c])
    | none => (5, (i : Int), [])
def parseC (s : List UInt8) : Int × Int × List Chg := if 4000 < s.length then (2, 0, []) else parseL (linesP s) 0 []
def chgsA (x : Int × Int × List Chg) : A := .agg [i64 x.1, i64 x.2.1, .sl true 8 (x.2.2.map Chg.enc)]
theorem parseL_at {ls : List (List UInt8)} {i : Nat} {l : List UInt8} {acc : List Chg} (h : ls[i]? = some l) : parseL (ls.drop i) i acc = match readC (wordsP l) with
    | some c => parseL (ls.drop (i + 1)) (i + 1) (acc ++ [c])
    | none => (5, (i : Int), []) := by
  obtain ⟨hi, rfl⟩ := List.getElem?_eq_some_iff.1 h
  rw [List.drop_eq_getElem_cons hi]; rfl
theorem parseL_len : ∀ {ls : List (List UInt8)} {i : Nat} {acc : List Chg}, (parseL ls i acc).2.2.length ≤ acc.length + ls.length
  | [], i, acc => Nat.le_refl _
  | l :: ls, i, acc => by
    unfold parseL
    split
    · rename_i c hc
      have := parseL_len (ls := ls) (i := i + 1) (acc := acc ++ [c])
      simp at this ⊢; omega
    · exact Nat.zero_le _
theorem parseC_len {s : List UInt8} : (parseC s).2.2.length ≤ 4001 := by
  unfold parseC
  split
  · exact Nat.zero_le _
  · have := parseL_len (ls := linesP s) (i := 0) (acc := [])
    have := linesP_len (s := s)
    simp only [List.length_nil] at *; omega
theorem fit_nil3 (k a : Int) : FitX (.agg [i64 k, i64 a, .nil]) (.agg [i64 k, i64 a, .sl true 8 []]) := ⟨2, by simp [fitA, fitA.fitL, i64]⟩
theorem words_len {s : List UInt8} : (wordsP s).length ≤ s.length + 1 := by
  unfold wordsP
  exact Nat.le_trans (List.length_filter_le _ _) cutAt_len
theorem words_mem {s w : List UInt8} (h : w ∈ wordsP s) : w.length ≤ s.length := by
  unfold wordsP at h
  exact cutAt_mem (List.mem_filter.1 h).1
theorem c_implParseChanges (s : List UInt8) (hs : s.length ≤ 1048576) : PCtr PP n_impl_ParseChanges [str s] (chgsA (parseC s)) := by
  obtain ⟨Ω, hΩ⟩ : ∃ Ω, Ω = std := ⟨_, rfl⟩
  obtain ⟨F, hF⟩ : ∃ F : List Chg → List A, F = fun l => l.map Chg.enc := ⟨_, rfl⟩
  have hFm : ∀ t : List Chg, t.map Chg.enc = F t := fun t => by rw [hF]
  have hlen : ∀ t, (F t).length = t.length := fun t => by rw [hF, List.length_map]
  have hap : ∀ t x, Ω.app (Ω.take (Ω.len (F t)) (F t)) [x.enc] = F (t ++ [x]) := fun t x => by rw [takeAll hΩ, ← hFm, ← hFm, List.map_append]; subst hΩ; rfl
  have hpl : ∀ t (x : Chg), Ω.plus (Ω.len (F t)) (Ω.len [x.enc]) = Ω.len (F (t ++ [x])) := fun t x => by rw [← hap, takeAll hΩ]; subst hΩ; exact (List.length_append).symm
  have hF0 : F [] = [] := by rw [hF]; rfl
  obtain ⟨R, hR⟩ : ∃ R, R = chgsA (parseC s) := ⟨_, rfl⟩
  rw [← hR]
  unfold chgsA parseC at hR
  have many : 4000 < s.length → R = .agg [i64 2, i64 0, .sl true 8 []] := fun h => by rw [hR, if_pos h]; rfl
  have go : ¬ 4000 < s.length → R = chgsA (parseL (linesP s) 0 []) := fun h => by rw [hR, if_neg h]; rfl
  clear hR
  have hln := linesP_len (s := s)
  have hmem := fun l => linesP_mem (s := s) (l := l)
  have hl : s.length ≤ 4000 → PCtr PP n_impl_linesOf [str s] (.sl false 1 ((linesP s).map str)) := fun h => c_linesOf s (by omega)
  generalize linesP s = ls at *
  obtain ⟨n, hn⟩ : ∃ n, n = ls.length := ⟨_, rfl⟩
  obtain ⟨ys, hys⟩ : ∃ ys, ys = ls.map str := ⟨_, rfl⟩
  have hyl : ys.length = ls.length := by rw [hys, List.length_map]
  rw [← hys] at hl
  have hw := c_wordsOf
  have hrd := c_readChange
  have htab := tab
  refine PCtr.walk tab hΩ fn_impl_ParseChanges rfl ?_
  generalize PP = P at *
  cbv
  refine br (fun h => ?_) (fun h => ?_) <;> cbv
  · have h : 4000 < s.length := by have h := gtZt hΩ h; subst hΩ; have h : (4000 : Int) < (s.length : Int) := h; omega
    rw [many h]
    exact fit_nil3 2 0
  have h4 : s.length ≤ 4000 := by have h := gtZf hΩ h; subst hΩ; have h : (s.length : Int) ≤ 4000 := h; omega
  have hRg := go (by omega)
  replace hl := hl h4
  clear go many
  refine call_share hΩ 3 hl rfl (fits _) rfl ?_
  cbv
  refine loopX htab hΩ (fun i : Nat × List Chg => ⟨[(2, .pt 0 0 0), (3, .vw 1 0 (Ω.len (F i.2))), (14, .sl false 1 ys), (15, i64 (Ω.int (Ω.len ys))), (16, i64 (Ω.int i.1))], 38,
    [some ⟨3, [.agg [i64 0, i64 0, .nil]], true⟩, some ⟨8, F i.2, false⟩]⟩) (fun i => i.1 ≤ n ∧ i.2.length ≤ i.1 ∧ R = chgsA (parseL (ls.drop i.1) i.1 i.2)) (fun i => n - i.1) (0, []) ⟨Nat.zero_le _, Nat.le_refl _, hRg⟩
    (Sbs.mk rfl (by dsimp only; rw [hF0]; rfl) ⟨rfl, by dsimp only; rw [hF0]; subst hΩ; rfl, rfl, rfl, zeroI hΩ, trivial⟩) ?_
  rintro ⟨i, o⟩ ⟨hi, ho, hRi⟩
  dsimp only at hi ho hRi ⊢
  have hol := hlen o
  have hlo : Ω.len (F o) = (F o).length := by subst hΩ; rfl
  have hle : Ω.len (F o) ≤ (F o).length := by rw [hlo]; exact Nat.le_refl _
  have htk : Ω.take (Ω.len (F o)) (F o) = F o := takeAll hΩ _
  cbv
  refine br (fun h => ?_) (fun h => ?_) <;> cbv
  · replace h := ltI hΩ h
    obtain ⟨l, hl⟩ := at_of (cs := ls) (by omega : i < _)
    rw [parseL_at hl] at hRi
    have hll := hmem l (List.mem_of_getElem? hl)
    have hw1 := hw l (by omega)
    have hwl := words_len (s := l)
    have hr1 := hrd (wordsP l) (by omega) (fun w hw => by have := words_mem hw; omega)
    have rw1 := roSS (wordsP l)
    have fw1 := frzStr (wordsP l)
    have lw : Ω.len ((wordsP l).map str) = ((wordsP l).map str).length := by subst hΩ; rfl
    generalize wordsP l = wl at *
    obtain ⟨O, hO⟩ : ∃ O, O = readC wl := ⟨_, rfl⟩
    rw [← hO] at hr1 hRi
    generalize wl.map str = ws at *
    refine ⟨⟨nnI hΩ⟩, _, rdI hΩ hys hl, ?_⟩
    cbv
    refine call_pure hΩ 3 hw1 rfl (fits _) rw1 rfl ?_
    cbv
    refine call_rp hΩ 3 hr1 (mapO1 (ro_vw rfl lw fw1)) (fits _) fun x hx => ?_
    obtain ⟨c, rfl, hc⟩ := hx
    refine ⟨rfl, rfl, ?_⟩
    have hap0 := hap o c
    have hpl0 := hpl o c
    clear hO hr1
    cases O with
    | none =>
      cbv
      refine br (fun h => ?_) (fun h => absurd (notF' hΩ h) (by decide)) <;> cbv
      have e : FitX (.agg [i64 5, i64 (Ω.int i), .nil]) R := by
        rw [hRi]; subst hΩ; exact fit_nil3 5 i
      exact e
    | some d =>
      obtain rfl := hc d rfl
      cbv
      refine br (fun h => absurd (notT' hΩ h) (by decide)) (fun h => ?_) <;> cbv
      exact ⟨⟨rfl, okAll rfl, by show (Ω.len (F o) + 1) * 72 ≤ 140737488355328; omega, by show Ω.len (F o) + 1 ≤ 9223372036854775807; omega⟩,
        (i + 1, o ++ [c]), ⟨by show i + 1 ≤ n; omega, by simp; omega, hRi⟩, by show n - (i + 1) < n - i; omega, (Sbs.cut 2 rfl).trans (Sbs.mk rfl (by show [some (Row.mk 3 [A.agg [i64 0, i64 0, .nil]] true), some (Row.mk 8 (Ω.app (Ω.take (Ω.len (F o)) (F o)) [c.enc]) false)] = _; rw [hap0]) ⟨rfl, congrArg (A.vw 1 0) hpl0, rfl, rfl, incI hΩ (by omega), trivial⟩)⟩
  · replace h := geI hΩ h
    have : i = n := by omega
    subst this
    rw [List.drop_of_length_le (by omega)] at hRi
    have hRi : R = chgsA (0, 0, o) := hRi
    exact ⟨⟨rfl, hle⟩, .of (by rw [hRi]; show A.agg [i64 0, i64 0, .sl true 8 (Ω.take (Ω.len (F o)) (F o))] = A.agg [i64 0, i64 0, .sl true 8 (o.map Chg.enc)]; rw [htk, hFm])⟩
end Go.Proofs.YthlfefblhlmbgaaDoor

/- Walks: lists of changes read from text, the reference's. Plain theorems. -/
set_option linter.unusedVariables false
set_option linter.unusedSimpArgs false
namespace Go.Proofs.YthlfefblhlmbgaaDoor
open Go Go.Fw
set_option maxRecDepth 100000
theorem c_specParseChanges (s : List UInt8) (hs : s.length ≤ 1048576) : PCtr PP n_spec_ParseChanges [str s] (chgsA (parseC s)) := by
  obtain ⟨Ω, hΩ⟩ : ∃ Ω, Ω = std := ⟨_, rfl⟩
  obtain ⟨F, hF⟩ : ∃ F : List Chg → List A, F = fun l => l.map Chg.enc := ⟨_, rfl⟩
  have hFm : ∀ t : List Chg, t.map Chg.enc = F t := fun t => by rw [hF]
  have hlen : ∀ t, (F t).length = t.length := fun t => by rw [hF, List.length_map]
  have hap : ∀ t x, Ω.app (Ω.take (Ω.len (F t)) (F t)) [x.enc] = F (t ++ [x]) := fun t x => by rw [takeAll hΩ, ← hFm, ← hFm, List.map_append]; subst hΩ; rfl
  have hpl : ∀ t (x : Chg), Ω.plus (Ω.len (F t)) (Ω.len [x.enc]) = Ω.len (F (t ++ [x])) := fun t x => by rw [← hap, takeAll hΩ]; subst hΩ; exact (List.length_append).symm
  have hF0 : F [] = [] := by rw [hF]; rfl
  obtain ⟨R, hR⟩ : ∃ R, R = chgsA (parseC s) := ⟨_, rfl⟩
  rw [← hR]
  unfold chgsA parseC at hR
  have many : 4000 < s.length → R = .agg [i64 2, i64 0, .sl true 8 []] := fun h => by rw [hR, if_pos h]; rfl
  have go : ¬ 4000 < s.length → R = chgsA (parseL (linesP s) 0 []) := fun h => by rw [hR, if_neg h]; rfl
  clear hR
  have hln := linesP_len (s := s)
  have hmem := fun l => linesP_mem (s := s) (l := l)
  have hl : s.length ≤ 4000 → PCtr PP n_spec_l2Lines [str s] (.sl false 1 ((linesP s).map str)) := fun h => c_l2Lines s (by omega)
  generalize linesP s = ls at *
  obtain ⟨n, hn⟩ : ∃ n, n = ls.length := ⟨_, rfl⟩
  obtain ⟨ys, hys⟩ : ∃ ys, ys = ls.map str := ⟨_, rfl⟩
  have hyl : ys.length = ls.length := by rw [hys, List.length_map]
  rw [← hys] at hl
  have hw := c_l2Words
  have hrd := c_l15Read
  have htab := tab
  refine PCtr.walk tab hΩ fn_spec_ParseChanges rfl ?_
  generalize PP = P at *
  cbv
  refine br (fun h => ?_) (fun h => ?_) <;> cbv
  · have h : 4000 < s.length := by have h := gtZt hΩ h; subst hΩ; have h : (4000 : Int) < (s.length : Int) := h; omega
    rw [many h]
    exact fit_nil3 2 0
  have h4 : s.length ≤ 4000 := by have h := gtZf hΩ h; subst hΩ; have h : (s.length : Int) ≤ 4000 := h; omega
  have hRg := go (by omega)
  replace hl := hl h4
  clear go many
  refine call_share hΩ 3 hl rfl (fits _) rfl ?_
  cbv
  refine loopX htab hΩ (fun i : Nat × List Chg => ⟨[(2, .pt 0 0 0), (3, .sl false 1 ys), (4, .pt 1 0 0), (5, i64 (Ω.int i.1))], 41,
    [some ⟨3, [.agg [i64 0, i64 0, .nil]], true⟩, some ⟨3, [.agg [i64 0, i64 0, .vw 2 0 (Ω.len (F i.2))]], true⟩, some ⟨8, F i.2, false⟩]⟩) (fun i => i.1 ≤ n ∧ i.2.length ≤ i.1 ∧ R = chgsA (parseL (ls.drop i.1) i.1 i.2)) (fun i => n - i.1) (0, []) ⟨Nat.zero_le _, Nat.le_refl _, hRg⟩
    (Sbs.trans (Sbs.nilCell (r := 1) (j := 0) (q := 2) (n := 8) rfl rfl rfl) (Sbs.mk rfl (by dsimp only; rw [hF0]; subst hΩ; rfl) ⟨rfl, rfl, rfl, zeroI hΩ, trivial⟩)) ?_
  rintro ⟨i, o⟩ ⟨hi, ho, hRi⟩
  dsimp only at hi ho hRi ⊢
  have hol := hlen o
  have hlo : Ω.len (F o) = (F o).length := by subst hΩ; rfl
  have hle : Ω.len (F o) ≤ (F o).length := by rw [hlo]; exact Nat.le_refl _
  have htk : Ω.take (Ω.len (F o)) (F o) = F o := takeAll hΩ _
  cbv
  refine br (fun h => ?_) (fun h => ?_) <;> cbv
  · replace h := ltI hΩ h
    obtain ⟨l, hl⟩ := at_of (cs := ls) (by omega : i < _)
    rw [parseL_at hl] at hRi
    have hll := hmem l (List.mem_of_getElem? hl)
    have hw1 := hw l (by omega)
    have hwl := words_len (s := l)
    have hr1 := hrd (wordsP l) (by omega) (fun w hw => by have := words_mem hw; omega)
    have rw1 := roSS (wordsP l)
    have fw1 := frzStr (wordsP l)
    have lw : Ω.len ((wordsP l).map str) = ((wordsP l).map str).length := by subst hΩ; rfl
    generalize wordsP l = wl at *
    obtain ⟨O, hO⟩ : ∃ O, O = readC wl := ⟨_, rfl⟩
    rw [← hO] at hr1 hRi
    generalize wl.map str = ws at *
    refine ⟨⟨nnI hΩ⟩, _, rdI hΩ hys hl, ?_⟩
    cbv
    refine call_pure hΩ 3 hw1 rfl (fits _) rw1 rfl ?_
    cbv
    refine call_rp hΩ 3 hr1 (mapO1 (ro_vw rfl lw fw1)) (fits _) fun x hx => ?_
    obtain ⟨c, rfl, hc⟩ := hx
    refine ⟨rfl, rfl, ?_⟩
    have hap0 := hap o c
    have hpl0 := hpl o c
    clear hO hr1
    cases O with
    | none =>
      cbv
      refine br (fun h => ?_) (fun h => absurd (notF' hΩ h) (by decide)) <;> cbv
      have e : FitX (.agg [i64 5, i64 (Ω.int i), .nil]) R := by
        rw [hRi]; subst hΩ; exact fit_nil3 5 i
      exact e
    | some d =>
      obtain rfl := hc d rfl
      cbv
      refine br (fun h => absurd (notT' hΩ h) (by decide)) (fun h => ?_) <;> cbv
      exact ⟨⟨rfl, okAll rfl, by show (Ω.len (F o) + 1) * 72 ≤ 140737488355328; omega, by show Ω.len (F o) + 1 ≤ 9223372036854775807; omega⟩,
(i + 1, o ++ [c]), ⟨by show i + 1 ≤ n; omega, by simp; omega, hRi⟩, by show n - (i + 1) < n - i; omega, (Sbs.cut 3 rfl).trans (Sbs.mk rfl (by show [some (Row.mk 3 [A.agg [i64 0, i64 0, .nil]] true), some (Row.mk 3 [A.agg [i64 0, i64 0, .vw 2 0 (Ω.plus (Ω.len (F o)) (Ω.len [c.enc]))]] true), some (Row.mk 8 (Ω.app (Ω.take (Ω.len (F o)) (F o)) [c.enc]) false)] = _; rw [hap0, hpl0]) ⟨rfl, rfl, rfl, incI hΩ (by omega), trivial⟩)⟩
  · replace h := geI hΩ h
    have : i = n := by omega
    subst this
    rw [List.drop_of_length_le (by omega)] at hRi
    have hRi : R = chgsA (0, 0, o) := hRi
    exact ⟨⟨rfl, hle⟩, .of (by rw [hRi]; show A.agg [i64 0, i64 0, .sl true 8 (Ω.take (Ω.len (F o)) (F o))] = A.agg [i64 0, i64 0, .sl true 8 (o.map Chg.enc)]; rw [htk, hFm])⟩
end Go.Proofs.YthlfefblhlmbgaaDoor

/- The law of ParseChanges, walked. Plain theorems. -/
set_option linter.unusedVariables false
set_option linter.unusedSimpArgs false
namespace Go.Proofs.YthlfefblhlmbgaaDoor
open Go Go.Fw
set_option maxRecDepth 100000
theorem c_lawParseChanges (s : List UInt8) (hm : s.length ≤ maxLen) : PCtr PP n_laws_FnExactParseChanges [str s] (boo true) := by
  obtain ⟨Ω, hΩ⟩ : ∃ Ω, Ω = std := ⟨_, rfl⟩
  obtain ⟨⟨kk, aa, g⟩, hg⟩ : ∃ z, z = parseC s := ⟨_, rfl⟩
  have hgl : g.length ≤ 4001 := by have := parseC_len (s := s); rw [← hg] at this; exact this
  obtain ⟨zs, hzs⟩ : ∃ zs, zs = g.map Chg.enc := ⟨_, rfl⟩
  have hzl : zs.length = g.length := by rw [hzs, List.length_map]
  have hzf : zs.map frz = zs := by rw [hzs, List.map_map]; exact List.map_congr_left fun c _ => rfl
  have rz : roFree (.agg [i64 kk, i64 aa, .sl true 8 zs]) = true := by rw [hzs]; exact roF_chgR _ _ _
  obtain ⟨n, hn⟩ : ∃ n, n = g.length := ⟨_, rfl⟩
  obtain ⟨m3, hm3⟩ : ∃ m3 : Int, m3 = 1 + 8 * (n : Nat) := ⟨_, rfl⟩
  obtain ⟨bs, hbs⟩ : ∃ bs, bs = (marksC 1 n).map Chg.enc := ⟨_, rfl⟩
  have hbl : bs.length = zs.length := by rw [hbs, hzl, List.length_map, marksC_length, hn]
  have hbf : bs.map frz = bs := by rw [hbs, List.map_map]; exact List.map_congr_left fun c _ => rfl
  have hm30 : 0 ≤ m3 := by omega
  have a5 := c_eqChangesResult kk aa g (by omega)
  have b1 := c_markChangesResult kk aa g 1 (by omega) (by omega) (by omega)
  have b2 := c_heldChangesResult kk aa n 1 (by omega) (by omega) (by omega)
  have H : s.length ≤ 1048576 → PCtr PP n_spec_ParseChanges [str s] (.agg [i64 kk, i64 aa, .sl true 8 zs]) ∧ PCtr PP n_impl_ParseChanges [str s] (.agg [i64 kk, i64 aa, .sl true 8 zs]) := fun h => by
    have h1 := c_specParseChanges s h
    have h2 := c_implParseChanges s h
    rw [← hg] at h1 h2
    unfold chgsA at h1 h2
    dsimp only at h1 h2
    rw [← hzs] at h1 h2
    exact ⟨h1, h2⟩
  rw [← hzs] at a5 b1
  rw [← hn, ← hm3, ← hbs] at b1
  rw [← hm3, ← hbs] at b2
  clear hg hzs hbs
  have lz : Ω.len zs = zs.length := by subst hΩ; rfl
  have lb : Ω.len zs = bs.length := lz.trans hbl.symm
  have htab := tab
  refine PCtr.walk tab hΩ fn_laws_FnExactParseChanges rfl ?_
  generalize PP = P at *
  cbv
  refine br (fun h => ?_) (fun h => ?_) <;> cbv
  · exact .same
  have hs : s.length ≤ 1048576 := by have h := gtZf hΩ h; subst hΩ; have h : (s.length : Int) ≤ 1048576 := h; omega
  obtain ⟨a3, a4⟩ := H hs
  clear H
  refine call_pure hΩ 3 a3 rfl (fits _) rz rfl ?_
  cbv
  refine call_pure hΩ 3 a4 rfl (fits _) rz rfl ?_
  cbv
  refine call_pure hΩ 3 a5 (mapO2 (ro_agg3 rfl rfl (ro_vw rfl lz hzf)) (ro_agg3 rfl rfl (ro_vw rfl lz hzf))) (fits _) rfl rfl ?_
  cbv
  refine br (fun h => (notT hΩ h).elim) (fun h => ?_)
  cbv
  refine call_mut hΩ 3 (l := ([] ++ ([] ++ ([(2, bs)] ++ []))) ++ ([] ++ [])) b1 (.cons (.agg (.cons (.data rfl rfl) (.cons (.data rfl rfl) (.cons (mutVw rfl lz hbl) .nil)))) (.cons (.data rfl rfl) .nil)) (by simp) rfl ?_
  cbv
  refine call_pure hΩ 3 b2 (mapO2 (ro_agg3 rfl rfl (ro_vw rfl lb hbf)) rfl) (fits _) rfl rfl ?_
  cbv
  refine br (fun h => absurd (ltI_t hΩ h) (Int.not_lt.2 hm30)) (fun h => ?_)
  cbv
  refine br (fun h => (ne_self hΩ h).elim) (fun h => ?_)
  cbv
  refine call_pure hΩ 3 a4 rfl (fits _) rz rfl ?_
  cbv
  refine call_pure hΩ 3 a5 (mapO2 (ro_agg3 rfl rfl (ro_vw rfl lz hzf)) (ro_agg3 rfl rfl (ro_vw rfl lz hzf))) (fits _) rfl rfl ?_
  cbv
  refine br (fun h => (notT hΩ h).elim) (fun h => ?_)
  cbv
  refine call_pure hΩ 3 b2 (mapO2 (ro_agg3 rfl rfl (ro_vw rfl lb hbf)) rfl) (fits _) rfl rfl ?_
  cbv
  refine br (fun h => absurd (ltI_t hΩ h) (Int.not_lt.2 hm30)) (fun h => ?_)
  cbv
  refine br (fun h => (ne_self hΩ h).elim) (fun h => ?_)
  cbv
  exact .same
end Go.Proofs.YthlfefblhlmbgaaDoor

/- What a reading of an argument says of it: it is read-only plain data. Plain theorems, no condition. -/
set_option linter.unusedVariables false
set_option linter.unusedSimpArgs false
namespace Go.Fw
/-- Types of plain data. -/
inductive Ty where
  | int (k : IntKind)
  | bool
  | str
  | sl (e : Ty)
  | st (fs : List Ty)
mutual
def Ty.n : Ty → Nat
  | .st fs => Ty.nL fs
  | .int _ => 1
  | .bool => 1
  | .str => 1
  | .sl _ => 1
def Ty.nL : List Ty → Nat
  | [] => 0
  | x :: xs => x.n + Ty.nL xs
end
def Ty.elem (e : Ty) (cs : List A) : A :=
  match e with
  | .st _ => .agg cs
  | _ => cs.headD .un
mutual
def TyOK (P : Program) : Ty → TypeId → Prop
  | .int k, t => P.underlying t = some (.int k)
  | .bool, t => P.underlying t = some .bool
  | .str, t => P.underlying t = some .string
  | .sl e, t => ∃ te, P.underlying t = some (.slice te) ∧ P.cellsOf te = e.n ∧ Nat.ble 1 e.n = true ∧ TyOK P e te
  | .st fs, t => ∃ f, P.underlying t = some (.struct f) ∧ P.cellsOf t = Ty.nL fs ∧ TysOK P 0 fs f.toList
def TysOK (P : Program) : Nat → List Ty → List Field → Prop
  | _, [], [] => True
  | o, x :: xs, f :: fs => f.offset = o ∧ P.cellsOf f.type = x.n ∧ TyOK P x f.type ∧ TysOK P (o + x.n) xs fs
  | _, _, _ => False
end
mutual
inductive Shp : Ty → List A → Prop
  | int {k : IntKind} {n : Int} (h : (Lit.int k n).wf = true) : Shp (.int k) [.sc (.int k n)]
  | bool {b : Bool} : Shp .bool [.sc (.bool b)]
  | str {s : List UInt8} (h : s.length ≤ maxLen) : Shp .str [.sc (.string (mkS s))]
  | sl {e : Ty} {ys : List A} (h : ∀ y ∈ ys, Shp e y.cells) (h2 : ∀ y ∈ ys, y = e.elem y.cells) (hl : ys.length ≤ maxLen) : Shp (.sl e) [.sl false e.n ys]
  | st {fs : List Ty} {xs : List A} (h : ShpL fs xs) : Shp (.st fs) xs
inductive ShpL : List Ty → List A → Prop
  | nil : ShpL [] []
  | cons {t : Ty} {ts : List Ty} {xs ys : List A} (h : Shp t xs) (hl : ShpL ts ys) : ShpL (t :: ts) (xs ++ ys)
end
mutual
theorem Shp.length : ∀ {t : Ty} {xs : List A}, Shp t xs → xs.length = t.n
  | _, _, .int _ => rfl
  | _, _, .bool => rfl
  | _, _, .str _ => rfl
  | _, _, .sl _ _ _ => rfl
  | _, _, .st h => by rw [Ty.n]; exact h.length
theorem ShpL.length : ∀ {ts : List Ty} {xs : List A}, ShpL ts xs → xs.length = Ty.nL ts
  | _, _, .nil => rfl
  | _, _, .cons h hl => by rw [List.length_append, h.length, hl.length, Ty.nL]
end
theorem elem_cells {e : Ty} {cs : List A} (h : Shp e cs) : (e.elem cs).cells = cs := by
  cases h <;> rfl
theorem cells_list {w : World} {base : Nat} {a : Addr} {n : Nat} {cs : List Value} (h : w.cells? base a n = some cs) (hn : 0 < n) :
    ∃ cur e fr, w.heap[a.block]? = some (.cells cur e fr) ∧ a.spot = none ∧ cs = (cur.toList.drop a.off).take n ∧ cs.length = n := by
  unfold World.cells? at h
  split at h <;> try simp at h
  have hget : ∀ (l : List Nat) (r : List Value), l.mapM (fun i => w.cell? (a.add i)) = some r → r.length = l.length ∧ ∀ (j i : Nat), l[j]? = some i → ∃ v, r[j]? = some v ∧ w.cell? (a.add i) = some v := by
    intro l
    induction l with
    | nil => intro r h; simp at h; subst h; simp
    | cons x l ih =>
      intro r h
      simp only [List.mapM_cons, Option.bind_eq_bind, Option.pure_def, Option.bind_eq_some_iff, Option.some.injEq] at h
      obtain ⟨v, hv, r', hr', rfl⟩ := h
      obtain ⟨h1, h2⟩ := ih r' hr'
      refine ⟨by simp [h1], fun j i hj => ?_⟩
      cases j with
      | zero => simp at hj; subst hj; exact ⟨v, rfl, hv⟩
      | succ j => simpa using h2 j i (by simpa using hj)
  obtain ⟨hl, hat⟩ := hget _ _ h
  rw [List.length_range] at hl
  obtain ⟨v0, _, hv0⟩ := hat 0 0 (by rw [List.getElem?_range hn])
  have hblk : ∀ i, (a.add i).block = a.block := fun i => by unfold Addr.add; split <;> rfl
  unfold World.cell? at hv0
  rw [hblk] at hv0
  split at hv0 <;> try simp at hv0
  rename_i cur e fr hh
  have hsp : a.spot = none := by
    cases hs : a.spot with
    | none => rfl
    | some s => simp [Addr.add, hs] at hv0
  refine ⟨cur, e, fr, hh, hsp, ?_, hl⟩
  have ha : a = ⟨a.block, a.off, none⟩ := by cases a; simp at hsp; subst hsp; rfl
  have hcell : ∀ i, w.cell? (a.add i) = cur[a.off + i]? := fun i => by rw [ha, add_none, cell_at hh]
  have hlen : a.off + n ≤ cur.size := by
    obtain ⟨v, _, hv⟩ := hat (n - 1) (n - 1) (by rw [List.getElem?_range (by omega)])
    rw [hcell] at hv
    have := (Array.getElem?_eq_some_iff.1 hv).1
    omega
  apply List.ext_getElem?
  intro j
  by_cases hj : j < n
  · obtain ⟨v, hv1, hv2⟩ := hat j j (by rw [List.getElem?_range hj])
    rw [hv1, List.getElem?_take_of_lt hj, List.getElem?_drop]
    rw [hcell] at hv2
    simpa using hv2.symm
  · rw [List.getElem?_eq_none (by omega), List.getElem?_eq_none (by simp; omega)]
theorem add_block (a : Addr) (i : Nat) : (a.add i).block = a.block := by unfold Addr.add; split <;> rfl
theorem rows_rel {w : World} {G : Nat → Prop} {n : Nat} {X : Nat → List A} {l : List Value} : ∀ len : Nat, (∀ i, i < len → RelL w G (X i) ((l.drop (i * n)).take n) []) → RelL w G ((List.range len).flatMap X) (l.take (len * n)) []
  | 0, _ => by simpa using RelL.nil
  | len + 1, h => by
    have h1 := rows_rel (X := X) len fun i hi => h i (by omega)
    have h2 := h1.append (h len (by omega))
    rw [List.range_succ, List.flatMap_append, Nat.succ_mul, List.take_add]
    simpa using h2
mutual
theorem trod_rel {H : Type} {enc : TypeId × Value → H} {P : Program} {w : World} {base : Nat} {sp : Nat → Bool} {held : Bool} (hsp : ∀ b, sp b = true) :
    ∀ (ty : Ty) (t : TypeId) (fuel : Nat) (cs : List Value) (x : DataW H × List MemPlace), TyOK P ty t → DataW.trod enc P w base sp held fuel t cs = some x → ∃ xs, RelL w (Old w) xs cs [] ∧ Shp ty xs
  | .int k, t, 0, cs, x, hu, h => by simp [DataW.trod] at h
  | .int k, t, fuel + 1, cs, x, hu, h => by
    have hu : P.underlying t = some (.int k) := hu
    unfold DataW.trod at h
    rw [hu] at h
    split at h <;> try simp_all
    obtain ⟨⟨rfl, hw⟩, _⟩ := h
    exact ⟨_, .cons (F := []) (Fs := []) (.sc rfl) .nil, .int hw⟩
  | .bool, t, 0, cs, x, hu, h => by simp [DataW.trod] at h
  | .bool, t, fuel + 1, cs, x, hu, h => by
    have hu : P.underlying t = some .bool := hu
    unfold DataW.trod at h
    rw [hu] at h
    split at h <;> try simp_all
    exact ⟨_, .cons (F := []) (Fs := []) (.sc rfl) .nil, .bool⟩
  | .str, t, 0, cs, x, hu, h => by simp [DataW.trod] at h
  | .str, t, fuel + 1, cs, x, hu, h => by
    have hu : P.underlying t = some .string := hu
    unfold DataW.trod at h
    rw [hu] at h
    split at h <;> try simp_all
    rename_i s
    refine ⟨[.sc (.string (mkS (bs s)))], .cons (F := []) (Fs := []) (.sc rfl) .nil, .str ?_⟩
    rw [bs_length]; exact h.1
  | .sl e, t, fuel, cs, x, hu, h => by
    obtain ⟨te, hu, hc, hpos, hte⟩ := hu
    have hpos := Nat.le_of_ble_eq_true hpos
    rcases Go.Deep.open_slice hu h with ⟨rfl, _⟩ | ⟨a, len, cap, m, n, D, Pl, rfl, _, hl, hm, hmm, _, hel⟩
    · exact ⟨[.sl false e.n []], .cons (F := []) (Fs := []) .nils .nil, .sl (by simp) (by simp) (by simp)⟩
    · rw [hsp, if_pos rfl] at hmm
      subst hmm
      rw [hc] at hel
      by_cases hm0 : m = 0
      · subst hm0
        have : len = 0 := by omega
        subst this
        exact ⟨[.sl false e.n []], .cons (F := []) (Fs := []) .roz .nil, .sl (by simp) (by simp) (by simp)⟩
      · obtain ⟨cs0, hc0, _⟩ := hel 0 (by omega)
        obtain ⟨cur, et, fr, hh, hspot, _, _⟩ := cells_list hc0 hpos
        rw [add_block] at hh
        have hspot' : a.spot = none := by
          cases hs : a.spot with
          | none => rfl
          | some s => simp [Addr.add, hs] at hspot
        have ha : a = ⟨a.block, a.off, none⟩ := by cases a; simp at hspot'; subst hspot'; rfl
        have hX : ∀ i, i < m → ∃ xs, RelL w (Old w) xs ((cur.toList.drop (a.off + i * e.n)).take e.n) [] ∧ Shp e xs := fun i hi => by
          obtain ⟨csi, hci, hti⟩ := hel i hi
          obtain ⟨cur', et', fr', hh', _, hcs, _⟩ := cells_list hci hpos
          rw [add_block, hh] at hh'
          simp only [Option.some.injEq, Obj.cells.injEq] at hh'
          obtain ⟨rfl, _, _⟩ := hh'
          obtain ⟨xs, h1, h2⟩ := trod_rel hsp e te n csi _ hte hti
          refine ⟨xs, ?_, h2⟩
          rw [hcs] at h1
          have : (a.add (i * e.n)).off = a.off + i * e.n := by rw [ha, add_none]
          rw [this] at h1
          exact h1
        let X : Nat → List A := fun i => if h : i < m then Classical.choose (hX i h) else []
        have hX1 : ∀ i, i < m → RelL w (Old w) (X i) ((cur.toList.drop (a.off + i * e.n)).take e.n) [] ∧ Shp e (X i) := fun i hi => by
          have : X i = Classical.choose (hX i hi) := by simp only [X]; rw [dif_pos hi]
          rw [this]; exact Classical.choose_spec (hX i hi)
        have hmem : ∀ y ∈ (List.range len).map fun i => e.elem (X i), Shp e y.cells ∧ y = e.elem y.cells := fun y hy => by
          obtain ⟨i, hi, rfl⟩ := List.mem_map.1 hy
          have hi := List.mem_range.1 hi
          have hs := (hX1 i (by omega)).2
          rw [elem_cells hs]
          exact ⟨hs, rfl⟩
        refine ⟨[.sl false e.n ((List.range len).map fun i => e.elem (X i))], .cons (F := []) (Fs := []) ?_ .nil, .sl (fun y hy => (hmem y hy).1) (fun y hy => (hmem y hy).2) (by simp; omega)⟩
        have hlt : a.block < w.heap.size := (Array.getElem?_eq_some_iff.1 hh).1
        rw [ha]
        refine .ro hh hlt (fun y hy => ?_) (by simp) rfl ?_ (by omega) (by omega)
        · have := (hmem y hy).1.length
          exact this
        · have hf : flat ((List.range len).map fun i => e.elem (X i)) = (List.range len).flatMap X := by
            unfold flat
            rw [List.flatMap_map]
            have : ∀ l : List Nat, (∀ i ∈ l, i < m) → l.flatMap (fun i => (e.elem (X i)).cells) = l.flatMap X := by
              intro l
              induction l with
              | nil => intro _; rfl
              | cons i l ih =>
                intro hl
                rw [List.flatMap_cons, List.flatMap_cons, ih fun j hj => hl j (by simp [hj]), elem_cells (hX1 i (hl i (by simp))).2]
            exact this _ fun i hi => by have := List.mem_range.1 hi; omega
          rw [hf]
          refine rows_rel len fun i hi => ?_
          have := (hX1 i (by omega)).1
          rw [← List.drop_drop] at this
          exact this
  | .st fs, t, 0, cs, x, hu, h => by simp [DataW.trod] at h
  | .st fs, t, fuel + 1, cs, x, hu, h => by
    obtain ⟨f, hu, hc, hfs⟩ := hu
    unfold DataW.trod at h
    rw [hu] at h
    simp only at h
    split at h <;> try simp at h
    rename_i hlen
    obtain ⟨ys, hys, _⟩ := h
    obtain ⟨xs, h1, h2⟩ := trod_rels hsp fs f.toList fuel 0 cs ys hfs (by rw [hlen, hc]; omega) hys
    exact ⟨xs, by simpa using h1, .st h2⟩
theorem trod_rels {H : Type} {enc : TypeId × Value → H} {P : Program} {w : World} {base : Nat} {sp : Nat → Bool} {held : Bool} (hsp : ∀ b, sp b = true) :
    ∀ (tys : List Ty) (fs : List Field) (fuel o : Nat) (cs : List Value) (ys : List (DataW H × List MemPlace)), TysOK P o tys fs → cs.length = o + Ty.nL tys →
      fs.mapM (fun f => DataW.trod enc P w base sp held fuel f.type ((cs.drop f.offset).take (P.cellsOf f.type))) = some ys → ∃ xs, RelL w (Old w) xs (cs.drop o) [] ∧ ShpL tys xs
  | [], [], fuel, o, cs, ys, _, hl, _ => ⟨[], by rw [List.drop_eq_nil_of_le (by rw [hl, Ty.nL]; omega)]; exact .nil, .nil⟩
  | [], _ :: _, fuel, o, cs, ys, hu, hl, h => hu.elim
  | _ :: _, [], fuel, o, cs, ys, hu, hl, h => hu.elim
  | ty :: tys, f :: fs, fuel, o, cs, ys, hu, hl, h => by
    obtain ⟨ho, hc, ht, hts⟩ := hu
    simp only [List.mapM_cons, Option.bind_eq_bind, Option.pure_def, Option.bind_eq_some_iff, Option.some.injEq] at h
    obtain ⟨y, hy, ys', hys', _⟩ := h
    rw [ho, hc] at hy
    obtain ⟨xs1, h1, h2⟩ := trod_rel hsp ty f.type fuel _ _ ht hy
    rw [Ty.nL] at hl
    obtain ⟨xs2, h3, h4⟩ := trod_rels hsp tys fs fuel (o + ty.n) cs ys' hts (by omega) hys'
    refine ⟨xs1 ++ xs2, ?_, .cons h2 h4⟩
    have := h1.append h3
    rw [← List.drop_drop, List.take_append_drop] at this
    simpa using this
end
end Go.Fw

/- The closing of a law's row. Plain theorems, no condition. -/
set_option linter.unusedVariables false
set_option linter.unusedSimpArgs false
namespace Go.Fw
open Go.ChangeShapes Go.WideShapes Go.ChangeAt Go.RowKit
def PlainT (P : Program) (t : TypeId) : Prop := ∃ ty, TyOK P ty t
theorem tys_fields {P : Program} : ∀ {tys : List Ty} {fs : List Field} {o : Nat}, TysOK P o tys fs → (∀ f ∈ fs, PlainT P f.type) ∧ Ty.nL tys = (fs.map fun f => P.cellsOf f.type).sum ∧
    ∀ (j : Nat) f, fs[j]? = some f → f.offset = o + ((fs.take j).map fun f => P.cellsOf f.type).sum
  | [], [], o, _ => ⟨by simp, rfl, by simp⟩
  | [], _ :: _, o, h => h.elim
  | _ :: _, [], o, h => h.elim
  | ty :: tys, f :: fs, o, h => by
    obtain ⟨h1, h2, h3, h4⟩ := h
    obtain ⟨g1, g2, g3⟩ := tys_fields h4
    refine ⟨fun f' hf => ?_, by rw [Ty.nL, g2, ← h2]; simp, fun j f' hj => ?_⟩
    · rcases List.mem_cons.1 hf with rfl | hf
      · exact ⟨ty, h3⟩
      · exact g1 f' hf
    · cases j with
      | zero => simp at hj; subst hj; simp [h1]
      | succ j =>
        have := g3 j f' (by simpa using hj)
        rw [this, ← h2]; simp; omega
theorem kids (P : Program) : Kids P (PlainT P) := by
  refine ⟨?_, ?_, ?_, ?_, ?_⟩
  · rintro t e ⟨ty, h⟩ hu
    cases ty with
    | sl _ => obtain ⟨te, h, _⟩ := h; rw [hu] at h; simp at h
    | st _ => obtain ⟨f, h, _⟩ := h; rw [hu] at h; simp at h
    | _ => rw [TyOK, hu] at h; simp at h
  · rintro t e ⟨ty, h⟩ hu
    cases ty with
    | sl e' => obtain ⟨te, h, _, _, h2⟩ := h; rw [hu] at h; simp at h; subst h; exact ⟨e', h2⟩
    | st _ => obtain ⟨f, h, _⟩ := h; rw [hu] at h; simp at h
    | _ => rw [TyOK, hu] at h; simp at h
  · rintro t e n ⟨ty, h⟩ hu
    cases ty with
    | sl _ => obtain ⟨te, h, _⟩ := h; rw [hu] at h; simp at h
    | st _ => obtain ⟨f, h, _⟩ := h; rw [hu] at h; simp at h
    | _ => rw [TyOK, hu] at h; simp at h
  · rintro t fs ⟨ty, h⟩ hu
    cases ty with
    | sl _ => obtain ⟨te, h, _⟩ := h; rw [hu] at h; simp at h
    | st tys =>
      obtain ⟨f, h, hc, hts⟩ := h
      rw [hu] at h
      simp at h
      subst h
      obtain ⟨g1, g2, g3⟩ := tys_fields hts
      exact ⟨g1, by rw [hc, g2], fun j f hj => by rw [g3 j f hj, Nat.zero_add]⟩
    | _ => rw [TyOK, hu] at h; simp at h
  · rintro t k e ⟨ty, h⟩ hu
    cases ty with
    | sl _ => obtain ⟨te, h, _⟩ := h; rw [hu] at h; simp at h
    | st _ => obtain ⟨f, h, _⟩ := h; rw [hu] at h; simp at h
    | _ => rw [TyOK, hu] at h; simp at h
theorem plain_sz {P : Program} {t e : TypeId} (h : PlainT P t) (hu : P.underlying t = some (.slice e)) : 0 < P.cellsOf e := by
  obtain ⟨ty, h⟩ := h
  cases ty with
  | sl _ => obtain ⟨te, h, hc, hb, _⟩ := h; rw [hu] at h; simp at h; subst h; rw [hc]; exact Nat.le_of_ble_eq_true hb
  | st _ => obtain ⟨f, h, _⟩ := h; rw [hu] at h; simp at h
  | _ => rw [TyOK, hu] at h; simp at h
section
variable {H : Type} {enc : TypeId × Value → H} {P : Program}
theorem stays_all {W W' : World} {sp' : Nat → Bool} : ∀ {ts : List TypeId} {vs : List Value} {ds : List (DataW H)} {ps : List MemPlace}, (∀ t ∈ ts, PlainT P t) → DataW.TrodAll enc P W 0 (fun _ => true) true ts vs ds ps →
    (∀ p ∈ ps, W.sameAt W' p) → (∀ p ∈ ps, sp' p.block = true) → DataW.TrodAll enc P W' 0 sp' true ts vs ds ps
  | [], [], [], ps, _, h, _, _ => h
  | t :: ts, v :: vs, d :: ds, ps, ht, h, hsame, hs => by
    obtain ⟨p, q, ⟨n, hn⟩, hl, rfl⟩ := h
    refine ⟨p, q, ⟨n, ?_⟩, stays_all (fun t h => ht t (by simp [h])) hl (fun x hx => hsame x (by simp [hx])) (fun x hx => hs x (by simp [hx])), rfl⟩
    exact DataW.trod_stays (kids P) plain_sz (by simp) (ht t (by simp)) hn (fun x hx => hsame x (by simp [hx])) (fun x hx => hs x (by simp [hx]))
theorem post_law {f : Func} {s : ChangeSpec} {apart fresh handsOn again : Bool} {W W' : World} {args : Array Value} {ds gs : List (DataW H)} {before : List MemPlace} {tb : TypeId} (hsv : s.vars = [])
    (hW : DataW.Whole enc P f.params.toList s.vars apart W args.toList ds gs before) (htys : ∀ t ∈ f.params.toList, PlainT P t) (hrt : f.resultTypes = #[tb]) (hub : P.underlying tb = some .bool)
    (hfn : s.fn H (ds ++ gs) = { results := [.lit (.bool true)], args := ds }) (hb : Below W.heap.size W W') : s.post enc P f apart fresh handsOn again W args (.bool true) W' := by
  have hW0 := hW
  obtain ⟨p, q, hA, hV, rfl, hfz, hnd⟩ := hW
  rw [hsv] at hV
  obtain ⟨rfl, rfl⟩ := trodVars_none hV
  rw [List.append_nil] at hfz hnd hW0
  have hlt := hW0.lt
  have hsame : ∀ x ∈ p, W.sameAt W' x := fun x hx => hb.same (hlt x hx)
  have hres : ∀ (b : Nat) (sp : Nat → Bool) (hd : Bool), DataW.TrodAll enc P W' b sp hd f.resultTypes.toList ((Value.bool true).resultList f.resultTypes.size) (s.fn H (ds ++ [])).results [] := fun b sp hd => by
    rw [hfn, hrt]
    exact trodAll_cons_mk (shut_bool hub _) trodAll_mk0
  have hargs : ∀ sp : Nat → Bool, (∀ x ∈ p, sp x.block = true) → DataW.TrodAll enc P W' 0 sp true f.params.toList args.toList (s.fn H (ds ++ [])).args p := fun sp hs => by
    rw [hfn]; exact stays_all htys hA hsame hs
  have hvars : ∀ sp : Nat → Bool, DataW.TrodVars enc P W' sp s.vars (s.fn H (ds ++ [])).vars [] := fun sp => by rw [hfn, hsv]; rfl
  have hold : ∀ x ∈ p, (fun b => decide (b < W.heap.size)) x.block = true := fun x hx => by simpa using hlt x hx
  refine ⟨ds, [], p, [], p, [], hW0, hres _ _ _, hargs _ hold, hvars _, World.keptBut_mono (fun x hx => ⟨hx, .inr (.inl hx)⟩) (hb.frame (· ∈ p)), fun _ => ?_⟩
  refine ⟨?_, _, _, ([] ++ p) ++ [], ⟨[] ++ p, [], trodAll_append (hargs _ (fun _ _ => rfl)) (hres 0 (fun _ => true) true), hvars _, rfl, ?_, ?_⟩, ?_⟩
  · intro j t r h1 h2
    exact ok_one (v := .bool true) hrt rfl (okWide_bool_mk hub true) j t r h1 h2
  · intro b off hp
    have hp' : MemPlace.cell b off ∈ p := by simpa using hp
    rw [hb.frozen (p := ⟨b, off, none⟩) (hlt _ hp')]
    exact hfz b off hp'
  · intro ha
    simpa using hnd ha
  · intro x hx _
    simpa using hx
end
mutual
def tyChk (P : Program) : Ty → TypeId → Bool
  | .int k, t => match P.underlying t with | some (.int k') => decide (k' = k) | _ => false
  | .bool, t => match P.underlying t with | some .bool => true | _ => false
  | .str, t => match P.underlying t with | some .string => true | _ => false
  | .sl e, t => match P.underlying t with | some (.slice te) => P.cellsOf te == e.n && (Nat.ble 1 e.n && tyChk P e te) | _ => false
  | .st fs, t => match P.underlying t with | some (.struct f) => P.cellsOf t == Ty.nL fs && tysChk P 0 fs f.toList | _ => false
def tysChk (P : Program) : Nat → List Ty → List Field → Bool
  | _, [], [] => true
  | o, x :: xs, f :: fs => f.offset == o && (P.cellsOf f.type == x.n && (tyChk P x f.type && tysChk P (o + x.n) xs fs))
  | _, _, _ => false
end
mutual
theorem tyChk_ok {P : Program} : ∀ (ty : Ty) (t : TypeId), tyChk P ty t = true → TyOK P ty t
  | .int k, t, h => by
    rw [tyChk] at h; split at h <;> try simp at h
    rename_i hu; subst h; rw [TyOK]; exact hu
  | .bool, t, h => by
    rw [tyChk] at h; split at h <;> try simp at h
    rename_i hu; rw [TyOK]; exact hu
  | .str, t, h => by
    rw [tyChk] at h; split at h <;> try simp at h
    rename_i hu; rw [TyOK]; exact hu
  | .sl e, t, h => by
    rw [tyChk] at h; split at h <;> try simp at h
    rename_i te hu; rw [TyOK]
    exact ⟨te, hu, h.1, by simpa using h.2.1, tyChk_ok e te h.2.2⟩
  | .st fs, t, h => by
    rw [tyChk] at h; split at h <;> try simp at h
    rename_i f hu; rw [TyOK]
    exact ⟨f, hu, h.1, tysChk_ok fs _ _ h.2⟩
theorem tysChk_ok {P : Program} : ∀ (tys : List Ty) (o : Nat) (fs : List Field), tysChk P o tys fs = true → TysOK P o tys fs
  | [], _, [], _ => by rw [TysOK]; trivial
  | [], _, _ :: _, h => by simp [tysChk] at h
  | _ :: _, _, [], h => by simp [tysChk] at h
  | x :: xs, o, f :: fs, h => by
    rw [tysChk] at h
    simp only [Bool.and_eq_true, beq_iff_eq] at h
    rw [TysOK]
    exact ⟨h.1, h.2.1, tyChk_ok x _ h.2.2.1, tysChk_ok xs _ fs h.2.2.2⟩
end
end Go.Fw

/- Shapes of arguments. Plain theorems. -/
set_option linter.unusedVariables false
set_option linter.unusedSimpArgs false
namespace Go.Proofs.YthlfefblhlmbgaaDoor
open Go Go.Fw
open Go.ChangeShapes Go.WideShapes Go.ChangeAt Go.RowKit
theorem shp_str {xs : List A} (h : Shp .str xs) : ∃ x, xs = [str x] ∧ x.length ≤ Go.maxLen := by cases h; exact ⟨_, rfl, by assumption⟩
theorem str_cells {P : Program} {W : World} {base : Nat} {t : TypeId} {v : Value} (hu : P.underlying t = some .string) (h : Value.okWide P W .any base t v) : v.cells.toList = [v] := by
  unfold Value.okWide at h
  rw [hu] at h
  simp only at h
  unfold Cell.okWide at h
  rw [hu] at h
  cases v <;> first | rfl | (simp [Cell.ok, hu] at h)
end Go.Proofs.YthlfefblhlmbgaaDoor

/- Walks: lists of texts by a function value; words, lines. Plain theorems. -/
import Derived.Test.YtgcnggefeapalaaGreatDoorC4
import Derived.Lib.Repeat
import Derived.Lib.Bytealg
import Derived.Sort.Walk0
import Derived.Shelf.Spec.SlicesGrow
import Derived.Ground.Names8Prog
import Derived.Shelf.SortM.Plain
import Derived.Shelf.SortM.SortNone
import Derived.Ground.SlgmProg
import Derived.Sort.OwnSortedInts
set_option linter.unusedVariables false
set_option linter.unusedSimpArgs false
namespace Go.Proofs.YtgcnggefeapalaaGreatDoor
open Go Go.Fw
set_option maxRecDepth 100000
theorem noStrS (l : List (List UInt8)) : (∀ y ∈ l.map str, noOwn y = true) ∧ (∀ c ∈ flat (l.map str), okCell c = true) ∧ (∀ y ∈ l.map str, isAggB y = false) ∧ (∀ y ∈ l.map str, vStore.isAggA y = false) := by
  refine ⟨fun y hy => ?_, fun y hy => ?_, fun y hy => ?_, fun y hy => ?_⟩
  · obtain ⟨c, _, rfl⟩ := List.mem_map.1 hy; rfl
  · rw [flatS1] at hy; obtain ⟨c, _, rfl⟩ := List.mem_map.1 hy; rfl
  · obtain ⟨c, _, rfl⟩ := List.mem_map.1 hy; rfl
  · obtain ⟨c, _, rfl⟩ := List.mem_map.1 hy; rfl
theorem idx_specS (p : List UInt8 → Bool) : ∀ (l : List (List UInt8)) (i : Nat), (idxFrom p i l = -1 ∧ (l.filter fun x => !p x) = l) ∨ ∃ m, idxFrom p i l = ((i + m : Nat) : Int) ∧ m < l.length ∧ ((l.take (m + 1)).filter fun x => !p x) = l.take m
  | [], i => .inl ⟨rfl, rfl⟩
  | x :: xs, i => by
    rw [idxFrom]
    by_cases h : p x = true
    · right
      refine ⟨0, by rw [if_pos h]; simp, by simp, by simp [h]⟩
    · rw [if_neg h]
      rcases idx_specS p xs (i + 1) with ⟨h1, h2⟩ | ⟨m, h1, h2, h3⟩
      · left
        refine ⟨h1, ?_⟩
        rw [List.filter_cons_of_pos (by simpa using h), h2]
      · right
        refine ⟨m + 1, by rw [h1]; congr 1; omega, by simp; omega, ?_⟩
        rw [List.take_succ_cons, List.filter_cons_of_pos (by simpa using h), h3, List.take_succ_cons]
theorem filter_atS {p : List UInt8 → Bool} {s : List (List UInt8)} {j : Nat} {c : List UInt8} (h : s[j]? = some c) : ((s.take (j + 1)).filter fun x => !p x) = ((s.take j).filter fun x => !p x) ++ (if p c then [] else [c]) := by
  rw [List.take_add_one, h, List.filter_append]
  congr 1
  by_cases hc : p c <;> simp [hc]
theorem c_DeleteFuncS (s : List (List UInt8)) (hs : s.length ≤ 1048576) (g : Nat) (caps : List A) (p : List UInt8 → Bool) (hf : CloB PP str s g caps p) : ECtr PP n_slices_DeleteFunc_L_string_string [.sl true 1 (s.map str), .clo g caps] (.sl true 1 ((s.filter fun x => !p x).map str)) := by
  obtain ⟨Ω, hΩ⟩ : ∃ Ω, Ω = std := ⟨_, rfl⟩
  have hc := c_IndexFuncS s (by omega) g caps p hf
  have hro := hf.ro
  have hcn := hf.no
  have hrun : ∀ x ∈ s, PCtr PP (Ω.cloN g) (Ω.cloA g [str x] caps) (boo (p x)) := by subst hΩ; exact hf.run
  obtain ⟨k, hk⟩ : ∃ k, idx p s = k := ⟨_, rfl⟩
  rw [hk] at hc
  obtain ⟨xs, hxs⟩ : ∃ xs, xs = s.map str := ⟨_, rfl⟩
  have hlen : xs.length = s.length := by rw [hxs, List.length_map]
  have hno := noStrS s
  have hfz := frzStr s
  rw [← hxs] at hno hfz hc ⊢
  have hle : Ω.len xs = xs.length := by subst hΩ; rfl
  obtain ⟨zs, hzs⟩ : ∃ zs, zs = (s.filter fun x => !p x).map str := ⟨_, rfl⟩
  rw [← hzs]
  have htab := tab
  refine ECtr.walk tab hΩ 3 fn_slices_DeleteFunc_L_string_string rfl (by simp only [rootO, rootO.rootOL, List.all_cons, List.all_nil, noOwn_vw, noOwn_clo, hcn]; rfl) ?_
  generalize PP = P at *
  cbv
  refine call_pure hΩ 5 hc (ro_clo2 (roV rfl hle hfz) (hro _ 0)) (fits _) rfl rfl ?_
  cbv
  refine br (fun g1 => ?_) (fun g1 => ?_) <;> cbv
  · have g1 : k = -1 := eqI_t hΩ g1
    rcases idx_specS p s 0 with ⟨h1, h2⟩ | ⟨m, h1, _⟩
    · refine ⟨⟨rfl, by subst hΩ; exact Nat.le_refl _⟩, .of ?_⟩
      rw [hzs, h2, ← hxs]
      subst hΩ
      show A.sl true 1 (xs.take xs.length) = _
      rw [List.take_length]
    · have : k = ((0 + m : Nat) : Int) := by rw [← hk]; exact h1
      omega
  have g1 : k ≠ -1 := eqI_f hΩ g1
  obtain ⟨m, hkm, hml, hfm⟩ : ∃ m : Nat, k = Ω.int m ∧ m < s.length ∧ ((s.take (m + 1)).filter fun x => !p x) = s.take m := by
    rcases idx_specS p s 0 with ⟨h1, _⟩ | ⟨m, h1, h2, h3⟩
    · exact absurd (hk.symm.trans h1) g1
    · rw [Nat.zero_add] at h1
      exact ⟨m, by subst hΩ; exact hk.symm.trans h1, h2, h3⟩
  subst hkm
  obtain ⟨F, hF⟩ : ∃ F : Nat → List (List UInt8), F = fun j => (s.take j).filter fun x => !p x := ⟨_, rfl⟩
  have hFat : ∀ j c, s[j]? = some c → F (j + 1) = F j ++ (if p c then [] else [c]) := fun j c h => by rw [hF]; exact filter_atS h
  have hFm : F (m + 1) = s.take m := by rw [hF]; exact hfm
  have hFml : (F (m + 1)).length = m := by rw [hFm]; simp; omega
  have hFn : F s.length = s.filter fun x => !p x := by rw [hF]; simp only; rw [List.take_length]
  refine loopX htab hΩ (fun i : Nat × List A => ⟨[(0, .vw 0 0 (Ω.len xs)), (1, .clo g caps), (5, .sc (.int .i64 (Ω.int (F i.1).length))), (6, .sc (.int .i64 (Ω.int i.1)))], 42, [some ⟨1, i.2, false⟩]⟩)
    (fun i => (F i.1).length < i.1 ∧ i.1 ≤ s.length ∧ i.2.length = s.length ∧ i.2.take (F i.1).length = (F i.1).map str ∧ (∀ q, i.1 ≤ q → i.2[q]? = xs[q]?) ∧ (∀ y ∈ i.2, isAggB y = false) ∧ (∀ y ∈ i.2, vStore.isAggA y = false))
    (fun i => s.length - i.1) (m + 1, xs) ⟨by dsimp only; omega, by dsimp only; omega, hlen, ?_, fun _ _ => rfl, hno.2.2.1, hno.2.2.2⟩ (Sbs.mk rfl rfl ⟨rfl, rfl, by rw [hFml]; rfl, incI hΩ (by omega), trivial⟩) ?_
  · dsimp only
    rw [hFml, hFm, hxs, List.map_take]
  rintro ⟨j, ys⟩ ⟨h1, h2, h3, h4, h5, h6, h7⟩
  dsimp only at h1 h2 h3 h4 h5 h6 h7
  obtain ⟨f, hf2⟩ : ∃ f, f = (F j).length := ⟨_, rfl⟩
  rw [← hf2] at h1 h4
  dsimp only
  rw [← hf2]
  cbv
  refine br (fun h => ?_) (fun h => ?_) <;> cbv
  · replace h := ltI hΩ h
    obtain ⟨c, hcc⟩ := at_of (cs := s) (by omega : j < s.length)
    have hyj : ys[j]? = some (str c) := by rw [h5 j (Nat.le_refl _), hxs, List.getElem?_map, hcc]; rfl
    have hFj := hFat j c hcc
    have hr1 := hrun c (List.mem_of_getElem? hcc)
    refine ⟨⟨ixI hΩ (by show j < Ω.len xs; rw [hle]; exact h)⟩, str c, atI hΩ hyj, ?_⟩
    cbv
    refine call_pure hΩ 4 hr1 (ro_cloA hΩ rfl (hro _ 0)) (fits _) rfl rfl ?_
    cbv
    refine br (fun g => ?_) (fun g => ?_) <;> cbv
    · have g := notT' hΩ g
      rw [g] at hFj
      have hFl : (F (j + 1)).length = f + 1 := by rw [hFj, hf2]; simp
      have hfl : f < ys.length := by omega
      refine ⟨⟨ixI hΩ (by show f < Ω.len xs; rw [hle]; omega)⟩, ⟨by subst hΩ; show 0 + f < ys.length; omega, h7⟩, ?_⟩
      refine ⟨(j + 1, ys.set f (str c)), ⟨by dsimp only; omega, by dsimp only; omega, by simpa using h3, ?_, fun q hq => ?_, fun y hy => ?_, fun y hy => ?_⟩, by dsimp only; omega, Sbs.mk rfl ?_ ⟨rfl, rfl, ?_, incI hΩ (by omega), trivial⟩⟩
      · dsimp only; rw [hFl, take_set_add hfl, h4, hFj, List.map_append]; rfl
      · dsimp only at hq ⊢; rw [List.getElem?_set_ne (by omega)]; exact h5 q (by omega)
      · rcases List.mem_or_eq_of_mem_set hy with hy | rfl
        · exact h6 y hy
        · rfl
      · rcases List.mem_or_eq_of_mem_set hy with hy | rfl
        · exact h7 y hy
        · rfl
      · subst hΩ; show [some (Row.mk 1 (ys.set (0 + f) (str c)) false)] = _; rw [Nat.zero_add]
      · dsimp only; rw [hFl]; exact incI hΩ (by omega)
    · have g : p c = true := notF' hΩ g
      rw [g] at hFj
      have hFl : (F (j + 1)).length = f := by rw [hFj, hf2]; simp
      exact ⟨(j + 1, ys), ⟨by dsimp only; omega, by dsimp only; omega, h3, by dsimp only; rw [hFl, h4, hFj]; simp, fun q hq => h5 q (by dsimp only at hq; omega), h6, h7⟩, by dsimp only; omega, Sbs.mk rfl rfl ⟨rfl, rfl, by dsimp only; rw [hFl]; rfl, incI hΩ (by omega), trivial⟩⟩
  · have hj : j = s.length := by have := geI hΩ h; omega
    subst hj
    refine ⟨⟨nnI hΩ, trivial, ?_, Nat.le_refl _⟩, ⟨?_, h6⟩, ⟨trivial, nnI hΩ, Nat.zero_le _, ?_⟩, ⟨?_, ?_⟩, .of ?_⟩
    · subst hΩ; show f ≤ xs.length; omega
    · subst hΩ; show 0 + f + (xs.length - f) = ys.length; omega
    · subst hΩ; show f ≤ xs.length; omega
    · subst hΩ; rfl
    · subst hΩ; show f - 0 ≤ (ys.take (0 + f) ++ List.replicate (xs.length - f) (A.sc (.string (mkS [])))).length; simp; omega
    · subst hΩ
      show A.sl true 1 ((ys.take (0 + f) ++ List.replicate (xs.length - f) (A.sc (.string (mkS [])))).take (f - 0)) = _
      rw [Nat.zero_add, Nat.sub_zero, List.take_append_of_le_length (by simp; omega), List.take_take, Nat.min_self, h4, hzs, hFn]
theorem roSS (l : List (List UInt8)) : roFree (.sl true 1 (l.map str)) = true := roFAll fun x hx => by obtain ⟨c, _, rfl⟩ := List.mem_map.1 hx; rfl
theorem seqT {Ω : Opq} (hΩ : Ω = std) {x y : List UInt8} (h : Ω.cmpS .eql x y = true) : x = y := by subst hΩ; exact of_decide_eq_true ((by simpa [cmpSS] using (show cmpSS .eql x y = true from h)))
theorem seqF {Ω : Opq} (hΩ : Ω = std) {x y : List UInt8} (h : Ω.cmpS .eql x y = false) : x ≠ y := by subst hΩ; exact fun e => by subst e; have h : cmpSS .eql x x = false := h; simp [cmpSS] at h
theorem sneT {Ω : Opq} (hΩ : Ω = std) {x y : List UInt8} (h : Ω.cmpS .neq x y = true) : x ≠ y := by subst hΩ; exact fun e => by subst e; have h : cmpSS .neq x x = true := h; simp [cmpSS] at h
theorem sneF {Ω : Opq} (hΩ : Ω = std) {x y : List UInt8} (h : Ω.cmpS .neq x y = false) : x = y := by subst hΩ; simpa [cmpSS] using (show cmpSS .neq x y = false from h)
/-- The words of a line. -/
def wordsP (s : List UInt8) : List (List UInt8) := (cutAt 32 s).filter fun w => !decide (w = [])
/-- The lines of a text. -/
def linesP (s : List UInt8) : List (List UInt8) := if (cutAt 10 s).getD ((cutAt 10 s).length - 1) [] = [] then (cutAt 10 s).take ((cutAt 10 s).length - 1) else cutAt 10 s
theorem c_wordsOf1 (s : List UInt8) : PCtr PP n_impl_wordsOf_1 [str s] (boo (decide (s = []))) := by
  obtain ⟨Ω, hΩ⟩ : ∃ Ω, Ω = std := ⟨_, rfl⟩
  have htab := tab
  refine PCtr.walk tab hΩ fn_impl_wordsOf_1 rfl ?_
  generalize PP = P at *
  cbv
  refine .of (congrArg boo ?_)
  show Ω.cmpS .eql s [] = _
  rcases h : Ω.cmpS .eql s [] with _ | _
  · exact (decide_eq_false (seqF hΩ h)).symm
  · exact (decide_eq_true (seqT hΩ h)).symm
theorem c_wordsOf (s : List UInt8) (hs : s.length ≤ 1048575) : PCtr PP n_impl_wordsOf [str s] (.sl true 1 ((wordsP s).map str)) := by
  obtain ⟨Ω, hΩ⟩ : ∃ Ω, Ω = std := ⟨_, rfl⟩
  have hl := cutAt_len (c := 32) (s := s)
  have h1 := c_Split 32 s (by omega)
  have h2 := c_DeleteFuncS (cutAt 32 s) (by omega) n_impl_wordsOf_1 [] (fun x => decide (x = [])) ⟨fun S k => rfl, rfl, fun _ => rfl, fun x hx => c_wordsOf1 x⟩
  have r1 := roSS (cutAt 32 s)
  have r2 := roSS (wordsP s)
  have hz : (cutAt 32 s).length = ((cutAt 32 s).map str).length := (List.length_map _).symm
  unfold wordsP at *
  generalize ((cutAt 32 s).filter fun w => !decide (w = [])).map str = zs at *
  generalize (cutAt 32 s).map str = ys at *
  have lo : Ω.len ys = ys.length := by subst hΩ; rfl
  have htab := tab
  refine PCtr.walk tab hΩ fn_impl_wordsOf rfl ?_
  generalize PP = P at *
  cbv
  refine call_pure hΩ 3 h1 rfl (fits _) r1 rfl ?_
  cbv
  refine call_eat2 (row := ⟨1, ys, false⟩) hΩ 3 h2 rfl rfl lo rfl (fits _) r2 rfl ?_
  cbv
  exact ⟨⟨rfl, by subst hΩ; exact Nat.le_refl _⟩, .of (congrArg (A.sl true 1) (takeAll hΩ _))⟩
theorem lastI {Ω : Opq} (hΩ : Ω = std) {ys : List A} {k : Nat} (hl : ys.length = k + 1) (hb : k < 4611686018427387904) : Ω.ar .sub .i64 (Ω.int (Ω.len ys)) 1 = Ω.int k := by
  subst hΩ
  show IntKind.i64.wrap ((ys.length : Int) - 1) = (k : Int)
  rw [hl, wrap64 (by omega) (by omega)]; omega
theorem linesP_len {s : List UInt8} : (linesP s).length ≤ s.length + 1 := by
  have := cutAt_len (c := 10) (s := s)
  unfold linesP
  split
  · rw [List.length_take]; omega
  · exact this
theorem linesP_mem {s l : List UInt8} (h : l ∈ linesP s) : l.length ≤ s.length := by
  unfold linesP at h
  split at h
  · exact cutAt_mem (List.mem_of_mem_take h)
  · exact cutAt_mem h
theorem c_linesOf (s : List UInt8) (hs : s.length ≤ 1048575) : PCtr PP n_impl_linesOf [str s] (.sl false 1 ((linesP s).map str)) := by
  obtain ⟨Ω, hΩ⟩ : ∃ Ω, Ω = std := ⟨_, rfl⟩
  have hl := cutAt_len (c := 10) (s := s)
  have hn0 := cutAt_ne (c := 10) (s := s)
  have h1 := c_Split 10 s (by omega)
  have r1 := roSS (cutAt 10 s)
  have f1 : Fw.frz (.sl true 1 ((cutAt 10 s).map str)) = .sl false 1 ((cutAt 10 s).map str) := by rw [frz_sl, frzStr]
  obtain ⟨k, hk⟩ : ∃ k, (cutAt 10 s).length = k + 1 := ⟨(cutAt 10 s).length - 1, by have := List.length_pos_iff.2 hn0; omega⟩
  unfold linesP
  rw [hk, Nat.add_sub_cancel]
  generalize cutAt 10 s = ls at *
  obtain ⟨ys, hys⟩ : ∃ ys, ys = ls.map str := ⟨_, rfl⟩
  have hyl : ys.length = k + 1 := by rw [hys, List.length_map, hk]
  obtain ⟨z, hz⟩ := at_of (cs := ls) (i := k) (by omega)
  obtain ⟨zs, hzs⟩ : ∃ zs, zs = (if ls.getD k [] = [] then ls.take k else ls).map str := ⟨_, rfl⟩
  have hgd : ls.getD k [] = z := by rw [List.getD_eq_getElem?_getD, hz]; rfl
  rw [hgd] at hzs ⊢
  rw [← hzs]
  rw [← hys] at h1 r1 f1
  have hla := lastI hΩ hyl (by omega)
  have htab := tab
  refine PCtr.walk tab hΩ fn_impl_linesOf rfl ?_
  generalize PP = P at *
  cbv
  refine call_pf hΩ 3 h1 rfl (fits _) r1 f1 rfl ?_
  cbv
  refine ⟨⟨by show 0 ≤ Ω.ar .sub .i64 (Ω.int (Ω.len ys)) 1; rw [hla]; exact nnI hΩ⟩, str z, by show ys[(Ω.ar .sub .i64 (Ω.int (Ω.len ys)) 1).toNat]? = _; rw [hla, hys]; subst hΩ; show (ls.map str)[k]? = _; rw [List.getElem?_map, hz]; rfl, ?_⟩
  cbv
  refine br (fun h => ?_) (fun h => ?_) <;> cbv
  · have h := seqT hΩ h
    have hsg : Ω.seg 0 (Ω.nat (Ω.ar .sub .i64 (Ω.int (Ω.len ys)) 1)) ys = zs := by
      rw [hla, hzs, if_pos h, hys]; subst hΩ
      show ((ls.map str).take k).drop 0 = _
      rw [List.drop_zero, List.map_take]
    exact ⟨⟨trivial, by show 0 ≤ Ω.ar .sub .i64 (Ω.int (Ω.len ys)) 1; rw [hla]; exact nnI hΩ, Nat.zero_le _, by show Ω.nat (Ω.ar .sub .i64 (Ω.int (Ω.len ys)) 1) ≤ ys.length; rw [hla]; subst hΩ; show k ≤ ys.length; omega⟩, .of (congrArg (A.sl false 1) hsg)⟩
  · have h := seqF hΩ h
    rw [if_neg h, ← hys] at hzs
    exact .of (congrArg (A.sl false 1) hzs.symm)
theorem c_l2Lines (s : List UInt8) (hs : s.length ≤ 1048575) : PCtr PP n_spec_l2Lines [str s] (.sl false 1 ((linesP s).map str)) := by
  obtain ⟨Ω, hΩ⟩ : ∃ Ω, Ω = std := ⟨_, rfl⟩
  have hl := cutAt_len (c := 10) (s := s)
  have hn0 := cutAt_ne (c := 10) (s := s)
  have h1 := c_l1Parts 10 s (by omega)
  have r1 := roSS (cutAt 10 s)
  have f1 : Fw.frz (.sl true 1 ((cutAt 10 s).map str)) = .sl false 1 ((cutAt 10 s).map str) := by rw [frz_sl, frzStr]
  obtain ⟨k, hk⟩ : ∃ k, (cutAt 10 s).length = k + 1 := ⟨(cutAt 10 s).length - 1, by have := List.length_pos_iff.2 hn0; omega⟩
  unfold linesP
  rw [hk, Nat.add_sub_cancel]
  generalize cutAt 10 s = ls at *
  obtain ⟨ys, hys⟩ : ∃ ys, ys = ls.map str := ⟨_, rfl⟩
  have hyl : ys.length = k + 1 := by rw [hys, List.length_map, hk]
  obtain ⟨z, hz⟩ := at_of (cs := ls) (i := k) (by omega)
  obtain ⟨zs, hzs⟩ : ∃ zs, zs = (if ls.getD k [] = [] then ls.take k else ls).map str := ⟨_, rfl⟩
  have hgd : ls.getD k [] = z := by rw [List.getD_eq_getElem?_getD, hz]; rfl
  rw [hgd] at hzs ⊢
  rw [← hzs]
  rw [← hys] at h1 r1 f1
  have hla := lastI hΩ hyl (by omega)
  have htab := tab
  refine PCtr.walk tab hΩ fn_spec_l2Lines rfl ?_
  generalize PP = P at *
  cbv
  refine call_pf hΩ 3 h1 rfl (fits _) r1 f1 rfl ?_
  cbv
  refine ⟨⟨by show 0 ≤ Ω.ar .sub .i64 (Ω.int (Ω.len ys)) 1; rw [hla]; exact nnI hΩ⟩, str z, by show ys[(Ω.ar .sub .i64 (Ω.int (Ω.len ys)) 1).toNat]? = _; rw [hla, hys]; subst hΩ; show (ls.map str)[k]? = _; rw [List.getElem?_map, hz]; rfl, ?_⟩
  cbv
  refine br (fun h => ?_) (fun h => ?_) <;> cbv
  · have h := seqT hΩ h
    have hsg : Ω.seg 0 (Ω.nat (Ω.ar .sub .i64 (Ω.int (Ω.len ys)) 1)) ys = zs := by
      rw [hla, hzs, if_pos h, hys]; subst hΩ
      show ((ls.map str).take k).drop 0 = _
      rw [List.drop_zero, List.map_take]
    exact ⟨⟨trivial, by show 0 ≤ Ω.ar .sub .i64 (Ω.int (Ω.len ys)) 1; rw [hla]; exact nnI hΩ, Nat.zero_le _, by show Ω.nat (Ω.ar .sub .i64 (Ω.int (Ω.len ys)) 1) ≤ ys.length; rw [hla]; subst hΩ; show k ≤ ys.length; omega⟩, .of (congrArg (A.sl false 1) hsg)⟩
  · have h := seqF hΩ h
    rw [if_neg h, ← hys] at hzs
    exact .of (congrArg (A.sl false 1) hzs.symm)
theorem filt_at {s : List (List UInt8)} {j : Nat} {c : List UInt8} (h : s[j]? = some c) : ((s.take (j + 1)).filter fun w => !decide (w = [])) = ((s.take j).filter fun w => !decide (w = [])) ++ (if c = [] then [] else [c]) := by
  rw [List.take_add_one, h, List.filter_append]
  congr 1
  by_cases hc : c = [] <;> simp [hc]
theorem c_l2Words (s : List UInt8) (hs : s.length ≤ 1048575) : PCtr PP n_spec_l2Words [str s] (.sl true 1 ((wordsP s).map str)) := by
  obtain ⟨Ω, hΩ⟩ : ∃ Ω, Ω = std := ⟨_, rfl⟩
  have hl := cutAt_len (c := 32) (s := s)
  have h1 := c_l1Parts 32 s (by omega)
  have r1 := roSS (cutAt 32 s)
  have f1 : Fw.frz (.sl true 1 ((cutAt 32 s).map str)) = .sl false 1 ((cutAt 32 s).map str) := by rw [frz_sl, frzStr]
  unfold wordsP
  generalize cutAt 32 s = ls at *
  obtain ⟨ys, hys⟩ : ∃ ys, ys = ls.map str := ⟨_, rfl⟩
  have hyl : ys.length = ls.length := by rw [hys, List.length_map]
  rw [← hys] at h1 r1 f1
  obtain ⟨F, hF⟩ : ∃ F : List (List UInt8) → List A, F = fun l => l.map str := ⟨_, rfl⟩
  have hFm : ∀ t : List (List UInt8), t.map str = F t := fun t => by rw [hF]
  have hlen : ∀ t, (F t).length = t.length := fun t => by rw [hF, List.length_map]
  have hap : ∀ t x, Ω.app (Ω.take (Ω.len (F t)) (F t)) [str x] = F (t ++ [x]) := fun t x => by rw [takeAll hΩ, ← hFm, ← hFm, List.map_append]; subst hΩ; rfl
  have hpl : ∀ t x, Ω.plus (Ω.len (F t)) (Ω.len [str x]) = Ω.len (F (t ++ [x])) := fun t x => by rw [← hap, takeAll hΩ]; subst hΩ; exact (List.length_append).symm
  have hF0 : F [] = [] := by rw [hF]; rfl
  obtain ⟨n, hn⟩ : ∃ n, n = ls.length := ⟨_, rfl⟩
  obtain ⟨W, hW⟩ : ∃ W : Nat → List (List UInt8), W = fun i => (ls.take i).filter fun w => !decide (w = []) := ⟨_, rfl⟩
  have hWs : ∀ i c, ls[i]? = some c → W (i + 1) = W i ++ (if c = [] then [] else [c]) := fun i c h => by rw [hW]; exact filt_at h
  have hW0 : W 0 = [] := by rw [hW]; rfl
  have hWn : (ls.filter fun w => !decide (w = [])) = W n := by rw [hW, hn]; simp only [List.take_length]
  have hWl : ∀ i, (W i).length ≤ i := fun i => by rw [hW]; exact Nat.le_trans (List.length_filter_le _ _) (by rw [List.length_take]; omega)
  rw [hWn, hFm]
  clear hW hWn
  have htab := tab
  refine PCtr.walk tab hΩ fn_spec_l2Words rfl ?_
  generalize PP = P at *
  cbv
  refine call_pf hΩ 3 h1 rfl (fits _) r1 f1 rfl ?_
  cbv
  refine loopX htab hΩ (fun i : Nat => ⟨[(3, .vw 0 0 (Ω.len (F (W i)))), (4, .sl false 1 ys), (5, i64 (Ω.int i))], 28, [some ⟨1, F (W i), false⟩]⟩) (fun i => i ≤ n) (fun i => n - i) 0 (Nat.zero_le _)
    ((Sbs.cut 1 rfl).trans (Sbs.mk rfl (by dsimp only; rw [hW0, hF0]; rfl) ⟨by dsimp only; rw [hW0, hF0]; subst hΩ; rfl, rfl, zeroI hΩ, trivial⟩)) (fun i hi => ?_)
  have hol := hlen (W i)
  have hlo : Ω.len (F (W i)) = (F (W i)).length := by subst hΩ; rfl
  have hle : Ω.len (F (W i)) ≤ (F (W i)).length := by rw [hlo]; exact Nat.le_refl _
  have htk : Ω.take (Ω.len (F (W i))) (F (W i)) = F (W i) := takeAll hΩ _
  have hwi := hWl i
  cbv
  refine br (fun h => ?_) (fun h => ?_) <;> cbv
  · replace h := ltI hΩ h
    obtain ⟨c, hcc⟩ := at_of (cs := ls) (by omega : i < _)
    have hst := hWs i c hcc
    have hap0 := hap (W i) c
    have hpl0 := hpl (W i) c
    refine ⟨⟨nnI hΩ⟩, _, rdI hΩ hys hcc, ?_⟩
    cbv
    refine br (fun q => ?_) (fun q => ?_) <;> cbv
    · have q := sneT hΩ q
      rw [if_neg q] at hst
      refine ⟨⟨nnI hΩ⟩, _, rdI hΩ hys hcc, ?_⟩
      cbv
      exact ⟨⟨rfl, okAll rfl, by show (Ω.len (F (W i)) + 1) * 16 ≤ 140737488355328; omega, by show Ω.len (F (W i)) + 1 ≤ 9223372036854775807; omega⟩,
        i + 1, by omega, by omega, (Sbs.cut 1 rfl).trans (Sbs.mk rfl (by show [some (Row.mk 1 (Ω.app (Ω.take (Ω.len (F (W i))) (F (W i))) [str c]) false)] = _; rw [hap0, hst]) ⟨congrArg (A.vw 0 0) (by rw [hst]; exact hpl0), rfl, incI hΩ (by omega), trivial⟩)⟩
    · have q := sneF hΩ q
      rw [if_pos q, List.append_nil] at hst
      exact ⟨i + 1, by omega, by omega, Sbs.mk rfl (by rw [hst]) ⟨by rw [hst]; rfl, rfl, incI hΩ (by omega), trivial⟩⟩
  · replace h := geI hΩ h
    have : i = n := by omega
    subst this
    exact ⟨⟨rfl, hle⟩, .of (congrArg (A.sl true 1) htk)⟩
end Go.Proofs.YtgcnggefeapalaaGreatDoor

/- Walks: numbers read from text. Plain theorems. -/
set_option linter.unusedVariables false
set_option linter.unusedSimpArgs false
namespace Go.Proofs.YtgcnggefeapalaaGreatDoor
open Go Go.Fw
set_option maxRecDepth 100000
/-- Digits as a number; -1: there is another byte. -/
def numL : List UInt8 → Int → Int
  | [], n => n
  | c :: cs, n => if 48 ≤ c.toNat ∧ c.toNat ≤ 57 then numL cs (10 * n + ((c.toNat : Int) - 48)) else -1
/-- The number of 1 to m digits; -1: none. -/
def numM (m : Nat) (s : List UInt8) : Int := if s.length < 1 ∨ m < s.length then -1 else numL s 0
def numC (s : List UInt8) : Int := numM 3 s
theorem numL_at {s : List UInt8} {i : Nat} {c : UInt8} {n : Int} (h : s[i]? = some c) : numL (s.drop i) n = if 48 ≤ c.toNat ∧ c.toNat ≤ 57 then numL (s.drop (i + 1)) (10 * n + ((c.toNat : Int) - 48)) else -1 := by
  obtain ⟨hi, rfl⟩ := List.getElem?_eq_some_iff.1 h
  rw [List.drop_eq_getElem_cons hi]; rfl
theorem numL_ge : ∀ {s : List UInt8} {n : Int}, 0 ≤ n → numL s n = -1 ∨ 0 ≤ numL s n
  | [], n, h => .inr h
  | c :: cs, n, h => by
    unfold numL
    split
    · rename_i hc; exact numL_ge (by omega)
    · exact .inl rfl
theorem numM_ge (m : Nat) (s : List UInt8) : numM m s = -1 ∨ 0 ≤ numM m s := by
  unfold numM
  split
  · exact .inl rfl
  · exact numL_ge (Int.le_refl 0)
theorem numC_ge (s : List UInt8) : numC s = -1 ∨ 0 ≤ numC s := numM_ge 3 s
theorem stepN {Ω : Opq} (hΩ : Ω = std) {c : UInt8} {n : Int} (h1 : 48 ≤ c.toNat) (h2 : c.toNat ≤ 57) (h3 : 0 ≤ n) (h4 : n ≤ 1000000) : Ω.ar .add .i64 (Ω.ar .mul .i64 10 n) (Ω.wrap .i64 (Ω.ar .sub .u8 (Ω.u8 c) 48)) = 10 * n + ((c.toNat : Int) - 48) := by
  subst hΩ
  show IntKind.i64.wrap (IntKind.i64.wrap (10 * n) + IntKind.i64.wrap (IntKind.u8.wrap ((c.toNat : Int) - 48))) = _
  have e : IntKind.u8.wrap ((c.toNat : Int) - 48) = (c.toNat : Int) - 48 := by
    show ((c.toNat : Int) - 48) % 256 = _
    omega
  rw [e, wrap64 (x := 10 * n) (by omega) (by omega), wrap64 (x := (c.toNat : Int) - 48) (by omega) (by omega), wrap64 (by omega) (by omega)]
theorem stepN2 {Ω : Opq} (hΩ : Ω = std) {c : UInt8} {n : Int} (h1 : 48 ≤ c.toNat) (h2 : c.toNat ≤ 57) (h3 : 0 ≤ n) (h4 : n ≤ 1000000) : Ω.ar .add .i64 (Ω.ar .mul .i64 n 10) (Ω.wrap .i64 (Ω.ar .sub .u8 (Ω.u8 c) 48)) = 10 * n + ((c.toNat : Int) - 48) := by
  rw [← stepN hΩ h1 h2 h3 h4]
  subst hΩ
  show IntKind.i64.wrap (IntKind.i64.wrap (n * 10) + _) = IntKind.i64.wrap (IntKind.i64.wrap (10 * n) + _)
  rw [Int.mul_comm]
theorem u8I {Ω : Opq} (hΩ : Ω = std) (c : UInt8) : Ω.u8 c = (c.toNat : Int) := by subst hΩ; rfl
theorem c_numberM (m : Nat) (hm6 : m ≤ 6) (s : List UInt8) (hs : s.length ≤ 1048576) : PCtr PP n_impl_number [str s, i64 (m : Int)] (i64 (numM m s)) := by
  obtain ⟨Ω, hΩ⟩ : ∃ Ω, Ω = std := ⟨_, rfl⟩
  obtain ⟨r, hr⟩ : ∃ r, r = numM m s := ⟨_, rfl⟩
  rw [← hr]
  unfold numM at hr
  obtain ⟨n, hn⟩ : ∃ n, n = s.length := ⟨_, rfl⟩
  have htab := tab
  refine PCtr.walk tab hΩ fn_impl_number rfl ?_
  generalize PP = P at *
  cbv
  have none : n < 1 ∨ m < n → r = -1 := fun h => by rw [hr, if_pos (by omega)]
  have go : ¬ (n < 1 ∨ m < n) → r = numL s 0 := fun h => by rw [hr, if_neg (by omega)]
  refine br (fun h => ?_) (fun h => ?_) <;> cbv
  · have h := seqT hΩ h
    exact .of (congrArg i64 (none (.inl (by rw [hn, h]; exact Nat.zero_lt_one))).symm)
  have h0 := seqF hΩ h
  have h0 : 0 < n := by rw [hn]; exact List.length_pos_iff.2 h0
  refine br (fun h => ?_) (fun h => ?_) <;> cbv
  · have h : m < n := by have h := gtZt hΩ (iteB hΩ h); subst hΩ; have h : (m : Int) < (s.length : Int) := h; omega
    exact .of (congrArg i64 (none (.inr (by omega))).symm)
  have h3 : n ≤ m := by have h := gtZf hΩ (iteB hΩ h); subst hΩ; have h : (s.length : Int) ≤ (m : Int) := h; omega
  have hrl := go (by omega)
  clear go none hr
  refine loopX htab hΩ (fun i : Nat × Int => ⟨[(0, str s), (5, i64 i.2), (16, i64 (Ω.int (Ω.lenS s))), (17, i64 (Ω.int i.1))], 40, []⟩)
    (fun i => i.1 ≤ n ∧ (0 ≤ i.2 ∧ i.2 ≤ 999999 ∧ (i.1 ≤ 5 → i.2 ≤ 99999) ∧ (i.1 ≤ 4 → i.2 ≤ 9999) ∧ (i.1 ≤ 3 → i.2 ≤ 999) ∧ (i.1 ≤ 2 → i.2 ≤ 99) ∧ (i.1 ≤ 1 → i.2 ≤ 9) ∧ (i.1 ≤ 0 → i.2 ≤ 0)) ∧ r = numL (s.drop i.1) i.2) (fun i => n - i.1) (0, 0)
    ⟨Nat.zero_le _, ⟨Int.le_refl _, by decide, fun _ => by decide, fun _ => by decide, fun _ => by decide, fun _ => by decide, fun _ => by decide, fun _ => Int.le_refl _⟩, hrl⟩ (Sbs.mk rfl rfl ⟨rfl, rfl, rfl, zeroI hΩ, trivial⟩) ?_
  rintro ⟨i, v⟩ ⟨hi, ⟨v0, v1, v2, v3, v4, v5, v6, v7⟩, hv⟩
  dsimp only at hi v0 v1 v2 v3 v4 v5 v6 v7 hv ⊢
  cbv
  refine br (fun h => ?_) (fun h => ?_) <;> cbv
  · have h : i < n := by have h := ltZt hΩ h; subst hΩ; have h : (i : Int) < (s.length : Int) := h; omega
    obtain ⟨c, hc⟩ := at_of (cs := s) (by omega : i < _)
    have hci : s[(Ω.int i).toNat]? = some c := by subst hΩ; exact hc
    rw [numL_at hc] at hv
    have hst := stepN hΩ (c := c) (n := v)
    refine ⟨⟨nnI hΩ⟩, c, hci, ?_⟩
    cbv
    refine br (fun k => ?_) (fun k => ?_)
    · have k : (c.toNat : Int) < 48 := by have k := ltZt hΩ k; subst hΩ; exact k
      rw [if_neg (by omega)] at hv
      cbv
      exact .of (congrArg i64 hv.symm)
    have k1 : (48 : Int) ≤ c.toNat := by have k := ltZf hΩ k; subst hΩ; exact k
    have k1 : 48 ≤ c.toNat := by omega
    cbv
    refine ⟨⟨nnI hΩ⟩, c, hci, ?_⟩
    cbv
    refine br (fun k => ?_) (fun k => ?_)
    · have k : (57 : Int) < c.toNat := by have k := gtZt hΩ (iteB hΩ k); subst hΩ; exact k
      rw [if_neg (by omega)] at hv
      cbv
      exact .of (congrArg i64 hv.symm)
    have k2 : (c.toNat : Int) ≤ 57 := by have k := gtZf hΩ (iteB hΩ k); subst hΩ; exact k
    have k2 : c.toNat ≤ 57 := by omega
    rw [if_pos (by omega)] at hv
    cbv
    refine ⟨⟨nnI hΩ⟩, c, hci, ?_⟩
    cbv
    obtain ⟨d, hd⟩ : ∃ d : Int, d = c.toNat - 48 := ⟨_, rfl⟩
    rw [← hd] at hv hst
    exact ⟨(i + 1, 10 * v + d), ⟨by show i + 1 ≤ n; omega, by show 0 ≤ 10 * v + d ∧ 10 * v + d ≤ 999999 ∧ (i + 1 ≤ 5 → 10 * v + d ≤ 99999) ∧ (i + 1 ≤ 4 → 10 * v + d ≤ 9999) ∧ (i + 1 ≤ 3 → 10 * v + d ≤ 999) ∧ (i + 1 ≤ 2 → 10 * v + d ≤ 99) ∧ (i + 1 ≤ 1 → 10 * v + d ≤ 9) ∧ (i + 1 ≤ 0 → 10 * v + d ≤ 0); omega, hv⟩, by show n - (i + 1) < n - i; omega,
      Sbs.mk rfl rfl ⟨rfl, congrArg i64 (hst (by omega) (by omega) (by omega) (by omega)), rfl, incI hΩ (by omega), trivial⟩⟩
  · have h : n ≤ i := by have h := ltZf hΩ h; subst hΩ; have h : (s.length : Int) ≤ (i : Int) := h; omega
    rw [List.drop_of_length_le (by omega)] at hv
    exact .of (congrArg i64 hv.symm)
theorem c_number (s : List UInt8) (hs : s.length ≤ 1048576) : PCtr PP n_impl_number [str s, i64 3] (i64 (numC s)) := c_numberM 3 (by decide) s hs
/-- The reference's answer. -/
def numRM (m : Nat) (s : List UInt8) : A := .tup [i64 (if numM m s < 0 then 0 else numM m s), boo (decide (0 ≤ numM m s))]
def numR (s : List UInt8) : A := .tup [i64 (if numC s < 0 then 0 else numC s), boo (decide (0 ≤ numC s))]
theorem c_l1NumberM (m : Nat) (hm6 : m ≤ 6) (s : List UInt8) (hs : s.length ≤ 1048576) : PCtr PP n_spec_l1Number [str s, i64 (m : Int)] (numRM m s) := by
  obtain ⟨Ω, hΩ⟩ : ∃ Ω, Ω = std := ⟨_, rfl⟩
  obtain ⟨r, hr⟩ : ∃ r, r = numM m s := ⟨_, rfl⟩
  obtain ⟨R, hR⟩ : ∃ R, R = numRM m s := ⟨_, rfl⟩
  rw [← hR]
  unfold numRM at hR
  rw [← hr] at hR
  have bad : r = -1 → A.tup [i64 0, boo false] = R := fun h => by rw [hR, h]; rfl
  have good : 0 ≤ r → A.tup [i64 r, boo true] = R := fun h => by rw [hR, if_neg (by omega), decide_eq_true h]
  clear hR
  unfold numM at hr
  obtain ⟨n, hn⟩ : ∃ n, n = s.length := ⟨_, rfl⟩
  have hdg := c_l1Digit
  have htab := tab
  refine PCtr.walk tab hΩ fn_spec_l1Number rfl ?_
  generalize PP = P at *
  cbv
  have none : n < 1 ∨ m < n → r = -1 := fun h => by rw [hr, if_pos (by omega)]
  have go : ¬ (n < 1 ∨ m < n) → r = numL s 0 := fun h => by rw [hr, if_neg (by omega)]
  refine br (fun h => ?_) (fun h => ?_) <;> cbv
  · have h : n < 1 := by have h := ltZt hΩ h; subst hΩ; have h : (s.length : Int) < 1 := h; omega
    exact .of (bad (none (.inl h)))
  have h0 : 0 < n := by have h := ltZf hΩ h; subst hΩ; have h : (1 : Int) ≤ (s.length : Int) := h; omega
  refine br (fun h => ?_) (fun h => ?_) <;> cbv
  · have h : m < n := by have h := gtZt hΩ (iteB hΩ h); subst hΩ; have h : (m : Int) < (s.length : Int) := h; omega
    exact .of (bad (none (.inr h)))
  have h3 : n ≤ m := by have h := gtZf hΩ (iteB hΩ h); subst hΩ; have h : (s.length : Int) ≤ (m : Int) := h; omega
  have hrl := go (by omega)
  clear go none hr
  refine loopX htab hΩ (fun i : Nat × Int => ⟨[(0, str s), (6, i64 i.2), (7, i64 (Ω.int i.1))], 37, []⟩)
    (fun i => i.1 ≤ n ∧ (0 ≤ i.2 ∧ i.2 ≤ 999999 ∧ (i.1 ≤ 5 → i.2 ≤ 99999) ∧ (i.1 ≤ 4 → i.2 ≤ 9999) ∧ (i.1 ≤ 3 → i.2 ≤ 999) ∧ (i.1 ≤ 2 → i.2 ≤ 99) ∧ (i.1 ≤ 1 → i.2 ≤ 9) ∧ (i.1 ≤ 0 → i.2 ≤ 0)) ∧ r = numL (s.drop i.1) i.2) (fun i => n - i.1) (0, 0)
    ⟨Nat.zero_le _, ⟨Int.le_refl _, by decide, fun _ => by decide, fun _ => by decide, fun _ => by decide, fun _ => by decide, fun _ => by decide, fun _ => Int.le_refl _⟩, hrl⟩ (Sbs.mk rfl rfl ⟨rfl, rfl, zeroI hΩ, trivial⟩) ?_
  rintro ⟨i, v⟩ ⟨hi, ⟨v0, v1, v2, v3, v4, v5, v6, v7⟩, hv⟩
  dsimp only at hi v0 v1 v2 v3 v4 v5 v6 v7 hv ⊢
  cbv
  refine br (fun h => ?_) (fun h => ?_) <;> cbv
  · have h : i < n := by have h := ltZt hΩ h; subst hΩ; have h : (i : Int) < (s.length : Int) := h; omega
    obtain ⟨c, hc⟩ := at_of (cs := s) (by omega : i < _)
    have hci : s[(Ω.int i).toNat]? = some c := by subst hΩ; exact hc
    rw [numL_at hc] at hv
    have hst := stepN2 hΩ (c := c) (n := v)
    have hfit : [A.sc (.int .u8 (Ω.u8 c))] = [u8 c] := congrArg (fun z => [A.sc (.int .u8 z)]) (u8I hΩ c)
    have hdc := hdg c
    have hdB : digitB c = true → 48 ≤ c.toNat ∧ c.toNat ≤ 57 := fun h => by simp only [digitB, Bool.and_eq_true, decide_eq_true_eq] at h; omega
    have hdF : digitB c = false → ¬ (48 ≤ c.toNat ∧ c.toNat ≤ 57) := fun h => by simp only [digitB, Bool.and_eq_false_iff, decide_eq_false_iff_not] at h; omega
    generalize digitB c = dg at *
    refine ⟨⟨nnI hΩ⟩, c, hci, ?_⟩
    cbv
    refine call_pure hΩ 3 hdc rfl (fitsE hfit) rfl rfl ?_
    cbv
    refine br (fun k => ?_) (fun k => ?_) <;> cbv
    · rw [if_neg (hdF (notT' hΩ k))] at hv
      exact .of (bad hv)
    have k := hdB (notF' hΩ k)
    rw [if_pos k] at hv
    refine ⟨⟨nnI hΩ⟩, c, hci, ?_⟩
    cbv
    obtain ⟨d, hd⟩ : ∃ d : Int, d = c.toNat - 48 := ⟨_, rfl⟩
    rw [← hd] at hv hst
    exact ⟨(i + 1, 10 * v + d), ⟨by show i + 1 ≤ n; omega, by show 0 ≤ 10 * v + d ∧ 10 * v + d ≤ 999999 ∧ (i + 1 ≤ 5 → 10 * v + d ≤ 99999) ∧ (i + 1 ≤ 4 → 10 * v + d ≤ 9999) ∧ (i + 1 ≤ 3 → 10 * v + d ≤ 999) ∧ (i + 1 ≤ 2 → 10 * v + d ≤ 99) ∧ (i + 1 ≤ 1 → 10 * v + d ≤ 9) ∧ (i + 1 ≤ 0 → 10 * v + d ≤ 0); omega, hv⟩, by show n - (i + 1) < n - i; omega,
      Sbs.mk rfl rfl ⟨rfl, congrArg i64 (hst (by omega) (by omega) (by omega) (by omega)), incI hΩ (by omega), trivial⟩⟩
  · have h : n ≤ i := by have h := ltZf hΩ h; subst hΩ; have h : (s.length : Int) ≤ (i : Int) := h; omega
    rw [List.drop_of_length_le (by omega)] at hv
    have hv : r = v := hv
    exact .of (by have := good (by omega); rw [hv] at this; exact this)
theorem c_l1Number (s : List UInt8) (hs : s.length ≤ 1048576) : PCtr PP n_spec_l1Number [str s, i64 3] (numR s) := c_l1NumberM 3 (by decide) s hs
end Go.Proofs.YtgcnggefeapalaaGreatDoor

/- Walks: versions read from text. Plain theorems. -/
set_option linter.unusedVariables false
set_option linter.unusedSimpArgs false
namespace Go.Proofs.YtgcnggefeapalaaGreatDoor
open Go Go.Fw
set_option maxRecDepth 100000
def numAt (ps : List (List UInt8)) (k : Nat) : Int := match ps[k]? with
  | some p => numC p
  | none => 0
def verOK (ps : List (List UInt8)) : Bool := decide (ps.length ≤ 3) && ps.all fun p => decide (0 ≤ numC p)
/-- A version read: code and version. -/
def verP (s : List UInt8) : Int × Ver := if verOK (cutAt 46 s) then (0, ⟨numAt (cutAt 46 s) 0, numAt (cutAt 46 s) 1, numAt (cutAt 46 s) 2⟩) else (5, Ver.zero)
def verA (x : Int × Ver) : A := .agg [i64 x.1, i64 x.2.a, i64 x.2.b, i64 x.2.c]
def partAt (ps : List (List UInt8)) (k i : Nat) : Int := if k < i then numAt ps k else 0
theorem partAt_new {ps : List (List UInt8)} {i : Nat} {p : List UInt8} (h : ps[i]? = some p) : partAt ps i (i + 1) = numC p := by
  unfold partAt numAt; rw [if_pos (by omega), h]
theorem partAt_old {ps : List (List UInt8)} {k i : Nat} (h : k ≠ i) : partAt ps k (i + 1) = partAt ps k i := by
  unfold partAt
  by_cases hk : k < i
  · rw [if_pos hk, if_pos (by omega)]
  · rw [if_neg hk, if_neg (by omega)]
theorem partAt_end {ps : List (List UInt8)} {k : Nat} : partAt ps k ps.length = numAt ps k := by
  unfold partAt
  split
  · rfl
  · unfold numAt; rw [List.getElem?_eq_none (by omega)]
theorem all_at {ps : List (List UInt8)} {i : Nat} {p : List UInt8} {q : List UInt8 → Bool} (h : ps[i]? = some p) : (ps.drop i).all q = (q p && (ps.drop (i + 1)).all q) := by
  obtain ⟨hi, rfl⟩ := List.getElem?_eq_some_iff.1 h
  rw [List.drop_eq_getElem_cons hi]; rfl
theorem c_implParseVersion (s : List UInt8) (hs : s.length ≤ 1048575) : PCtr PP n_impl_ParseVersion [str s] (verA (verP s)) := by
  obtain ⟨Ω, hΩ⟩ : ∃ Ω, Ω = std := ⟨_, rfl⟩
  have hl := cutAt_len (c := 46) (s := s)
  have hme := fun l => cutAt_mem (c := 46) (s := s) (l := l)
  have h1 := c_Split 46 s (by omega)
  have r1 := roSS (cutAt 46 s)
  have f1 : Fw.frz (.sl true 1 ((cutAt 46 s).map str)) = .sl false 1 ((cutAt 46 s).map str) := by rw [frz_sl, frzStr]
  unfold verP
  generalize cutAt 46 s = ps at *
  obtain ⟨ys, hys⟩ : ∃ ys, ys = ps.map str := ⟨_, rfl⟩
  have hyl : ys.length = ps.length := by rw [hys, List.length_map]
  rw [← hys] at h1 r1 f1
  obtain ⟨n, hn⟩ : ∃ n, n = ps.length := ⟨_, rfl⟩
  have hnum := c_number
  obtain ⟨R, hR⟩ : ∃ R, R = verA (if verOK ps then (0, ⟨numAt ps 0, numAt ps 1, numAt ps 2⟩) else (5, Ver.zero)) := ⟨_, rfl⟩
  rw [← hR]
  have bad : verOK ps = false → A.agg [i64 5, i64 0, i64 0, i64 0] = R := fun h => by rw [hR, h]; rfl
  have good : verOK ps = true → A.agg [i64 0, i64 (numAt ps 0), i64 (numAt ps 1), i64 (numAt ps 2)] = R := fun h => by rw [hR, h]; rfl
  clear hR
  have hn3 : 3 < n → verOK ps = false := fun h => by unfold verOK; rw [decide_eq_false (by omega)]; rfl
  have hok : n ≤ 3 → verOK ps = (ps.drop 0).all fun p => decide (0 ≤ numC p) := fun h => by unfold verOK; rw [decide_eq_true (by omega)]; rfl
  generalize verOK ps = b at *
  have pnew := fun i p => partAt_new (ps := ps) (i := i) (p := p)
  have pold := fun k i => partAt_old (ps := ps) (k := k) (i := i)
  have pend := fun k => partAt_end (ps := ps) (k := k)
  have p0 : ∀ k, partAt ps k 0 = 0 := fun k => rfl
  generalize partAt ps = g at *
  have htab := tab
  refine PCtr.walk tab hΩ fn_impl_ParseVersion rfl ?_
  generalize PP = P at *
  cbv
  refine call_pf hΩ 3 h1 rfl (fits _) r1 f1 rfl ?_
  cbv
  refine br (fun h => ?_) (fun h => ?_) <;> cbv
  · have h : 3 < n := by have h := gtZt hΩ h; subst hΩ; have h : (3 : Int) < (ys.length : Int) := h; omega
    exact .of (bad (hn3 h))
  have h3 : n ≤ 3 := by have h := gtZf hΩ h; subst hΩ; have h : (ys.length : Int) ≤ 3 := h; omega
  have hok := hok h3
  clear hn3
  refine loopX htab hΩ (fun i : Nat => ⟨[(4, .pt 1 0 0), (2, .pt 0 0 0), (14, .sl false 1 ys), (15, i64 (Ω.int (Ω.len ys))), (16, i64 (i : Int))], 39,
    [some ⟨4, [.agg [i64 0, i64 0, i64 0, i64 0]], true⟩, some ⟨3, [.agg [i64 (g 0 i), i64 (g 1 i), i64 (g 2 i)]], true⟩]⟩) (fun i => i ≤ n ∧ b = (ps.drop i).all fun p => decide (0 ≤ numC p)) (fun i => n - i) 0 ⟨Nat.zero_le _, hok⟩
    (Sbs.mk rfl (by dsimp only; rw [p0, p0, p0]; rfl) ⟨rfl, rfl, rfl, rfl, rfl, trivial⟩) (fun i hi => ?_)
  obtain ⟨hi, hb⟩ := hi
  cbv
  refine br (fun h => ?_) (fun h => ?_) <;> cbv
  · have h : i < n := by have h := ltZt hΩ h; subst hΩ; have h : (i : Int) < (ys.length : Int) := h; omega
    obtain ⟨p, hp⟩ := at_of (cs := ps) (by omega : i < _)
    rw [all_at hp] at hb
    have hnp := hnum p (Nat.le_trans (hme p (List.mem_of_getElem? hp)) (by omega))
    have pn := pnew i p hp
    have hge := numC_ge p
    have hyp : ys[((i : Nat) : Int).toNat]? = some (str p) := by rw [hys, Int.toNat_natCast, List.getElem?_map, hp]; rfl
    refine ⟨⟨Int.natCast_nonneg i⟩, str p, hyp, ?_⟩
    generalize numC p = v at *
    cbv
    refine call_pure hΩ 3 hnp rfl (fits _) rfl rfl ?_
    cbv
    rcases (by omega : i = 0 ∨ i = 1 ∨ i = 2) with rfl | rfl | rfl
    · cbv
      refine ⟨⟨by decide, by decide⟩, ⟨by decide, by decide⟩, ?_⟩
      refine br (fun k => ?_) (fun k => ?_) <;> cbv
      · have k := ltZt hΩ k
        rw [decide_eq_false (by omega)] at hb
        exact .of (bad hb)
      · have k := ltZf hΩ k
        rw [decide_eq_true k, Bool.true_and] at hb
        exact ⟨1, ⟨by omega, hb⟩, by omega, Sbs.mk rfl (congrArg (fun z => [some (Row.mk 4 [A.agg [i64 0, i64 0, i64 0, i64 0]] true), some (Row.mk 3 [A.agg z] true)]) (show [i64 v, i64 (g 1 0), i64 (g 2 0)] = [i64 (g 0 1), i64 (g 1 1), i64 (g 2 1)] by rw [show g 0 1 = v from pn, show g 1 1 = g 1 0 from pold 1 0 (by decide), show g 2 1 = g 2 0 from pold 2 0 (by decide)])) ⟨rfl, rfl, rfl, rfl, congrArg i64 (by subst hΩ; rfl), trivial⟩⟩
    · cbv
      refine ⟨⟨by decide, by decide⟩, ⟨by decide, by decide⟩, ?_⟩
      refine br (fun k => ?_) (fun k => ?_) <;> cbv
      · have k := ltZt hΩ k
        rw [decide_eq_false (by omega)] at hb
        exact .of (bad hb)
      · have k := ltZf hΩ k
        rw [decide_eq_true k, Bool.true_and] at hb
        exact ⟨2, ⟨by omega, hb⟩, by omega, Sbs.mk rfl (congrArg (fun z => [some (Row.mk 4 [A.agg [i64 0, i64 0, i64 0, i64 0]] true), some (Row.mk 3 [A.agg z] true)]) (show [i64 (g 0 1), i64 v, i64 (g 2 1)] = [i64 (g 0 2), i64 (g 1 2), i64 (g 2 2)] by rw [show g 1 2 = v from pn, show g 0 2 = g 0 1 from pold 0 1 (by decide), show g 2 2 = g 2 1 from pold 2 1 (by decide)])) ⟨rfl, rfl, rfl, rfl, congrArg i64 (by subst hΩ; rfl), trivial⟩⟩
    · cbv
      refine ⟨⟨by decide, by decide⟩, ⟨by decide, by decide⟩, ?_⟩
      refine br (fun k => ?_) (fun k => ?_) <;> cbv
      · have k := ltZt hΩ k
        rw [decide_eq_false (by omega)] at hb
        exact .of (bad hb)
      · have k := ltZf hΩ k
        rw [decide_eq_true k, Bool.true_and] at hb
        exact ⟨3, ⟨by omega, hb⟩, by omega, Sbs.mk rfl (congrArg (fun z => [some (Row.mk 4 [A.agg [i64 0, i64 0, i64 0, i64 0]] true), some (Row.mk 3 [A.agg z] true)]) (show [i64 (g 0 2), i64 (g 1 2), i64 v] = [i64 (g 0 3), i64 (g 1 3), i64 (g 2 3)] by rw [show g 2 3 = v from pn, show g 0 3 = g 0 2 from pold 0 2 (by decide), show g 1 3 = g 1 2 from pold 1 2 (by decide)])) ⟨rfl, rfl, rfl, rfl, congrArg i64 (by subst hΩ; rfl), trivial⟩⟩
  · have h : n ≤ i := by have h := ltZf hΩ h; subst hΩ; have h : (ys.length : Int) ≤ (i : Int) := h; omega
    have hin : i = ps.length := by omega
    rw [List.drop_of_length_le (by omega)] at hb
    have hb : b = true := hb
    have e : A.agg [i64 0, i64 (g 0 i), i64 (g 1 i), i64 (g 2 i)] = R := by rw [hin, pend, pend, pend]; exact good hb
    refine ⟨⟨by decide, by decide⟩, ⟨by decide, by decide⟩, ⟨by decide, by decide⟩, ?_⟩
    cbv
    exact .of e
theorem c_specParseVersion (s : List UInt8) (hs : s.length ≤ 1048575) : PCtr PP n_spec_ParseVersion [str s] (verA (verP s)) := by
  obtain ⟨Ω, hΩ⟩ : ∃ Ω, Ω = std := ⟨_, rfl⟩
  have hl := cutAt_len (c := 46) (s := s)
  have hme := fun l => cutAt_mem (c := 46) (s := s) (l := l)
  have h1 := c_l1Parts 46 s (by omega)
  have r1 := roSS (cutAt 46 s)
  have f1 : Fw.frz (.sl true 1 ((cutAt 46 s).map str)) = .sl false 1 ((cutAt 46 s).map str) := by rw [frz_sl, frzStr]
  unfold verP
  generalize cutAt 46 s = ps at *
  obtain ⟨ys, hys⟩ : ∃ ys, ys = ps.map str := ⟨_, rfl⟩
  have hyl : ys.length = ps.length := by rw [hys, List.length_map]
  rw [← hys] at h1 r1 f1
  obtain ⟨n, hn⟩ : ∃ n, n = ps.length := ⟨_, rfl⟩
  have hnum := c_l1Number
  obtain ⟨R, hR⟩ : ∃ R, R = verA (if verOK ps then (0, ⟨numAt ps 0, numAt ps 1, numAt ps 2⟩) else (5, Ver.zero)) := ⟨_, rfl⟩
  rw [← hR]
  have bad : verOK ps = false → A.agg [i64 5, i64 0, i64 0, i64 0] = R := fun h => by rw [hR, h]; rfl
  have good : verOK ps = true → A.agg [i64 0, i64 (numAt ps 0), i64 (numAt ps 1), i64 (numAt ps 2)] = R := fun h => by rw [hR, h]; rfl
  clear hR
  have hn3 : 3 < n → verOK ps = false := fun h => by unfold verOK; rw [decide_eq_false (by omega)]; rfl
  have hok : n ≤ 3 → verOK ps = (ps.drop 0).all fun p => decide (0 ≤ numC p) := fun h => by unfold verOK; rw [decide_eq_true (by omega)]; rfl
  generalize verOK ps = b at *
  have pnew := fun i p => partAt_new (ps := ps) (i := i) (p := p)
  have pold := fun k i => partAt_old (ps := ps) (k := k) (i := i)
  have pend := fun k => partAt_end (ps := ps) (k := k)
  have p0 : ∀ k, partAt ps k 0 = 0 := fun k => rfl
  generalize partAt ps = g at *
  have htab := tab
  have hmo : PP.follows .mixedOrders = true := by kernel_rfl
  refine PCtr.walk tab hΩ fn_spec_ParseVersion rfl ?_
  generalize PP = P at *
  cbv
  refine call_pf hΩ 3 h1 rfl (fits _) r1 f1 rfl ?_
  cbv
  refine br (fun h => ?_) (fun h => ?_) <;> cbv
  · have h : 3 < n := by have h := gtZt hΩ h; subst hΩ; have h : (3 : Int) < (ys.length : Int) := h; omega
    exact .of (bad (hn3 h))
  have h3 : n ≤ 3 := by have h := gtZf hΩ h; subst hΩ; have h : (ys.length : Int) ≤ 3 := h; omega
  have hok := hok h3
  clear hn3
  refine loopX htab hΩ (fun i : Nat => ⟨[(2, .pt 0 0 0), (3, .sl false 1 ys), (4, .vw 1 0 3), (5, i64 (Ω.int i))], 47,
    [some ⟨4, [.agg [i64 0, i64 0, i64 0, i64 0]], true⟩, some ⟨1, [i64 (g 0 i), i64 (g 1 i), i64 (g 2 i)], false⟩]⟩) (fun i => i ≤ n ∧ b = (ps.drop i).all fun p => decide (0 ≤ numC p)) (fun i => n - i) 0 ⟨Nat.zero_le _, hok⟩
    (Sbs.mk rfl (by dsimp only; rw [p0, p0, p0]; rfl) ⟨rfl, rfl, rfl, zeroI hΩ, trivial⟩) (fun i hi => ?_)
  obtain ⟨hi, hb⟩ := hi
  cbv
  refine br (fun h => ?_) (fun h => ?_) <;> cbv
  · have h : i < n := by have h := ltZt hΩ h; subst hΩ; have h : (i : Int) < (ys.length : Int) := h; omega
    obtain ⟨p, hp⟩ := at_of (cs := ps) (by omega : i < _)
    rw [all_at hp] at hb
    have hnp := hnum p (Nat.le_trans (hme p (List.mem_of_getElem? hp)) (by omega))
    unfold numR at hnp
    have pn := pnew i p hp
    have hge := numC_ge p
    refine ⟨⟨nnI hΩ⟩, _, rdI hΩ hys hp, ?_⟩
    generalize numC p = v at *
    obtain ⟨x, hx⟩ : ∃ x, x = if v < 0 then 0 else v := ⟨_, rfl⟩
    obtain ⟨q, hq⟩ : ∃ q, q = decide (0 ≤ v) := ⟨_, rfl⟩
    rw [← hx, ← hq] at hnp
    rw [← hq] at hb
    cbv
    refine call_pure hΩ 3 hnp rfl (fits _) rfl rfl ?_
    cbv
    refine br (fun k => ?_) (fun k => ?_) <;> cbv
    · rw [notT' hΩ k] at hb
      exact .of (bad hb)
    · have k := notF' hΩ k
      have hv : 0 ≤ v := by rw [k] at hq; exact of_decide_eq_true hq.symm
      rw [if_neg (by omega)] at hx
      subst hx
      rw [k, Bool.true_and] at hb
      have hset : Ω.set [i64 (g 0 i), i64 (g 1 i), i64 (g 2 i)] (Ω.plus 0 (Ω.nat (Ω.int i))) (i64 x) = [i64 (g 0 (i + 1)), i64 (g 1 (i + 1)), i64 (g 2 (i + 1))] := by
        subst hΩ
        show List.set [i64 (g 0 i), i64 (g 1 i), i64 (g 2 i)] (0 + i) (i64 x) = _
        rw [Nat.zero_add]
        rcases (by omega : i = 0 ∨ i = 1 ∨ i = 2) with rfl | rfl | rfl
        · rw [pn, pold 1 0 (by decide), pold 2 0 (by decide)]; rfl
        · rw [pn, pold 0 1 (by decide), pold 2 1 (by decide)]; rfl
        · rw [pn, pold 0 2 (by decide), pold 1 2 (by decide)]; rfl
      refine ⟨⟨nnI hΩ, by subst hΩ; show (i : Int) < 3; omega⟩, ⟨by subst hΩ; show 0 + i < 3; omega, fun z hz => ?_⟩, i + 1, ⟨by omega, hb⟩, by omega,
        Sbs.mk rfl (congrArg (fun z => [some (Row.mk 4 [A.agg [i64 0, i64 0, i64 0, i64 0]] true), some (Row.mk 1 z false)]) hset) ⟨rfl, rfl, rfl, incI hΩ (by omega), trivial⟩⟩
      rcases List.mem_cons.1 hz with rfl | hz
      · rfl
      rcases List.mem_cons.1 hz with rfl | hz
      · rfl
      rcases List.mem_cons.1 hz with rfl | hz
      · rfl
      cases hz
  · have h : n ≤ i := by have h := ltZf hΩ h; subst hΩ; have h : (ys.length : Int) ≤ (i : Int) := h; omega
    have hin : i = ps.length := by omega
    rw [List.drop_of_length_le (by omega)] at hb
    have hb : b = true := hb
    have e : A.agg [i64 0, i64 (g 0 i), i64 (g 1 i), i64 (g 2 i)] = R := by rw [hin, pend, pend, pend]; exact good hb
    refine ⟨VC.sub (VC_lord htab hΩ hmo [0, 1, 2, 3, 4, 5, 6, 7, 8] (.step 9 (.step 10 (.step 11 .fin))) [] [] (by kernel_rfl) ?_) (Sbs.thaw0 (r := 1) rfl rfl rfl)⟩
    cbv
    refine ⟨⟨Int.le_refl 0⟩, i64 (g 0 i), rfl, ?_⟩
    cbv
    refine ⟨⟨by decide⟩, i64 (g 1 i), rfl, ?_⟩
    cbv
    refine ⟨⟨by decide⟩, i64 (g 2 i), rfl, ?_⟩
    cbv
    intro vs
    cbv
    exact .of e
end Go.Proofs.YtgcnggefeapalaaGreatDoor

/- Walks: lists of changes read from text. Plain theorems. -/
set_option linter.unusedVariables false
set_option linter.unusedSimpArgs false
namespace Go.Proofs.YtgcnggefeapalaaGreatDoor
open Go Go.Fw
set_option maxRecDepth 100000
theorem words_len {s : List UInt8} : (wordsP s).length ≤ s.length + 1 := by
  unfold wordsP
  exact Nat.le_trans (List.length_filter_le _ _) cutAt_len
theorem words_mem {s w : List UInt8} (h : w ∈ wordsP s) : w.length ≤ s.length := by
  unfold wordsP at h
  exact cutAt_mem (List.mem_filter.1 h).1
end Go.Proofs.YtgcnggefeapalaaGreatDoor

/- Numbers written with so many digits. Plain theorems, no program. -/
set_option linter.unusedVariables false
set_option linter.unusedSimpArgs false
namespace Go.Proofs.YtgcnggefeapalaaGreatDoor
open Go Go.Fw
/-- k digits of a number. -/
def digs : Nat → Nat → List UInt8
  | 0, _ => []
  | k + 1, n => digs k (n / 10) ++ [UInt8.ofNat (48 + n % 10)]
theorem digs_len : ∀ (k n : Nat), (digs k n).length = k
  | 0, _ => rfl
  | k + 1, n => by simp [digs, digs_len k]
theorem dec_lead : ∀ (k a n : Nat), 1 ≤ a → a < 10 → n < 10 ^ k → Lib.decDigits (a * 10 ^ k + n) = UInt8.ofNat (48 + a) :: digs k n
  | 0, a, n, h1, h2, h3 => by
    obtain rfl : n = 0 := by simpa using h3
    simp [digs, decD_small h2]
  | k + 1, a, n, h1, h2, h3 => by
    have hp : 1 ≤ 10 ^ k := Nat.one_le_pow _ _ (by decide)
    have e : a * 10 ^ (k + 1) = 10 * (a * 10 ^ k) := by rw [Nat.pow_succ]; rw [Nat.mul_comm (10 ^ k) 10, ← Nat.mul_assoc, Nat.mul_comm a 10, Nat.mul_assoc]
    have hle : 1 ≤ a * 10 ^ k := Nat.mul_pos h1 hp
    have hd : (a * 10 ^ (k + 1) + n) / 10 = a * 10 ^ k + n / 10 := by rw [e]; omega
    have hm : (a * 10 ^ (k + 1) + n) % 10 = n % 10 := by rw [e]; omega
    rw [decD_big (by rw [e]; omega), hd, hm, dec_lead k a (n / 10) h1 h2 (by rw [Nat.pow_succ] at h3; omega)]
    rfl
theorem rep_snoc (s : List UInt8) : ∀ c : Nat, Lib.repeatL s (c + 1) = Lib.repeatL s c ++ s
  | 0 => by simp [Lib.repeatL]
  | c + 1 => by
    show s ++ Lib.repeatL s (c + 1) = (s ++ Lib.repeatL s c) ++ s
    rw [rep_snoc s c, List.append_assoc]
theorem digs_zero : ∀ k : Nat, digs k 0 = Lib.repeatL [48] k
  | 0 => rfl
  | k + 1 => by rw [digs, rep_snoc, Nat.zero_div, digs_zero k]; rfl
theorem pad_digs : ∀ (k n : Nat), n < 10 ^ (k + 1) → Lib.repeatL [48] (k + 1 - (Lib.decDigits n).length) ++ Lib.decDigits n = digs (k + 1) n
  | k, n, h => by
    rcases Nat.lt_or_ge n 10 with h1 | h1
    · rw [decD_small h1, digs, show n / 10 = 0 by omega, digs_zero, show n % 10 = n by omega]
      rfl
    · cases k with
      | zero => simp at h; omega
      | succ k =>
        have ih := pad_digs k (n / 10) (by rw [Nat.pow_succ] at h; omega)
        rw [decD_big h1, digs, ← ih, List.length_append, List.length_singleton, List.append_assoc]
        congr 2
        omega
/-- Digits that are read, written again. -/
theorem digs_numL : ∀ (s : List UInt8) (k a : Nat), 0 ≤ numL s (a : Int) → ∃ m : Nat, numL s (a : Int) = m ∧ digs (k + s.length) m = digs k a ++ s ∧ m < (a + 1) * 10 ^ s.length
  | [], k, a, h => ⟨a, rfl, by simp, by simp⟩
  | c :: cs, k, a, h => by
    unfold numL at h ⊢
    split at h
    · rename_i hc
      rw [if_pos hc]
      have e : (10 * (a : Int) + ((c.toNat : Int) - 48)) = ((10 * a + (c.toNat - 48) : Nat) : Int) := by omega
      rw [e] at h ⊢
      obtain ⟨m, h1, h2, h3⟩ := digs_numL cs (k + 1) (10 * a + (c.toNat - 48)) h
      refine ⟨m, h1, ?_, ?_⟩
      · rw [List.length_cons, show k + (cs.length + 1) = k + 1 + cs.length by omega, h2, digs, List.append_assoc]
        have e1 : (10 * a + (c.toNat - 48)) / 10 = a := by omega
        have e2 : (10 * a + (c.toNat - 48)) % 10 = c.toNat - 48 := by omega
        have e3 : UInt8.ofNat (48 + (c.toNat - 48)) = c := by rw [show 48 + (c.toNat - 48) = c.toNat by omega]; simp
        rw [e1, e2, e3]; rfl
      · rw [List.length_cons, Nat.pow_succ]
        refine Nat.lt_of_lt_of_le h3 ?_
        have : (10 * a + (c.toNat - 48) + 1) ≤ (a + 1) * 10 := by omega
        calc (10 * a + (c.toNat - 48) + 1) * 10 ^ cs.length ≤ ((a + 1) * 10) * 10 ^ cs.length := Nat.mul_le_mul_right _ this
          _ = (a + 1) * (10 ^ cs.length * 10) := by rw [Nat.mul_assoc, Nat.mul_comm 10]
    · rw [if_neg ‹_›] at *
      exact absurd h (by decide)
end Go.Proofs.YtgcnggefeapalaaGreatDoor

/- Walks: the path of a number. Plain theorems. -/
set_option linter.unusedVariables false
set_option linter.unusedSimpArgs false
namespace Go.Proofs.YtgcnggefeapalaaGreatDoor
open Go Go.Fw
set_option maxRecDepth 100000
def genH : List UInt8 := [103, 101, 110, 47]
/-- The path of a number: six digits behind a head. -/
def genB (n : Int) : List UInt8 := genH ++ digs 6 n.toNat
theorem c_genPath (n : Int) (h0 : 1 ≤ n) (h1 : n ≤ 999999) : PCtr PP n_impl_genPath [i64 n] (str (genB n)) := by
  obtain ⟨Ω, hΩ⟩ : ∃ Ω, Ω = std := ⟨_, rfl⟩
  have hd := c_dec n (by omega) (by omega)
  obtain ⟨m, rfl⟩ : ∃ m : Nat, n = (m : Int) := ⟨n.toNat, by omega⟩
  have hm1 : m ≤ 999999 := by omega
  obtain ⟨t, ht⟩ : ∃ t, t = Lib.itoa (m : Int) := ⟨_, rfl⟩
  have ht2 : t = Lib.decDigits m := by rw [ht, itoa_dec (by omega)]; rfl
  have htl : t.length ≤ 6 := by rw [ht2]; exact decD_len 5 m (by omega)
  rw [← ht] at hd
  have hr := c_Repeat [48] (6 - t.length) (by decide) (by simp; omega) (by omega)
  have hg : genB (m : Int) = genH ++ (Lib.repeatL [48] (6 - t.length) ++ t) := by
    unfold genB
    rw [ht2, pad_digs 5 m (by omega)]; rfl
  rw [hg]
  have hsub : Ω.ar .sub .i64 6 (Ω.int (Ω.lenS t)) = ((6 - t.length : Nat) : Int) := by
    subst hΩ
    show IntKind.i64.wrap (6 - (t.length : Int)) = _
    rw [wrap64 (by omega) (by omega)]; omega
  have hzl : (Lib.repeatL [48] (6 - t.length)).length ≤ 6 := by
    have h := congrArg List.length (pad_digs 5 m (by omega))
    rw [digs_len, List.length_append] at h
    have h : (Lib.repeatL [48] (6 - (Lib.decDigits m).length)).length + (Lib.decDigits m).length = 6 := h
    rw [ht2]; omega
  generalize Lib.repeatL [48] (6 - t.length) = z at *
  rw [← hsub] at hr
  clear hsub
  generalize (m : Int) = n at *
  unfold genH
  clear ht ht2 hm1 hg
  have hcat : Ω.cat (Ω.cat [103, 101, 110, 47] z) t = [103, 101, 110, 47] ++ (z ++ t) := by subst hΩ; exact List.append_assoc _ _ _
  generalize [103, 101, 110, 47] ++ (z ++ t) = r at *
  have htab := tab
  have hmo := hmo
  refine PCtr.walk tab hΩ fn_impl_genPath rfl ?_
  generalize PP = P at *
  cbv
  refine call_pure hΩ 3 hd rfl (fits _) rfl rfl ?_
  cbv
  refine call_pure hΩ 3 hr rfl (fits _) rfl rfl ?_
  cbv
  exact ⟨⟨by show ((4 + z.length : Nat) : Int) ≤ _; omega⟩, ⟨by subst hΩ; show ((([103, 101, 110, 47] ++ z).length + t.length : Nat) : Int) ≤ _; rw [List.length_append]; show ((4 + z.length + t.length : Nat) : Int) ≤ _; omega⟩, .of (congrArg str hcat)⟩
theorem c_GenPath (n : Int) (h0 : 1 ≤ n) (h1 : n ≤ 999999) : PCtr PP n_spec_GenPath [i64 n] (str (genB n)) := by
  obtain ⟨Ω, hΩ⟩ : ∃ Ω, Ω = std := ⟨_, rfl⟩
  obtain ⟨m, rfl⟩ : ∃ m : Nat, n = (m : Int) := ⟨n.toNat, by omega⟩
  have hd := c_l1Decimal (1000000 + m) (by omega)
  have he : Lib.decDigits (1000000 + m) = UInt8.ofNat (48 + 1) :: digs 6 m := dec_lead 6 1 m (by omega) (by omega) (by omega)
  rw [he] at hd
  have hg : genB (m : Int) = genH ++ digs 6 m := rfl
  rw [hg]
  have hsum : Ω.ar .add .i64 1000000 (m : Int) = ((1000000 + m : Nat) : Int) := by
    subst hΩ
    show IntKind.i64.wrap (1000000 + (m : Int)) = _
    rw [wrap64 (by omega) (by omega)]; omega
  rw [← hsum] at hd
  have hin := c_l1In (m : Int) 1 999999
  have hint : inB (m : Int) 1 999999 = true := by unfold inB; simp; omega
  rw [hint] at hin
  have hzl : (digs 6 m).length = 6 := digs_len 6 m
  generalize digs 6 m = z at *
  clear hsum he hint hg
  generalize (m : Int) = n at *
  unfold genH
  have hsg : ∀ q : UInt8, Ω.segS (Ω.nat 1) (Ω.lenS (q :: z)) (q :: z) = z := fun q => by subst hΩ; show ((q :: z).take (z.length + 1)).drop 1 = z; simp
  have hls : ∀ q : UInt8, Ω.lenS (q :: z) = z.length + 1 := fun q => by subst hΩ; rfl
  have hcat : Ω.cat [103, 101, 110, 47] z = [103, 101, 110, 47] ++ z := by subst hΩ; rfl
  generalize UInt8.ofNat (48 + 1) = q at *
  have hsg := hsg q
  have hls := hls q
  obtain ⟨y, hy⟩ : ∃ y, y = q :: z := ⟨_, rfl⟩
  rw [← hy] at hd hsg hls
  generalize [103, 101, 110, 47] ++ z = r at *
  have htab := tab
  have hmo := hmo
  refine PCtr.walk tab hΩ fn_spec_GenPath rfl ?_
  generalize PP = P at *
  cbv
  refine call_pure hΩ 3 hin rfl (fits _) rfl rfl ?_
  cbv
  refine br (fun h => (notT hΩ h).elim) (fun h => ?_)
  cbv
  refine call_pure hΩ 3 hd rfl (fits _) rfl rfl ?_
  cbv
  have hyl : y.length = z.length + 1 := by rw [hy]; rfl
  exact ⟨⟨by decide, trivial, by show Ω.nat 1 ≤ Ω.lenS y; rw [hls]; subst hΩ; show 1 ≤ _; omega, by show Ω.lenS y ≤ y.length; rw [hls, hyl]; exact Nat.le_refl _⟩,
    ⟨by show ((4 + (Ω.segS (Ω.nat 1) (Ω.lenS y) y).length : Nat) : Int) ≤ _; rw [hsg]; omega⟩, .of (congrArg str (by show Ω.cat [103, 101, 110, 47] (Ω.segS (Ω.nat 1) (Ω.lenS y) y) = r; rw [hsg, hcat]))⟩
end Go.Proofs.YtgcnggefeapalaaGreatDoor

/- Disks: files and how they lie in cells. Plain definitions. -/
set_option linter.unusedVariables false
set_option linter.unusedSimpArgs false
namespace Go.Proofs.YtgcnggefeapalaaGreatDoor
open Go Go.Fw
/-- A file: its path, its bytes. -/
structure Fil where
  p : List UInt8
  d : List UInt8
  deriving DecidableEq
/-- A disk. -/
structure Dsk where
  f : List Fil
  bg : Int
  wr : Int
  st : Int
  dn : Bool
/-- A file in cells; o: its bytes are held alone. -/
def Fil.enc (o : Bool) (x : Fil) : A := .agg [str x.p, .sl o 1 (x.d.map byteA)]
/-- A disk in cells; q: its files are held alone. -/
def Dsk.enc (q o : Bool) (x : Dsk) : A := .agg [.sl q 2 (x.f.map (Fil.enc o)), i64 x.bg, i64 x.wr, i64 x.st, boo x.dn]
theorem frz_bytes (l : List UInt8) : (l.map byteA).map frz = l.map byteA := by
  rw [List.map_map]; exact List.map_congr_left fun c _ => rfl
theorem frz_Fil (x : Fil) : frz (x.enc true) = x.enc false := by
  unfold Fil.enc
  rw [frz_agg]
  simp only [List.map_cons, List.map_nil, frz_sl, frz_bytes]; rfl
theorem frz_Fils (l : List Fil) : (l.map (Fil.enc true)).map frz = l.map (Fil.enc false) := by
  rw [List.map_map]; exact List.map_congr_left fun c _ => frz_Fil c
/-- A byte of a path. -/
def pathB (c : UInt8) : Bool := nameB c || (decide ((c.toNat : Int) = 46) || (decide ((c.toNat : Int) = 45) || decide ((c.toNat : Int) = 47)))
def leB (a b : List UInt8) : Bool := Op.bytesLess a b || a == b
def pathF (p : List UInt8) : Int := if p.length < 1 ∨ 40 < p.length then 5 else allCode pathB 5 p
/-- How many bytes files have. -/
def totL (l : List Fil) : Nat := (l.map fun f => f.d.length).sum
theorem totL_at {l : List Fil} {i : Nat} {f : Fil} (h : l[i]? = some f) : totL (l.take (i + 1)) = totL (l.take i) + f.d.length := by
  unfold totL
  rw [List.take_add_one, h]
  simp
/-- What is wrong with files, one behind the other. -/
def filsF : Option (List UInt8) → List Fil → Int
  | _, [] => 0
  | q, f :: fs => if pathF f.p ≠ 0 then pathF f.p else if q.any (leB f.p) then 1 else if 4000 < f.d.length then 2 else filsF (some f.p) fs
/-- What is wrong with a disk. -/
def dskF (x : Dsk) : Int :=
  if (inB x.bg 0 20000 && (inB x.wr 0 1000000000 && inB x.st (-1) 1000000000)) = false then 3
  else if 120 < x.f.length then 2
  else if filsF none x.f ≠ 0 then filsF none x.f
  else if x.bg < (totL x.f : Int) then 8 else 0
def prevP (l : List Fil) (i : Nat) : Option (List UInt8) := if i = 0 then none else (l[i - 1]?).map Fil.p
theorem filsF_at {l : List Fil} {i : Nat} {f : Fil} (h : l[i]? = some f) : filsF (prevP l i) (l.drop i) = if pathF f.p ≠ 0 then pathF f.p else if (prevP l i).any (leB f.p) then 1 else if 4000 < f.d.length then 2 else filsF (prevP l (i + 1)) (l.drop (i + 1)) := by
  obtain ⟨hi, rfl⟩ := List.getElem?_eq_some_iff.1 h
  rw [List.drop_eq_getElem_cons hi]
  have e : prevP l (i + 1) = some l[i].p := by unfold prevP; rw [if_neg (by omega), Nat.add_sub_cancel, List.getElem?_eq_getElem hi]; rfl
  rw [e]; rfl
end Go.Proofs.YtgcnggefeapalaaGreatDoor

/- Walks: paths. Plain theorems. -/
set_option linter.unusedVariables false
set_option linter.unusedSimpArgs false
namespace Go.Proofs.YtgcnggefeapalaaGreatDoor
open Go Go.Fw
set_option maxRecDepth 100000
theorem c_l7Byte (c : UInt8) : PCtr PP n_spec_l7Byte [u8 c] (boo (pathB c)) := by
  obtain ⟨Ω, hΩ⟩ : ∃ Ω, Ω = std := ⟨_, rfl⟩
  obtain ⟨r, hr⟩ : ∃ r, r = pathB c := ⟨_, rfl⟩
  rw [← hr]
  have hc0 := c_l1Name c
  unfold pathB at hr
  unfold u8 at *
  generalize (c.toNat : Int) = n at *
  generalize nameB c = b1 at *
  have htab := tab
  have hmo := hmo
  refine PCtr.walk tab hΩ fn_spec_l7Byte rfl ?_
  generalize PP = P at *
  cbv
  refine call_pure hΩ 3 hc0 rfl (fits _) rfl rfl ?_
  cbv
  repeat' (first | (refine br (fun h => ?_) (fun h => ?_) <;> cbv) | (refine ⟨VC_drawn htab hΩ hmo (by kernel_rfl) ?_⟩; cbv))
  all_goals (refine .of (congrArg boo ?_); subst hΩ; subst hr; clear hc0 htab hmo; cases b1 <;> simp_all <;> rw [Bool.eq_iff_iff] <;> simp)
theorem c_specPathFault (s : List UInt8) : PCtr PP n_spec_PathFault [str s] (i64 (pathF s)) := by
  obtain ⟨Ω, hΩ⟩ : ∃ Ω, Ω = std := ⟨_, rfl⟩
  obtain ⟨r, hr⟩ : ∃ r, r = pathF s := ⟨_, rfl⟩
  rw [← hr]
  have hc : ∀ c, PCtr PP n_spec_l7Byte [.sc (.int .u8 (Ω.u8 c))] (boo (pathB c)) := by subst hΩ; exact c_l7Byte
  unfold pathF at hr
  generalize pathB = F at *
  have htab := tab
  have hmo := hmo
  refine PCtr.walk tab hΩ fn_spec_PathFault rfl ?_
  generalize PP = P at *
  cbv
  have hb1 : Ω.cmp .lss (Ω.int (Ω.lenS s)) 1 = true → r = 5 := fun h => by
    have h := ltZt hΩ h
    subst hΩ
    have h : (s.length : Int) < 1 := h
    rw [hr, if_pos (.inl (by omega))]
  have hb2 : Ω.cmp .gtr (Ω.int (Ω.lenS s)) 40 = true → r = 5 := fun h => by
    have h := gtZt hΩ h
    subst hΩ
    have h : 40 < (s.length : Int) := h
    rw [hr, if_pos (.inr (by omega))]
  have hok : Ω.cmp .lss (Ω.int (Ω.lenS s)) 1 = false → Ω.cmp .gtr (Ω.int (Ω.lenS s)) 40 = false → r = allCode F 5 s ∧ s.length ≤ 40 := fun h g => by
    have h := ltZf hΩ h
    have g := gtZf hΩ g
    subst hΩ
    have h : 1 ≤ (s.length : Int) := h
    have g : (s.length : Int) ≤ 40 := g
    rw [hr, if_neg (by omega)]
    exact ⟨rfl, by omega⟩
  clear hr
  refine br (fun h1 => ?_) (fun h1 => ?_) <;> cbv
  · exact .of (congrArg i64 (hb1 h1).symm)
  · refine br (fun h2 => ?_) (fun h2 => ?_) <;> cbv
    · exact .of (congrArg i64 (hb2 (iteB hΩ h2)).symm)
    · obtain ⟨he0, hn40⟩ := hok h1 (iteB hΩ h2)
      refine loopX htab hΩ (fun i : Nat => ⟨[(0, .sc (.string (mkS s))), (3, .sc (.int .i64 (Ω.int i)))], 23, []⟩) (fun i => i ≤ s.length ∧ r = allCode F 5 (s.drop i)) (fun i => s.length - i) 0
        ⟨Nat.zero_le _, he0⟩ (Sbs.mk rfl rfl ⟨rfl, zeroI hΩ, trivial⟩) ?_
      rintro i ⟨hi, he⟩
      cbv
      refine br (fun h => ?_) (fun h => ?_) <;> cbv
      · replace h := ltS hΩ h
        obtain ⟨c, hcc⟩ := at_of (cs := s) h
        rw [allCode_at _ _ hcc] at he
        refine ⟨⟨nnI hΩ⟩, c, by subst hΩ; exact hcc, ?_⟩
        cbv
        refine call_pure hΩ 3 (hc c) rfl (fits _) rfl rfl ?_
        cbv
        refine br (fun g => ?_) (fun g => ?_) <;> cbv
        · exact .of (congrArg i64 (by rw [he, notT' hΩ g]; rfl))
        · rw [notF' hΩ g] at he
          exact ⟨i + 1, ⟨by omega, he⟩, by omega, Sbs.mk rfl rfl ⟨rfl, incI hΩ (by omega), trivial⟩⟩
      · replace h := geS hΩ h
        exact .of (congrArg i64 (by rw [he, List.drop_of_length_le h]; rfl))
theorem c_implPathFault (s : List UInt8) : PCtr PP n_impl_PathFault [str s] (i64 (pathF s)) := by
  obtain ⟨Ω, hΩ⟩ : ∃ Ω, Ω = std := ⟨_, rfl⟩
  obtain ⟨r, hr⟩ : ∃ r, r = pathF s := ⟨_, rfl⟩
  rw [← hr]
  have hc : ∀ c, PCtr PP n_impl_isNameByte [.sc (.int .u8 (Ω.u8 c))] (boo (nameB c)) := by subst hΩ; exact c_isNameByte
  unfold pathF at hr
  have hF : ∀ c, pathB c = (nameB c || (decide ((Ω.u8 c : Int) = 46) || (decide ((Ω.u8 c : Int) = 45) || decide ((Ω.u8 c : Int) = 47)))) := by subst hΩ; intro c; rfl
  generalize pathB = F at *
  generalize nameB = F0 at *
  have htab := tab
  have hmo := hmo
  refine PCtr.walk tab hΩ fn_impl_PathFault rfl ?_
  generalize PP = P at *
  cbv
  have hb1 : Ω.cmp .lss (Ω.int (Ω.lenS s)) 1 = true → r = 5 := fun h => by
    have h := ltZt hΩ h
    subst hΩ
    have h : (s.length : Int) < 1 := h
    rw [hr, if_pos (.inl (by omega))]
  have hb2 : Ω.cmp .gtr (Ω.int (Ω.lenS s)) 40 = true → r = 5 := fun h => by
    have h := gtZt hΩ h
    subst hΩ
    have h : 40 < (s.length : Int) := h
    rw [hr, if_pos (.inr (by omega))]
  have hok : Ω.cmp .lss (Ω.int (Ω.lenS s)) 1 = false → Ω.cmp .gtr (Ω.int (Ω.lenS s)) 40 = false → r = allCode F 5 s ∧ s.length ≤ 40 := fun h g => by
    have h := ltZf hΩ h
    have g := gtZf hΩ g
    subst hΩ
    have h : 1 ≤ (s.length : Int) := h
    have g : (s.length : Int) ≤ 40 := g
    rw [hr, if_neg (by omega)]
    exact ⟨rfl, by omega⟩
  clear hr
  refine br (fun h1 => ?_) (fun h1 => ?_) <;> cbv
  · exact .of (congrArg i64 (hb1 h1).symm)
  · refine br (fun h2 => ?_) (fun h2 => ?_) <;> cbv
    · exact .of (congrArg i64 (hb2 (iteB hΩ h2)).symm)
    · obtain ⟨he0, hn40⟩ := hok h1 (iteB hΩ h2)
      refine loopX htab hΩ (fun i : Nat => ⟨[(0, .sc (.string (mkS s))), (14, .sc (.int .i64 (Ω.int (Ω.lenS s)))), (15, .sc (.int .i64 (Ω.int i)))], 37, []⟩) (fun i => i ≤ s.length ∧ r = allCode F 5 (s.drop i)) (fun i => s.length - i) 0
        ⟨Nat.zero_le _, he0⟩ (Sbs.mk rfl rfl ⟨rfl, rfl, zeroI hΩ, trivial⟩) ?_
      rintro i ⟨hi, he⟩
      cbv
      refine br (fun h => ?_) (fun h => ?_) <;> cbv
      · replace h := ltS hΩ h
        obtain ⟨c, hcc⟩ := at_of (cs := s) h
        rw [allCode_at _ _ hcc, hF c] at he
        refine ⟨⟨nnI hΩ⟩, c, by subst hΩ; exact hcc, ?_⟩
        cbv
        refine call_pure hΩ 3 (hc c) rfl (fits _) rfl rfl ?_
        have hk : ∀ k : Int, (decide (k = 46) || (decide (k = 45) || decide (k = 47))) = true ↔ (k = 46 ∨ k = 45 ∨ k = 47) := fun k => by simp
        have stop : ¬ (F0 c = true) → ¬ ((Ω.u8 c : Int) = 46 ∨ (Ω.u8 c : Int) = 45 ∨ (Ω.u8 c : Int) = 47) → r = 5 := fun h1 h2 => by
          rw [he, if_neg]
          rw [Bool.or_eq_true, hk]
          exact fun h => h.elim h1 h2
        have go : F0 c = true ∨ (Ω.u8 c : Int) = 46 ∨ (Ω.u8 c : Int) = 45 ∨ (Ω.u8 c : Int) = 47 → r = allCode F 5 (s.drop (i + 1)) := fun h1 => by
          rw [he, if_pos]
          rw [Bool.or_eq_true, hk]
          exact h1
        have nx : r = allCode F 5 (s.drop (i + 1)) → (i + 1 ≤ s.length ∧ r = allCode F 5 (s.drop (i + 1))) := fun h => ⟨by omega, h⟩
        have lt1 : s.length - (i + 1) < s.length - i := by omega
        clear he hF
        refine br (fun g0 => ?_) (fun g0 => ?_) <;> cbv
        · have g0 := notA hΩ g0
          refine br (fun g1 => ?_) (fun g1 => ?_) <;> cbv
          · have g1 := neZt hΩ (iteA hΩ g1)
            refine br (fun g2 => ?_) (fun g2 => ?_) <;> cbv
            · have g2 := neZt hΩ (iteA hΩ g2)
              refine br (fun g3 => ?_) (fun g3 => ?_) <;> cbv
              · have g3 := neZt hΩ (iteA hΩ g3)
                exact .of (congrArg i64 (stop (by rw [g0]; simp) (fun h => h.elim g1 fun h => h.elim g2 g3)).symm)
              · have g3 := neZf hΩ (iteA hΩ g3)
                exact ⟨i + 1, nx (go (.inr (.inr (.inr g3)))), lt1, Sbs.mk rfl rfl ⟨rfl, rfl, incI hΩ (by omega), trivial⟩⟩
            · have g2 := neZf hΩ (iteA hΩ g2)
              exact ⟨i + 1, nx (go (.inr (.inr (.inl g2)))), lt1, Sbs.mk rfl rfl ⟨rfl, rfl, incI hΩ (by omega), trivial⟩⟩
          · have g1 := neZf hΩ (iteA hΩ g1)
            exact ⟨i + 1, nx (go (.inr (.inl g1))), lt1, Sbs.mk rfl rfl ⟨rfl, rfl, incI hΩ (by omega), trivial⟩⟩
        · have g0 := notB hΩ g0
          exact ⟨i + 1, nx (go (.inl g0)), lt1, Sbs.mk rfl rfl ⟨rfl, rfl, incI hΩ (by omega), trivial⟩⟩
      · replace h := geS hΩ h
        exact .of (congrArg i64 (by rw [he, List.drop_of_length_le h]; rfl))
end Go.Proofs.YtgcnggefeapalaaGreatDoor

/- Walks: how much a disk holds. Plain theorems. -/
set_option linter.unusedVariables false
set_option linter.unusedSimpArgs false
namespace Go.Proofs.YtgcnggefeapalaaGreatDoor
open Go Go.Fw
set_option maxRecDepth 100000
theorem addT {Ω : Opq} (hΩ : Ω = std) {x y z : Int} (h : x + y = z) (h0 : -9223372036854775808 ≤ z) (h1 : z ≤ 9223372036854775807) : Ω.ar .add .i64 x y = z := by subst hΩ; subst h; exact wrap64 h0 h1
/-- A disk's cells, seen and not written. -/
def Dsk.see (x : Dsk) : A := .rp [.sl false 2 (x.f.map (Fil.enc false)), i64 x.bg, i64 x.wr, i64 x.st, boo x.dn]
theorem totL_le {l : List Fil} {i : Nat} (h : i ≤ l.length) : totL (l.take i) ≤ totL l := by
  have : totL l = totL (l.take i) + totL (l.drop i) := by
    unfold totL
    rw [← List.sum_append, ← List.map_append, List.take_append_drop]
  omega
theorem c_l7Total (x : Dsk) (hl : x.f.length ≤ 1048576) (ht : totL x.f ≤ 1099511627776) : PCtr PP n_spec_l7Total [x.see] (i64 (totL x.f : Int)) := by
  obtain ⟨Ω, hΩ⟩ : ∃ Ω, Ω = std := ⟨_, rfl⟩
  unfold Dsk.see
  generalize x.bg = v1
  generalize x.wr = v2
  generalize x.st = v3
  generalize x.dn = v4
  obtain ⟨l, hL⟩ : ∃ l, l = x.f := ⟨_, rfl⟩
  rw [← hL] at ht hl ⊢
  obtain ⟨n, hn⟩ : ∃ n, n = l.length := ⟨_, rfl⟩
  obtain ⟨xs, hxs⟩ : ∃ xs, xs = l.map (Fil.enc false) := ⟨_, rfl⟩
  rw [← hxs]
  obtain ⟨ac, hac⟩ : ∃ ac : Nat → Int, ∀ i, ac i = (totL (l.take i) : Int) := ⟨_, fun _ => rfl⟩
  have hac0 : ac 0 = 0 := by rw [hac]; rfl
  have hacn : i64 (totL l : Int) = i64 (ac n) := by rw [hac, hn, List.take_length]
  have hacb : ∀ i, i ≤ n → 0 ≤ ac i ∧ ac i ≤ 1099511627776 := fun i hi => by rw [hac]; have := totL_le (l := l) (i := i) (by omega); omega
  have hacs : ∀ i c, l[i]? = some c → ac (i + 1) = ac i + (Ω.int (Ω.len (c.d.map byteA))) := fun i c h => by
    rw [hac, hac, totL_at h]; subst hΩ; show _ = _ + ((c.d.map byteA).length : Int); rw [List.length_map]; omega
  have hlen : Ω.int (Ω.len xs) = Ω.int n := by subst hΩ; show ((xs.length : Nat) : Int) = _; rw [hxs, List.length_map, hn]; rfl
  rw [hacn]
  clear hac hacn
  have htab := tab
  have hmo := hmo
  refine PCtr.walk tab hΩ fn_spec_l7Total rfl ?_
  generalize PP = P at *
  cbv
  refine loopX htab hΩ (fun i : Nat => ⟨[(0, .rp [.sl false 2 xs, i64 v1, i64 v2, i64 v3, boo v4]), (3, i64 (ac i)), (4, i64 (Ω.int i))], 26, []⟩) (fun i => i ≤ n) (fun i => n - i) 0 (Nat.zero_le _)
    (Sbs.mk rfl rfl ⟨rfl, congrArg i64 hac0.symm, zeroI hΩ, trivial⟩) (fun i hi => ?_)
  cbv
  refine br (fun h => ?_) (fun h => ?_) <;> cbv
  · have h := ltZt hΩ h
    have h : i < n := by rw [hlen] at h; subst hΩ; have h : (i : Int) < (n : Int) := h; omega
    obtain ⟨c, hc⟩ := at_of (cs := l) (by omega : i < _)
    have hs := hacs i c hc
    have hb := hacb (i + 1) (by omega)
    generalize hd : c.d.map byteA = cd at hs
    refine ⟨⟨nnI hΩ⟩, .agg [str c.p, .sl false 1 cd], (rdI hΩ hxs hc).trans (by rw [← hd]; rfl), ?_⟩
    cbv
    exact ⟨i + 1, by omega, by omega, Sbs.mk rfl rfl ⟨rfl, congrArg i64 (addT hΩ hs.symm (by omega) (by omega)), incI hΩ (by omega), trivial⟩⟩
  · have h := ltZf hΩ h
    have h : i = n := by rw [hlen] at h; subst hΩ; have h : (n : Int) ≤ (i : Int) := h; omega
    exact .of (by rw [h])
theorem c_total (x : Dsk) (hl : x.f.length ≤ 1048576) (ht : totL x.f ≤ 1099511627776) : PCtr PP n_impl_Disk_total [x.enc false false] (i64 (totL x.f : Int)) := by
  obtain ⟨Ω, hΩ⟩ : ∃ Ω, Ω = std := ⟨_, rfl⟩
  unfold Dsk.enc
  generalize x.bg = v1
  generalize x.wr = v2
  generalize x.st = v3
  generalize x.dn = v4
  obtain ⟨l, hL⟩ : ∃ l, l = x.f := ⟨_, rfl⟩
  rw [← hL] at ht hl ⊢
  obtain ⟨n, hn⟩ : ∃ n, n = l.length := ⟨_, rfl⟩
  obtain ⟨xs, hxs⟩ : ∃ xs, xs = l.map (Fil.enc false) := ⟨_, rfl⟩
  rw [← hxs]
  obtain ⟨ac, hac⟩ : ∃ ac : Nat → Int, ∀ i, ac i = (totL (l.take i) : Int) := ⟨_, fun _ => rfl⟩
  have hac0 : ac 0 = 0 := by rw [hac]; rfl
  have hacn : i64 (totL l : Int) = i64 (ac n) := by rw [hac, hn, List.take_length]
  have hacb : ∀ i, i ≤ n → 0 ≤ ac i ∧ ac i ≤ 1099511627776 := fun i hi => by rw [hac]; have := totL_le (l := l) (i := i) (by omega); omega
  have hacs : ∀ i c, l[i]? = some c → ac (i + 1) = ac i + (Ω.int (Ω.len (c.d.map byteA))) := fun i c h => by
    rw [hac, hac, totL_at h]; subst hΩ; show _ = _ + ((c.d.map byteA).length : Int); rw [List.length_map]; omega
  have hlen : Ω.int (Ω.len xs) = Ω.int n := by subst hΩ; show ((xs.length : Nat) : Int) = _; rw [hxs, List.length_map, hn]; rfl
  rw [hacn]
  clear hac hacn
  have htab := tab
  have hmo := hmo
  refine PCtr.walk tab hΩ fn_impl_Disk_total rfl ?_
  generalize PP = P at *
  cbv
  refine loopX htab hΩ (fun i : Nat => ⟨[(3, i64 (ac i)), (7, .sl false 2 xs), (8, i64 (Ω.int n)), (9, i64 (Ω.int i))], 20, []⟩) (fun i => i ≤ n) (fun i => n - i) 0 (Nat.zero_le _)
    (((Sbs.unlk (r := 0) rfl rfl).trans (Sbs.thaw0 (r := 0) rfl rfl rfl)).trans ((Sbs.cut 0 rfl).trans (Sbs.mk rfl rfl ⟨congrArg i64 hac0.symm, rfl, congrArg i64 hlen, zeroI hΩ, trivial⟩))) (fun i hi => ?_)
  cbv
  refine br (fun h => ?_) (fun h => ?_) <;> cbv
  · have h := ltZt hΩ h
    have h : i < n := by subst hΩ; have h : (i : Int) < (n : Int) := h; omega
    obtain ⟨c, hc⟩ := at_of (cs := l) (by omega : i < _)
    have hs := hacs i c hc
    have hb := hacb (i + 1) (by omega)
    generalize hd : c.d.map byteA = cd at hs
    refine ⟨⟨nnI hΩ⟩, .agg [str c.p, .sl false 1 cd], (rdI hΩ hxs hc).trans (by rw [← hd]; rfl), ?_⟩
    cbv
    exact ⟨i + 1, by omega, by omega, (Sbs.cut 0 rfl).trans (Sbs.mk rfl rfl ⟨congrArg i64 (addT hΩ hs.symm (by omega) (by omega)), rfl, rfl, incI hΩ (by omega), trivial⟩)⟩
  · have h := ltZf hΩ h
    have h : i = n := by subst hΩ; have h : (n : Int) ≤ (i : Int) := h; omega
    exact .of (by rw [h])
end Go.Proofs.YtgcnggefeapalaaGreatDoor

/- Walks: paths that begin with a text. Plain theorems. -/
set_option linter.unusedVariables false
set_option linter.unusedSimpArgs false
namespace Go.Proofs.YtgcnggefeapalaaGreatDoor
open Go Go.Fw
set_option maxRecDepth 100000
def begB (p s : List UInt8) : Bool := Lib.hasPrefix s p
theorem begB_eq (p s : List UInt8) : begB p s = decide (p.length ≤ s.length ∧ s.take p.length = p) := by
  unfold begB Lib.hasPrefix
  rw [Bool.eq_iff_iff, decide_eq_true_eq, List.isPrefixOf_iff_prefix, List.prefix_iff_eq_take]
  constructor
  · intro h; exact ⟨by rw [h]; simp; omega, h.symm⟩
  · intro h; exact h.2.symm
/-- The paths of files that begin with a text, in order. -/
def pathsF (l : List Fil) (p : List UInt8) : List (List UInt8) := (l.map Fil.p).filter (begB p)
theorem pathsF_at {l : List Fil} {i : Nat} {c : Fil} (p : List UInt8) (h : l[i]? = some c) : pathsF (l.take (i + 1)) p = pathsF (l.take i) p ++ (if begB p c.p then [c.p] else []) := by
  unfold pathsF
  rw [List.take_add_one, h]
  simp only [Option.toList, List.map_append, List.filter_append, List.map_cons, List.map_nil]
  congr 1
  cases hb : begB p c.p <;> simp [hb]
theorem pathsF_len (l : List Fil) (p : List UInt8) : (pathsF l p).length ≤ l.length := by
  unfold pathsF
  exact Nat.le_trans (List.length_filter_le _ _) (by rw [List.length_map]; exact Nat.le_refl _)
theorem c_l7Begins (s p : List UInt8) : PCtr PP n_spec_l7Begins [str s, str p] (boo (begB p s)) := by
  obtain ⟨Ω, hΩ⟩ : ∃ Ω, Ω = std := ⟨_, rfl⟩
  obtain ⟨r, hr⟩ : ∃ r, r = begB p s := ⟨_, rfl⟩
  rw [← hr]
  rw [begB_eq] at hr
  have hg : ∀ {b}, Ω.cmp .geq (Ω.int (Ω.lenS s)) (Ω.int (Ω.lenS p)) = b → b = decide (p.length ≤ s.length) := fun h => by subst hΩ; rw [← h]; exact decide_eq_decide.2 (by show ((p.length : Nat) : Int) ≤ (s.length : Int) ↔ _; omega)
  have hno : ¬ p.length ≤ s.length → r = false := fun h => by rw [hr]; exact decide_eq_false fun g => h g.1
  have hyes : p.length ≤ s.length → r = Ω.cmpS .eql (Ω.segS 0 (Ω.nat (Ω.int (Ω.lenS p))) s) p := fun h => by
    rw [hr]; subst hΩ
    show _ = (((s.take p.length).drop 0) == p)
    rw [List.drop_zero, Bool.eq_iff_iff]; simp [h]
  clear hr
  have htab := tab
  have hmo := hmo
  refine PCtr.walk tab hΩ fn_spec_l7Begins rfl ?_
  generalize PP = P at *
  cbv
  refine br (fun h => ?_) (fun h => ?_) <;> cbv
  · have h := of_decide_eq_true (hg h).symm
    have hle := h
    exact ⟨⟨trivial, nnI hΩ, Nat.zero_le _, by subst hΩ; exact (show p.length ≤ s.length from hle)⟩, .of (congrArg boo (by rw [hyes h]; subst hΩ; rfl))⟩
  · have h := of_decide_eq_false (hg h).symm
    exact .of (congrArg boo (hno h).symm)
theorem c_l7Paths (x : Dsk) (p : List UInt8) (hl : x.f.length ≤ 1048576) : PCtr PP n_spec_l7Paths [x.see, str p] (.sl true 1 ((pathsF x.f p).map str)) := by
  obtain ⟨Ω, hΩ⟩ : ∃ Ω, Ω = std := ⟨_, rfl⟩
  obtain ⟨F, hF⟩ : ∃ F : List (List UInt8) → List A, F = fun l => l.map str := ⟨_, rfl⟩
  have hFm : ∀ t : List (List UInt8), t.map str = F t := fun t => by rw [hF]
  have hlenF : ∀ t, (F t).length = t.length := fun t => by rw [hF, List.length_map]
  have hap : ∀ t x, Ω.app (Ω.take (Ω.len (F t)) (F t)) [str x] = F (t ++ [x]) := fun t x => by rw [takeAll hΩ, ← hFm, ← hFm, List.map_append]; subst hΩ; rfl
  have hpl : ∀ t x, Ω.plus (Ω.len (F t)) (Ω.len [str x]) = Ω.len (F (t ++ [x])) := fun t x => by rw [← hap, takeAll hΩ]; subst hΩ; exact (List.length_append).symm
  have hF0 : F [] = [] := by rw [hF]; rfl
  have hb : ∀ c, PCtr PP n_spec_l7Begins [str c, str p] (boo (begB p c)) := fun c => c_l7Begins c p
  unfold Dsk.see
  obtain ⟨l, v1, v2, v3, v4⟩ := x
  dsimp only at *
  obtain ⟨n, hn⟩ : ∃ n, n = l.length := ⟨_, rfl⟩
  obtain ⟨W, hW⟩ : ∃ W : Nat → List (List UInt8), W = fun i => pathsF (l.take i) p := ⟨_, rfl⟩
  have hWs : ∀ i c, l[i]? = some c → W (i + 1) = W i ++ (if begB p c.p then [c.p] else []) := fun i c h => by rw [hW]; exact pathsF_at p h
  have hW0 : W 0 = [] := by rw [hW]; rfl
  have hWn : pathsF l p = W n := by rw [hW, hn]; simp only [List.take_length]
  have hWl : ∀ i, (W i).length ≤ i := fun i => by rw [hW]; exact Nat.le_trans (pathsF_len _ _) (by rw [List.length_take]; omega)
  rw [hWn, hFm]
  clear hW hWn
  obtain ⟨xs, hxs⟩ : ∃ xs, xs = l.map (Fil.enc false) := ⟨_, rfl⟩
  rw [← hxs]
  have hlen : Ω.int (Ω.len xs) = Ω.int n := by subst hΩ; show ((xs.length : Nat) : Int) = _; rw [hxs, List.length_map, hn]; rfl
  have hat : ∀ i c, l[i]? = some c → xs[(Ω.int i).toNat]? = some (.agg [str c.p, .sl false 1 (c.d.map byteA)]) := fun i c hc => (rdI hΩ hxs hc).trans rfl
  have hnl : ∀ i, i < n → ∃ c, l[i]? = some c := fun i hi => at_of (by omega)
  generalize begB p = G at *
  have htab := tab
  have hmo := hmo
  refine PCtr.walk tab hΩ fn_spec_l7Paths rfl ?_
  generalize PP = P at *
  cbv
  refine loopX htab hΩ (fun i : Nat => ⟨[(0, .rp [.sl false 2 xs, i64 v1, i64 v2, i64 v3, boo v4]), (1, str p), (5, .vw 0 0 (Ω.len (F (W i)))), (6, i64 (Ω.int i))], 39, [some ⟨1, F (W i), false⟩]⟩) (fun i => i ≤ n) (fun i => n - i) 0 (Nat.zero_le _)
    ?enter (fun i hi => ?_)
  case enter => exact Sbs.mk rfl (by dsimp only; rw [hW0, hF0]) ⟨rfl, rfl, by dsimp only; rw [hW0, hF0]; subst hΩ; rfl, zeroI hΩ, trivial⟩
  have hol := hlenF (W i)
  have hlo : Ω.len (F (W i)) = (F (W i)).length := by subst hΩ; rfl
  have hle : Ω.len (F (W i)) ≤ (F (W i)).length := by rw [hlo]; exact Nat.le_refl _
  have htk : Ω.take (Ω.len (F (W i))) (F (W i)) = F (W i) := takeAll hΩ _
  have hwi := hWl i
  cbv
  refine br (fun h => ?_) (fun h => ?_) <;> cbv
  · have h := ltZt hΩ h
    have h : i < n := by rw [hlen] at h; subst hΩ; have h : (i : Int) < (n : Int) := h; omega
    obtain ⟨c, hc⟩ := hnl i h
    have hst := hWs i c hc
    have hap0 := hap (W i) c.p
    have hpl0 := hpl (W i) c.p
    have hac := hat i c hc
    have hbc := hb c.p
    generalize c.d.map byteA = cd at *
    generalize G c.p = g at *
    refine ⟨⟨nnI hΩ⟩, _, hac, ?_⟩
    cbv
    refine call_pure hΩ 3 hbc rfl (fits _) rfl rfl ?_
    cbv
    refine br (fun q => ?_) (fun q => ?_) <;> cbv
    · rw [if_pos q] at hst
      refine ⟨⟨nnI hΩ⟩, _, hac, ?_⟩
      cbv
      exact ⟨⟨rfl, okAll rfl, by show (Ω.len (F (W i)) + 1) * 16 ≤ 140737488355328; omega, by show Ω.len (F (W i)) + 1 ≤ 9223372036854775807; omega⟩,
        i + 1, by omega, by omega, (Sbs.cut 1 rfl).trans (Sbs.mk rfl (by show [some (Row.mk 1 (Ω.app (Ω.take (Ω.len (F (W i))) (F (W i))) [str c.p]) false)] = _; rw [hap0, hst]) ⟨rfl, rfl, congrArg (A.vw 0 0) (by rw [hst]; exact hpl0), incI hΩ (by omega), trivial⟩)⟩
    · rw [if_neg (by rw [q]; simp), List.append_nil] at hst
      exact ⟨i + 1, by omega, by omega, Sbs.mk rfl (by rw [hst]) ⟨rfl, rfl, by rw [hst]; rfl, incI hΩ (by omega), trivial⟩⟩
  · have h := ltZf hΩ h
    have h : i = n := by rw [hlen] at h; subst hΩ; have h : (n : Int) ≤ (i : Int) := h; omega
    subst h
    exact ⟨⟨rfl, hle⟩, .of (congrArg (A.sl true 1) htk)⟩
theorem c_paths (x : Dsk) (p : List UInt8) (hl : x.f.length ≤ 1048576) : PCtr PP n_impl_Disk_paths [x.enc false false, str p] (.sl true 1 ((pathsF x.f p).map str)) := by
  obtain ⟨Ω, hΩ⟩ : ∃ Ω, Ω = std := ⟨_, rfl⟩
  obtain ⟨F, hF⟩ : ∃ F : List (List UInt8) → List A, F = fun l => l.map str := ⟨_, rfl⟩
  have hFm : ∀ t : List (List UInt8), t.map str = F t := fun t => by rw [hF]
  have hlenF : ∀ t, (F t).length = t.length := fun t => by rw [hF, List.length_map]
  have hap : ∀ t x, Ω.app (Ω.take (Ω.len (F t)) (F t)) [str x] = F (t ++ [x]) := fun t x => by rw [takeAll hΩ, ← hFm, ← hFm, List.map_append]; subst hΩ; rfl
  have hpl : ∀ t x, Ω.plus (Ω.len (F t)) (Ω.len [str x]) = Ω.len (F (t ++ [x])) := fun t x => by rw [← hap, takeAll hΩ]; subst hΩ; exact (List.length_append).symm
  have hF0 : F [] = [] := by rw [hF]; rfl
  have hb : ∀ c, PCtr PP n_strings_HasPrefix [str c, str p] (boo (begB p c)) := fun c => c_HasPrefix c p
  unfold Dsk.enc
  obtain ⟨l, v1, v2, v3, v4⟩ := x
  dsimp only at *
  obtain ⟨n, hn⟩ : ∃ n, n = l.length := ⟨_, rfl⟩
  obtain ⟨W, hW⟩ : ∃ W : Nat → List (List UInt8), W = fun i => pathsF (l.take i) p := ⟨_, rfl⟩
  have hWs : ∀ i c, l[i]? = some c → W (i + 1) = W i ++ (if begB p c.p then [c.p] else []) := fun i c h => by rw [hW]; exact pathsF_at p h
  have hW0 : W 0 = [] := by rw [hW]; rfl
  have hWn : pathsF l p = W n := by rw [hW, hn]; simp only [List.take_length]
  have hWl : ∀ i, (W i).length ≤ i := fun i => by rw [hW]; exact Nat.le_trans (pathsF_len _ _) (by rw [List.length_take]; omega)
  rw [hWn, hFm]
  clear hW hWn
  obtain ⟨xs, hxs⟩ : ∃ xs, xs = l.map (Fil.enc false) := ⟨_, rfl⟩
  rw [← hxs]
  have hlen : Ω.int (Ω.len xs) = Ω.int n := by subst hΩ; show ((xs.length : Nat) : Int) = _; rw [hxs, List.length_map, hn]; rfl
  have hat : ∀ i c, l[i]? = some c → xs[(Ω.int i).toNat]? = some (.agg [str c.p, .sl false 1 (c.d.map byteA)]) := fun i c hc => (rdI hΩ hxs hc).trans rfl
  have hnl : ∀ i, i < n → ∃ c, l[i]? = some c := fun i hi => at_of (by omega)
  generalize begB p = G at *
  have htab := tab
  have hmo := hmo
  refine PCtr.walk tab hΩ fn_impl_Disk_paths rfl ?_
  generalize PP = P at *
  cbv
  refine loopX htab hΩ (fun i : Nat => ⟨[(1, str p), (5, .vw 1 0 (Ω.len (F (W i)))), (10, .sl false 2 xs), (11, i64 (Ω.int n)), (12, i64 (Ω.int i))], 27, [none, some ⟨1, F (W i), false⟩]⟩) (fun i => i ≤ n) (fun i => n - i) 0 (Nat.zero_le _)
    ?enter (fun i hi => ?_)
  case enter => exact ((Sbs.unlk (r := 0) rfl rfl).trans (Sbs.thaw0 (r := 0) rfl rfl rfl)).trans (Sbs.mk rfl (by dsimp only; rw [hW0, hF0]; rfl) ⟨rfl, by dsimp only; rw [hW0, hF0]; subst hΩ; rfl, rfl, congrArg i64 hlen, zeroI hΩ, trivial⟩)
  have hol := hlenF (W i)
  have hlo : Ω.len (F (W i)) = (F (W i)).length := by subst hΩ; rfl
  have hle : Ω.len (F (W i)) ≤ (F (W i)).length := by rw [hlo]; exact Nat.le_refl _
  have htk : Ω.take (Ω.len (F (W i))) (F (W i)) = F (W i) := takeAll hΩ _
  have hwi := hWl i
  cbv
  refine br (fun h => ?_) (fun h => ?_) <;> cbv
  · have h := ltZt hΩ h
    have h : i < n := by subst hΩ; have h : (i : Int) < (n : Int) := h; omega
    obtain ⟨c, hc⟩ := hnl i h
    have hst := hWs i c hc
    have hap0 := hap (W i) c.p
    have hpl0 := hpl (W i) c.p
    have hac := hat i c hc
    have hbc := hb c.p
    generalize c.d.map byteA = cd at *
    generalize G c.p = g at *
    refine ⟨⟨nnI hΩ⟩, _, hac, ?_⟩
    cbv
    refine call_pure hΩ 3 hbc rfl (fits _) rfl rfl ?_
    cbv
    refine br (fun q => ?_) (fun q => ?_) <;> cbv
    · rw [if_pos q] at hst
      exact ⟨⟨rfl, okAll rfl, by show (Ω.len (F (W i)) + 1) * 16 ≤ 140737488355328; omega, by show Ω.len (F (W i)) + 1 ≤ 9223372036854775807; omega⟩,
        i + 1, by omega, by omega, (Sbs.cut 2 rfl).trans (Sbs.mk rfl (by show [none, some (Row.mk 1 (Ω.app (Ω.take (Ω.len (F (W i))) (F (W i))) [str c.p]) false)] = _; rw [hap0, hst]) ⟨rfl, congrArg (A.vw 1 0) (by rw [hst]; exact hpl0), rfl, rfl, incI hΩ (by omega), trivial⟩)⟩
    · rw [if_neg (by rw [q]; simp), List.append_nil] at hst
      exact ⟨i + 1, by omega, by omega, (Sbs.cut 2 rfl).trans (Sbs.mk rfl (by rw [hst]; rfl) ⟨rfl, by rw [hst]; rfl, rfl, rfl, incI hΩ (by omega), trivial⟩)⟩
  · have h := ltZf hΩ h
    have h : i = n := by subst hΩ; have h : (n : Int) ≤ (i : Int) := h; omega
    subst h
    exact ⟨⟨rfl, hle⟩, .of (congrArg (A.sl true 1) htk)⟩
end Go.Proofs.YtgcnggefeapalaaGreatDoor

/- Files in order: where a path stands. Plain theorems. -/
set_option linter.unusedVariables false
set_option linter.unusedSimpArgs false
namespace Go.Proofs.YtgcnggefeapalaaGreatDoor
open Go Go.Fw
theorem cmpB_zero : ∀ {x y : List UInt8}, Lib.compareBytes x y = 0 ↔ x = y
  | [], [] => by simp [Lib.compareBytes]
  | [], _ :: _ => by simp [Lib.compareBytes]
  | _ :: _, [] => by simp [Lib.compareBytes]
  | a :: us, b :: bs => by
    have ih := cmpB_zero (x := us) (y := bs)
    rw [Lib.compareBytes]
    split
    · rename_i h; simp; intro e; subst e; exact absurd h (UInt8.lt_irrefl _)
    · rename_i h1
      split
      · rename_i h; simp; intro e; subst e; exact absurd h (UInt8.lt_irrefl _)
      · rename_i h2
        have : a = b := UInt8.le_antisymm (UInt8.not_lt.1 h2) (UInt8.not_lt.1 h1)
        rw [ih]; simp [this]
theorem cmpB_lt : ∀ {x y : List UInt8}, Lib.compareBytes x y < 0 ↔ x < y
  | [], [] => by simp [Lib.compareBytes]
  | [], _ :: _ => by simp [Lib.compareBytes]
  | _ :: _, [] => by simp [Lib.compareBytes]
  | a :: us, b :: bs => by
    have ih := cmpB_lt (x := us) (y := bs)
    rw [Lib.compareBytes, List.cons_lt_cons_iff]
    split
    · rename_i h; simp [h]
    · rename_i h1
      split
      · rename_i h; simp only [h1, false_or]; constructor
        · intro h; simp at h
        · rintro ⟨rfl, -⟩; exact absurd h (UInt8.lt_irrefl _)
      · rename_i h2
        have : a = b := UInt8.le_antisymm (UInt8.not_lt.1 h2) (UInt8.not_lt.1 h1)
        rw [ih]; simp [this]
/-- Files in strict order of their paths. -/
def ordF (l : List Fil) : Prop := l.Pairwise fun a b => a.p < b.p
/-- Where a path stands or would stand. -/
def plcF (l : List Fil) (p : List UInt8) : Nat := (l.takeWhile fun f => decide (f.p < p)).length
theorem plcF_of {l : List Fil} {p : List UInt8} {i : Nat} (hi : i ≤ l.length) (h1 : ∀ k f, l[k]? = some f → k < i → f.p < p) (h2 : ∀ k f, l[k]? = some f → i ≤ k → ¬ f.p < p) : plcF l p = i := by
  unfold plcF
  induction l generalizing i with
  | nil => simp at hi ⊢; omega
  | cons f l ih =>
    rcases i with _ | i
    · have := h2 0 f rfl (Nat.le_refl _)
      rw [List.takeWhile_cons_of_neg (by simpa using this)]; rfl
    · have := h1 0 f rfl (by omega)
      rw [List.takeWhile_cons_of_pos (by simpa using this), List.length_cons]
      rw [ih (i := i) (by simpa using hi) (fun k g hg hk => h1 (k + 1) g hg (by omega)) (fun k g hg hk => h2 (k + 1) g hg (by omega))]
theorem ordF_at {l : List Fil} (h : ordF l) {i j : Nat} {a b : Fil} (ha : l[i]? = some a) (hb : l[j]? = some b) (hij : i < j) : a.p < b.p := by
  obtain ⟨h1, rfl⟩ := List.getElem?_eq_some_iff.1 ha
  obtain ⟨h2, rfl⟩ := List.getElem?_eq_some_iff.1 hb
  exact List.pairwise_iff_getElem.1 h i j h1 h2 hij
theorem ordF_lo {l : List Fil} (h : ordF l) {p : List UInt8} {m : Nat} {a : Fil} (ha : l[m]? = some a) (hp : a.p < p) : ∀ k f, l[k]? = some f → k < m + 1 → f.p < p := fun k f hf hk => by
  rcases Nat.lt_or_ge k m with h' | h'
  · exact List.lt_trans (ordF_at h hf ha h') hp
  · obtain rfl : k = m := by omega
    rw [ha] at hf; cases hf; exact hp
theorem ordF_hi {l : List Fil} (h : ordF l) {p : List UInt8} {m : Nat} {a : Fil} (ha : l[m]? = some a) (hp : ¬ a.p < p) : ∀ k f, l[k]? = some f → m ≤ k → ¬ f.p < p := fun k f hf hk g => by
  rcases Nat.lt_or_ge m k with h' | h'
  · exact hp (List.lt_trans (ordF_at h ha hf h') g)
  · obtain rfl : k = m := by omega
    rw [ha] at hf; cases hf; exact hp g
/-- Where the spec finds a path: the first place, or -1. -/
def fndF (l : List Fil) (p : List UInt8) : Int := idxFrom (fun f : Fil => decide (f.p = p)) 0 l
theorem c_l7Find (x : Dsk) (p : List UInt8) (hl : x.f.length ≤ 1048576) : PCtr PP n_spec_l7Find [x.see, str p] (i64 (fndF x.f p)) := by
  obtain ⟨Ω, hΩ⟩ : ∃ Ω, Ω = std := ⟨_, rfl⟩
  unfold Dsk.see
  obtain ⟨l, v1, v2, v3, v4⟩ := x
  dsimp only at *
  obtain ⟨r, hr⟩ : ∃ r, r = fndF l p := ⟨_, rfl⟩
  rw [← hr]
  unfold fndF at hr
  obtain ⟨n, hn⟩ : ∃ n, n = l.length := ⟨_, rfl⟩
  obtain ⟨xs, hxs⟩ : ∃ xs, xs = l.map (Fil.enc false) := ⟨_, rfl⟩
  rw [← hxs]
  have hlen : Ω.int (Ω.len xs) = Ω.int n := by subst hΩ; show ((xs.length : Nat) : Int) = _; rw [hxs, List.length_map, hn]; rfl
  have hat : ∀ i c, l[i]? = some c → xs[(Ω.int i).toNat]? = some (.agg [str c.p, .sl false 1 (c.d.map byteA)]) := fun i c hc => (rdI hΩ hxs hc).trans rfl
  have hnl : ∀ i, i < n → ∃ c, l[i]? = some c := fun i hi => at_of (by omega)
  have hend : idxFrom (fun f : Fil => decide (f.p = p)) n (l.drop n) = -1 := by rw [List.drop_of_length_le (by omega)]; rfl
  have hst : ∀ i c, l[i]? = some c → idxFrom (fun f : Fil => decide (f.p = p)) i (l.drop i) = if decide (c.p = p) = true then (i : Int) else idxFrom (fun f : Fil => decide (f.p = p)) (i + 1) (l.drop (i + 1)) := fun i c hc => idxFrom_at _ hc
  have hic : ∀ i : Nat, i64 (Ω.int i) = i64 (i : Int) := fun i => by subst hΩ; rfl
  obtain ⟨K, hK⟩ : ∃ K : Nat → Int, ∀ i, K i = idxFrom (fun f : Fil => decide (f.p = p)) i (l.drop i) := ⟨_, fun _ => rfl⟩
  simp only [← hK] at hend hst
  have hr : r = K 0 := by rw [hK]; exact hr
  clear hK
  have htab := tab
  have hmo := hmo
  refine PCtr.walk tab hΩ fn_spec_l7Find rfl ?_
  generalize PP = P at *
  cbv
  refine loopX htab hΩ (fun i : Nat => ⟨[(0, .rp [.sl false 2 xs, i64 v1, i64 v2, i64 v3, boo v4]), (1, str p), (5, i64 (Ω.int i))], 26, []⟩) (fun i => i ≤ n ∧ r = K i) (fun i => n - i) 0 ⟨Nat.zero_le _, hr⟩
    (Sbs.mk rfl rfl ⟨rfl, rfl, zeroI hΩ, trivial⟩) ?_
  rintro i ⟨hi, he⟩
  cbv
  refine br (fun h => ?_) (fun h => ?_) <;> cbv
  · have h := ltZt hΩ h
    have h : i < n := by rw [hlen] at h; subst hΩ; have h : (i : Int) < (n : Int) := h; omega
    obtain ⟨c, hc⟩ := hnl i h
    have hac := hat i c hc
    have hs := hst i c hc
    have hi1 : i + 1 ≤ n := by omega
    have hlt : n - (i + 1) < n - i := by omega
    generalize c.d.map byteA = cd at *
    refine ⟨⟨nnI hΩ⟩, _, hac, ?_⟩
    cbv
    refine br (fun g => ?_) (fun g => ?_) <;> cbv
    · have g : c.p = p := by subst hΩ; exact of_decide_eq_true ((by simpa [cmpSS] using (show cmpSS .eql c.p p = true from g)))
      rw [if_pos (by simpa using g)] at hs
      exact .of ((hic i).trans (congrArg i64 (by rw [he, hs])))
    · have g : c.p ≠ p := by subst hΩ; exact fun e => by rw [e] at g; have h : cmpSS .eql p p = false := g; simp [cmpSS] at h
      rw [if_neg (by simpa using g)] at hs
      exact ⟨i + 1, ⟨hi1, by rw [he, hs]⟩, hlt, Sbs.mk rfl rfl ⟨rfl, rfl, incI hΩ (by omega), trivial⟩⟩
  · have h := ltZf hΩ h
    have h : i = n := by rw [hlen] at h; subst hΩ; have h : (n : Int) ≤ (i : Int) := h; omega
    exact .of (congrArg i64 (by rw [he, h, hend]))
end Go.Proofs.YtgcnggefeapalaaGreatDoor

/- Walks: the place of a path. Plain theorems. -/
set_option linter.unusedVariables false
set_option linter.unusedSimpArgs false
namespace Go.Proofs.YtgcnggefeapalaaGreatDoor
open Go Go.Fw
set_option maxRecDepth 100000
theorem c_place1 (f : Fil) (p : List UInt8) : PCtr PP n_impl_Disk_place_1 [f.enc false, str p] (i64 (Lib.compareBytes f.p p)) := by
  obtain ⟨Ω, hΩ⟩ : ∃ Ω, Ω = std := ⟨_, rfl⟩
  have hc := c_CompareS f.p p
  generalize Lib.compareBytes f.p p = r at *
  unfold Fil.enc
  generalize f.d.map byteA = cd
  have htab := tab
  have hmo := hmo
  refine PCtr.walk tab hΩ fn_impl_Disk_place_1 rfl ?_
  generalize PP = P at *
  cbv
  refine call_pure hΩ 3 hc rfl (fits _) rfl rfl ?_
  cbv
  exact .same
theorem wrapU {x : Int} (h0 : 0 ≤ x) (h1 : x < 18446744073709551616) : IntKind.u64.wrap x = x := by
  simp [IntKind.wrap, IntKind.bits, IntKind.signed]
  omega
theorem midI {Ω : Opq} (hΩ : Ω = std) {i j : Nat} (hij : i < j) (hj : j ≤ 1048576) : Ω.wrap .i64 (Ω.ar .shr .u64 (Ω.wrap .u64 (Ω.ar .add .i64 (Ω.int i) (Ω.int j))) 1) = Ω.int ((i + j) / 2) := by
  subst hΩ
  show IntKind.i64.wrap (IntKind.u64.wrap (IntKind.i64.wrap ((i : Int) + j)) / 2 ^ 1) = (((i + j) / 2 : Nat) : Int)
  have e1 : IntKind.i64.wrap ((i : Int) + j) = (i : Int) + j := wrap64 (by omega) (by omega)
  rw [e1, wrapU (by omega) (by omega), wrap64 (by omega) (by omega)]
  omega
/-- Is a path among the files. -/
def hasF (l : List Fil) (p : List UInt8) : Bool := match l[plcF l p]? with | some f => decide (f.p = p) | none => false
/-- Where the search of a path ends, in files in any order. -/
def binG (l : List Fil) (p : List UInt8) : Nat → Nat → Nat → Nat
  | 0, i, _ => i
  | k + 1, i, j => if i < j then (match l[(i + j) / 2]? with
    | some c => if Lib.compareBytes c.p p < 0 then binG l p k ((i + j) / 2 + 1) j else binG l p k i ((i + j) / 2)
    | none => i) else i
def plcB (l : List Fil) (p : List UInt8) : Nat := binG l p l.length 0 l.length
def hasB' (l : List Fil) (p : List UInt8) : Bool := match l[plcB l p]? with | some f => decide (f.p = p) | none => false
theorem binG_lt {l : List Fil} {p : List UInt8} {k i j m : Nat} {c : Fil} (h : i < j) (hm : m = (i + j) / 2) (hc : l[m]? = some c) : binG l p (k + 1) i j = if Lib.compareBytes c.p p < 0 then binG l p k (m + 1) j else binG l p k i m := by
  subst hm
  rw [binG, if_pos h, hc]
theorem binG_ge {l : List Fil} {p : List UInt8} {k i j : Nat} (h : j ≤ i) : binG l p k i j = i := by
  cases k with
  | zero => rfl
  | succ k => rw [binG, if_neg (by omega)]
theorem binG_ord {l : List Fil} {p : List UInt8} (ho : ordF l) : ∀ {k i j : Nat}, i ≤ j → j ≤ l.length → j - i ≤ k → (∀ k f, l[k]? = some f → k < i → f.p < p) → (∀ k f, l[k]? = some f → j ≤ k → ¬ f.p < p) → binG l p k i j = plcF l p
  | 0, i, j, h1, h2, h3, h4, h5 => by
    have : i = j := by omega
    subst this
    exact (plcF_of h2 h4 h5).symm
  | k + 1, i, j, h1, h2, h3, h4, h5 => by
    by_cases h : i < j
    · obtain ⟨c, hc⟩ := at_of (cs := l) (i := (i + j) / 2) (by omega)
      rw [binG_lt h rfl hc]
      have hcl := cmpB_lt (x := c.p) (y := p)
      split
      · rename_i g
        exact binG_ord ho (by omega) h2 (by omega) (ordF_lo ho hc (hcl.1 g)) h5
      · rename_i g
        exact binG_ord ho (by omega) (by omega) (by omega) h4 (ordF_hi ho hc fun g' => g (hcl.2 g'))
    · rw [binG_ge (by omega)]
      have : i = j := by omega
      subst this
      exact (plcF_of h2 h4 h5).symm
theorem plcB_ord {l : List Fil} (ho : ordF l) (p : List UInt8) : plcB l p = plcF l p := binG_ord ho (Nat.zero_le _) (Nat.le_refl _) (by omega) (fun _ _ _ h => by omega) (fun k f hf h => absurd (List.getElem?_eq_some_iff.1 hf).1 (by omega))
theorem hasB_ord {l : List Fil} (ho : ordF l) (p : List UInt8) : hasB' l p = hasF l p := by unfold hasB' hasF; rw [plcB_ord ho]
theorem c_BinG (l : List Fil) (p : List UInt8) (hl : l.length ≤ 1048576) : PCtr PP n_slices_BinarySearchFunc_L_impl_File_impl_File_string [.sl false 2 (l.map (Fil.enc false)), str p, .clo n_impl_Disk_place_1 []] (.tup [i64 (plcB l p : Int), boo (hasB' l p)]) := by
  obtain ⟨Ω, hΩ⟩ : ∃ Ω, Ω = std := ⟨_, rfl⟩
  have hrun : ∀ f : Fil, PCtr PP (Ω.cloN n_impl_Disk_place_1) (Ω.cloA n_impl_Disk_place_1 [f.enc false, str p] []) (i64 (Lib.compareBytes f.p p)) := by subst hΩ; exact fun f => c_place1 f p
  obtain ⟨n, hn⟩ : ∃ n, n = l.length := ⟨_, rfl⟩
  obtain ⟨xs, hxs⟩ : ∃ xs, xs = l.map (Fil.enc false) := ⟨_, rfl⟩
  rw [← hxs]
  have hlen : Ω.int (Ω.len xs) = Ω.int n := by subst hΩ; show ((xs.length : Nat) : Int) = _; rw [hxs, List.length_map, hn]; rfl
  have hat : ∀ i c, l[i]? = some c → xs[(Ω.int i).toNat]? = some (c.enc false) := fun i c hc => (rdI hΩ hxs hc).trans rfl
  have hnl : ∀ i, i < n → ∃ c, l[i]? = some c := fun i hi => at_of (by omega)
  have hyes1 : ∀ j, plcB l p = j → ∀ c, l[j]? = some c → hasB' l p = decide (c.p = p) := fun j hpl c hc => by unfold hasB'; rw [hpl, hc]
  have hno1 : ∀ j, plcB l p = j → n ≤ j → hasB' l p = false := fun j hpl h => by unfold hasB'; rw [hpl, List.getElem?_eq_none (by omega)]
  have hpl0 : plcB l p = binG l p n 0 n := by unfold plcB; rw [hn]
  have hbl := @binG_lt l p
  have hbg := @binG_ge l p
  generalize hasB' l p = hs at *
  generalize plcB l p = pl at *
  generalize binG l p = bg at *
  have htab := tab
  have hmo := hmo
  refine PCtr.walk tab hΩ fn_slices_BinarySearchFunc_L_impl_File_impl_File_string rfl ?_
  generalize PP = P at *
  cbv
  refine loopX htab hΩ (fun i : Nat × Nat => ⟨[(0, .sl false 2 xs), (1, str p), (2, .clo n_impl_Disk_place_1 []), (8, i64 (Ω.int n)), (9, i64 (Ω.int i.1)), (10, i64 (Ω.int i.2))], 49, []⟩) (fun i => i.1 ≤ i.2 ∧ i.2 ≤ n ∧ ∃ k, i.2 - i.1 ≤ k ∧ pl = bg k i.1 i.2) (fun i => i.2 - i.1) (0, n) ⟨Nat.zero_le _, Nat.le_refl _, n, Nat.sub_le _ _, hpl0⟩
    (Sbs.mk rfl rfl ⟨rfl, rfl, rfl, congrArg i64 hlen, zeroI hΩ, congrArg i64 hlen, trivial⟩) ?_
  rintro ⟨i, j⟩ ⟨hij, hj, k, hk, hpk⟩
  dsimp only at *
  cbv
  refine br (fun h => ?_) (fun h => ?_) <;> cbv
  · have h := ltZt hΩ h
    have h : i < j := by subst hΩ; have h : (i : Int) < (j : Int) := h; omega
    obtain ⟨m, hm⟩ : ∃ m, m = (i + j) / 2 := ⟨_, rfl⟩
    have hmid := midI hΩ h (by omega)
    rw [← hm] at hmid
    have hm1 : i ≤ m := by omega
    have hm2 : m < j := by omega
    obtain ⟨c, hc⟩ := hnl m (by omega)
    obtain ⟨k, rfl⟩ : ∃ k', k = k' + 1 := ⟨k - 1, by omega⟩
    rw [hbl h hm hc] at hpk
    clear hm
    have hac := hat m c hc
    have hrc := hrun c
    generalize Lib.compareBytes c.p p = q at *
    unfold Fil.enc at hac hrc
    generalize c.d.map byteA = cd at *
    refine ⟨⟨by decide, by decide⟩, ⟨by show 0 ≤ Ω.wrap .i64 (Ω.ar .shr .u64 (Ω.wrap .u64 (Ω.ar .add .i64 (Ω.int i) (Ω.int j))) 1); rw [hmid]; exact nnI hΩ⟩, _, (by show xs[(Ω.wrap .i64 (Ω.ar .shr .u64 (Ω.wrap .u64 (Ω.ar .add .i64 (Ω.int i) (Ω.int j))) 1)).toNat]? = _; rw [hmid]; exact hac), ?_⟩
    cbv
    refine call_pure hΩ 4 hrc (ro_cloA hΩ rfl rfl) (fits _) rfl rfl ?_
    cbv
    refine br (fun g => ?_) (fun g => ?_) <;> cbv
    · have g := ltZt hΩ g
      exact ⟨(m + 1, j), ⟨by show m + 1 ≤ j; omega, hj, k, by show j - (m + 1) ≤ k; omega, by rw [hpk, if_pos g]⟩, by show j - (m + 1) < j - i; omega, Sbs.mk rfl rfl ⟨rfl, rfl, rfl, rfl, (congrArg (fun z => i64 (Ω.ar .add .i64 z 1)) hmid).trans (incI hΩ (by omega)), rfl, trivial⟩⟩
    · have g := ltZf hΩ g
      exact ⟨(i, m), ⟨hm1, by show m ≤ n; omega, k, by show m - i ≤ k; omega, by rw [hpk, if_neg (by omega)]⟩, by show m - i < j - i; omega, Sbs.mk rfl rfl ⟨rfl, rfl, rfl, rfl, rfl, congrArg i64 hmid, trivial⟩⟩
  · have h := ltZf hΩ h
    have h : j = i := by subst hΩ; have h : (j : Int) ≤ (i : Int) := h; omega
    subst h
    have hpl : pl = j := hpk.trans (hbg (Nat.le_refl _))
    have hic : i64 (Ω.int j) = i64 (pl : Int) := by rw [hpl]; subst hΩ; rfl
    have hyes := hyes1 j hpl
    have hno := hno1 j hpl
    refine br (fun g => ?_) (fun g => ?_) <;> cbv
    · have g := ltZt hΩ g
      have g : j < n := by subst hΩ; have g : (j : Int) < (n : Int) := g; omega
      obtain ⟨c, hc⟩ := hnl j g
      have hac := hat j c hc
      have hrc := hrun c
      have hyes := hyes c hc
      have hcz := cmpB_zero (x := c.p) (y := p)
      generalize Lib.compareBytes c.p p = q at *
      unfold Fil.enc at hac hrc
      generalize c.d.map byteA = cd at *
      refine ⟨⟨nnI hΩ⟩, _, hac, ?_⟩
      cbv
      refine call_pure hΩ 4 hrc (ro_cloA hΩ rfl rfl) (fits _) rfl rfl ?_
      cbv
      have hb : Ω.ite true (Ω.cmp .eql q 0) false = hs := by rw [hyes]; subst hΩ; exact decide_eq_decide.2 hcz
      exact .of (by show A.tup [i64 (Ω.int j), boo (Ω.ite true (Ω.cmp .eql q 0) false)] = _; rw [hb, hic]; rfl)
    · have g := ltZf hΩ g
      have g : n ≤ j := by subst hΩ; have g : (n : Int) ≤ (j : Int) := g; omega
      exact .of (by show A.tup [i64 (Ω.int j), boo false] = _; rw [hno g, hic]; rfl)
end Go.Proofs.YtgcnggefeapalaaGreatDoor

/- Walks: a path's place and bytes. Plain theorems. -/
set_option linter.unusedVariables false
set_option linter.unusedSimpArgs false
namespace Go.Proofs.YtgcnggefeapalaaGreatDoor
open Go Go.Fw
set_option maxRecDepth 100000
theorem c_placeB (x : Dsk) (p : List UInt8) (hl : x.f.length ≤ 1048576) : PCtr PP n_impl_Disk_place [x.enc false false, str p] (.tup [i64 (plcB x.f p : Int), boo (hasB' x.f p)]) := by
  obtain ⟨Ω, hΩ⟩ : ∃ Ω, Ω = std := ⟨_, rfl⟩
  have hb := c_BinG x.f p hl
  unfold Dsk.enc
  obtain ⟨l, v1, v2, v3, v4⟩ := x
  dsimp only at *
  generalize plcB l p = pl at *
  generalize hasB' l p = hs at *
  obtain ⟨z, hz⟩ : ∃ z : Int, (pl : Int) = z := ⟨_, rfl⟩
  rw [hz] at hb ⊢
  clear hz
  generalize l.map (Fil.enc false) = xs at *
  have htab := tab
  have hmo := hmo
  refine PCtr.walk tab hΩ fn_impl_Disk_place rfl ?_
  generalize PP = P at *
  cbv
  refine call_pure hΩ 4 hb rfl (fits _) rfl rfl ?_
  cbv
  exact .same
/-- A path's bytes; none where it is not. -/
def datB (l : List Fil) (p : List UInt8) : List UInt8 := if hasB' l p then match l[plcB l p]? with | some f => f.d | none => [] else []
def datF (l : List Fil) (p : List UInt8) : List UInt8 := if hasF l p then match l[plcF l p]? with | some f => f.d | none => [] else []
theorem c_dataB (x : Dsk) (p : List UInt8) (hl : x.f.length ≤ 1048576) : PCtr PP n_impl_Disk_data [x.enc false false, str p] (.tup [.sl false 1 ((datB x.f p).map byteA), boo (hasB' x.f p)]) := by
  obtain ⟨Ω, hΩ⟩ : ∃ Ω, Ω = std := ⟨_, rfl⟩
  have hb := c_placeB x p hl
  unfold Dsk.enc at *
  obtain ⟨l, v1, v2, v3, v4⟩ := x
  dsimp only at *
  have hd0 : hasB' l p = false → datB l p = [] := fun h => by unfold datB; rw [h]; rfl
  have hd1 : hasB' l p = true → ∃ f, l[plcB l p]? = some f ∧ datB l p = f.d := fun h => by
    unfold datB
    rw [if_pos h]
    unfold hasB' at h
    cases hf : l[plcB l p]? with
    | none => rw [hf] at h; cases h
    | some f => exact ⟨f, rfl, rfl⟩
  obtain ⟨xs, hxs⟩ : ∃ xs, xs = l.map (Fil.enc false) := ⟨_, rfl⟩
  rw [← hxs] at hb ⊢
  have hat : ∀ (i : Nat) (c : Fil), l[i]? = some c → xs[((i : Int)).toNat]? = some (.agg [str c.p, .sl false 1 (c.d.map byteA)]) := fun i c hc => (rdI rfl hxs hc).trans rfl
  generalize datB l p = df at *
  generalize plcB l p = pl at *
  generalize hasB' l p = hs at *
  have hat := hat pl
  have hz0 : (0 : Int) ≤ (pl : Int) := by omega
  obtain ⟨z, hz⟩ : ∃ z : Int, (pl : Int) = z := ⟨_, rfl⟩
  rw [hz] at hb hat hz0
  clear hz
  obtain ⟨ds, hds⟩ : ∃ ds, ds = df.map byteA := ⟨_, rfl⟩
  rw [← hds]
  have htab := tab
  have hmo := hmo
  refine PCtr.walk tab hΩ fn_impl_Disk_data rfl ?_
  generalize PP = P at *
  cbv
  refine call_pure hΩ 4 hb rfl (fits _) rfl rfl ?_
  cbv
  refine br (fun h => ?_) (fun h => ?_) <;> cbv
  · have h := notA hΩ h
    rw [hd0 h] at hds
    rw [hds, h]
    exact ⟨2, ⟨rfl, rfl, trivial⟩⟩
  · have h := notB hΩ h
    obtain ⟨f, hf, hdf⟩ := hd1 h
    have hac := hat f hf
    rw [← hdf, ← hds] at hac
    refine ⟨⟨hz0⟩, _, hac, ?_⟩
    cbv
    exact .of (by rw [h])
theorem datB_ord {l : List Fil} (ho : ordF l) (p : List UInt8) : datB l p = datF l p := by unfold datB datF; rw [hasB_ord ho, plcB_ord ho]
theorem c_data (x : Dsk) (p : List UInt8) (hl : x.f.length ≤ 1048576) (ho : ordF x.f) : PCtr PP n_impl_Disk_data [x.enc false false, str p] (.tup [.sl false 1 ((datF x.f p).map byteA), boo (hasF x.f p)]) := by
  have := c_dataB x p hl
  rw [datB_ord ho, hasB_ord ho] at this
  exact this
end Go.Proofs.YtgcnggefeapalaaGreatDoor

/- Plain laws of disks in order. -/
set_option linter.unusedVariables false
set_option linter.unusedSimpArgs false
namespace Go.Proofs.YtgcnggefeapalaaGreatDoor
open Go Go.Fw
theorem leB_false {a b : List UInt8} (h : leB a b = false) : b < a := by
  unfold leB at h
  rw [Go.Proofs.bytesLess_eq] at h
  simp only [Bool.or_eq_false_iff, decide_eq_false_iff_not, beq_eq_false_iff_ne] at h
  exact (List.le_iff_lt_or_eq.1 (List.not_lt.1 h.1)).resolve_right fun e => h.2 e.symm
theorem filsF_ord : ∀ {l : List Fil} {q : Option (List UInt8)}, filsF q l = 0 → ordF l ∧ (∀ x, q = some x → ∀ f ∈ l, x < f.p) ∧ ∀ f ∈ l, pathF f.p = 0 ∧ f.d.length ≤ 4000
  | [], q, h => ⟨List.Pairwise.nil, by simp, by simp⟩
  | f :: fs, q, h => by
    rw [filsF] at h
    split at h
    · rename_i h0; exact absurd h h0
    · rename_i h0
      split at h
      · cases h
      · rename_i h1
        split at h
        · cases h
        · rename_i h2
          obtain ⟨i1, i2, i3⟩ := filsF_ord h
          have h0 : pathF f.p = 0 := by simpa using h0
          refine ⟨List.pairwise_cons.2 ⟨fun g hg => i2 _ rfl g hg, i1⟩, fun x hx g hg => ?_, fun g hg => ?_⟩
          · subst hx
            have : x < f.p := leB_false (by simpa using h1)
            rcases List.mem_cons.1 hg with rfl | hg
            · exact this
            · exact List.lt_trans this (i2 _ rfl g hg)
          · rcases List.mem_cons.1 hg with rfl | hg
            · exact ⟨h0, by omega⟩
            · exact i3 g hg
theorem plcF_cons (f : Fil) (l : List Fil) (p : List UInt8) : plcF (f :: l) p = if f.p < p then plcF l p + 1 else 0 := by
  unfold plcF
  by_cases h : f.p < p
  · rw [List.takeWhile_cons_of_pos (by simpa using h), if_pos h]; rfl
  · rw [List.takeWhile_cons_of_neg (by simpa using h), if_neg h]; rfl
theorem hasF_cons (f : Fil) (l : List Fil) (p : List UInt8) : hasF (f :: l) p = if f.p < p then hasF l p else decide (f.p = p) := by
  unfold hasF
  rw [plcF_cons]
  by_cases h : f.p < p
  · rw [if_pos h, if_pos h]; rfl
  · rw [if_neg h, if_neg h]; rfl
theorem hasF_gt : ∀ {l : List Fil} {p : List UInt8}, (∀ f ∈ l, p < f.p) → hasF l p = false
  | [], _, _ => rfl
  | f :: l, p, h => by
    have h1 := h f (by simp)
    rw [hasF_cons, if_neg (List.lt_asymm h1)]
    exact decide_eq_false fun e => by subst e; exact List.lt_irrefl _ h1
theorem fndF_of : ∀ {l : List Fil} {p : List UInt8} {i : Nat}, ordF l → idxFrom (fun f : Fil => decide (f.p = p)) i l = if hasF l p then ((i + plcF l p : Nat) : Int) else -1
  | [], _, _, _ => rfl
  | f :: l, p, i, h => by
    obtain ⟨h1, h2⟩ := List.pairwise_cons.1 h
    rw [idxFrom, hasF_cons, plcF_cons, fndF_of h2]
    by_cases hp : f.p = p
    · have hn : ¬ f.p < p := by subst hp; exact List.lt_irrefl _
      rw [if_neg hn, if_neg hn, decide_eq_true hp]; simp
    · by_cases hl : f.p < p
      · simp only [hp, hl, decide_false, if_true, Bool.false_eq_true, if_false]
        have : i + 1 + plcF l p = i + (plcF l p + 1) := by omega
        rw [this]
      · have hg : p < f.p := (List.le_iff_lt_or_eq.1 (List.not_lt.1 hl)).resolve_right fun e => hp e.symm
        rw [hasF_gt fun g hg' => List.lt_trans hg (h1 g hg')]
        simp [hp, hl]
end Go.Proofs.YtgcnggefeapalaaGreatDoor

/- Which paths are numbers' paths. Plain theorems. -/
set_option linter.unusedVariables false
set_option linter.unusedSimpArgs false
namespace Go.Proofs.YtgcnggefeapalaaGreatDoor
open Go Go.Fw
set_option maxRecDepth 100000
/-- What the spec writes for any number. -/
def genS (n : Int) : List UInt8 := if inB n 1 999999 then genB n else []
theorem c_GenPathS (n : Int) : PCtr PP n_spec_GenPath [i64 n] (str (genS n)) := by
  by_cases hn : inB n 1 999999 = true
  · have h := hn
    unfold inB at h
    simp at h
    have := c_GenPath n (by omega) (by omega)
    unfold genS
    rw [if_pos hn]
    exact this
  · have hin := c_l1In n 1 999999
    unfold genS
    rw [if_neg hn]
    rw [Bool.eq_false_iff.2 hn] at hin
    obtain ⟨Ω, hΩ⟩ : ∃ Ω, Ω = std := ⟨_, rfl⟩
    clear hn
    have htab := tab
    have hmo := hmo
    refine PCtr.walk tab hΩ fn_spec_GenPath rfl ?_
    generalize PP = P at *
    cbv
    refine call_pure hΩ 3 hin rfl (fits _) rfl rfl ?_
    cbv
    refine br (fun h => ?_) (fun h => (notF hΩ h).elim)
    cbv
    exact .same
/-- The number a path tells. -/
def genV (s : List UInt8) : Int := numM 6 (s.drop 4)
def isG (s : List UInt8) : Bool := decide (1 ≤ genV s) && decide (s.length = 10)
theorem beg_split {s : List UInt8} (h : begB genH s = true) : s = genH ++ s.drop 4 := by
  rw [begB_eq, decide_eq_true_eq] at h
  have h2 : s.take 4 = genH := h.2
  rw [← h2, List.take_append_drop]
theorem genB_len (n : Int) : (genB n).length = 10 := by unfold genB; rw [List.length_append, digs_len]; rfl
/-- The spec's question at a path and the implementation's agree. -/
theorem isG_eq {s : List UInt8} (h : begB genH s = true) : isG s = (decide (0 ≤ genV s) && decide (genS (if genV s < 0 then 0 else genV s) = s)) := by
  have hs := beg_split h
  have hl4 : 4 ≤ s.length := by rw [hs, List.length_append]; show 4 ≤ 4 + _; omega
  rw [Bool.eq_iff_iff]
  unfold isG
  simp only [Bool.and_eq_true, decide_eq_true_eq]
  constructor
  · rintro ⟨h1, h2⟩
    refine ⟨by omega, ?_⟩
    rw [if_neg (by omega)]
    have hl : (s.drop 4).length = 6 := by rw [List.length_drop]; omega
    have hv : genV s = numL (s.drop 4) 0 := by unfold genV numM; rw [if_neg (by rw [hl]; omega)]
    rw [hv] at h1 ⊢
    obtain ⟨m, e1, e2, e3⟩ := digs_numL (s.drop 4) 0 0 (by show 0 ≤ numL (s.drop 4) 0; omega)
    have e1 : numL (s.drop 4) 0 = (m : Int) := e1
    rw [hl] at e2 e3
    rw [e1] at h1 ⊢
    have e2 : digs 6 m = s.drop 4 := by simpa [digs] using e2
    have hin : inB (m : Int) 1 999999 = true := by unfold inB; simp; omega
    unfold genS genB
    rw [if_pos hin]
    show genH ++ digs 6 m = s
    rw [e2, ← hs]
  · rintro ⟨h1, h2⟩
    rw [if_neg (by omega)] at h2
    unfold genS at h2
    split at h2
    · rename_i hin
      unfold inB at hin
      simp at hin
      refine ⟨by omega, ?_⟩
      rw [← h2]; exact genB_len _
    · rw [← h2] at hl4; simp at hl4
/-- The numbers that files' paths tell. -/
def gensF (l : List Fil) : List Int := ((pathsF l genH).filter isG).map genV
end Go.Proofs.YtgcnggefeapalaaGreatDoor

/- Walks: numbers' lists, one behind another. Plain theorems. -/
set_option linter.unusedVariables false
set_option linter.unusedSimpArgs false
namespace Go.Proofs
open Go.Shelf

end Go.Proofs
namespace Go.Proofs.YtgcnggefeapalaaGreatDoor
open Go Go.Fw Go.Proofs
set_option maxRecDepth 100000
theorem frz_S (l : List (List UInt8)) : (l.map str).map frz = l.map str := by rw [List.map_map]; exact List.map_congr_left fun c _ => rfl
theorem roF_S (l : List (List UInt8)) : roFree (.sl true 1 (l.map str)) = true := roFAll fun x hx => by obtain ⟨c, _, rfl⟩ := List.mem_map.1 hx; rfl
end Go.Proofs.YtgcnggefeapalaaGreatDoor

/- Walks: the numbers of a disk's files. Plain theorems. -/
set_option linter.unusedVariables false
set_option linter.unusedSimpArgs false
namespace Go.Proofs.YtgcnggefeapalaaGreatDoor
open Go Go.Fw
set_option maxRecDepth 100000
/-- A list that grows at its end, in cells. -/
structure Grw (Ω : Opq) {α : Type} (f : α → A) (F : List α → List A) : Prop where
  nil : F [] = []
  eq : ∀ l, l.map f = F l
  len : ∀ l, (F l).length = l.length
  app : ∀ l x, Ω.app (Ω.take (Ω.len (F l)) (F l)) [f x] = F (l ++ [x])
  plus : ∀ l x, Ω.plus (Ω.len (F l)) (Ω.len [f x]) = Ω.len (F (l ++ [x]))
  lo : ∀ l, Ω.len (F l) = (F l).length
  le : ∀ l, Ω.len (F l) ≤ (F l).length
  tk : ∀ l, Ω.take (Ω.len (F l)) (F l) = F l
  z : Ω.len (F []) = 0
theorem grw {Ω : Opq} (hΩ : Ω = std) {α : Type} (f : α → A) : ∃ F, Grw Ω f F := by
  subst hΩ
  refine ⟨fun l => l.map f, rfl, fun _ => rfl, fun _ => List.length_map _, fun l x => ?_, fun l x => ?_, fun _ => rfl, fun _ => Nat.le_refl _, fun _ => List.take_length, rfl⟩
  · rw [takeAll rfl, List.map_append]; rfl
  · rw [List.map_append]; exact (List.length_append).symm
theorem gensF_at {ps : List (List UInt8)} {i : Nat} {s : List UInt8} (h : ps[i]? = some s) : ((ps.take (i + 1)).filter isG).map genV = ((ps.take i).filter isG).map genV ++ (if isG s then [genV s] else []) := by
  rw [List.take_add_one, h, List.filter_append, List.map_append]
  cases hb : isG s <;> simp [hb]
theorem pathsF_mem {l : List Fil} {p s : List UInt8} (h : s ∈ pathsF l p) : begB p s = true ∧ ∃ f ∈ l, f.p = s := by
  unfold pathsF at h
  rw [List.mem_filter, List.mem_map] at h
  exact ⟨h.2, h.1⟩
theorem c_gens (x : Dsk) (hl : x.f.length ≤ 1048576) (hp : ∀ f ∈ x.f, f.p.length ≤ 1048576) : PCtr PP n_impl_Disk_gens [x.enc false false] (.sl true 1 ((gensF x.f).map i64)) := by
  obtain ⟨Ω, hΩ⟩ : ∃ Ω, Ω = std := ⟨_, rfl⟩
  have hcp := c_paths x genH hl
  have hgl := pathsF_len x.f genH
  have hpm : ∀ s ∈ pathsF x.f genH, 4 ≤ s.length ∧ s.length ≤ 1048576 := fun s hs => by
    obtain ⟨h1, f, hf, rfl⟩ := pathsF_mem hs
    refine ⟨?_, hp f hf⟩
    rw [beg_split h1, List.length_append]; show 4 ≤ 4 + _; omega
  unfold gensF
  generalize pathsF x.f genH = ps at *
  have hpl : ps.length ≤ 1048576 := by omega
  have hnum : ∀ s : List UInt8, s.length ≤ 1048576 → PCtr PP n_impl_number [str (s.drop 4), i64 6] (i64 (genV s)) := fun s hs => c_numberM 6 (by decide) (s.drop 4) (by rw [List.length_drop]; omega)
  have hsg : ∀ s : List UInt8, Ω.segS (Ω.nat 4) (Ω.lenS s) s = s.drop 4 := fun s => by subst hΩ; show (s.take s.length).drop 4 = _; rw [List.take_length]
  obtain ⟨W, hW⟩ : ∃ W : Nat → List Int, W = fun i => ((ps.take i).filter isG).map genV := ⟨_, rfl⟩
  have hWs : ∀ i s, ps[i]? = some s → W (i + 1) = W i ++ (if isG s then [genV s] else []) := fun i s h => by rw [hW]; exact gensF_at h
  have hW0 : W 0 = [] := by rw [hW]; rfl
  have hWl : ∀ i, (W i).length ≤ i := fun i => by rw [hW]; dsimp only; rw [List.length_map]; exact Nat.le_trans (List.length_filter_le _ _) (by rw [List.length_take]; omega)
  have hWn : (ps.filter isG).map genV = W ps.length := by rw [hW]; dsimp only; rw [List.take_length]
  rw [hWn]
  clear hW hWn
  obtain ⟨F, hF⟩ := grw hΩ i64
  rw [hF.eq]
  have hgq : ∀ s, isG s = (decide (1 ≤ genV s) && decide (s.length = 10)) := fun s => rfl
  obtain ⟨q, hq⟩ : ∃ q, q = ps.map str := ⟨_, rfl⟩
  have hqf : roFree (.sl true 1 q) = true := by rw [hq]; exact roF_S ps
  have hqz : frz (.sl true 1 q) = .sl false 1 q := by rw [frz_sl, hq, frz_S]
  have hql : q.length = ps.length := by rw [hq, List.length_map]
  have hqq := hq
  rw [← hq] at hcp
  unfold Dsk.enc at hcp ⊢
  unfold genH at hcp
  obtain ⟨l, v1, v2, v3, v4⟩ := x
  dsimp only at *
  clear hq
  generalize l.map (Fil.enc false) = xs at *
  generalize genV = V at *
  generalize isG = B at *
  have htab := tab
  have hmo := hmo
  refine PCtr.walk tab hΩ fn_impl_Disk_gens rfl ?_
  generalize PP = P at *
  cbv
  refine call_pf hΩ 4 hcp rfl (fits _) hqf hqz rfl ?_
  cbv
  refine loopX htab hΩ (fun i : Nat => ⟨[(3, .vw 1 0 (Ω.len (F (W i)))), (9, .sl false 1 q), (10, i64 (Ω.int (Ω.len q))), (11, i64 (Ω.int i))], 31, [none, some ⟨1, F (W i), false⟩]⟩) (fun i => i ≤ ps.length) (fun i => ps.length - i) 0 (Nat.zero_le _)
    ?enter (fun i hi => ?_)
  case enter => exact ((Sbs.unlk (r := 0) rfl rfl).trans (Sbs.thaw0 (r := 0) rfl rfl rfl)).trans (Sbs.mk rfl (by dsimp only; rw [hW0, hF.nil]; rfl) ⟨by dsimp only; rw [hW0, hF.z]; rfl, rfl, rfl, zeroI hΩ, trivial⟩)
  have hol := hF.len (W i)
  have hlo := hF.lo (W i)
  have hle := hF.le (W i)
  have htk := hF.tk (W i)
  have hwi := hWl i
  cbv
  refine br (fun h => ?_) (fun h => ?_) <;> cbv
  · replace h := ltI hΩ h
    obtain ⟨s, hs⟩ := at_of (cs := ps) (by omega : i < _)
    have hst := hWs i s hs
    have hap0 := hF.app (W i) (V s)
    have hpl0 := hF.plus (W i) (V s)
    have hsl := hpm s (List.mem_of_getElem? hs)
    have hcn := hnum s hsl.2
    have hsg := hsg s
    have hgs := hgq s
    generalize V s = n at *
    generalize B s = b at *
    refine ⟨⟨nnI hΩ⟩, _, rdI hΩ hqq hs, ?_⟩
    cbv
    refine ⟨⟨by decide, trivial, by subst hΩ; exact hsl.1, by subst hΩ; exact Nat.le_refl _⟩, ?_⟩
    refine call_pure hΩ 3 hcn rfl (by show fitA.fitL 3 [str (Ω.segS (Ω.nat 4) (Ω.lenS s) s), i64 6] _; rw [hsg]; exact fits _) rfl rfl ?_
    cbv
    have hb : decide (1 ≤ n) = true → decide (s.length = 10) = true → b = true := fun h1 h2 => by rw [hgs, h1, h2]; rfl
    have hb0 : decide (1 ≤ n) = false → b = false := fun h1 => by rw [hgs, h1]; rfl
    have hb1 : decide (s.length = 10) = false → b = false := fun h1 => by rw [hgs, h1, Bool.and_false]
    clear hgs
    have keep : b = false → W (i + 1) = W i := fun h => by rw [hst, h]; simp
    have grow : b = true → W (i + 1) = W i ++ [n] := fun h => by rw [hst, h]; simp
    clear hst
    have skip : b = false → i + 1 ≤ ps.length ∧ ps.length - (i + 1) < ps.length - i ∧ W (i + 1) = W i := fun h => ⟨by omega, by omega, keep h⟩
    have i1 : i + 1 ≤ ps.length := by omega
    have i2 : ps.length - (i + 1) < ps.length - i := by omega
    have i3 : i64 (Ω.ar .add .i64 (Ω.int i) 1) = i64 (Ω.int (i + 1)) := incI hΩ (by omega)
    refine br (fun g => ?_) (fun g => ?_) <;> cbv
    · replace g := geI_t hΩ g
      refine br (fun k => ?_) (fun k => ?_) <;> cbv
      · replace k := eqZt hΩ (iteA hΩ k)
        have k : s.length = 10 := by subst hΩ; have k : (s.length : Int) = 10 := k; omega
        have hb := grow (hb (decide_eq_true g) (decide_eq_true k))
        exact ⟨⟨rfl, okAll rfl, by show (Ω.len (F (W i)) + 1) * 8 ≤ 140737488355328; omega, by show Ω.len (F (W i)) + 1 ≤ 9223372036854775807; omega⟩,
          i + 1, i1, i2, (Sbs.cut 2 rfl).trans (Sbs.mk rfl (by show [none, some (Row.mk 1 (Ω.app (Ω.take (Ω.len (F (W i))) (F (W i))) [i64 n]) false)] = _; rw [hap0, hb]) ⟨congrArg (A.vw 1 0) (by rw [hb]; exact hpl0), rfl, rfl, i3, trivial⟩)⟩
      · replace k := eqZf hΩ (iteA hΩ k)
        have k : s.length ≠ 10 := by subst hΩ; have k : ¬ (s.length : Int) = 10 := k; omega
        have hb := keep (hb1 (decide_eq_false k))
        exact ⟨i + 1, i1, i2, (Sbs.cut 2 rfl).trans (Sbs.mk rfl (by rw [hb]; rfl) ⟨by rw [hb]; rfl, rfl, rfl, i3, trivial⟩)⟩
    · replace g := geI_f hΩ g
      have hb := keep (hb0 (decide_eq_false (by omega)))
      exact ⟨i + 1, i1, i2, (Sbs.cut 2 rfl).trans (Sbs.mk rfl (by rw [hb]; rfl) ⟨by rw [hb]; rfl, rfl, rfl, i3, trivial⟩)⟩
  · replace h := geI hΩ h
    obtain rfl : i = ps.length := by omega
    exact ⟨⟨rfl, hle⟩, .of (congrArg (A.sl true 1) htk)⟩
theorem c_l8Gens (x : Dsk) (hl : x.f.length ≤ 1048576) (hp : ∀ f ∈ x.f, f.p.length ≤ 1048576) : PCtr PP n_spec_l8Gens [x.see] (.sl true 1 ((gensF x.f).map i64)) := by
  obtain ⟨Ω, hΩ⟩ : ∃ Ω, Ω = std := ⟨_, rfl⟩
  have hcp := c_l7Paths x genH hl
  have hgl := pathsF_len x.f genH
  have hpm : ∀ s ∈ pathsF x.f genH, 4 ≤ s.length ∧ s.length ≤ 1048576 ∧ isG s = (decide (0 ≤ genV s) && decide (genS (if genV s < 0 then 0 else genV s) = s)) := fun s hs => by
    obtain ⟨h1, f, hf, rfl⟩ := pathsF_mem hs
    refine ⟨?_, hp f hf, isG_eq h1⟩
    rw [beg_split h1, List.length_append]; show 4 ≤ 4 + _; omega
  unfold gensF
  generalize pathsF x.f genH = ps at *
  have hpl : ps.length ≤ 1048576 := by omega
  have hnum : ∀ s : List UInt8, s.length ≤ 1048576 → PCtr PP n_spec_l1Number [str (s.drop 4), i64 6] (.tup [i64 (if genV s < 0 then 0 else genV s), boo (decide (0 ≤ genV s))]) := fun s hs => c_l1NumberM 6 (by decide) (s.drop 4) (by rw [List.length_drop]; omega)
  have hgp := c_GenPathS
  have hsg : ∀ s : List UInt8, Ω.segS (Ω.nat 4) (Ω.lenS s) s = s.drop 4 := fun s => by subst hΩ; show (s.take s.length).drop 4 = _; rw [List.take_length]
  obtain ⟨W, hW⟩ : ∃ W : Nat → List Int, W = fun i => ((ps.take i).filter isG).map genV := ⟨_, rfl⟩
  have hWs : ∀ i s, ps[i]? = some s → W (i + 1) = W i ++ (if isG s then [if genV s < 0 then 0 else genV s] else []) := fun i s h => by
    have h1 := hpm s (List.mem_of_getElem? h)
    rw [hW]; dsimp only; rw [gensF_at h]
    by_cases hb : isG s = true
    · have : 0 ≤ genV s := by rw [h1.2.2] at hb; simp at hb; exact hb.1
      rw [if_pos hb, if_pos hb, if_neg (show ¬ genV s < 0 by omega)]
    · rw [if_neg hb, if_neg hb]
  have hW0 : W 0 = [] := by rw [hW]; rfl
  have hWl : ∀ i, (W i).length ≤ i := fun i => by rw [hW]; dsimp only; rw [List.length_map]; exact Nat.le_trans (List.length_filter_le _ _) (by rw [List.length_take]; omega)
  have hWn : (ps.filter isG).map genV = W ps.length := by rw [hW]; dsimp only; rw [List.take_length]
  rw [hWn]
  clear hW hWn
  obtain ⟨F, hF⟩ := grw hΩ i64
  rw [hF.eq]
  obtain ⟨q, hq⟩ : ∃ q, q = ps.map str := ⟨_, rfl⟩
  have hqf : roFree (.sl true 1 q) = true := by rw [hq]; exact roF_S ps
  have hqz : frz (.sl true 1 q) = .sl false 1 q := by rw [frz_sl, hq, frz_S]
  have hql : q.length = ps.length := by rw [hq, List.length_map]
  have hqq := hq
  rw [← hq] at hcp
  unfold Dsk.see at hcp ⊢
  unfold genH at hcp
  obtain ⟨l, v1, v2, v3, v4⟩ := x
  dsimp only at *
  clear hq
  generalize l.map (Fil.enc false) = xs at *
  obtain ⟨V, hV⟩ : ∃ V : List UInt8 → Int, ∀ s, V s = if genV s < 0 then 0 else genV s := ⟨_, fun _ => rfl⟩
  obtain ⟨D, hD⟩ : ∃ D : List UInt8 → Bool, ∀ s, D s = decide (0 ≤ genV s) := ⟨_, fun _ => rfl⟩
  simp only [← hV, ← hD] at hWs hnum hpm
  clear hV hD
  generalize isG = B at *
  generalize genS = Q at *
  have htab := tab
  have hmo := hmo
  refine PCtr.walk tab hΩ fn_spec_l8Gens rfl ?_
  generalize PP = P at *
  cbv
  refine call_pf hΩ 4 hcp rfl (fits _) hqf hqz rfl ?_
  cbv
  refine loopX htab hΩ (fun i : Nat => ⟨[(0, .rp [.sl false 2 xs, i64 v1, i64 v2, i64 v3, boo v4]), (3, .vw 0 0 (Ω.len (F (W i)))), (4, .sl false 1 q), (5, i64 (Ω.int i))], 41, [some ⟨1, F (W i), false⟩]⟩) (fun i => i ≤ ps.length) (fun i => ps.length - i) 0 (Nat.zero_le _)
    ?enter (fun i hi => ?_)
  case enter => exact Sbs.mk rfl (by dsimp only; rw [hW0, hF.nil]) ⟨rfl, by dsimp only; rw [hW0, hF.z]; rfl, rfl, zeroI hΩ, trivial⟩
  have hol := hF.len (W i)
  have hlo := hF.lo (W i)
  have hle := hF.le (W i)
  have htk := hF.tk (W i)
  have hwi := hWl i
  cbv
  refine br (fun h => ?_) (fun h => ?_) <;> cbv
  · replace h := ltI hΩ h
    obtain ⟨s, hs⟩ := at_of (cs := ps) (by omega : i < _)
    have hst := hWs i s hs
    have hap0 := hF.app (W i) (V s)
    have hpl0 := hF.plus (W i) (V s)
    obtain ⟨hs4, hsl, hgs⟩ := hpm s (List.mem_of_getElem? hs)
    have hcn := hnum s hsl
    have hgp := hgp (V s)
    have hsg := hsg s
    generalize hqs : Q (V s) = z at *
    generalize V s = n at *
    generalize D s = d at *
    generalize B s = b at *
    have i1 : i + 1 ≤ ps.length := by omega
    have i2 : ps.length - (i + 1) < ps.length - i := by omega
    have i3 : i64 (Ω.ar .add .i64 (Ω.int i) 1) = i64 (Ω.int (i + 1)) := incI hΩ (by omega)
    have grow : d = true → z = s → W (i + 1) = W i ++ [n] := fun h1 h2 => by rw [hst, hgs, h1, h2]; simp
    have keep0 : d = false → W (i + 1) = W i := fun h1 => by rw [hst, hgs, h1]; simp
    have keep1 : ¬ z = s → W (i + 1) = W i := fun h1 => by rw [hst, hgs]; simp [h1]
    clear hst hgs
    refine ⟨⟨nnI hΩ⟩, _, rdI hΩ hqq hs, ?_⟩
    cbv
    refine ⟨⟨by decide, trivial, by subst hΩ; exact hs4, by subst hΩ; exact Nat.le_refl _⟩, ?_⟩
    refine call_pure hΩ 3 hcn rfl (by show fitA.fitL 3 [str (Ω.segS (Ω.nat 4) (Ω.lenS s) s), i64 6] _; rw [hsg]; exact fits _) rfl rfl ?_
    cbv
    refine ⟨VC_drawn htab hΩ hmo (by kernel_rfl) ?_⟩
    cbv
    refine br (fun g => ?_) (fun g => ?_) <;> cbv
    · refine QCall_pure (k := 3) hgp rfl (fits _) rfl ?_
      cbv
      refine ⟨⟨nnI hΩ⟩, _, rdI hΩ hqq hs, ?_⟩
      cbv
      refine br (fun k => ?_) (fun k => ?_) <;> cbv
      · have hb := grow g (eqSt hΩ (iteA hΩ k))
        exact ⟨⟨rfl, okAll rfl, by show (Ω.len (F (W i)) + 1) * 8 ≤ 140737488355328; omega, by show Ω.len (F (W i)) + 1 ≤ 9223372036854775807; omega⟩,
          i + 1, i1, i2, (Sbs.cut 1 rfl).trans (Sbs.mk rfl (by show [some (Row.mk 1 (Ω.app (Ω.take (Ω.len (F (W i))) (F (W i))) [i64 n]) false)] = _; rw [hap0, hb]) ⟨rfl, congrArg (A.vw 0 0) (by rw [hb]; exact hpl0), rfl, i3, trivial⟩)⟩
      · have hb := keep1 (eqSf hΩ (iteA hΩ k))
        exact ⟨i + 1, i1, i2, (Sbs.cut 1 rfl).trans (Sbs.mk rfl (by rw [hb]; rfl) ⟨rfl, by rw [hb]; rfl, rfl, i3, trivial⟩)⟩
    · have hb := keep0 g
      exact ⟨i + 1, i1, i2, (Sbs.cut 1 rfl).trans (Sbs.mk rfl (by rw [hb]; rfl) ⟨rfl, by rw [hb]; rfl, rfl, i3, trivial⟩)⟩
  · replace h := geI hΩ h
    obtain rfl : i = ps.length := by omega
    exact ⟨⟨rfl, hle⟩, .of (congrArg (A.sl true 1) htk)⟩
end Go.Proofs.YtgcnggefeapalaaGreatDoor

/- Walks: who leans on one. Plain theorems. -/
set_option linter.unusedVariables false
set_option linter.unusedSimpArgs false
namespace Go.Proofs.YtgcnggefeapalaaGreatDoor
open Go Go.Fw
set_option maxRecDepth 100000
theorem c_l1Has (l : List Int) (s : Int) (hl : l.length ≤ 4611686018427387904) : PCtr PP n_spec_l1Has [.sl false 1 (l.map i64), i64 s] (boo (l.any (· == s))) := by
  obtain ⟨Ω, hΩ⟩ : ∃ Ω, Ω = std := ⟨_, rfl⟩
  obtain ⟨r, hr⟩ : ∃ r, r = l.any (· == s) := ⟨_, rfl⟩
  rw [← hr]
  obtain ⟨xs, hxs⟩ : ∃ xs, xs = l.map i64 := ⟨_, rfl⟩
  have hlen : xs.length = l.length := by rw [hxs, List.length_map]
  rw [← hxs]
  have htab := tab
  have hmo := hmo
  have hve := verEq
  refine PCtr.walk tab hΩ fn_spec_l1Has rfl ?_
  generalize PP = P at *
  cbv
  refine loopX htab hΩ (fun i : Nat => ⟨[(0, .sl false 1 xs), (1, .sc (.int .i64 s)), (5, .sc (.int .i64 (Ω.int i)))], 18, []⟩) (fun i => i ≤ l.length ∧ r = (l.drop i).any (· == s)) (fun i => l.length - i) 0
    ⟨Nat.zero_le _, hr⟩ (Sbs.mk rfl rfl ⟨rfl, rfl, zeroI hΩ, trivial⟩) ?_
  rintro i ⟨hi, he⟩
  cbv
  refine br (fun h => ?_) (fun h => ?_) <;> cbv
  · replace h := ltI hΩ h
    obtain ⟨c, hcc⟩ := at_of (cs := l) (by omega : i < l.length)
    rw [any_at _ hcc] at he
    refine ⟨⟨nnI hΩ⟩, _, rdI hΩ hxs hcc, ?_⟩
    cbv
    refine br (fun g => ?_) (fun g => ?_) <;> cbv
    · exact .of (congrArg boo (by rw [he, show (c == s) = true by simp [eqI_t hΩ g]]; rfl))
    · rw [show (c == s) = false by simp [eqI_f hΩ g], Bool.false_or] at he
      exact ⟨i + 1, ⟨by omega, he⟩, by omega, Sbs.mk rfl rfl ⟨rfl, rfl, incI hΩ (by omega), trivial⟩⟩
  · replace h := geI hΩ h
    exact .of (congrArg boo (by rw [he, List.drop_of_length_le (by omega)]; rfl))
theorem c_IndexI (l : List Int) (s : Int) (hl : l.length ≤ 4611686018427387904) : PCtr PP n_slices_Index_L_int64_int64 [.sl false 1 (l.map i64), i64 s] (i64 (idx (fun c => s == c) l)) := by
  obtain ⟨Ω, hΩ⟩ : ∃ Ω, Ω = std := ⟨_, rfl⟩
  obtain ⟨r, hr⟩ : ∃ r, r = idx (fun c => s == c) l := ⟨_, rfl⟩
  rw [← hr]
  obtain ⟨xs, hxs⟩ : ∃ xs, xs = l.map i64 := ⟨_, rfl⟩
  have hlen : xs.length = l.length := by rw [hxs, List.length_map]
  rw [← hxs]
  have htab := tab
  have hmo := hmo
  have hve := verEq
  refine PCtr.walk tab hΩ fn_slices_Index_L_int64_int64 rfl ?_
  generalize PP = P at *
  cbv
  refine loopX htab hΩ (fun i : Nat => ⟨[(0, .sl false 1 xs), (1, .sc (.int .i64 s)), (7, .sc (.int .i64 (Ω.int (Ω.len xs)))), (8, .sc (.int .i64 (Ω.int i)))], 19, []⟩) (fun i => i ≤ l.length ∧ r = idxFrom (fun c => s == c) i (l.drop i)) (fun i => l.length - i) 0
    ⟨Nat.zero_le _, hr⟩ (Sbs.mk rfl rfl ⟨rfl, rfl, rfl, zeroI hΩ, trivial⟩) ?_
  rintro i ⟨hi, he⟩
  cbv
  refine br (fun h => ?_) (fun h => ?_) <;> cbv
  · replace h := ltI hΩ h
    obtain ⟨c, hcc⟩ := at_of (cs := l) (by omega : i < l.length)
    rw [idxFrom_at _ hcc] at he
    refine ⟨⟨nnI hΩ⟩, _, rdI hΩ hxs hcc, ?_⟩
    cbv
    refine br (fun g => ?_) (fun g => ?_) <;> cbv
    · exact .of (congrArg i64 (by rw [he, if_pos (by have := eqI_t hΩ g; simp [this])]; subst hΩ; rfl))
    · rw [if_neg (by have := eqI_f hΩ g; simp; omega)] at he
      exact ⟨i + 1, ⟨by omega, he⟩, by omega, Sbs.mk rfl rfl ⟨rfl, rfl, rfl, incI hΩ (by omega), trivial⟩⟩
  · replace h := geI hΩ h
    exact .of (congrArg i64 (by rw [he, List.drop_of_length_le (by omega)]; rfl))
theorem c_ContainsI (l : List Int) (s : Int) (hl : l.length ≤ 4611686018427387904) : PCtr PP n_slices_Contains_L_int64_int64 [.sl false 1 (l.map i64), i64 s] (boo (l.any (· == s))) := by
  obtain ⟨Ω, hΩ⟩ : ∃ Ω, Ω = std := ⟨_, rfl⟩
  obtain ⟨r, hr⟩ : ∃ r, r = l.any (· == s) := ⟨_, rfl⟩
  rw [← hr]
  have hc0 := c_IndexI l s hl
  rw [show (l.any (· == s)) = l.any (fun c => s == c) by congr 1; funext c; rw [Bool.eq_iff_iff, beq_iff_eq, beq_iff_eq]; exact eq_comm, ← idx_any] at hr
  generalize idx (fun c => s == c) l = k at *
  generalize l.map i64 = xs at *
  have htab := tab
  have hmo := hmo
  refine PCtr.walk tab hΩ fn_slices_Contains_L_int64_int64 rfl ?_
  generalize PP = P at *
  cbv
  repeat' (first | (refine br (fun h => ?_) (fun h => ?_) <;> cbv) | (refine ⟨VC_drawn htab hΩ hmo (by kernel_rfl) ?_⟩; cbv) | (refine QCall_pure (k := 3) (hc0) rfl (fits _) rfl ?_; cbv) | (refine call_pure hΩ 3 (hc0) rfl (fits _) rfl rfl ?_; cbv))
  all_goals (refine .of (congrArg boo ?_); subst hΩ; subst hr; rfl)
end Go.Proofs.YtgcnggefeapalaaGreatDoor

/- Walks: a disk's present number. Plain theorems. -/
set_option linter.unusedVariables false
set_option linter.unusedSimpArgs false
namespace Go.Proofs.YtgcnggefeapalaaGreatDoor
open Go Go.Fw
set_option maxRecDepth 100000
/-- A disk whose parts may be counted. -/
structure Dsk.Fit (x : Dsk) : Prop where
  n : x.f.length ≤ 1048576
  p : ∀ f ∈ x.f, f.p.length ≤ 1048576
  d : ∀ f ∈ x.f, f.d.length ≤ 1048576
  t : totL x.f ≤ 1099511627776
/-- A sound disk. -/
structure Dsk.Ok (x : Dsk) : Prop extends x.Fit where
  o : ordF x.f
  pf : ∀ f ∈ x.f, pathF f.p = 0
  d4 : ∀ f ∈ x.f, f.d.length ≤ 4000
  n120 : x.f.length ≤ 120
  bg : inB x.bg 0 20000 = true
  wr : inB x.wr 0 1000000000 = true
  st : inB x.st (-1) 1000000000 = true
  tt : (totL x.f : Int) ≤ x.bg
theorem Dsk.Fit.ok {x : Dsk} (h : x.Fit) (hf : dskF x = 0) : x.Ok := by
  unfold dskF at hf
  split at hf
  · cases hf
  · rename_i h1
    split at hf
    · cases hf
    · rename_i h2
      split at hf
      · rename_i h3; exact absurd hf h3
      · rename_i h3
        split at hf
        · cases hf
        · rename_i h4
          obtain ⟨h5, -, h6⟩ := filsF_ord (by simpa using h3)
          simp at h1
          exact ⟨h, h5, fun f hf => (h6 f hf).1, fun f hf => (h6 f hf).2, by omega, h1.1, h1.2.1, h1.2.2, by omega⟩
theorem datB_len {l : List Fil} {n : Nat} (h : ∀ f ∈ l, f.d.length ≤ n) (p : List UInt8) : (datB l p).length ≤ n := by
  unfold datB
  split
  · split
    · rename_i f hf; exact h f (List.mem_of_getElem? hf)
    · exact Nat.zero_le _
  · exact Nat.zero_le _
theorem datF_len {l : List Fil} {n : Nat} (h : ∀ f ∈ l, f.d.length ≤ n) (p : List UInt8) : (datF l p).length ≤ n := by
  unfold datF
  split
  · split
    · rename_i f hf; exact h f (List.mem_of_getElem? hf)
    · exact Nat.zero_le _
  · exact Nat.zero_le _
theorem gensF_len (l : List Fil) : (gensF l).length ≤ l.length := by
  unfold gensF
  rw [List.length_map]
  exact Nat.le_trans (List.length_filter_le _ _) (pathsF_len _ _)
theorem gensF_ge {l : List Fil} {n : Int} (h : n ∈ gensF l) : 1 ≤ n ∧ n ≤ 999999 := by
  unfold gensF at h
  obtain ⟨s, hs, rfl⟩ := List.mem_map.1 h
  obtain ⟨hs, hg⟩ := List.mem_filter.1 hs
  have hb := (pathsF_mem hs).1
  have h1 := isG_eq hb
  rw [hg] at h1
  have h1 := h1.symm
  simp only [Bool.and_eq_true, decide_eq_true_eq] at h1
  rw [if_neg (by omega)] at h1
  have h2 := h1.2
  unfold genS at h2
  split at h2
  · rename_i hin
    unfold inB at hin
    simp at hin
    exact hin
  · have := beg_split hb
    rw [← h2] at this
    simp [genH] at this
def curP : List UInt8 := [99, 117, 114]
/-- Is the number that d tells among g. -/
def curK (d : List UInt8) (h : Bool) (g : List Int) : Bool := h && g.any (· == numM 6 d)
def curV (d : List UInt8) (h : Bool) (g : List Int) : Int := if curK d h g then numM 6 d else 0
theorem c_currentB (x : Dsk) (hx : x.Fit) : PCtr PP n_impl_Disk_current [x.enc false false] (.tup [i64 (curV (datB x.f curP) (hasB' x.f curP) (gensF x.f)), i64 (if curK (datB x.f curP) (hasB' x.f curP) (gensF x.f) then 0 else 4)]) := by
  obtain ⟨Ω, hΩ⟩ : ∃ Ω, Ω = std := ⟨_, rfl⟩
  have hcd := c_dataB x curP hx.n
  have hcg := c_gens x hx.n hx.p
  have hgl := gensF_len x.f
  have hxn := hx.n
  have hcn := c_numberM 6 (by decide) (datB x.f curP) (datB_len hx.d curP)
  have hch := fun n => c_ContainsI (gensF x.f) n (by omega)
  unfold curV curK
  generalize hasB' x.f curP = h at *
  generalize gensF x.f = g at *
  generalize datB x.f curP = d at *
  generalize numM 6 d = n at *
  have hch := hch n
  generalize g.any (· == n) = b at *
  clear hgl
  obtain ⟨q, hq⟩ : ∃ q, q = g.map i64 := ⟨_, rfl⟩
  have hqf : roFree (.sl true 1 q) = true := by rw [hq]; exact roF_I g
  have hqz : frz (.sl true 1 q) = .sl false 1 q := by rw [frz_sl, hq, frz_I]
  obtain ⟨ds, hds⟩ : ∃ ds, ds = d.map byteA := ⟨_, rfl⟩
  rw [← hq] at hcg hch
  rw [← hds] at hcd
  unfold curP at hcd
  unfold Dsk.enc at *
  generalize x.f.map (Fil.enc false) = xs at *
  clear hq
  have htab := tab
  have hmo := hmo
  refine PCtr.walk tab hΩ fn_impl_Disk_current rfl ?_
  generalize PP = P at *
  cbv
  refine call_share hΩ 4 hcd rfl (fits _) rfl ?_
  cbv
  refine ⟨d, hds, ?_⟩
  cbv
  refine call_pure hΩ 4 hcn rfl (fits _) rfl rfl ?_
  cbv
  refine br (fun k => ?_) (fun k => ?_) <;> cbv
  · have k := notA hΩ k
    subst k
    exact .same
  · have k := notB hΩ k
    subst k
    refine call_pf hΩ 4 hcg rfl (fits _) hqf hqz rfl ?_
    cbv
    refine call_pure hΩ 4 hch rfl (fits _) rfl rfl ?_
    cbv
    refine br (fun k => ?_) (fun k => ?_) <;> cbv
    · have k := notA hΩ (iteB hΩ k)
      subst k
      exact .same
    · have k := notB hΩ (iteB hΩ k)
      subst k
      exact .same
/-- A sound disk's present number; 0: none. -/
def curF (l : List Fil) : Int := curV (datF l curP) (hasF l curP) (gensF l)
theorem curF_zero {l : List Fil} : curF l = 0 ↔ curK (datF l curP) (hasF l curP) (gensF l) = false := by
  unfold curF curV
  split
  · rename_i h
    rw [h]
    have h := (Bool.and_eq_true _ _ ▸ h : _ ∧ _).2
    obtain ⟨n, hn, he⟩ := List.any_eq_true.1 h
    have := gensF_ge hn
    rw [beq_iff_eq.1 he] at this
    simp; omega
  · rename_i h; simpa using h
theorem c_current (x : Dsk) (hx : x.Ok) : PCtr PP n_impl_Disk_current [x.enc false false] (.tup [i64 (curF x.f), i64 (if curF x.f = 0 then 4 else 0)]) := by
  have := c_currentB x hx.toFit
  rw [datB_ord hx.o, hasB_ord hx.o] at this
  have e : (if curF x.f = 0 then (4 : Int) else 0) = if curK (datF x.f curP) (hasF x.f curP) (gensF x.f) then 0 else 4 := by
    have := curF_zero (l := x.f)
    cases hk : curK (datF x.f curP) (hasF x.f curP) (gensF x.f) with
    | true => rw [hk] at this; rw [if_neg fun e => by have := this.1 e; cases this]; rfl
    | false => rw [hk] at this; rw [if_pos (this.2 rfl)]; rfl
  rw [e]
  exact this
end Go.Proofs.YtgcnggefeapalaaGreatDoor

/- Walks: a disk's present number in the spec, places, sizes. Plain theorems. -/
set_option linter.unusedVariables false
set_option linter.unusedSimpArgs false
namespace Go.Proofs.YtgcnggefeapalaaGreatDoor
open Go Go.Fw
set_option maxRecDepth 100000
/-- Where the spec finds a path in files in order, and what lies there. -/
structure Fnd (xs : List A) (z : Int) (h : Bool) (d : List UInt8) : Prop where
  neg : h = false → z < 0 ∧ d = []
  pos : h = true → 0 ≤ z ∧ ∃ p, xs[z.toNat]? = some (.agg [str p, .sl false 1 (d.map byteA)])
theorem fnd_of {l : List Fil} (ho : ordF l) (p : List UInt8) : Fnd (l.map (Fil.enc false)) (fndF l p) (hasF l p) (datF l p) := by
  have e : fndF l p = if hasF l p then ((0 + plcF l p : Nat) : Int) else -1 := fndF_of ho
  refine ⟨fun h => ?_, fun h => ?_⟩
  · rw [e, h]; unfold datF; rw [h]; exact ⟨by simp, rfl⟩
  · rw [e, if_pos h]
    unfold datF
    rw [if_pos h]
    unfold hasF at h
    cases hf : l[plcF l p]? with
    | none => rw [hf] at h; cases h
    | some f => exact ⟨by omega, f.p, by rw [List.getElem?_map, show ((0 + plcF l p : Nat) : Int).toNat = plcF l p by omega, hf]; rfl⟩
theorem gensF_any {l : List Fil} {n : Int} (h : n < 1) : (gensF l).any (· == n) = false := by
  rw [Bool.eq_false_iff]
  intro h'
  obtain ⟨m, hm, he⟩ := List.any_eq_true.1 h'
  have := gensF_ge hm
  rw [beq_iff_eq.1 he] at this
  omega
theorem c_l8Current (x : Dsk) (hx : x.Fit) (ho : ordF x.f) : PCtr PP n_spec_l8Current [x.see] (i64 (curF x.f)) := by
  obtain ⟨Ω, hΩ⟩ : ∃ Ω, Ω = std := ⟨_, rfl⟩
  have hcd := c_l7Find x curP hx.n
  have hfd := fnd_of ho curP
  have hcg := c_l8Gens x hx.n hx.p
  have hgl := gensF_len x.f
  have hxn := hx.n
  have hdl := datF_len hx.d curP
  have hcn := c_l1NumberM 6 (by decide) (datF x.f curP) hdl
  have hch := fun n => c_l1Has (gensF x.f) n (by omega)
  have hga := @gensF_any x.f
  unfold numRM at hcn
  unfold curF curV curK
  generalize fndF x.f curP = z at *
  generalize hasF x.f curP = h at *
  generalize gensF x.f = g at *
  generalize datF x.f curP = d at *
  generalize numM 6 d = n at *
  have hg1 : n < 0 → g.any (· == n) = false := fun h => hga (by omega)
  have hv : ¬ n < 0 → (if n < 0 then 0 else n) = n := fun h => if_neg h
  have hch := hch (if n < 0 then 0 else n)
  have hc2 : ¬ n < 0 → g.any (· == (if n < 0 then 0 else n)) = g.any (· == n) := fun h => by rw [hv h]
  generalize (if n < 0 then 0 else n) = m at *
  obtain ⟨dn, hdn⟩ : ∃ dn, dn = decide (0 ≤ n) := ⟨_, rfl⟩
  rw [← hdn] at hcn
  have hdn0 : dn = false → n < 0 := fun h => by rw [hdn] at h; have := of_decide_eq_false h; omega
  have hdn1 : dn = true → ¬ n < 0 := fun h => by rw [hdn] at h; have := of_decide_eq_true h; omega
  clear hdn
  generalize hbm : g.any (· == m) = bm at *
  generalize g.any (· == n) = b at *
  clear hgl hga hbm
  obtain ⟨q, hq⟩ : ∃ q, q = g.map i64 := ⟨_, rfl⟩
  have hqf : roFree (.sl true 1 q) = true := by rw [hq]; exact roF_I g
  have hqz : frz (.sl true 1 q) = .sl false 1 q := by rw [frz_sl, hq, frz_I]
  obtain ⟨ds, hds⟩ : ∃ ds, ds = d.map byteA := ⟨_, rfl⟩
  obtain ⟨f1, f2⟩ := hfd
  rw [← hq] at hcg hch
  rw [← hds] at f2
  unfold curP at hcd
  unfold Dsk.see at *
  generalize x.f.map (Fil.enc false) = xs at *
  clear hq
  generalize x.bg = v1 at *
  generalize x.wr = v2 at *
  generalize x.st = v3 at *
  generalize x.dn = v4 at *
  have htab := tab
  have hmo := hmo
  refine PCtr.walk tab hΩ fn_spec_l8Current rfl ?_
  generalize PP = P at *
  cbv
  refine call_pure hΩ 4 hcd rfl (fits _) rfl rfl ?_
  cbv
  refine br (fun k => ?_) (fun k => ?_) <;> cbv
  · have k := ltZt hΩ k
    cases h with
    | true => have := (f2 rfl).1; omega
    | false => exact .same
  have k := ltZf hΩ k
  cases h with
  | false => have := (f1 rfl).1; omega
  | true =>
  obtain ⟨hz, p, hp⟩ := f2 rfl
  refine ⟨⟨hz⟩, _, hp, ?_⟩
  cbv
  refine ⟨d, hds, ?_⟩
  cbv
  refine call_pure hΩ 4 hcn rfl (fits _) rfl rfl ?_
  cbv
  refine br (fun k => ?_) (fun k => ?_) <;> cbv
  · have k := hdn0 (notA hΩ k)
    rw [hg1 k]
    exact .same
  · have k := hdn1 (notB hΩ k)
    refine call_pf hΩ 4 hcg rfl (fits _) hqf hqz rfl ?_
    cbv
    refine call_pure hΩ 4 hch rfl (fits _) rfl rfl ?_
    cbv
    refine br (fun k' => ?_) (fun k' => ?_) <;> cbv
    · have k' := notA hΩ (iteB hΩ k')
      rw [← hc2 k, k']
      exact .same
    · have k' := notB hΩ (iteB hΩ k')
      rw [← hc2 k, k', hv k]
      exact .same
end Go.Proofs.YtgcnggefeapalaaGreatDoor

/- Walks: the path of a package. Plain theorems. -/
set_option linter.unusedVariables false
set_option linter.unusedSimpArgs false
namespace Go.Proofs.YtgcnggefeapalaaGreatDoor
open Go Go.Fw
set_option maxRecDepth 100000
def pkgH : List UInt8 := [112, 107, 103, 47]
/-- A package's path. -/
def pathK (o : Pck) : List UInt8 := pkgH ++ (o.n ++ (45 :: verT o.v))
theorem c_path (o : Pck) (hn : o.n.length ≤ 1048576) (hv : verF o.v = 0) : PCtr PP n_impl_Pack_path [o.enc false] (str (pathK o)) := by
  obtain ⟨Ω, hΩ⟩ : ∃ Ω, Ω = std := ⟨_, rfl⟩
  obtain ⟨ps, ds, bs, hen, -, -, -⟩ := enc_raw o
  rw [hen]
  have ht := c_text o.v hv
  have hl := verT_len hv
  unfold pathK pkgH
  generalize verT o.v = V at *
  generalize o.n = n at *
  have hr : Ω.cat (Ω.cat (Ω.cat [112, 107, 103, 47] n) [45]) V = [112, 107, 103, 47] ++ (n ++ (45 :: V)) := by subst hΩ; show (([112, 107, 103, 47] ++ n) ++ [45]) ++ V = _; simp
  generalize ([112, 107, 103, 47] : List UInt8) ++ (n ++ (45 :: V)) = r at *
  have l1 : (Ω.cat [112, 107, 103, 47] n).length = 4 + n.length := by rw [catL hΩ]; rfl
  have l2 : (Ω.cat (Ω.cat [112, 107, 103, 47] n) [45]).length = 5 + n.length := by rw [catL hΩ, l1]; simp; omega
  have htab := tab
  have hmo := hmo
  refine PCtr.walk tab hΩ fn_impl_Pack_path rfl ?_
  generalize PP = P at *
  cbv
  refine ⟨VC_drawn htab hΩ hmo (by kernel_rfl) ?_⟩
  cbv
  refine ⟨⟨by show ((4 + n.length : Nat) : Int) ≤ _; omega⟩, ⟨by show (((Ω.cat [112, 107, 103, 47] n).length + 1 : Nat) : Int) ≤ _; rw [l1]; omega⟩, ?_⟩
  refine QCall_pure (k := 3) ht rfl (fits _) rfl ?_
  cbv
  refine ⟨⟨by show (((Ω.cat (Ω.cat [112, 107, 103, 47] n) [45]).length + V.length : Nat) : Int) ≤ _; rw [l2]; omega⟩, ?_⟩
  cbv
  exact .of (congrArg str hr)
theorem c_l8Path (o : Pck) (hn : o.n.length ≤ 1048576) (hv : verF o.v = 0) : PCtr PP n_spec_l8Path [o.enc false] (str (pathK o)) := by
  obtain ⟨Ω, hΩ⟩ : ∃ Ω, Ω = std := ⟨_, rfl⟩
  obtain ⟨ps, ds, bs, hen, -, -, -⟩ := enc_raw o
  rw [hen]
  have ht := c_specFormatVersion o.v hv
  have hl := verT_len hv
  unfold pathK pkgH
  generalize verT o.v = V at *
  generalize o.n = n at *
  have hr : Ω.cat (Ω.cat (Ω.cat [112, 107, 103, 47] n) [45]) V = [112, 107, 103, 47] ++ (n ++ (45 :: V)) := by subst hΩ; show (([112, 107, 103, 47] ++ n) ++ [45]) ++ V = _; simp
  generalize ([112, 107, 103, 47] : List UInt8) ++ (n ++ (45 :: V)) = r at *
  have l1 : (Ω.cat [112, 107, 103, 47] n).length = 4 + n.length := by rw [catL hΩ]; rfl
  have l2 : (Ω.cat (Ω.cat [112, 107, 103, 47] n) [45]).length = 5 + n.length := by rw [catL hΩ, l1]; simp; omega
  have htab := tab
  have hmo := hmo
  refine PCtr.walk tab hΩ fn_spec_l8Path rfl ?_
  generalize PP = P at *
  cbv
  refine ⟨VC_drawn htab hΩ hmo (by kernel_rfl) ?_⟩
  cbv
  refine ⟨⟨by show ((4 + n.length : Nat) : Int) ≤ _; omega⟩, ⟨by show (((Ω.cat [112, 107, 103, 47] n).length + 1 : Nat) : Int) ≤ _; rw [l1]; omega⟩, ?_⟩
  refine QCall_pure (k := 3) ht rfl (fits _) rfl ?_
  cbv
  refine ⟨⟨by show (((Ω.cat (Ω.cat [112, 107, 103, 47] n) [45]).length + V.length : Nat) : Int) ≤ _; rw [l2]; omega⟩, ?_⟩
  cbv
  exact .of (congrArg str hr)
end Go.Proofs.YtgcnggefeapalaaGreatDoor

/- The library's sort of int64s, as a contract that writes into what it is handed. Plain theorems. -/
set_option linter.unusedVariables false
set_option linter.unusedSimpArgs false
namespace Go.Proofs
open Go.Shelf
def Tryz.sortI_ren : Go.Shelf.Ren := ⟨fun | 5 => 206 | 8 => 246 | 7 => 245 | 19 => 277 | 20 => 232 | 10 => 268 | 11 => 269 | 12 => 270 | 13 => 271 | 14 => 272 | 15 => 273 | 16 => 274 | 17 => 275 | 18 => 276 | 30 => 283 | 31 => 284 | 32 => 285 | 33 => 286 | 34 => 287 | 35 => 240 | 40 => 289 | n => n, fun | 23 => 72 | 25 => 2 | 3 => 3 | 32 => 247 | 22 => 72 | 0 => 0 | 44 => 251 | 46 => 225 | 4 => 4 | 36 => 284 | 35 => 283 | 41 => 182 | 5 => 5 | 9 => 9 | 53 => 293 | 57 => 297 | 63 => 304 | 64 => 305 | n => n, fun | n => n⟩
theorem Tryz.sortI : Go.Proofs.SlLaysM.n5 Tryz.prog Tryz.sortI_ren where
  mixed := by kernel_rfl
  f5 := ⟨"slices.Sort[[]int64,int64]", by decide, Tryz.func206.trans (congrArg some (by kernel_rfl))⟩
  f7 := ⟨"slices.pdqsortOrdered[int64]", by decide, Tryz.func245.trans (congrArg some (by kernel_rfl))⟩
  f8 := Tryz.func246.trans (congrArg some (by kernel_rfl))
  f10 := ⟨"slices.insertionSortOrdered[int64]", by decide, Tryz.func268.trans (congrArg some (by kernel_rfl))⟩
  f11 := ⟨"slices.heapSortOrdered[int64]", by decide, Tryz.func269.trans (congrArg some (by kernel_rfl))⟩
  f12 := ⟨"slices.breakPatternsOrdered[int64]", by decide, Tryz.func270.trans (congrArg some (by kernel_rfl))⟩
  f13 := ⟨"slices.choosePivotOrdered[int64]", by decide, Tryz.func271.trans (congrArg some (by kernel_rfl))⟩
  f14 := ⟨"slices.reverseRangeOrdered[int64]", by decide, Tryz.func272.trans (congrArg some (by kernel_rfl))⟩
  f15 := ⟨"slices.partialInsertionSortOrdered[int64]", by decide, Tryz.func273.trans (congrArg some (by kernel_rfl))⟩
  f16 := ⟨"cmp.Less[int64]", by decide, Tryz.func274.trans (congrArg some (by kernel_rfl))⟩
  f17 := ⟨"slices.partitionEqualOrdered[int64]", by decide, Tryz.func275.trans (congrArg some (by kernel_rfl))⟩
  f18 := ⟨"slices.partitionOrdered[int64]", by decide, Tryz.func276.trans (congrArg some (by kernel_rfl))⟩
  f19 := Tryz.func277.trans (congrArg some (by kernel_rfl))
  f20 := Tryz.func232.trans (congrArg some (by kernel_rfl))
  f30 := ⟨"slices.siftDownOrdered[int64]", by decide, Tryz.func283.trans (congrArg some (by kernel_rfl))⟩
  f31 := Tryz.func284.trans (congrArg some (by kernel_rfl))
  f32 := Tryz.func285.trans (congrArg some (by kernel_rfl))
  f33 := ⟨"slices.medianAdjacentOrdered[int64]", by decide, Tryz.func286.trans (congrArg some (by kernel_rfl))⟩
  f34 := ⟨"slices.medianOrdered[int64]", by decide, Tryz.func287.trans (congrArg some (by kernel_rfl))⟩
  f35 := ⟨"cmp.isNaN[int64]", by decide, Tryz.func240.trans (congrArg some (by kernel_rfl))⟩
  f40 := ⟨"slices.order2Ordered[int64]", by decide, Tryz.func289.trans (congrArg some (by kernel_rfl))⟩
  t0 := Tryz.underlying0
  a0 := Tryz.isAgg0
  z0 := Tryz.sizeOf0
  v0 := Tryz.zeroValue0
  t3 := Tryz.underlying3
  a3 := Tryz.isAgg3
  z3 := Tryz.sizeOf3
  v3 := Tryz.zeroValue3
  t4 := Tryz.underlying4
  a4 := Tryz.isAgg4
  z4 := Tryz.sizeOf4
  v4 := Tryz.zeroValue4
  t5 := Tryz.underlying5
  a5 := Tryz.isAgg5
  z5 := Tryz.sizeOf5
  v5 := Tryz.zeroValue5
  t9 := Tryz.underlying9
  a9 := Tryz.isAgg9
  z9 := Tryz.sizeOf9
  v9 := Tryz.zeroValue9
  t22 := Tryz.underlying72
  a22 := Tryz.isAgg72
  z22 := Tryz.sizeOf72
  v22 := Tryz.zeroValue72
  t23 := Tryz.underlying72
  a23 := Tryz.isAgg72
  z23 := Tryz.sizeOf72
  v23 := Tryz.zeroValue72
  t25 := Tryz.underlying2
  a25 := Tryz.isAgg2
  z25 := Tryz.sizeOf2
  v25 := Tryz.zeroValue2
  t32 := Tryz.underlying247
  a32 := Tryz.isAgg247
  z32 := Tryz.sizeOf247
  v32 := Tryz.zeroValue247
  t35 := Tryz.underlying283
  a35 := Tryz.isAgg283
  z35 := Tryz.sizeOf283
  v35 := Tryz.zeroValue283
  t36 := Tryz.underlying284
  a36 := Tryz.isAgg284
  z36 := Tryz.sizeOf284
  v36 := Tryz.zeroValue284
  t41 := Tryz.underlying182
  a41 := Tryz.isAgg182
  z41 := Tryz.sizeOf182
  v41 := Tryz.zeroValue182
  t44 := Tryz.underlying251
  a44 := Tryz.isAgg251
  z44 := Tryz.sizeOf251
  v44 := Tryz.zeroValue251
  t46 := Tryz.underlying225
  a46 := Tryz.isAgg225
  z46 := Tryz.sizeOf225
  v46 := Tryz.zeroValue225
  t53 := Tryz.underlying293
  a53 := Tryz.isAgg293
  z53 := Tryz.sizeOf293
  v53 := Tryz.zeroValue293
  t57 := Tryz.underlying297
  a57 := Tryz.isAgg297
  z57 := Tryz.sizeOf297
  v57 := Tryz.zeroValue297
  t63 := Tryz.underlying304
  a63 := Tryz.isAgg304
  z63 := Tryz.sizeOf304
  v63 := Tryz.zeroValue304
  t64 := Tryz.underlying305
  a64 := Tryz.isAgg305
  z64 := Tryz.sizeOf305
  v64 := Tryz.zeroValue305

end Go.Proofs
namespace Go.Proofs.YtgcnggefeapalaaGreatDoor
open Go Go.Fw Go.Sort Go.Proofs
theorem relI : ∀ {xs : List Int} {w : World} {G : Nat → Prop} {vs : List Value} {F : List Nat}, RelL w G (xs.map i64) vs F → vs = xs.map (Value.int .i64) ∧ F = []
  | [], _, _, _, _, h => by cases h; exact ⟨rfl, rfl⟩
  | x :: xs, _, _, _, _, h => by
    cases h with
    | cons h hl =>
      obtain ⟨rfl, rfl⟩ := relI hl
      cases h
      exact ⟨rfl, rfl⟩
theorem ofI {w : World} {G : Nat → Prop} : ∀ (xs : List Int), RelL w G (xs.map i64) (xs.map (Value.int .i64)) []
  | [] => .nil
  | x :: xs => .cons (F := []) (Fs := []) (.sc rfl) (ofI xs)
theorem flatI (xs : List Int) : flat (xs.map i64) = xs.map i64 := by
  induction xs with
  | nil => rfl
  | cons x xs ih => simp only [flat, List.map_cons, List.flatMap_cons] at *; rw [ih]; rfl
/-- The numbers in order. -/
def sortZ (xs : List Int) : List Int := xs.mergeSort fun x y => decide (x ≤ y)
theorem c_SortI (xs : List Int) (hb : xs.length ≤ 4194304) : MCtr PP n_slices_Sort_L_int64_int64 [.sl true 1 (xs.map i64)] (.tup []) [.sl true 1 ((sortZ xs).map i64)] := by
  have hlen : (sortZ xs).length = xs.length := List.length_mergeSort _
  refine ⟨fn_slices_Sort_L_int64_int64.1, fun w G vs F hG hnd hF hl => ?_⟩
  cases hl with
  | cons h hl =>
    cases hl
    rw [List.append_nil] at *
    generalize hys : xs.map i64 = ys at h
    cases h with
    | nils =>
      have h0 : xs = [] := by cases xs with
        | nil => rfl
        | cons a b => cases hys
      subst h0
      refine Calls.mono (AnyM.slices_Sort_int_none Tryz.sortI none 0 w) ?_
      rintro e w' ⟨rfl, rfl⟩
      exact ⟨_, [], [], rfl, ⟨rfl, rfl, rfl, Nat.le_refl _, fun _ _ _ => rfl⟩, List.nodup_nil, by simp, .tup .nil, .cons (F := []) (Fs := []) (by rw [show (sortZ []).map i64 = [] by simp [sortZ]]; exact .nils) .nil⟩
    | ow hh hw hlen1 hc hl hcap hm hs hv =>
      rename_i b len cap cur e cs F
      subst hys
      rw [flatI] at hl
      obtain ⟨rfl, rfl⟩ := relI hl
      have hl2 : len = xs.length := by rw [hlen1, List.length_map]
      subst hl2
      rw [Nat.mul_one] at hc
      have hH : Holds (Value.int .i64) w b 0 xs.toArray := holds_of_blockI hh hc.symm
      have hblk : b < w.heap.size := (Array.getElem?_eq_some_iff.1 hh).1
      refine Calls.mono (AnyM.slices_Sort_int Tryz.sortI b 0 cap xs w hH hblk (by omega)) ?_
      rintro e' w' ⟨rfl, n, os, rfl⟩
      have hgr := grownBy_sortedI (w := w) (g := b) (n := n) (os := os) (sortZ xs).toArray
      have hhp := heap_sortedI (n := n) (os := os) (sortZ xs).toArray hh
      have hcur : xs.length ≤ cur.size := by rw [hs]; omega
      have htk := take_putCellsI cur (sortZ xs) (by rw [hlen]; exact hcur)
      have hcap' : cur.size = cap := by rw [hs, Nat.mul_one]
      refine ⟨_, [], [b], rfl, ⟨hgr.os, hgr.tape, hgr.output, hgr.size, fun k hk hkF => hgr.block k hk (by simpa using hkF)⟩, by simp, by simp, .tup .nil, ?_⟩
      refine .cons (F := [b]) (Fs := []) (.ow (F := []) hhp ?_ ?_ rfl ?_ hcap hm ?_ ?_) .nil
      · intro x hx; obtain ⟨k, _, rfl⟩ := List.mem_map.1 hx; rfl
      · rw [List.length_map, hlen]
      · rw [flatI, Nat.mul_one, ← hlen, htk]; exact ofI _
      · simp [putCells, hcap']
      · intro v hv
        rw [Nat.mul_one, ← hlen, htk] at hv
        obtain ⟨k, _, rfl⟩ := List.mem_map.1 hv; rfl
end Go.Proofs.YtgcnggefeapalaaGreatDoor

/- Walks: sets are read from their text, in the implementation. Plain theorems. -/
set_option linter.unusedVariables false
set_option linter.unusedSimpArgs false
namespace Go.Proofs.YtgcnggefeapalaaGreatDoor
open Go Go.Fw Go.Sort
set_option maxRecDepth 100000
/-- The place of the package that words tell; -1: none. -/
def rdP (c : List Pck) : List (List UInt8) → Int
  | [n, v] => if (verP v).1 = 0 then findF c n (verP v).2 else -1
  | _ => -1
theorem two_of {ws : List (List UInt8)} (h : ws.length = 2) : ∃ a b, ws = [a, b] := by
  match ws, h with
  | [a, b], _ => exact ⟨a, b, rfl⟩
theorem rdP_no {c : List Pck} {ws : List (List UInt8)} (h : ws.length ≠ 2) : rdP c ws = -1 := by
  match ws, h with
  | [], _ => rfl
  | [_], _ => rfl
  | [_, _], h => exact absurd rfl h
  | _ :: _ :: _ :: _, _ => rfl
theorem c_readPack (l : List Pck) (ws : List (List UInt8)) (hl : l.length ≤ 1048576) (hw : ws.length ≤ 1048576) (hs : ∀ w ∈ ws, w.length ≤ 1048575) : PCtr PP n_impl_readPack [encP l, .sl false 1 (ws.map str)] (i64 (rdP l ws)) := by
  obtain ⟨Ω, hΩ⟩ : ∃ Ω, Ω = std := ⟨_, rfl⟩
  have hv := fun s h => c_implParseVersion s h
  have hf := fun n v => c_find l n v hl
  have hno := @rdP_no l ws
  have hyes : ∀ a b, ws = [a, b] → rdP l ws = if (verP b).1 = 0 then findF l a (verP b).2 else -1 := fun a b h => by rw [h]; rfl
  have hat : ∀ a b, ws = [a, b] → (ws.map str)[0]? = some (str a) ∧ (ws.map str)[1]? = some (str b) ∧ a.length ≤ 1048575 ∧ b.length ≤ 1048575 := fun a b h => by
    refine ⟨by rw [h]; rfl, by rw [h]; rfl, hs a (by rw [h]; simp), hs b (by rw [h]; simp)⟩
  generalize rdP l ws = r at *
  obtain ⟨q, hq⟩ : ∃ q, q = ws.map str := ⟨_, rfl⟩
  have hql : Ω.int (Ω.len q) = (ws.length : Int) := by subst hΩ; show ((q.length : Nat) : Int) = _; rw [hq, List.length_map]
  have htwo : Ω.int (Ω.len q) = 2 → ∃ a b, ws = [a, b] := fun h => two_of (by rw [hql] at h; omega)
  have hne : Ω.int (Ω.len q) ≠ 2 → r = -1 := fun h => hno (fun h' => h (by rw [hql, h']; rfl))
  rw [← hq] at hat ⊢
  unfold encP at *
  generalize l.map (Pck.enc false) = xs at *
  unfold verA at hv
  have htab := tab
  have hmo := hmo
  clear hql hq hno
  refine PCtr.walk tab hΩ fn_impl_readPack rfl ?_
  generalize PP = P at *
  cbv
  refine br (fun h => ?_) (fun h => ?_) <;> cbv
  · exact .of (congrArg i64 (hne (neZt hΩ h)).symm)
  have h := neZf hΩ h
  obtain ⟨a, b, hab⟩ := htwo h
  obtain ⟨h0, h1, hal, hbl⟩ := hat a b hab
  have hyes := hyes a b hab
  have hv := hv b hbl
  generalize verP b = vp at *
  obtain ⟨k, va, vb, vc⟩ := vp
  dsimp only at *
  have hf := hf a ⟨va, vb, vc⟩
  generalize findF l a ⟨va, vb, vc⟩ = f at *
  clear hat htwo hne
  refine ⟨⟨by decide⟩, _, h1, ?_⟩
  cbv
  refine call_pure hΩ 4 hv rfl (fits _) rfl rfl ?_
  cbv
  refine br (fun h => ?_) (fun h => ?_) <;> cbv
  · have h := neZt hΩ h
    rw [if_neg h] at hyes
    exact .of (congrArg i64 hyes.symm)
  have h := neZf hΩ h
  rw [if_pos h] at hyes
  refine ⟨VC_drawn htab hΩ hmo (by kernel_rfl) ?_⟩
  cbv
  refine ⟨⟨by decide⟩, _, h0, ?_⟩
  cbv
  refine QCall_pure (k := 4) hf rfl (fits _) rfl ?_
  cbv
  exact .of (congrArg i64 hyes.symm)
/-- Lines read one behind the other: code, line, places. -/
def prsL (c : List Pck) : List (List UInt8) → Nat → List Int → Int × Int × List Int
  | [], _, o => (0, 0, o)
  | l :: ls, i, o => if rdP c (wordsP l) < 0 ∨ o.any (· == rdP c (wordsP l)) = true then (5, (i : Int), []) else prsL c ls (i + 1) (o ++ [rdP c (wordsP l)])
theorem prsL_at {c : List Pck} {ls : List (List UInt8)} {i : Nat} {l : List UInt8} {o : List Int} (h : ls[i]? = some l) : prsL c (ls.drop i) i o = if rdP c (wordsP l) < 0 ∨ o.any (· == rdP c (wordsP l)) = true then (5, (i : Int), []) else prsL c (ls.drop (i + 1)) (i + 1) (o ++ [rdP c (wordsP l)]) := by
  obtain ⟨h1, h2⟩ := List.getElem?_eq_some_iff.1 h
  rw [List.drop_eq_getElem_cons h1, h2, prsL]
/-- A set's text read: code, line, places in order. -/
def prsS (c : List Pck) (s : List UInt8) : Int × Int × List Int := if 4000 < s.length then (2, 0, []) else
  ((prsL c (linesP s) 0 []).1, (prsL c (linesP s) 0 []).2.1, sortZ (prsL c (linesP s) 0 []).2.2)
theorem fit_nilN (n : Nat) (k a : Int) : FitX (.agg [i64 k, i64 a, .nil]) (.agg [i64 k, i64 a, .sl true n []]) := ⟨2, by simp [fitA, fitA.fitL, i64]⟩
theorem sortZ_nil : sortZ [] = [] := by simp [sortZ]
theorem c_ParseSet (l : List Pck) (s : List UInt8) (hl : l.length ≤ 1048576) (ho : ∀ o ∈ l, o.Small) (hc : catF l = 0) (hs : s.length ≤ 1048576) : PCtr PP n_impl_ParseSet [encP l, str s] (setR (prsS l s).1 (prsS l s).2.1 (prsS l s).2.2) := by
  obtain ⟨Ω, hΩ⟩ : ∃ Ω, Ω = std := ⟨_, rfl⟩
  have hcf := c_implCatalogFault l hl ho
  rw [hc] at hcf
  obtain ⟨F, hF⟩ := grw hΩ i64
  obtain ⟨R, hR⟩ : ∃ R, R = setR (prsS l s).1 (prsS l s).2.1 (prsS l s).2.2 := ⟨_, rfl⟩
  rw [← hR]
  unfold prsS at hR
  have many : 4000 < s.length → R = .agg [i64 2, i64 0, .sl true 1 []] := fun h => by rw [hR, if_pos h]; rfl
  have go : ¬ 4000 < s.length → R = setR (prsL l (linesP s) 0 []).1 (prsL l (linesP s) 0 []).2.1 (sortZ (prsL l (linesP s) 0 []).2.2) := fun h => by rw [hR, if_neg h]
  clear hR
  have hln := linesP_len (s := s)
  have hmem := fun l => linesP_mem (s := s) (l := l)
  have hlc : s.length ≤ 4000 → PCtr PP n_impl_linesOf [str s] (.sl false 1 ((linesP s).map str)) := fun h => c_linesOf s (by omega)
  generalize linesP s = ls at *
  obtain ⟨n, hn⟩ : ∃ n, n = ls.length := ⟨_, rfl⟩
  obtain ⟨ys, hys⟩ : ∃ ys, ys = ls.map str := ⟨_, rfl⟩
  have hyl : ys.length = ls.length := by rw [hys, List.length_map]
  rw [← hys] at hlc
  have hw := c_wordsOf
  have hrd := fun ws h1 h2 => c_readPack l ws hl h1 h2
  have hch := fun (o : List Int) k (h : o.length ≤ 4001) => c_ContainsI o k (by omega)
  have hso := fun (o : List Int) (h : o.length ≤ 4001) => c_SortI o (by omega)
  have hzl : ∀ o : List Int, (F (sortZ o)).length = (F o).length := fun o => by rw [hF.len, hF.len]; exact List.length_mergeSort _
  have hFz : ∀ o : List Int, (F o).map frz = F o := fun o => by rw [← hF.eq, frz_I]
  simp only [hF.eq] at hch hso
  unfold encP at *
  generalize l.map (Pck.enc false) = xs at *
  have hpn : ∀ i o, prsL l [] i o = (0, 0, o) := fun _ _ => rfl
  have hpa := fun (i : Nat) w (o : List Int) (h : ls[i]? = some w) => prsL_at (c := l) (o := o) h
  generalize prsL l = pr at *
  generalize rdP l = rd at *
  have htab := tab
  refine PCtr.walk tab hΩ fn_impl_ParseSet rfl ?_
  generalize PP = P at *
  cbv
  refine call_pure hΩ 4 hcf rfl (fits _) rfl rfl ?_
  cbv
  refine br (fun h => absurd rfl (neZt hΩ h)) (fun _ => ?_)
  cbv
  refine br (fun h => ?_) (fun h => ?_) <;> cbv
  · have h : 4000 < s.length := by have h := gtZt hΩ h; subst hΩ; have h : (4000 : Int) < (s.length : Int) := h; omega
    rw [many h]
    exact fit_nilN 1 2 0
  have h4 : s.length ≤ 4000 := by have h := gtZf hΩ h; subst hΩ; have h : (s.length : Int) ≤ 4000 := h; omega
  have hRg := go (by omega)
  replace hlc := hlc h4
  clear go many
  refine call_share hΩ 3 hlc rfl (fits _) rfl ?_
  cbv
  refine loopX htab hΩ (fun i : Nat × List Int => ⟨[(0, .sl false 8 xs), (4, .pt 0 0 0), (6, .vw 1 0 (Ω.len (F i.2))), (22, .sl false 1 ys), (23, i64 (Ω.int (Ω.len ys))), (24, i64 (Ω.int i.1))], 51,
    [some ⟨3, [.agg [i64 0, i64 0, .nil]], true⟩, some ⟨1, F i.2, false⟩]⟩) (fun i => i.1 ≤ n ∧ i.2.length ≤ i.1 ∧ R = setR (pr (ls.drop i.1) i.1 i.2).1 (pr (ls.drop i.1) i.1 i.2).2.1 (sortZ (pr (ls.drop i.1) i.1 i.2).2.2)) (fun i => n - i.1) (0, []) ⟨Nat.zero_le _, Nat.le_refl _, hRg⟩
    (Sbs.mk rfl (by dsimp only; rw [hF.nil]; rfl) ⟨rfl, rfl, by dsimp only; rw [hF.z]; rfl, rfl, rfl, zeroI hΩ, trivial⟩) ?_
  rintro ⟨i, o⟩ ⟨hi, hol, hRi⟩
  dsimp only at hi hol hRi ⊢
  have hlf := hF.len o
  have hlo := hF.lo o
  have hle := hF.le o
  have htk := hF.tk o
  have hfz := hFz o
  have hso := hso o (by omega)
  have hzl := hzl o
  have hzk := hF.tk (sortZ o)
  have hze := hF.eq (sortZ o)
  have hzo := hF.lo (sortZ o)
  cbv
  refine br (fun h => ?_) (fun h => ?_) <;> cbv
  · replace h := ltI hΩ h
    obtain ⟨w, hw0⟩ := at_of (cs := ls) (by omega : i < _)
    rw [hpa i w o hw0] at hRi
    have hll := hmem w (List.mem_of_getElem? hw0)
    have hw1 := hw w (by omega)
    have hwl := words_len (s := w)
    have hr1 := hrd (wordsP w) (by omega) (fun v hv => by have := words_mem hv; omega)
    have rw1 : roFree (.sl true 1 ((wordsP w).map str)) = true := roF_S _
    have fw1 : frz (.sl true 1 ((wordsP w).map str)) = .sl false 1 ((wordsP w).map str) := by rw [frz_sl, frz_S]
    generalize wordsP w = wl at *
    have hch := hch o (rd wl) (by omega)
    have hap0 := hF.app o (rd wl)
    have hpl0 := hF.plus o (rd wl)
    generalize rd wl = k at *
    obtain ⟨B, hB⟩ : ∃ B, B = o.any (· == k) := ⟨_, rfl⟩
    have bad : k < 0 ∨ B = true → FitX (.agg [i64 5, i64 (Ω.int i), .nil]) R := fun e => by
      rw [hRi, if_pos (by rw [← hB]; exact e)]
      show FitX _ (.agg [i64 5, i64 (i : Int), .sl true 1 ((sortZ []).map i64)])
      rw [sortZ_nil]
      subst hΩ
      exact fit_nilN 1 5 i
    have good : ¬ k < 0 → B = false → R = setR (pr (ls.drop (i + 1)) (i + 1) (o ++ [k])).1 (pr (ls.drop (i + 1)) (i + 1) (o ++ [k])).2.1 (sortZ (pr (ls.drop (i + 1)) (i + 1) (o ++ [k])).2.2) := fun e1 e2 => by
      rw [if_neg (by rw [← hB, e2]; simp; omega)] at hRi
      exact hRi
    rw [← hB] at hch
    clear hRi hB
    generalize wl.map str = ws at *
    refine ⟨⟨nnI hΩ⟩, _, rdI hΩ hys hw0, ?_⟩
    cbv
    refine call_pf hΩ 3 hw1 rfl (fits _) rw1 fw1 rfl ?_
    cbv
    refine call_pure hΩ 3 hr1 rfl (fits _) rfl rfl ?_
    cbv
    refine br (fun g => ?_) (fun g => ?_) <;> cbv
    · exact bad (.inl (ltZt hΩ g))
    have g := ltZf hΩ g
    refine call_pure hΩ 3 hch (mapO2 (ro_vw rfl hlo hfz) rfl) (fits _) rfl rfl ?_
    cbv
    refine br (fun g' => ?_) (fun g' => ?_) <;> cbv
    · exact bad (.inr (iteB hΩ g'))
    have g' := iteB hΩ g'
    have good := good (by omega) g'
    exact ⟨⟨rfl, okAll rfl, by show (Ω.len (F o) + 1) * 8 ≤ 140737488355328; omega, by show Ω.len (F o) + 1 ≤ 9223372036854775807; omega⟩,
        (i + 1, o ++ [k]), ⟨by show i + 1 ≤ n; omega, by simp; omega, good⟩, by show n - (i + 1) < n - i; omega, (Sbs.cut 2 rfl).trans (Sbs.mk rfl (by show [some (Row.mk 3 [A.agg [i64 0, i64 0, .nil]] true), some (Row.mk 1 (Ω.app (Ω.take (Ω.len (F o)) (F o)) [i64 k]) false)] = _; rw [hap0]) ⟨rfl, rfl, congrArg (A.vw 1 0) hpl0, rfl, rfl, incI hΩ (by omega), trivial⟩)⟩
  · replace h := geI hΩ h
    have : i = n := by omega
    subst this
    rw [List.drop_of_length_le (by omega), hpn] at hRi
    have hRi : R = setR 0 0 (sortZ o) := hRi
    refine call_mut hΩ 3 (l := [(1, F (sortZ o))] ++ []) hso (.cons (mutVw rfl hlo hzl) .nil) (by simp) rfl ?_
    cbv
    exact ⟨⟨rfl, by show Ω.len (F o) ≤ (F (sortZ o)).length; omega⟩, .of (by rw [hRi]; show A.agg [i64 0, i64 0, .sl true 1 (Ω.take (Ω.len (F o)) (F (sortZ o)))] = A.agg [i64 0, i64 0, .sl true 1 ((sortZ o).map i64)]; rw [hlo, ← hzl, ← hzo, hzk, hze])⟩
end Go.Proofs.YtgcnggefeapalaaGreatDoor

/- Walks: draws of numbers. Plain theorems. -/
set_option linter.unusedVariables false
set_option linter.unusedSimpArgs false
namespace Go.Proofs.YtgcnggefeapalaaGreatDoor
open Go Go.Fw
set_option maxRecDepth 100000
/-- The bytes that are read, and how many were. -/
def src (bs : List A) (p : Int) : A := .bx [.sl false 1 bs, i64 p]
end Go.Proofs.YtgcnggefeapalaaGreatDoor

/- Walks: faults of a set. Plain theorems. -/
set_option linter.unusedVariables false
set_option linter.unusedSimpArgs false
namespace Go.Proofs.YtgcnggefeapalaaGreatDoor
open Go Go.Fw
set_option maxRecDepth 100000
structure Flt where
  k : Int
  p : Int
  a : Int
def Flt.enc (f : Flt) : A := .agg [i64 f.k, i64 f.p, i64 f.a]
def twB (c : List Pck) (s : List Int) (i : Nat) (n : List UInt8) : Bool := (s.take i).any fun j => (pk c j).n == n
def metB (c : List Pck) (s : List Int) (l : List Trm) : Bool := s.any fun o => l.any (givesB (pk c o))
def givB (c : List Pck) (s : List Int) (k : Int) (t : Trm) : Bool := s.any fun o => !decide (o = k) && givesB (pk c o) t
def nF (c : List Pck) (s : List Int) (k : Int) : Nat → List (List Trm) → List Flt
  | _, [] => []
  | j, l :: ls => (if metB c s l then [] else [⟨2, k, (j : Int)⟩]) ++ nF c s k (j + 1) ls
def bF (c : List Pck) (s : List Int) (k : Int) : Nat → List Trm → List Flt
  | _, [] => []
  | j, t :: ts => (if givB c s k t then [⟨3, k, (j : Int)⟩] else []) ++ bF c s k (j + 1) ts
def tF (c : List Pck) (s : List Int) (i : Nat) (k : Int) : List Flt := if twB c s i (pk c k).n then [⟨1, k, 0⟩] else []
def aF (c : List Pck) (s : List Int) : Nat → List Int → List Flt
  | _, [] => []
  | i, k :: ks => tF c s i k ++ (nF c s k 0 (pk c k).d ++ (bF c s k 0 (pk c k).b ++ aF c s (i + 1) ks))
/-- All faults of a set. -/
def fltS (c : List Pck) (s : List Int) : List Flt := aF c s 0 s
theorem nF_at {c : List Pck} {s : List Int} {k : Int} {d : List (List Trm)} {j : Nat} {l : List Trm} (h : d[j]? = some l) : nF c s k j (d.drop j) = (if metB c s l then [] else [⟨2, k, (j : Int)⟩]) ++ nF c s k (j + 1) (d.drop (j + 1)) := by
  obtain ⟨h1, h2⟩ := List.getElem?_eq_some_iff.1 h
  rw [List.drop_eq_getElem_cons h1, h2, nF]
theorem bF_at {c : List Pck} {s : List Int} {k : Int} {d : List Trm} {j : Nat} {l : Trm} (h : d[j]? = some l) : bF c s k j (d.drop j) = (if givB c s k l then [⟨3, k, (j : Int)⟩] else []) ++ bF c s k (j + 1) (d.drop (j + 1)) := by
  obtain ⟨h1, h2⟩ := List.getElem?_eq_some_iff.1 h
  rw [List.drop_eq_getElem_cons h1, h2, bF]
theorem aF_at {c : List Pck} {s l : List Int} {i : Nat} {k : Int} (h : l[i]? = some k) : aF c s i (l.drop i) = tF c s i k ++ (nF c s k 0 (pk c k).d ++ (bF c s k 0 (pk c k).b ++ aF c s (i + 1) (l.drop (i + 1)))) := by
  obtain ⟨h1, h2⟩ := List.getElem?_eq_some_iff.1 h
  rw [List.drop_eq_getElem_cons h1, h2, aF]
theorem nF_len (c : List Pck) (s : List Int) (k : Int) : ∀ (d : List (List Trm)) (j : Nat), (nF c s k j d).length ≤ d.length
  | [], _ => by simp [nF]
  | l :: d, j => by
    have := nF_len c s k d (j + 1)
    rw [nF, List.length_append, List.length_cons]
    split <;> simp <;> omega
theorem bF_len (c : List Pck) (s : List Int) (k : Int) : ∀ (d : List Trm) (j : Nat), (bF c s k j d).length ≤ d.length
  | [], _ => by simp [bF]
  | l :: d, j => by
    have := bF_len c s k d (j + 1)
    rw [bF, List.length_append, List.length_cons]
    split <;> simp <;> omega
theorem aF_len (c : List Pck) (s : List Int) : ∀ (l : List Int) (i : Nat), (∀ k ∈ l, (pk c k).d.length ≤ 1048576 ∧ (pk c k).b.length ≤ 1048576) → (aF c s i l).length ≤ l.length * 2097153
  | [], _, _ => by simp [aF]
  | k :: l, i, h => by
    have h1 := aF_len c s l (i + 1) fun x hx => h x (by simp [hx])
    have h2 := nF_len c s k (pk c k).d 0
    have h3 := bF_len c s k (pk c k).b 0
    have h4 := h k (by simp)
    have h5 : (tF c s i k).length ≤ 1 := by unfold tF; split <;> simp
    rw [aF, List.length_append, List.length_append, List.length_append, List.length_cons]
    omega
theorem fltS_len {c : List Pck} {s : List Int} (h : ∀ k ∈ s, (pk c k).d.length ≤ 1048576 ∧ (pk c k).b.length ≤ 1048576) (hs : s.length ≤ 1048576) : (fltS c s).length ≤ 2199024304128 := by
  have := aF_len c s s 0 h
  unfold fltS
  omega
theorem metB_eq {c : List Pck} {s : List Int} (h : ∀ k ∈ s, 0 ≤ k) (l : List Trm) : metB c s l = l.any (givB c s (-1)) := by
  unfold metB givB
  rw [Bool.eq_iff_iff]
  simp only [List.any_eq_true, Bool.and_eq_true, Bool.not_eq_true', decide_eq_false_iff_not]
  constructor
  · rintro ⟨o, ho, t, ht, hg⟩
    exact ⟨t, ht, o, ho, by have := h o ho; omega, hg⟩
  · rintro ⟨t, ht, o, ho, _, hg⟩
    exact ⟨o, ho, t, ht, hg⟩
theorem c_l3Given (l : List Pck) (s : List Int) (t : Trm) (but : Int) (hl : l.length ≤ 1048576) (hs : s.length ≤ 1048576) (ho : ∀ o ∈ l, o.Small) (hk : ∀ k ∈ s, inB k 0 ((l.length : Int) - 1) = true) : PCtr PP n_spec_l3Given [encP l, .sl false 1 (s.map i64), t.enc, i64 but] (boo (givB l s but t)) := by
  obtain ⟨Ω, hΩ⟩ : ∃ Ω, Ω = std := ⟨_, rfl⟩
  obtain ⟨r, hr⟩ : ∃ r, r = givB l s but t := ⟨_, rfl⟩
  rw [← hr]
  unfold givB at hr
  obtain ⟨xs, hxs⟩ : ∃ xs, xs = l.map (Pck.enc false) := ⟨_, rfl⟩
  have hlen : xs.length = l.length := by rw [hxs, List.length_map]
  obtain ⟨ys, hys⟩ : ∃ ys, ys = s.map i64 := ⟨_, rfl⟩
  have hylen : ys.length = s.length := by rw [hys, List.length_map]
  unfold encP at *
  rw [← hxs, ← hys]
  have hat : ∀ k ∈ s, 0 ≤ k ∧ ∃ n v1 v2 v3 sz ps ds bs, xs[k.toNat]? = some (.agg [str n, i64 v1, i64 v2, i64 v3, i64 sz, .sl false 1 ps, .sl false 1 ds, .sl false 7 bs]) ∧ PCtr PP n_spec_l2Gives [.agg [str n, i64 v1, i64 v2, i64 v3, i64 sz, .sl false 1 ps, .sl false 1 ds, .sl false 7 bs], t.enc] (boo (givesB (pk l k) t)) := fun k h => by
    obtain ⟨h0, h1, h2, h3⟩ := pk_at (hk k h)
    obtain ⟨ps, ds, bs, hen, -, -, -⟩ := enc_raw (pk l k)
    have := c_l2Gives (pk l k) t (by have := (ho _ h3).p; omega)
    rw [hen] at this
    exact ⟨h0, _, _, _, _, _, ps, ds, bs, by rw [hxs, List.getElem?_map, h2]; exact congrArg some hen, this⟩
  clear hk ho hxs
  have htab := tab
  have hmo := hmo
  refine PCtr.walk tab hΩ fn_spec_l3Given rfl ?_
  generalize PP = P at *
  cbv
  refine loopX htab hΩ (fun i : Nat => ⟨[(0, .sl false 8 xs), (1, .sl false 1 ys), (3, .sc (.int .i64 but)), (6, .pt 0 0 0), (9, .sc (.int .i64 (Ω.int i)))], 33, [some ⟨7, [t.enc], true⟩]⟩) (fun i => i ≤ s.length ∧ r = (s.drop i).any fun o => !decide (o = but) && givesB (pk l o) t) (fun i => s.length - i) 0
    ⟨Nat.zero_le _, hr⟩ (Sbs.mk rfl rfl ⟨rfl, rfl, rfl, rfl, zeroI hΩ, trivial⟩) ?_
  rintro i ⟨hi, he⟩
  cbv
  refine br (fun h => ?_) (fun h => ?_) <;> cbv
  · replace h := ltI hΩ h
    obtain ⟨c, hcc⟩ := at_of (cs := s) (by omega : i < s.length)
    rw [any_at _ hcc] at he
    obtain ⟨hc0, n, v1, v2, v3, sz, ps, ds, bs, hx, hg⟩ := hat c (List.mem_of_getElem? hcc)
    generalize givesB (pk l c) t = gb at hg he
    refine ⟨VC_drawn htab hΩ hmo (by kernel_rfl) ?_⟩
    cbv
    refine ⟨⟨nnI hΩ⟩, _, rdI hΩ hys hcc, ?_⟩
    cbv
    refine br (fun g => ?_) (fun g => ?_) <;> cbv
    · have g := neI_t hΩ g
      refine ⟨⟨nnI hΩ⟩, _, rdI hΩ hys hcc, ?_⟩
      cbv
      refine ⟨⟨hc0⟩, _, hx, ?_⟩
      cbv
      refine QCall_pure (k := 3) hg rfl (fits _) rfl ?_
      cbv
      refine br (fun h => ?_) (fun h => ?_) <;> cbv
      · have h : gb = true := by subst hΩ; exact h
        exact .of (congrArg boo (by rw [he, h, decide_eq_false g]; rfl))
      · have h : gb = false := by subst hΩ; exact h
        rw [h, Bool.and_false, Bool.false_or] at he
        exact ⟨i + 1, ⟨by omega, he⟩, by omega, Sbs.mk rfl rfl ⟨rfl, rfl, rfl, rfl, incI hΩ (by omega), trivial⟩⟩
    · have g := neI_f hΩ g
      rw [decide_eq_true g, Bool.not_true, Bool.false_and, Bool.false_or] at he
      exact ⟨i + 1, ⟨by omega, he⟩, by omega, Sbs.mk rfl rfl ⟨rfl, rfl, rfl, rfl, incI hΩ (by omega), trivial⟩⟩
  · replace h := geI hΩ h
    exact .of (congrArg boo (by rw [he, List.drop_of_length_le (by omega)]; rfl))
theorem c_l3Met (l : List Pck) (s : List Int) (d : List Trm) (hl : l.length ≤ 1048576) (hs : s.length ≤ 1048576) (hd : d.length ≤ 1048576) (ho : ∀ o ∈ l, o.Small) (hk : ∀ k ∈ s, inB k 0 ((l.length : Int) - 1) = true) : PCtr PP n_spec_l3Met [encP l, .sl false 1 (s.map i64), .sl false 7 (d.map Trm.enc)] (boo (metB l s d)) := by
  obtain ⟨Ω, hΩ⟩ : ∃ Ω, Ω = std := ⟨_, rfl⟩
  obtain ⟨r, hr⟩ : ∃ r, r = metB l s d := ⟨_, rfl⟩
  rw [← hr]
  rw [metB_eq (fun k h => (pk_at (hk k h)).1)] at hr
  obtain ⟨zs, hzs⟩ : ∃ zs, zs = d.map Trm.enc := ⟨_, rfl⟩
  have hlen : zs.length = d.length := by rw [hzs, List.length_map]
  rw [← hzs]
  have hg := fun t => c_l3Given l s t (-1) hl hs ho hk
  unfold encP at *
  generalize givB l s (-1) = G at *
  generalize l.map (Pck.enc false) = xs at *
  generalize s.map i64 = ys at *
  have htab := tab
  have hmo := hmo
  refine PCtr.walk tab hΩ fn_spec_l3Met rfl ?_
  generalize PP = P at *
  cbv
  refine loopX htab hΩ (fun i : Nat => ⟨[(0, .sl false 8 xs), (1, .sl false 1 ys), (2, .sl false 7 zs), (7, .sc (.int .i64 (Ω.int i)))], 21, []⟩) (fun i => i ≤ d.length ∧ r = (d.drop i).any G) (fun i => d.length - i) 0
    ⟨Nat.zero_le _, hr⟩ (Sbs.mk rfl rfl ⟨rfl, rfl, rfl, zeroI hΩ, trivial⟩) ?_
  rintro i ⟨hi, he⟩
  cbv
  refine br (fun h => ?_) (fun h => ?_) <;> cbv
  · replace h := ltI hΩ h
    obtain ⟨c, hcc⟩ := at_of (cs := d) (by omega : i < d.length)
    rw [any_at _ hcc] at he
    refine ⟨⟨nnI hΩ⟩, _, rdI hΩ hzs hcc, ?_⟩
    cbv
    refine call_pure hΩ 3 (hg c) rfl (fits _) rfl rfl ?_
    cbv
    refine br (fun g => ?_) (fun g => ?_) <;> cbv
    · exact .of (congrArg boo (by rw [he, show G c = true from g]; rfl))
    · rw [show G c = false from g, Bool.false_or] at he
      exact ⟨i + 1, ⟨by omega, he⟩, by omega, Sbs.mk rfl rfl ⟨rfl, rfl, rfl, incI hΩ (by omega), trivial⟩⟩
  · replace h := geI hΩ h
    exact .of (congrArg boo (by rw [he, List.drop_of_length_le (by omega)]; rfl))
/-- The place of the package of a name. -/
def nmF (c : List Pck) (n : List UInt8) : List Int → Int
  | [] => -1
  | k :: ks => if (pk c k).n == n then k else nmF c n ks
theorem nmF_at {c : List Pck} {n : List UInt8} {l : List Int} {i : Nat} {k : Int} (h : l[i]? = some k) : nmF c n (l.drop i) = if (pk c k).n == n then k else nmF c n (l.drop (i + 1)) := by
  obtain ⟨h1, h2⟩ := List.getElem?_eq_some_iff.1 h
  rw [List.drop_eq_getElem_cons h1, h2, nmF]
theorem nmF_any {c : List Pck} {n : List UInt8} : ∀ {l : List Int}, (∀ k ∈ l, 0 ≤ k) → (decide (0 ≤ nmF c n l)) = l.any fun j => (pk c j).n == n
  | [], _ => rfl
  | k :: l, h => by
    have ih := nmF_any (c := c) (n := n) (l := l) fun x hx => h x (by simp [hx])
    rw [nmF, List.any_cons]
    by_cases hb : ((pk c k).n == n) = true
    · rw [if_pos hb, hb, Bool.true_or]; exact decide_eq_true (h k (by simp))
    · rw [if_neg hb, ih, Bool.eq_false_iff.2 hb, Bool.false_or]
theorem c_named (l : List Pck) (s : List Int) (n : List UInt8) (hl : l.length ≤ 1048576) (hs : s.length ≤ 1048576) (hk : ∀ k ∈ s, inB k 0 ((l.length : Int) - 1) = true) : PCtr PP n_impl_named [encP l, .sl false 1 (s.map i64), str n] (i64 (nmF l n s)) := by
  obtain ⟨Ω, hΩ⟩ : ∃ Ω, Ω = std := ⟨_, rfl⟩
  obtain ⟨r, hr⟩ : ∃ r, r = nmF l n s := ⟨_, rfl⟩
  rw [← hr]
  have hat : ∀ k, inB k 0 ((l.length : Int) - 1) = true → 0 ≤ k ∧ ∃ v1 v2 v3 sz ps ds bs, (l.map (Pck.enc false))[k.toNat]? = some (.agg [str (pk l k).n, i64 v1, i64 v2, i64 v3, i64 sz, .sl false 1 ps, .sl false 1 ds, .sl false 7 bs]) ∧ pk l k ∈ l ∧
      Pck.enc false (pk l k) = .agg [str (pk l k).n, i64 v1, i64 v2, i64 v3, i64 sz, .sl false 1 ps, .sl false 1 ds, .sl false 7 bs] ∧ ds = (pk l k).d.map (encTs false) ∧ bs = (pk l k).b.map Trm.enc := fun k h => by
    obtain ⟨h0, h1, h2, h3⟩ := pk_at h
    obtain ⟨ps, ds, bs, hen, hp, hd, hb⟩ := enc_raw (pk l k)
    exact ⟨h0, _, _, _, _, ps, ds, bs, by rw [List.getElem?_map, h2]; exact congrArg some hen, h3, hen, hd, hb⟩
  obtain ⟨ys, hys⟩ : ∃ ys, ys = s.map i64 := ⟨_, rfl⟩
  have hylen : ys.length = s.length := by rw [hys, List.length_map]
  unfold encP at *
  rw [← hys]
  generalize l.map (Pck.enc false) = xs at *
  have htab := tab
  have hmo := hmo
  refine PCtr.walk tab hΩ fn_impl_named rfl ?_
  generalize PP = P at *
  cbv
  refine loopX htab hΩ (fun i : Nat => ⟨[(0, .sl false 8 xs), (2, .sc (.string (mkS n))), (9, .sl false 1 ys), (10, .sc (.int .i64 (Ω.int (Ω.len ys)))), (11, .sc (.int .i64 (Ω.int i)))], 24, []⟩) (fun i => i ≤ s.length ∧ r = nmF l n (s.drop i)) (fun i => s.length - i) 0
    ⟨Nat.zero_le _, hr⟩ (Sbs.mk rfl rfl ⟨rfl, rfl, rfl, rfl, zeroI hΩ, trivial⟩) ?_
  rintro i ⟨hi, he⟩
  cbv
  refine br (fun h => ?_) (fun h => ?_) <;> cbv
  · replace h := ltI hΩ h
    obtain ⟨c, hcc⟩ := at_of (cs := s) (by omega : i < s.length)
    rw [nmF_at hcc] at he
    obtain ⟨hc0, v1, v2, v3, sz, ps, ds, bs, hx, -, -, -⟩ := hat c (hk c (List.mem_of_getElem? hcc))
    generalize (pk l c).n = nn at hx he
    refine ⟨⟨nnI hΩ⟩, _, rdI hΩ hys hcc, ?_⟩
    cbv
    refine ⟨⟨hc0⟩, _, hx, ?_⟩
    cbv
    refine br (fun g => ?_) (fun g => ?_) <;> cbv
    · exact .of (congrArg i64 (by rw [he, if_pos (by subst hΩ; exact g)]))
    · rw [if_neg (by subst hΩ; rw [show (nn == n) = false from g]; simp)] at he
      exact ⟨i + 1, ⟨by omega, he⟩, by omega, Sbs.mk rfl rfl ⟨rfl, rfl, rfl, rfl, incI hΩ (by omega), trivial⟩⟩
  · replace h := geI hΩ h
    exact .of (congrArg i64 (by rw [he, List.drop_of_length_le (by omega)]; rfl))
theorem c_faults1 (l : List Pck) (k : Int) (d : List Trm) (hl : l.length ≤ 1048576) (hd : d.length ≤ 1048576) (ho : ∀ o ∈ l, o.Small) (hk : inB k 0 ((l.length : Int) - 1) = true) : PCtr PP n_impl_faults_1 [i64 k, .rp [encP l], .rp [.sl false 7 (d.map Trm.enc)]] (boo (d.any (givesB (pk l k)))) := by
  obtain ⟨Ω, hΩ⟩ : ∃ Ω, Ω = std := ⟨_, rfl⟩
  have hat : ∀ k, inB k 0 ((l.length : Int) - 1) = true → 0 ≤ k ∧ ∃ v1 v2 v3 sz ps ds bs, (l.map (Pck.enc false))[k.toNat]? = some (.agg [str (pk l k).n, i64 v1, i64 v2, i64 v3, i64 sz, .sl false 1 ps, .sl false 1 ds, .sl false 7 bs]) ∧ pk l k ∈ l ∧
      Pck.enc false (pk l k) = .agg [str (pk l k).n, i64 v1, i64 v2, i64 v3, i64 sz, .sl false 1 ps, .sl false 1 ds, .sl false 7 bs] ∧ ds = (pk l k).d.map (encTs false) ∧ bs = (pk l k).b.map Trm.enc := fun k h => by
    obtain ⟨h0, h1, h2, h3⟩ := pk_at h
    obtain ⟨ps, ds, bs, hen, hp, hd, hb⟩ := enc_raw (pk l k)
    exact ⟨h0, _, _, _, _, ps, ds, bs, by rw [List.getElem?_map, h2]; exact congrArg some hen, h3, hen, hd, hb⟩
  obtain ⟨hc0, v1, v2, v3, sz, ps, ds, bs, hx, hm, hen, -, -⟩ := hat k hk
  have hg := c_givesOne (pk l k) d (ho _ hm).p hd
  rw [hen] at hg
  clear hat
  unfold encP
  generalize d.any (givesB (pk l k)) = r at *
  generalize (pk l k).n = nn at *
  generalize l.map (Pck.enc false) = xs at *
  generalize d.map Trm.enc = zs at *
  have htab := tab
  have hmo := hmo
  refine PCtr.walk tab hΩ fn_impl_faults_1 rfl ?_
  generalize PP = P at *
  cbv
  refine ⟨VC_drawn htab hΩ hmo (by kernel_rfl) ?_⟩
  cbv
  refine ⟨⟨hc0⟩, _, hx, ?_⟩
  cbv
  refine QCall_pure (k := 3) hg rfl (fits _) rfl ?_
  cbv
  exact .same
theorem c_faults2 (l : List Pck) (k q : Int) (t : Trm) (hl : l.length ≤ 1048576) (ho : ∀ o ∈ l, o.Small) (hk : inB k 0 ((l.length : Int) - 1) = true) : PCtr PP n_impl_faults_2 [i64 k, .rp [i64 q], .rp [encP l], .rp t.cells] (boo (!decide (k = q) && givesB (pk l k) t)) := by
  obtain ⟨Ω, hΩ⟩ : ∃ Ω, Ω = std := ⟨_, rfl⟩
  have hat : ∀ k, inB k 0 ((l.length : Int) - 1) = true → 0 ≤ k ∧ ∃ v1 v2 v3 sz ps ds bs, (l.map (Pck.enc false))[k.toNat]? = some (.agg [str (pk l k).n, i64 v1, i64 v2, i64 v3, i64 sz, .sl false 1 ps, .sl false 1 ds, .sl false 7 bs]) ∧ pk l k ∈ l ∧
      Pck.enc false (pk l k) = .agg [str (pk l k).n, i64 v1, i64 v2, i64 v3, i64 sz, .sl false 1 ps, .sl false 1 ds, .sl false 7 bs] ∧ ds = (pk l k).d.map (encTs false) ∧ bs = (pk l k).b.map Trm.enc := fun k h => by
    obtain ⟨h0, h1, h2, h3⟩ := pk_at h
    obtain ⟨ps, ds, bs, hen, hp, hd, hb⟩ := enc_raw (pk l k)
    exact ⟨h0, _, _, _, _, ps, ds, bs, by rw [List.getElem?_map, h2]; exact congrArg some hen, h3, hen, hd, hb⟩
  obtain ⟨hc0, v1, v2, v3, sz, ps, ds, bs, hx, hm, hen, -, -⟩ := hat k hk
  have hg := c_gives (pk l k) t (ho _ hm).p
  rw [hen] at hg
  clear hat
  unfold encP
  generalize givesB (pk l k) t = gb at *
  generalize (pk l k).n = nn at *
  generalize l.map (Pck.enc false) = xs at *
  obtain ⟨r, hr⟩ : ∃ r, r = (!decide (k = q) && gb) := ⟨_, rfl⟩
  rw [← hr]
  have htab := tab
  have hmo := hmo
  refine PCtr.walk tab hΩ fn_impl_faults_2 rfl ?_
  generalize PP = P at *
  cbv
  refine ⟨VC_drawn htab hΩ hmo (by kernel_rfl) ?_⟩
  cbv
  repeat' (first | (refine br (fun h => ?_) (fun h => ?_) <;> cbv) | (refine ⟨⟨hc0⟩, _, hx, ?_⟩; cbv) | (refine QCall_pure (k := 3) hg rfl (fits _) rfl ?_; cbv))
  all_goals (refine .of (congrArg boo ?_); subst hΩ; subst hr; clear hg hx htab hmo; simp_all)
theorem c_faults (l : List Pck) (s : List Int) (hl : l.length ≤ 1048576) (hs : s.length ≤ 1048576) (ho : ∀ o ∈ l, o.Small) (hk : ∀ k ∈ s, inB k 0 ((l.length : Int) - 1) = true) : PCtr PP n_impl_faults [encP l, .sl false 1 (s.map i64)] (.sl true 3 ((fltS l s).map Flt.enc)) := by
  obtain ⟨Ω, hΩ⟩ : ∃ Ω, Ω = std := ⟨_, rfl⟩
  have hat : ∀ k, inB k 0 ((l.length : Int) - 1) = true → 0 ≤ k ∧ ∃ v1 v2 v3 sz ps ds bs, (l.map (Pck.enc false))[k.toNat]? = some (.agg [str (pk l k).n, i64 v1, i64 v2, i64 v3, i64 sz, .sl false 1 ps, .sl false 1 ds, .sl false 7 bs]) ∧ pk l k ∈ l ∧
      Pck.enc false (pk l k) = .agg [str (pk l k).n, i64 v1, i64 v2, i64 v3, i64 sz, .sl false 1 ps, .sl false 1 ds, .sl false 7 bs] ∧ ds = (pk l k).d.map (encTs false) ∧ bs = (pk l k).b.map Trm.enc := fun k h => by
    obtain ⟨h0, h1, h2, h3⟩ := pk_at h
    obtain ⟨ps, ds, bs, hen, hp, hd, hb⟩ := enc_raw (pk l k)
    exact ⟨h0, _, _, _, _, ps, ds, bs, by rw [List.getElem?_map, h2]; exact congrArg some hen, h3, hen, hd, hb⟩
  obtain ⟨tot, htot⟩ : ∃ tot, tot = fltS l s := ⟨_, rfl⟩
  have hb : tot.length ≤ 2199024304128 := by rw [htot]; exact fltS_len (fun k h => ⟨(ho _ (pk_at (hk k h)).2.2.2).d, (ho _ (pk_at (hk k h)).2.2.2).b⟩) hs
  rw [← htot]
  obtain ⟨e, he⟩ : ∃ e : List Flt → List A, e = List.map Flt.enc := ⟨_, rfl⟩
  have hel : ∀ o, (e o).length = o.length := fun o => by rw [he, List.length_map]
  have hea : ∀ o f, e (o ++ [f]) = e o ++ [f.enc] := fun o f => by rw [he, List.map_append]; rfl
  have he0 : e [] = [] := by rw [he]; rfl
  have hap : ∀ o f m, o.length = m → Ω.app (Ω.take m (e o)) [f.enc] = e (o ++ [f]) := fun o f m h => by
    rw [hea]
    subst hΩ
    show (e o).take m ++ [f.enc] = _
    rw [List.take_of_length_le (by rw [hel]; omega)]
  have hlp : ∀ (o : List Flt) (f : Flt) (x : A) m, o.length = m → Ω.plus m (Ω.len [x]) = (o ++ [f]).length := fun o f x m h => by
    rw [List.length_append, h]; subst hΩ; rfl
  rw [show List.map Flt.enc = e from he.symm]
  clear he
  obtain ⟨cs, hcs⟩ : ∃ cs, cs = l.map (Pck.enc false) := ⟨_, rfl⟩
  obtain ⟨xs, hxs⟩ : ∃ xs, xs = s.map i64 := ⟨_, rfl⟩
  have hxl : xs.length = s.length := by rw [hxs, List.length_map]
  have hnm : ∀ i n, PCtr PP n_impl_named [encP l, .sl false 1 (xs.take i), str n] (i64 (nmF l n (s.take i))) := fun i n => by
    rw [hxs, ← List.map_take]
    exact c_named l (s.take i) n hl (by simp; omega) fun k h => hk k (List.mem_of_mem_take h)
  have htw : ∀ i n, decide (0 ≤ nmF l n (s.take i)) = twB l s i n := fun i n => nmF_any fun k h => (pk_at (hk k (List.mem_of_mem_take h))).1
  have hmet : ∀ d : List Trm, d.length ≤ 1048576 → PCtr PP n_slices_ContainsFunc_L_int64_int64 [.sl false 1 xs, .clo n_impl_faults_1 [.rp [encP l], .rp [.sl false 7 (d.map Trm.enc)]]] (boo (metB l s d)) := fun d hd => by
    rw [hxs]
    exact c_ContainsFuncI s (by omega) _ _ _ ⟨fun _ _ => rfl, rfl, fun _ => rfl, fun k h => c_faults1 l k d hl hd ho (hk k h)⟩
  have hgiv : ∀ q t, PCtr PP n_slices_ContainsFunc_L_int64_int64 [.sl false 1 xs, .clo n_impl_faults_2 [.rp [i64 q], .rp [encP l], .rp t.cells]] (boo (givB l s q t)) := fun q t => by
    rw [hxs]
    exact c_ContainsFuncI s (by omega) _ _ _ ⟨fun _ _ => rfl, rfl, fun _ => rfl, fun k h => c_faults2 l k q t hl ho (hk k h)⟩
  unfold encP at *
  unfold fltS at htot
  rw [← hcs] at hat hnm hmet hgiv ⊢
  rw [← hxs]
  have htab := tab
  have hmo := hmo
  refine PCtr.walk tab hΩ fn_impl_faults rfl ?_
  generalize PP = P at *
  cbv
  refine loopX htab hΩ (fun i : Nat × List Flt => ⟨[(1, .sl false 1 xs), (2, .pt 0 0 0), (5, .vw 1 0 i.2.length), (14, .sl false 1 xs), (15, .sc (.int .i64 (Ω.int (Ω.len xs)))), (16, .sc (.int .i64 (Ω.int i.1)))], 77,
      [some ⟨1, [.sl false 8 cs], true⟩, some ⟨3, e i.2, false⟩]⟩) (fun i => i.1 ≤ s.length ∧ i.2 ++ aF l s i.1 (s.drop i.1) = tot) (fun i => s.length - i.1) (0, []) ⟨Nat.zero_le _, htot.symm⟩
    (Sbs.mk rfl (by dsimp only; rw [he0]) ⟨rfl, rfl, rfl, rfl, rfl, zeroI hΩ, trivial⟩) ?_
  rintro ⟨i, out⟩ ⟨hi, hout⟩
  dsimp only at hi hout
  dsimp only
  obtain ⟨m, hm⟩ : ∃ m, out.length = m := ⟨_, rfl⟩
  rw [hm]
  cbv
  refine br (fun h => ?_) (fun h => ?_) <;> cbv
  · replace h := ltI hΩ h
    obtain ⟨c, hcc⟩ := at_of (cs := s) (by omega : i < s.length)
    rw [aF_at hcc] at hout
    have hcin := hk c (List.mem_of_getElem? hcc)
    obtain ⟨hc0, v1, v2, v3, sz, ps, ds, bs, hx, hm2, hen, hds, hbs⟩ := hat c hcin
    have hdl : ds.length = (pk l c).d.length := by rw [hds, List.length_map]
    have hbl : bs.length = (pk l c).b.length := by rw [hbs, List.length_map]
    have hsm := ho _ hm2
    have hn1 := hnm i (pk l c).n
    have htwi : decide (0 ≤ nmF l (pk l c).n (s.take i)) = twB l s i (pk l c).n := htw i (pk l c).n
    unfold tF at hout
    generalize nmF l (pk l c).n (s.take i) = nm at *
    generalize twB l s i (pk l c).n = tw at *
    have hd1 := hsm.d
    have hd2 := hsm.e
    have hb1 := hsm.b
    generalize (pk l c).d = d at *
    generalize (pk l c).b = b at *
    generalize (pk l c).n = nn at *
    refine ⟨⟨nnI hΩ⟩, _, rdI hΩ hxs hcc, ?_⟩
    cbv
    refine ⟨⟨hc0⟩, _, hx, ?_⟩
    cbv
    refine ⟨VC_drawn htab hΩ hmo (by kernel_rfl) ?_⟩
    cbv
    have hn2 : PCtr P n_impl_named [.sl false 8 cs, .sl false 1 (Ω.seg 0 (Ω.nat (Ω.int i)) xs), str nn] (i64 nm) := by subst hΩ; exact hn1
    refine ⟨⟨⟨trivial, (nnI hΩ), Nat.zero_le _, by subst hΩ; show ((i : Int)).toNat ≤ xs.length; omega⟩⟩, ?_⟩
    refine QCall_pure (k := 3) hn2 rfl (fits _) rfl ?_
    cbv
    obtain ⟨rest, hrest⟩ : ∃ rest, rest = nF l s c 0 d ++ (bF l s c 0 b ++ aF l s (i + 1) (s.drop (i + 1))) := ⟨_, rfl⟩
    rw [← hrest] at hout
    have hml : m + 1 ≤ 2199024304129 := by
      have := congrArg List.length hout
      simp only [List.length_append] at this
      omega
    refine br (fun g => ?_) (fun g => ?_) <;> cbv
    · have g : tw = true := by rw [← htwi]; exact decide_eq_true (geI_t hΩ g)
      rw [g, if_pos rfl, ← List.append_assoc] at hout
      refine ⟨⟨rfl, okAll rfl, by show (m + 1) * 24 ≤ 140737488355328; omega, by show m + 1 ≤ 9223372036854775807; omega⟩, ?_⟩
      refine loopX htab hΩ (fun j : Nat × List Flt => ⟨[(1, .sl false 1 xs), (2, .pt 0 0 0), (5, .vw 1 0 j.2.length), (14, .sl false 1 xs), (15, .sc (.int .i64 (Ω.int (Ω.len xs)))), (16, .sc (.int .i64 (Ω.int i))), (7, .pt 2 0 0), (8, .pt 3 0 0), (39, .sl false 1 ds), (40, .sc (.int .i64 (Ω.int (Ω.len ds)))), (41, .sc (.int .i64 (Ω.int j.1)))], 77, [some ⟨1, [.sl false 8 cs], true⟩, some ⟨3, e j.2, false⟩, some ⟨1, [i64 c], true⟩, some ⟨8, [.agg [str nn, i64 v1, i64 v2, i64 v3, i64 sz, .sl false 1 ps, .sl false 1 ds, .sl false 7 bs]], true⟩]⟩) (fun j => j.1 ≤ d.length ∧ j.2 ++ (nF l s c j.1 (d.drop j.1) ++ (bF l s c 0 b ++ aF l s (i + 1) (s.drop (i + 1)))) = tot) (fun j => d.length - j.1) (0, out ++ [(⟨1, c, 0⟩ : Flt)]) ⟨Nat.zero_le _, by rw [hrest] at hout; exact hout⟩
        (Sbs.trans (Sbs.lastN (rows := [_, _, _, _]) rfl) (Sbs.mk rfl (by dsimp only; rw [← hap out ⟨1, c, 0⟩ m hm]; subst hΩ; rfl) ⟨rfl, rfl, congrArg (A.vw 1 0) (hlp out ⟨1, c, 0⟩ _ m hm), rfl, rfl, rfl, rfl, rfl, rfl, rfl, zeroI hΩ, trivial⟩)) ?_
      rintro ⟨j, o2⟩ ⟨hj, hj2⟩
      dsimp only at hj hj2
      dsimp only
      obtain ⟨m2, hm2⟩ : ∃ m2, o2.length = m2 := ⟨_, rfl⟩
      rw [hm2]
      cbv
      have hml2 : m2 ≤ 2199024304128 := by
        have := congrArg List.length hj2
        rw [List.length_append, hm2] at this
        omega
      refine br (fun h => ?_) (fun h => ?_) <;> cbv
      · replace h := ltI hΩ h
        obtain ⟨u, huu⟩ := at_of (cs := d) (by omega : j < d.length)
        rw [nF_at huu, List.append_assoc] at hj2
        have hc := hmet u (hd2 u (List.mem_of_getElem? huu))
        obtain ⟨us, hus⟩ : ∃ us, us = u.map Trm.enc := ⟨_, rfl⟩
        rw [← hus] at hc
        have hrd : ds[(Ω.int j).toNat]? = some (.sl false 7 us) := (rdI hΩ hds huu).trans (by rw [hus]; rfl)
        generalize metB l s u = gu at hc hj2
        refine ⟨⟨nnI hΩ⟩, _, hrd, ?_⟩
        cbv
        refine call_pure hΩ 5 hc (ro_clo2 rfl rfl) (fits _) rfl rfl ?_
        cbv
        refine br (fun g => ?_) (fun g => ?_) <;> cbv
        · have g : gu = false := notT' hΩ g
          rw [g, if_neg (by simp), ← List.append_assoc] at hj2
          refine ⟨⟨rfl, okAll rfl, by show (m2 + 1) * 24 ≤ 140737488355328; omega, by show m2 + 1 ≤ 9223372036854775807; omega⟩, (j + 1, o2 ++ [⟨2, c, j⟩]), ⟨by dsimp only; omega, hj2⟩, by dsimp only; omega, ?_⟩
          exact Sbs.trans (Sbs.lastN (rows := [_, _, _, _, _]) rfl) (Sbs.mkL (rows := [_, _, _, _]) rfl rfl (by dsimp only; rw [← hap o2 ⟨2, c, j⟩ m2 hm2]; subst hΩ; rfl) ⟨rfl, rfl, congrArg (A.vw 1 0) (hlp o2 ⟨2, c, j⟩ _ m2 hm2), rfl, rfl, rfl, rfl, rfl, rfl, rfl, incI hΩ (by omega), trivial⟩)
        · have g : gu = true := notF' hΩ g
          rw [g] at hj2
          exact ⟨(j + 1, o2), ⟨by dsimp only; omega, hj2⟩, by dsimp only; omega, Sbs.mkL (rows := [_, _, _, _]) rfl rfl rfl ⟨rfl, rfl, congrArg (A.vw 1 0) hm2.symm, rfl, rfl, rfl, rfl, rfl, rfl, rfl, incI hΩ (by omega), trivial⟩⟩
      · replace h := geI hΩ h
        rw [List.drop_of_length_le (by omega : d.length ≤ j), nF, List.nil_append] at hj2
        obtain ⟨o1, m1, hm1, rfl⟩ : ∃ o1 m1, o1.length = m1 ∧ o1 = o2 := ⟨_, _, rfl, rfl⟩
        obtain rfl : m2 = m1 := hm2.symm.trans hm1
        clear hm2
        refine loopX htab hΩ (fun j : Nat × List Flt => ⟨[(1, .sl false 1 xs), (2, .pt 0 0 0), (5, .vw 1 0 j.2.length), (14, .sl false 1 xs), (15, .sc (.int .i64 (Ω.int (Ω.len xs)))), (16, .sc (.int .i64 (Ω.int i))), (7, .pt 2 0 0), (8, .pt 3 0 0), (58, .sl false 7 bs), (59, .sc (.int .i64 (Ω.int (Ω.len bs)))), (60, .sc (.int .i64 (Ω.int j.1)))], 77, [some ⟨1, [.sl false 8 cs], true⟩, some ⟨3, e j.2, false⟩, some ⟨1, [i64 c], true⟩, some ⟨8, [.agg [str nn, i64 v1, i64 v2, i64 v3, i64 sz, .sl false 1 ps, .sl false 1 ds, .sl false 7 bs]], true⟩]⟩) (fun j => j.1 ≤ b.length ∧ j.2 ++ (bF l s c j.1 (b.drop j.1) ++ aF l s (i + 1) (s.drop (i + 1))) = tot) (fun j => b.length - j.1) (0, o1) ⟨Nat.zero_le _, hj2⟩
          (Sbs.mk rfl rfl ⟨rfl, rfl, congrArg (A.vw 1 0) hm1.symm, rfl, rfl, rfl, rfl, rfl, rfl, rfl, zeroI hΩ, trivial⟩) ?_
        rintro ⟨j, o2⟩ ⟨hj, hj2⟩
        dsimp only at hj hj2
        dsimp only
        obtain ⟨m2, hm2⟩ : ∃ m2, o2.length = m2 := ⟨_, rfl⟩
        rw [hm2]
        cbv
        have hml2 : m2 ≤ 2199024304128 := by
          have := congrArg List.length hj2
          rw [List.length_append, hm2] at this
          omega
        refine br (fun h => ?_) (fun h => ?_) <;> cbv
        · replace h := ltI hΩ h
          obtain ⟨u, huu⟩ := at_of (cs := b) (by omega : j < b.length)
          rw [bF_at huu, List.append_assoc] at hj2
          have hc := hgiv c u
          generalize givB l s c u = gu at hc hj2
          refine ⟨⟨nnI hΩ⟩, _, rdI hΩ hbs huu, ?_⟩
          cbv
          refine call_pure hΩ 5 hc (ro_clo2 rfl rfl) (fits _) rfl rfl ?_
          cbv
          refine br (fun g => ?_) (fun g => ?_) <;> cbv
          · have g : gu = true := g
            rw [g, if_pos rfl, ← List.append_assoc] at hj2
            refine ⟨⟨rfl, okAll rfl, by show (m2 + 1) * 24 ≤ 140737488355328; omega, by show m2 + 1 ≤ 9223372036854775807; omega⟩, (j + 1, o2 ++ [⟨3, c, j⟩]), ⟨by dsimp only; omega, hj2⟩, by dsimp only; omega, ?_⟩
            exact Sbs.trans (Sbs.lastN (rows := [_, _, _, _, _]) rfl) (Sbs.mkL (rows := [_, _, _, _]) rfl rfl (by dsimp only; rw [← hap o2 ⟨3, c, j⟩ m2 hm2]; subst hΩ; rfl) ⟨rfl, rfl, congrArg (A.vw 1 0) (hlp o2 ⟨3, c, j⟩ _ m2 hm2), rfl, rfl, rfl, rfl, rfl, rfl, rfl, incI hΩ (by omega), trivial⟩)
          · have g : gu = false := g
            rw [g] at hj2
            exact ⟨(j + 1, o2), ⟨by dsimp only; omega, hj2⟩, by dsimp only; omega, Sbs.mkL (rows := [_, _, _, _]) rfl rfl rfl ⟨rfl, rfl, congrArg (A.vw 1 0) hm2.symm, rfl, rfl, rfl, rfl, rfl, rfl, rfl, incI hΩ (by omega), trivial⟩⟩
        · replace h := geI hΩ h
          rw [List.drop_of_length_le (by omega : b.length ≤ j), bF, List.nil_append] at hj2
          exact ⟨(i + 1, o2), ⟨by dsimp only; omega, hj2⟩, by dsimp only; omega, Sbs.trans (Sbs.last (rows := [_, _, _]) rfl) (Sbs.mkL (rows := [_, _]) rfl rfl rfl ⟨rfl, rfl, congrArg (A.vw 1 0) hm2.symm, rfl, rfl, incI hΩ (by omega), trivial⟩)⟩
    · have g : tw = false := by rw [← htwi]; exact decide_eq_false (by have := geI_f hΩ g; omega)
      rw [g] at hout
      refine loopX htab hΩ (fun j : Nat × List Flt => ⟨[(1, .sl false 1 xs), (2, .pt 0 0 0), (5, .vw 1 0 j.2.length), (14, .sl false 1 xs), (15, .sc (.int .i64 (Ω.int (Ω.len xs)))), (16, .sc (.int .i64 (Ω.int i))), (7, .pt 2 0 0), (8, .pt 3 0 0), (39, .sl false 1 ds), (40, .sc (.int .i64 (Ω.int (Ω.len ds)))), (41, .sc (.int .i64 (Ω.int j.1)))], 77, [some ⟨1, [.sl false 8 cs], true⟩, some ⟨3, e j.2, false⟩, some ⟨1, [i64 c], true⟩, some ⟨8, [.agg [str nn, i64 v1, i64 v2, i64 v3, i64 sz, .sl false 1 ps, .sl false 1 ds, .sl false 7 bs]], true⟩]⟩) (fun j => j.1 ≤ d.length ∧ j.2 ++ (nF l s c j.1 (d.drop j.1) ++ (bF l s c 0 b ++ aF l s (i + 1) (s.drop (i + 1)))) = tot) (fun j => d.length - j.1) (0, out) ⟨Nat.zero_le _, by rw [hrest] at hout; exact hout⟩
        (Sbs.mk rfl rfl ⟨rfl, rfl, congrArg (A.vw 1 0) hm.symm, rfl, rfl, rfl, rfl, rfl, rfl, rfl, zeroI hΩ, trivial⟩) ?_
      rintro ⟨j, o2⟩ ⟨hj, hj2⟩
      dsimp only at hj hj2
      dsimp only
      obtain ⟨m2, hm2⟩ : ∃ m2, o2.length = m2 := ⟨_, rfl⟩
      rw [hm2]
      cbv
      have hml2 : m2 ≤ 2199024304128 := by
        have := congrArg List.length hj2
        rw [List.length_append, hm2] at this
        omega
      refine br (fun h => ?_) (fun h => ?_) <;> cbv
      · replace h := ltI hΩ h
        obtain ⟨u, huu⟩ := at_of (cs := d) (by omega : j < d.length)
        rw [nF_at huu, List.append_assoc] at hj2
        have hc := hmet u (hd2 u (List.mem_of_getElem? huu))
        obtain ⟨us, hus⟩ : ∃ us, us = u.map Trm.enc := ⟨_, rfl⟩
        rw [← hus] at hc
        have hrd : ds[(Ω.int j).toNat]? = some (.sl false 7 us) := (rdI hΩ hds huu).trans (by rw [hus]; rfl)
        generalize metB l s u = gu at hc hj2
        refine ⟨⟨nnI hΩ⟩, _, hrd, ?_⟩
        cbv
        refine call_pure hΩ 5 hc (ro_clo2 rfl rfl) (fits _) rfl rfl ?_
        cbv
        refine br (fun g => ?_) (fun g => ?_) <;> cbv
        · have g : gu = false := notT' hΩ g
          rw [g, if_neg (by simp), ← List.append_assoc] at hj2
          refine ⟨⟨rfl, okAll rfl, by show (m2 + 1) * 24 ≤ 140737488355328; omega, by show m2 + 1 ≤ 9223372036854775807; omega⟩, (j + 1, o2 ++ [⟨2, c, j⟩]), ⟨by dsimp only; omega, hj2⟩, by dsimp only; omega, ?_⟩
          exact Sbs.trans (Sbs.lastN (rows := [_, _, _, _, _]) rfl) (Sbs.mkL (rows := [_, _, _, _]) rfl rfl (by dsimp only; rw [← hap o2 ⟨2, c, j⟩ m2 hm2]; subst hΩ; rfl) ⟨rfl, rfl, congrArg (A.vw 1 0) (hlp o2 ⟨2, c, j⟩ _ m2 hm2), rfl, rfl, rfl, rfl, rfl, rfl, rfl, incI hΩ (by omega), trivial⟩)
        · have g : gu = true := notF' hΩ g
          rw [g] at hj2
          exact ⟨(j + 1, o2), ⟨by dsimp only; omega, hj2⟩, by dsimp only; omega, Sbs.mkL (rows := [_, _, _, _]) rfl rfl rfl ⟨rfl, rfl, congrArg (A.vw 1 0) hm2.symm, rfl, rfl, rfl, rfl, rfl, rfl, rfl, incI hΩ (by omega), trivial⟩⟩
      · replace h := geI hΩ h
        rw [List.drop_of_length_le (by omega : d.length ≤ j), nF, List.nil_append] at hj2
        obtain ⟨o1, m1, hm1, rfl⟩ : ∃ o1 m1, o1.length = m1 ∧ o1 = o2 := ⟨_, _, rfl, rfl⟩
        obtain rfl : m2 = m1 := hm2.symm.trans hm1
        clear hm2
        refine loopX htab hΩ (fun j : Nat × List Flt => ⟨[(1, .sl false 1 xs), (2, .pt 0 0 0), (5, .vw 1 0 j.2.length), (14, .sl false 1 xs), (15, .sc (.int .i64 (Ω.int (Ω.len xs)))), (16, .sc (.int .i64 (Ω.int i))), (7, .pt 2 0 0), (8, .pt 3 0 0), (58, .sl false 7 bs), (59, .sc (.int .i64 (Ω.int (Ω.len bs)))), (60, .sc (.int .i64 (Ω.int j.1)))], 77, [some ⟨1, [.sl false 8 cs], true⟩, some ⟨3, e j.2, false⟩, some ⟨1, [i64 c], true⟩, some ⟨8, [.agg [str nn, i64 v1, i64 v2, i64 v3, i64 sz, .sl false 1 ps, .sl false 1 ds, .sl false 7 bs]], true⟩]⟩) (fun j => j.1 ≤ b.length ∧ j.2 ++ (bF l s c j.1 (b.drop j.1) ++ aF l s (i + 1) (s.drop (i + 1))) = tot) (fun j => b.length - j.1) (0, o1) ⟨Nat.zero_le _, hj2⟩
          (Sbs.mk rfl rfl ⟨rfl, rfl, congrArg (A.vw 1 0) hm1.symm, rfl, rfl, rfl, rfl, rfl, rfl, rfl, zeroI hΩ, trivial⟩) ?_
        rintro ⟨j, o2⟩ ⟨hj, hj2⟩
        dsimp only at hj hj2
        dsimp only
        obtain ⟨m2, hm2⟩ : ∃ m2, o2.length = m2 := ⟨_, rfl⟩
        rw [hm2]
        cbv
        have hml2 : m2 ≤ 2199024304128 := by
          have := congrArg List.length hj2
          rw [List.length_append, hm2] at this
          omega
        refine br (fun h => ?_) (fun h => ?_) <;> cbv
        · replace h := ltI hΩ h
          obtain ⟨u, huu⟩ := at_of (cs := b) (by omega : j < b.length)
          rw [bF_at huu, List.append_assoc] at hj2
          have hc := hgiv c u
          generalize givB l s c u = gu at hc hj2
          refine ⟨⟨nnI hΩ⟩, _, rdI hΩ hbs huu, ?_⟩
          cbv
          refine call_pure hΩ 5 hc (ro_clo2 rfl rfl) (fits _) rfl rfl ?_
          cbv
          refine br (fun g => ?_) (fun g => ?_) <;> cbv
          · have g : gu = true := g
            rw [g, if_pos rfl, ← List.append_assoc] at hj2
            refine ⟨⟨rfl, okAll rfl, by show (m2 + 1) * 24 ≤ 140737488355328; omega, by show m2 + 1 ≤ 9223372036854775807; omega⟩, (j + 1, o2 ++ [⟨3, c, j⟩]), ⟨by dsimp only; omega, hj2⟩, by dsimp only; omega, ?_⟩
            exact Sbs.trans (Sbs.lastN (rows := [_, _, _, _, _]) rfl) (Sbs.mkL (rows := [_, _, _, _]) rfl rfl (by dsimp only; rw [← hap o2 ⟨3, c, j⟩ m2 hm2]; subst hΩ; rfl) ⟨rfl, rfl, congrArg (A.vw 1 0) (hlp o2 ⟨3, c, j⟩ _ m2 hm2), rfl, rfl, rfl, rfl, rfl, rfl, rfl, incI hΩ (by omega), trivial⟩)
          · have g : gu = false := g
            rw [g] at hj2
            exact ⟨(j + 1, o2), ⟨by dsimp only; omega, hj2⟩, by dsimp only; omega, Sbs.mkL (rows := [_, _, _, _]) rfl rfl rfl ⟨rfl, rfl, congrArg (A.vw 1 0) hm2.symm, rfl, rfl, rfl, rfl, rfl, rfl, rfl, incI hΩ (by omega), trivial⟩⟩
        · replace h := geI hΩ h
          rw [List.drop_of_length_le (by omega : b.length ≤ j), bF, List.nil_append] at hj2
          exact ⟨(i + 1, o2), ⟨by dsimp only; omega, hj2⟩, by dsimp only; omega, Sbs.trans (Sbs.last (rows := [_, _, _]) rfl) (Sbs.mkL (rows := [_, _]) rfl rfl rfl ⟨rfl, rfl, congrArg (A.vw 1 0) hm2.symm, rfl, rfl, incI hΩ (by omega), trivial⟩)⟩
  · have hil : i = s.length := by have := geI hΩ h; omega
    rw [hil, List.drop_length, aF, List.append_nil] at hout
    refine ⟨⟨rfl, by show m ≤ (e out).length; rw [hel, hm]; exact Nat.le_refl _⟩, .of ?_⟩
    rw [← hout]
    subst hΩ
    show A.sl true 3 ((e out).take m) = _
    rw [List.take_of_length_le (by rw [hel]; omega)]
theorem c_l3Faults (l : List Pck) (s : List Int) (hl : l.length ≤ 1048576) (hs : s.length ≤ 1048576) (ho : ∀ o ∈ l, o.Small) (hk : ∀ k ∈ s, inB k 0 ((l.length : Int) - 1) = true) : PCtr PP n_spec_l3Faults [encP l, .sl false 1 (s.map i64)] (.sl true 3 ((fltS l s).map Flt.enc)) := by
  obtain ⟨Ω, hΩ⟩ : ∃ Ω, Ω = std := ⟨_, rfl⟩
  have hat : ∀ k, inB k 0 ((l.length : Int) - 1) = true → 0 ≤ k ∧ ∃ v1 v2 v3 sz ps ds bs, (l.map (Pck.enc false))[k.toNat]? = some (.agg [str (pk l k).n, i64 v1, i64 v2, i64 v3, i64 sz, .sl false 1 ps, .sl false 1 ds, .sl false 7 bs]) ∧ pk l k ∈ l ∧
      Pck.enc false (pk l k) = .agg [str (pk l k).n, i64 v1, i64 v2, i64 v3, i64 sz, .sl false 1 ps, .sl false 1 ds, .sl false 7 bs] ∧ ds = (pk l k).d.map (encTs false) ∧ bs = (pk l k).b.map Trm.enc := fun k h => by
    obtain ⟨h0, h1, h2, h3⟩ := pk_at h
    obtain ⟨ps, ds, bs, hen, hp, hd, hb⟩ := enc_raw (pk l k)
    exact ⟨h0, _, _, _, _, ps, ds, bs, by rw [List.getElem?_map, h2]; exact congrArg some hen, h3, hen, hd, hb⟩
  obtain ⟨tot, htot⟩ : ∃ tot, tot = fltS l s := ⟨_, rfl⟩
  have hb : tot.length ≤ 2199024304128 := by rw [htot]; exact fltS_len (fun k h => ⟨(ho _ (pk_at (hk k h)).2.2.2).d, (ho _ (pk_at (hk k h)).2.2.2).b⟩) hs
  rw [← htot]
  obtain ⟨e, he⟩ : ∃ e : List Flt → List A, e = List.map Flt.enc := ⟨_, rfl⟩
  have hel : ∀ o, (e o).length = o.length := fun o => by rw [he, List.length_map]
  have hea : ∀ o f, e (o ++ [f]) = e o ++ [f.enc] := fun o f => by rw [he, List.map_append]; rfl
  have he0 : e [] = [] := by rw [he]; rfl
  have hap : ∀ o f m, o.length = m → Ω.app (Ω.take m (e o)) [f.enc] = e (o ++ [f]) := fun o f m h => by
    rw [hea]
    subst hΩ
    show (e o).take m ++ [f.enc] = _
    rw [List.take_of_length_le (by rw [hel]; omega)]
  have hlp : ∀ (o : List Flt) (f : Flt) (x : A) m, o.length = m → Ω.plus m (Ω.len [x]) = (o ++ [f]).length := fun o f x m h => by
    rw [List.length_append, h]; subst hΩ; rfl
  rw [show List.map Flt.enc = e from he.symm]
  clear he
  obtain ⟨cs, hcs⟩ : ∃ cs, cs = l.map (Pck.enc false) := ⟨_, rfl⟩
  obtain ⟨xs, hxs⟩ : ∃ xs, xs = s.map i64 := ⟨_, rfl⟩
  have hxl : xs.length = s.length := by rw [hxs, List.length_map]
  have hmet : ∀ d : List Trm, d.length ≤ 1048576 → PCtr PP n_spec_l3Met [encP l, .sl false 1 xs, .sl false 7 (d.map Trm.enc)] (boo (metB l s d)) := fun d hd => by
    rw [hxs]
    exact c_l3Met l s d hl hs hd ho hk
  have hgiv : ∀ q t, PCtr PP n_spec_l3Given [encP l, .sl false 1 xs, t.enc, i64 q] (boo (givB l s q t)) := fun q t => by
    rw [hxs]
    exact c_l3Given l s t q hl hs ho hk
  unfold encP at *
  unfold fltS at htot
  rw [← hcs] at hat hmet hgiv ⊢
  rw [← hxs]
  have htab := tab
  have hmo := hmo
  refine PCtr.walk tab hΩ fn_spec_l3Faults rfl ?_
  generalize PP = P at *
  cbv
  refine loopX htab hΩ (fun i : Nat × List Flt => ⟨[(0, .sl false 8 cs), (1, .sl false 1 xs), (5, .vw 0 0 i.2.length), (6, .sc (.int .i64 (Ω.int i.1)))], 103,
      [some ⟨3, e i.2, false⟩]⟩) (fun i => i.1 ≤ s.length ∧ i.2 ++ aF l s i.1 (s.drop i.1) = tot) (fun i => s.length - i.1) (0, []) ⟨Nat.zero_le _, htot.symm⟩
    (Sbs.mk rfl (by dsimp only; rw [he0]) ⟨rfl, rfl, rfl, zeroI hΩ, trivial⟩) ?_
  rintro ⟨i, out⟩ ⟨hi, hout⟩
  dsimp only at hi hout
  dsimp only
  obtain ⟨m, hm⟩ : ∃ m, out.length = m := ⟨_, rfl⟩
  rw [hm]
  cbv
  refine br (fun h => ?_) (fun h => ?_) <;> cbv
  · replace h := ltI hΩ h
    obtain ⟨c, hcc⟩ := at_of (cs := s) (by omega : i < s.length)
    rw [aF_at hcc] at hout
    have hcin := hk c (List.mem_of_getElem? hcc)
    obtain ⟨hc0, v1, v2, v3, sz, ps, ds, bs, hx, hm2, hen, hds, hbs⟩ := hat c hcin
    have hdl : ds.length = (pk l c).d.length := by rw [hds, List.length_map]
    have hbl : bs.length = (pk l c).b.length := by rw [hbs, List.length_map]
    have hsm := ho _ hm2
    unfold tF at hout
    have hd1 := hsm.d
    have hd2 := hsm.e
    have hb1 := hsm.b
    generalize (pk l c).d = d at *
    generalize (pk l c).b = b at *
    generalize (pk l c).n = nn at *
    obtain ⟨tw, htw⟩ : ∃ tw, tw = twB l s i nn := ⟨_, rfl⟩
    rw [← htw] at hout
    unfold twB at htw
    refine ⟨⟨nnI hΩ⟩, _, rdI hΩ hxs hcc, ?_⟩
    cbv
    refine ⟨⟨hc0⟩, _, hx, ?_⟩
    cbv
    obtain ⟨rest, hrest⟩ : ∃ rest, rest = nF l s c 0 d ++ (bF l s c 0 b ++ aF l s (i + 1) (s.drop (i + 1))) := ⟨_, rfl⟩
    rw [← hrest] at hout
    have hml : tw = true → m + 1 ≤ 2199024304129 := fun _ => by
      have := congrArg List.length hout
      simp only [List.length_append] at this
      omega
    refine loopX htab hΩ (fun q : Nat => ⟨[(0, .sl false 8 cs), (1, .sl false 1 xs), (5, .vw 0 0 m), (6, .sc (.int .i64 (Ω.int i))), (7, .pt 1 0 0), (8, .sc (.int .i64 (Ω.int q)))], 103,
        [some ⟨3, e out, false⟩, some ⟨8, [.agg [str nn, i64 v1, i64 v2, i64 v3, i64 sz, .sl false 1 ps, .sl false 1 ds, .sl false 7 bs]], true⟩]⟩)
      (fun q => q ≤ i ∧ tw = ((s.take i).drop q).any fun j => (pk l j).n == nn) (fun q => i - q) 0 ⟨Nat.zero_le _, htw⟩ (Sbs.mk rfl rfl ⟨rfl, rfl, rfl, rfl, rfl, zeroI hΩ, trivial⟩) ?_
    rintro q ⟨hq, hqa⟩
    cbv
    refine br (fun g => ?_) (fun g => ?_) <;> cbv
    · replace g := ltN hΩ g
      obtain ⟨p, hpp⟩ := at_of (cs := s) (by omega : q < s.length)
      rw [any_at _ (show (s.take i)[q]? = some p by rw [List.getElem?_take_of_lt g]; exact hpp)] at hqa
      obtain ⟨hp0, w1, w2, w3, wz, ps', ds', bs', hx', -, -, -, -⟩ := hat p (hk p (List.mem_of_getElem? hpp))
      generalize (pk l p).n = n2 at hqa hx'
      refine ⟨VC_drawn htab hΩ hmo (by kernel_rfl) ?_⟩
      cbv
      refine ⟨⟨nnI hΩ⟩, _, rdI hΩ hxs hpp, ?_⟩
      cbv
      refine ⟨⟨hp0⟩, _, hx', ?_⟩
      cbv
      refine br (fun g2 => ?_) (fun g2 => ?_) <;> cbv
      · have g2 : tw = true := by rw [hqa, show (n2 == nn) = true by subst hΩ; exact g2]; rfl
        have hml := hml g2
        rw [g2, if_pos rfl, ← List.append_assoc] at hout
        refine ⟨⟨nnI hΩ⟩, _, rdI hΩ hxs hcc, ?_⟩
        cbv
        refine ⟨⟨rfl, okAll rfl, by show (m + 1) * 24 ≤ 140737488355328; omega, by show m + 1 ≤ 9223372036854775807; omega⟩, ?_⟩
        refine loopX htab hΩ (fun j : Nat × List Flt => ⟨[(0, .sl false 8 cs), (1, .sl false 1 xs), (5, .vw 0 0 j.2.length), (6, .sc (.int .i64 (Ω.int i))), (7, .pt 1 0 0), (9, .sc (.int .i64 (Ω.int j.1)))], 103, [some ⟨3, e j.2, false⟩, some ⟨8, [.agg [str nn, i64 v1, i64 v2, i64 v3, i64 sz, .sl false 1 ps, .sl false 1 ds, .sl false 7 bs]], true⟩]⟩) (fun j => j.1 ≤ d.length ∧ j.2 ++ (nF l s c j.1 (d.drop j.1) ++ (bF l s c 0 b ++ aF l s (i + 1) (s.drop (i + 1)))) = tot) (fun j => d.length - j.1) (0, out ++ [(⟨1, c, 0⟩ : Flt)]) ⟨Nat.zero_le _, by rw [hrest] at hout; exact hout⟩
          (Sbs.trans (Sbs.lastN (rows := [_, _]) rfl) (Sbs.mk rfl (by dsimp only; rw [← hap out ⟨1, c, 0⟩ m hm]; subst hΩ; rfl) ⟨rfl, rfl, congrArg (A.vw 0 0) (hlp out ⟨1, c, 0⟩ _ m hm), rfl, rfl, zeroI hΩ, trivial⟩)) ?_
        rintro ⟨j, o2⟩ ⟨hj, hj2⟩
        dsimp only at hj hj2
        dsimp only
        obtain ⟨m2, hm2⟩ : ∃ m2, o2.length = m2 := ⟨_, rfl⟩
        rw [hm2]
        cbv
        have hml2 : m2 ≤ 2199024304128 := by
          have := congrArg List.length hj2
          rw [List.length_append, hm2] at this
          omega
        refine br (fun h => ?_) (fun h => ?_) <;> cbv
        · replace h := ltI hΩ h
          obtain ⟨u, huu⟩ := at_of (cs := d) (by omega : j < d.length)
          rw [nF_at huu, List.append_assoc] at hj2
          have hc := hmet u (hd2 u (List.mem_of_getElem? huu))
          obtain ⟨us, hus⟩ : ∃ us, us = u.map Trm.enc := ⟨_, rfl⟩
          rw [← hus] at hc
          have hrd : ds[(Ω.int j).toNat]? = some (.sl false 7 us) := (rdI hΩ hds huu).trans (by rw [hus]; rfl)
          generalize metB l s u = gu at hc hj2
          refine ⟨⟨nnI hΩ⟩, _, hrd, ?_⟩
          cbv
          refine call_pure hΩ 3 hc rfl (fits _) rfl rfl ?_
          cbv
          refine br (fun g => ?_) (fun g => ?_) <;> cbv
          · have g : gu = false := notT' hΩ g
            rw [g, if_neg (by simp), ← List.append_assoc] at hj2
            refine ⟨⟨nnI hΩ⟩, _, rdI hΩ hxs hcc, ?_⟩
            cbv
            refine ⟨⟨rfl, okAll rfl, by show (m2 + 1) * 24 ≤ 140737488355328; omega, by show m2 + 1 ≤ 9223372036854775807; omega⟩, (j + 1, o2 ++ [⟨2, c, j⟩]), ⟨by dsimp only; omega, hj2⟩, by dsimp only; omega, ?_⟩
            exact Sbs.trans (Sbs.lastN (rows := [_, _]) rfl) (Sbs.mk rfl (by dsimp only; rw [← hap o2 ⟨2, c, j⟩ m2 hm2]; subst hΩ; rfl) ⟨rfl, rfl, congrArg (A.vw 0 0) (hlp o2 ⟨2, c, j⟩ _ m2 hm2), rfl, rfl, incI hΩ (by omega), trivial⟩)
          · have g : gu = true := notF' hΩ g
            rw [g] at hj2
            exact ⟨(j + 1, o2), ⟨by dsimp only; omega, hj2⟩, by dsimp only; omega, Sbs.mk rfl rfl ⟨rfl, rfl, congrArg (A.vw 0 0) hm2.symm, rfl, rfl, incI hΩ (by omega), trivial⟩⟩
        · replace h := geI hΩ h
          rw [List.drop_of_length_le (by omega : d.length ≤ j), nF, List.nil_append] at hj2
          obtain ⟨o1, m1, hm1, rfl⟩ : ∃ o1 m1, o1.length = m1 ∧ o1 = o2 := ⟨_, _, rfl, rfl⟩
          obtain rfl : m2 = m1 := hm2.symm.trans hm1
          clear hm2
          refine loopX htab hΩ (fun j : Nat × List Flt => ⟨[(0, .sl false 8 cs), (1, .sl false 1 xs), (5, .vw 0 0 j.2.length), (6, .sc (.int .i64 (Ω.int i))), (7, .pt 1 0 0), (10, .sc (.int .i64 (Ω.int j.1)))], 103, [some ⟨3, e j.2, false⟩, some ⟨8, [.agg [str nn, i64 v1, i64 v2, i64 v3, i64 sz, .sl false 1 ps, .sl false 1 ds, .sl false 7 bs]], true⟩]⟩) (fun j => j.1 ≤ b.length ∧ j.2 ++ (bF l s c j.1 (b.drop j.1) ++ aF l s (i + 1) (s.drop (i + 1))) = tot) (fun j => b.length - j.1) (0, o1) ⟨Nat.zero_le _, hj2⟩
            (Sbs.mk rfl rfl ⟨rfl, rfl, congrArg (A.vw 0 0) hm1.symm, rfl, rfl, zeroI hΩ, trivial⟩) ?_
          rintro ⟨j, o2⟩ ⟨hj, hj2⟩
          dsimp only at hj hj2
          dsimp only
          obtain ⟨m2, hm2⟩ : ∃ m2, o2.length = m2 := ⟨_, rfl⟩
          rw [hm2]
          cbv
          have hml2 : m2 ≤ 2199024304128 := by
            have := congrArg List.length hj2
            rw [List.length_append, hm2] at this
            omega
          refine br (fun h => ?_) (fun h => ?_) <;> cbv
          · replace h := ltI hΩ h
            obtain ⟨u, huu⟩ := at_of (cs := b) (by omega : j < b.length)
            rw [bF_at huu, List.append_assoc] at hj2
            have hc := hgiv c u
            generalize givB l s c u = gu at hc hj2
            refine ⟨VC_drawn htab hΩ hmo (by kernel_rfl) ?_⟩
            cbv
            refine ⟨⟨nnI hΩ⟩, _, rdI hΩ hbs huu, ?_⟩
            cbv
            refine ⟨⟨nnI hΩ⟩, _, rdI hΩ hxs hcc, ?_⟩
            cbv
            refine QCall_pure (k := 3) hc rfl (fits _) rfl ?_
            cbv
            refine br (fun g => ?_) (fun g => ?_) <;> cbv
            · have g : gu = true := g
              rw [g, if_pos rfl, ← List.append_assoc] at hj2
              refine ⟨⟨nnI hΩ⟩, _, rdI hΩ hxs hcc, ?_⟩
              cbv
              refine ⟨⟨rfl, okAll rfl, by show (m2 + 1) * 24 ≤ 140737488355328; omega, by show m2 + 1 ≤ 9223372036854775807; omega⟩, (j + 1, o2 ++ [⟨3, c, j⟩]), ⟨by dsimp only; omega, hj2⟩, by dsimp only; omega, ?_⟩
              exact Sbs.trans (Sbs.lastN (rows := [_, _]) rfl) (Sbs.mk rfl (by dsimp only; rw [← hap o2 ⟨3, c, j⟩ m2 hm2]; subst hΩ; rfl) ⟨rfl, rfl, congrArg (A.vw 0 0) (hlp o2 ⟨3, c, j⟩ _ m2 hm2), rfl, rfl, incI hΩ (by omega), trivial⟩)
            · have g : gu = false := g
              rw [g] at hj2
              exact ⟨(j + 1, o2), ⟨by dsimp only; omega, hj2⟩, by dsimp only; omega, Sbs.mk rfl rfl ⟨rfl, rfl, congrArg (A.vw 0 0) hm2.symm, rfl, rfl, incI hΩ (by omega), trivial⟩⟩
          · replace h := geI hΩ h
            rw [List.drop_of_length_le (by omega : b.length ≤ j), bF, List.nil_append] at hj2
            exact ⟨(i + 1, o2), ⟨by dsimp only; omega, hj2⟩, by dsimp only; omega, Sbs.mkL (rows := [_]) rfl rfl rfl ⟨rfl, rfl, congrArg (A.vw 0 0) hm2.symm, incI hΩ (by omega), trivial⟩⟩

      · rw [show (n2 == nn) = false by subst hΩ; exact g2, Bool.false_or] at hqa
        exact ⟨q + 1, ⟨by omega, hqa⟩, by omega, Sbs.mk rfl rfl ⟨rfl, rfl, rfl, rfl, rfl, incI hΩ (by omega), trivial⟩⟩
    · replace g := geN hΩ g
      rw [List.drop_of_length_le (by simp; omega), List.any_nil] at hqa
      rw [hqa] at hout
      refine loopX htab hΩ (fun j : Nat × List Flt => ⟨[(0, .sl false 8 cs), (1, .sl false 1 xs), (5, .vw 0 0 j.2.length), (6, .sc (.int .i64 (Ω.int i))), (7, .pt 1 0 0), (9, .sc (.int .i64 (Ω.int j.1)))], 103, [some ⟨3, e j.2, false⟩, some ⟨8, [.agg [str nn, i64 v1, i64 v2, i64 v3, i64 sz, .sl false 1 ps, .sl false 1 ds, .sl false 7 bs]], true⟩]⟩) (fun j => j.1 ≤ d.length ∧ j.2 ++ (nF l s c j.1 (d.drop j.1) ++ (bF l s c 0 b ++ aF l s (i + 1) (s.drop (i + 1)))) = tot) (fun j => d.length - j.1) (0, out) ⟨Nat.zero_le _, by rw [hrest] at hout; exact hout⟩
        (Sbs.mk rfl rfl ⟨rfl, rfl, congrArg (A.vw 0 0) hm.symm, rfl, rfl, zeroI hΩ, trivial⟩) ?_
      rintro ⟨j, o2⟩ ⟨hj, hj2⟩
      dsimp only at hj hj2
      dsimp only
      obtain ⟨m2, hm2⟩ : ∃ m2, o2.length = m2 := ⟨_, rfl⟩
      rw [hm2]
      cbv
      have hml2 : m2 ≤ 2199024304128 := by
        have := congrArg List.length hj2
        rw [List.length_append, hm2] at this
        omega
      refine br (fun h => ?_) (fun h => ?_) <;> cbv
      · replace h := ltI hΩ h
        obtain ⟨u, huu⟩ := at_of (cs := d) (by omega : j < d.length)
        rw [nF_at huu, List.append_assoc] at hj2
        have hc := hmet u (hd2 u (List.mem_of_getElem? huu))
        obtain ⟨us, hus⟩ : ∃ us, us = u.map Trm.enc := ⟨_, rfl⟩
        rw [← hus] at hc
        have hrd : ds[(Ω.int j).toNat]? = some (.sl false 7 us) := (rdI hΩ hds huu).trans (by rw [hus]; rfl)
        generalize metB l s u = gu at hc hj2
        refine ⟨⟨nnI hΩ⟩, _, hrd, ?_⟩
        cbv
        refine call_pure hΩ 3 hc rfl (fits _) rfl rfl ?_
        cbv
        refine br (fun g => ?_) (fun g => ?_) <;> cbv
        · have g : gu = false := notT' hΩ g
          rw [g, if_neg (by simp), ← List.append_assoc] at hj2
          refine ⟨⟨nnI hΩ⟩, _, rdI hΩ hxs hcc, ?_⟩
          cbv
          refine ⟨⟨rfl, okAll rfl, by show (m2 + 1) * 24 ≤ 140737488355328; omega, by show m2 + 1 ≤ 9223372036854775807; omega⟩, (j + 1, o2 ++ [⟨2, c, j⟩]), ⟨by dsimp only; omega, hj2⟩, by dsimp only; omega, ?_⟩
          exact Sbs.trans (Sbs.lastN (rows := [_, _]) rfl) (Sbs.mk rfl (by dsimp only; rw [← hap o2 ⟨2, c, j⟩ m2 hm2]; subst hΩ; rfl) ⟨rfl, rfl, congrArg (A.vw 0 0) (hlp o2 ⟨2, c, j⟩ _ m2 hm2), rfl, rfl, incI hΩ (by omega), trivial⟩)
        · have g : gu = true := notF' hΩ g
          rw [g] at hj2
          exact ⟨(j + 1, o2), ⟨by dsimp only; omega, hj2⟩, by dsimp only; omega, Sbs.mk rfl rfl ⟨rfl, rfl, congrArg (A.vw 0 0) hm2.symm, rfl, rfl, incI hΩ (by omega), trivial⟩⟩
      · replace h := geI hΩ h
        rw [List.drop_of_length_le (by omega : d.length ≤ j), nF, List.nil_append] at hj2
        obtain ⟨o1, m1, hm1, rfl⟩ : ∃ o1 m1, o1.length = m1 ∧ o1 = o2 := ⟨_, _, rfl, rfl⟩
        obtain rfl : m2 = m1 := hm2.symm.trans hm1
        clear hm2
        refine loopX htab hΩ (fun j : Nat × List Flt => ⟨[(0, .sl false 8 cs), (1, .sl false 1 xs), (5, .vw 0 0 j.2.length), (6, .sc (.int .i64 (Ω.int i))), (7, .pt 1 0 0), (10, .sc (.int .i64 (Ω.int j.1)))], 103, [some ⟨3, e j.2, false⟩, some ⟨8, [.agg [str nn, i64 v1, i64 v2, i64 v3, i64 sz, .sl false 1 ps, .sl false 1 ds, .sl false 7 bs]], true⟩]⟩) (fun j => j.1 ≤ b.length ∧ j.2 ++ (bF l s c j.1 (b.drop j.1) ++ aF l s (i + 1) (s.drop (i + 1))) = tot) (fun j => b.length - j.1) (0, o1) ⟨Nat.zero_le _, hj2⟩
          (Sbs.mk rfl rfl ⟨rfl, rfl, congrArg (A.vw 0 0) hm1.symm, rfl, rfl, zeroI hΩ, trivial⟩) ?_
        rintro ⟨j, o2⟩ ⟨hj, hj2⟩
        dsimp only at hj hj2
        dsimp only
        obtain ⟨m2, hm2⟩ : ∃ m2, o2.length = m2 := ⟨_, rfl⟩
        rw [hm2]
        cbv
        have hml2 : m2 ≤ 2199024304128 := by
          have := congrArg List.length hj2
          rw [List.length_append, hm2] at this
          omega
        refine br (fun h => ?_) (fun h => ?_) <;> cbv
        · replace h := ltI hΩ h
          obtain ⟨u, huu⟩ := at_of (cs := b) (by omega : j < b.length)
          rw [bF_at huu, List.append_assoc] at hj2
          have hc := hgiv c u
          generalize givB l s c u = gu at hc hj2
          refine ⟨VC_drawn htab hΩ hmo (by kernel_rfl) ?_⟩
          cbv
          refine ⟨⟨nnI hΩ⟩, _, rdI hΩ hbs huu, ?_⟩
          cbv
          refine ⟨⟨nnI hΩ⟩, _, rdI hΩ hxs hcc, ?_⟩
          cbv
          refine QCall_pure (k := 3) hc rfl (fits _) rfl ?_
          cbv
          refine br (fun g => ?_) (fun g => ?_) <;> cbv
          · have g : gu = true := g
            rw [g, if_pos rfl, ← List.append_assoc] at hj2
            refine ⟨⟨nnI hΩ⟩, _, rdI hΩ hxs hcc, ?_⟩
            cbv
            refine ⟨⟨rfl, okAll rfl, by show (m2 + 1) * 24 ≤ 140737488355328; omega, by show m2 + 1 ≤ 9223372036854775807; omega⟩, (j + 1, o2 ++ [⟨3, c, j⟩]), ⟨by dsimp only; omega, hj2⟩, by dsimp only; omega, ?_⟩
            exact Sbs.trans (Sbs.lastN (rows := [_, _]) rfl) (Sbs.mk rfl (by dsimp only; rw [← hap o2 ⟨3, c, j⟩ m2 hm2]; subst hΩ; rfl) ⟨rfl, rfl, congrArg (A.vw 0 0) (hlp o2 ⟨3, c, j⟩ _ m2 hm2), rfl, rfl, incI hΩ (by omega), trivial⟩)
          · have g : gu = false := g
            rw [g] at hj2
            exact ⟨(j + 1, o2), ⟨by dsimp only; omega, hj2⟩, by dsimp only; omega, Sbs.mk rfl rfl ⟨rfl, rfl, congrArg (A.vw 0 0) hm2.symm, rfl, rfl, incI hΩ (by omega), trivial⟩⟩
        · replace h := geI hΩ h
          rw [List.drop_of_length_le (by omega : b.length ≤ j), bF, List.nil_append] at hj2
          exact ⟨(i + 1, o2), ⟨by dsimp only; omega, hj2⟩, by dsimp only; omega, Sbs.mkL (rows := [_]) rfl rfl rfl ⟨rfl, rfl, congrArg (A.vw 0 0) hm2.symm, incI hΩ (by omega), trivial⟩⟩

  · have hil : i = s.length := by have := geI hΩ h; omega
    rw [hil, List.drop_length, aF, List.append_nil] at hout
    refine ⟨⟨rfl, by show m ≤ (e out).length; rw [hel, hm]; exact Nat.le_refl _⟩, .of ?_⟩
    rw [← hout]
    subst hΩ
    show A.sl true 3 ((e out).take m) = _
    rw [List.take_of_length_le (by rw [hel]; omega)]
end Go.Proofs.YtgcnggefeapalaaGreatDoor

/- Walks: the reference's solver, as far as draws ask for it. Plain theorems. -/
set_option linter.unusedVariables false
set_option linter.unusedSimpArgs false
namespace Go.Proofs.YtgcnggefeapalaaGreatDoor
open Go Go.Fw
set_option maxRecDepth 100000
/-- A number put into a rising list. -/
def put3 (v : Int) : List Int → List Int
  | [] => [v]
  | x :: xs => if v < x then v :: x :: xs else x :: put3 v xs
theorem put3_len (v : Int) : ∀ l : List Int, (put3 v l).length = l.length + 1
  | [] => rfl
  | x :: xs => by rw [put3]; split <;> simp [put3_len v xs]
theorem put3_not {v : Int} : ∀ {l : List Int}, l.any (fun x => decide (v < x)) = false → put3 v l = l ++ [v]
  | [], _ => rfl
  | x :: xs, h => by
    simp only [List.any_cons, Bool.or_eq_false_iff, decide_eq_false_iff_not] at h
    rw [put3, if_neg h.1, put3_not h.2]; rfl
theorem put3_snoc {v x : Int} : ∀ {l : List Int}, l.any (fun x => decide (v < x)) = true → put3 v (l ++ [x]) = put3 v l ++ [x]
  | [], h => by cases h
  | y :: ys, h => by
    rw [List.cons_append, put3, put3]
    split
    · rfl
    · rename_i hy
      simp only [List.any_cons, Bool.or_eq_true, decide_eq_true_eq] at h
      rw [put3_snoc (h.resolve_left hy)]; rfl
theorem put3_snoc2 {v x : Int} : ∀ {l : List Int}, l.any (fun x => decide (v < x)) = false → v < x → put3 v (l ++ [x]) = l ++ [v] ++ [x]
  | [], _, h => by show put3 v [x] = _; rw [put3, if_pos h]; rfl
  | y :: ys, h, hx => by
    simp only [List.any_cons, Bool.or_eq_false_iff, decide_eq_false_iff_not] at h
    rw [List.cons_append, put3, if_neg h.1, put3_snoc2 h.2 hx]; rfl
/-- What stands behind i numbers of the list. -/
def putUp (v : Int) (l : List Int) : List Int := if l.any (fun x => decide (v < x)) then put3 v l else l
theorem putUp_step {v x : Int} {l : List Int} : putUp v (l ++ [x]) = if l.any (fun x => decide (v < x)) = false ∧ v < x then putUp v l ++ [v] ++ [x] else putUp v l ++ [x] := by
  unfold putUp
  rw [List.any_append]
  simp only [List.any_cons, List.any_nil, Bool.or_false]
  cases h : l.any (fun x => decide (v < x)) with
  | true => simp [put3_snoc h]
  | false =>
    by_cases hx : v < x
    · simp [hx, put3_snoc2 h hx]
    · simp [hx]
theorem putUp_end {v : Int} {l : List Int} : put3 v l = if l.any (fun x => decide (v < x)) then putUp v l else putUp v l ++ [v] := by
  unfold putUp
  cases h : l.any (fun x => decide (v < x)) with
  | true => simp
  | false => simp [put3_not h]
theorem putUp_len (v : Int) (l : List Int) : (putUp v l).length ≤ l.length + 1 := by unfold putUp; split <;> simp [put3_len]
theorem c_l3Put (s : List Int) (v : Int) (hs : s.length ≤ 1048576) : PCtr PP n_spec_l3Put [.sl false 1 (s.map i64), i64 v] (.sl true 1 ((put3 v s).map i64)) := by
  obtain ⟨Ω, hΩ⟩ : ∃ Ω, Ω = std := ⟨_, rfl⟩
  obtain ⟨xs, hxs⟩ : ∃ xs, xs = s.map i64 := ⟨_, rfl⟩
  have hlen : xs.length = s.length := by rw [hxs, List.length_map]
  rw [← hxs]
  obtain ⟨U, hU⟩ : ∃ U : Nat → List Int, U = fun i => putUp v (s.take i) := ⟨_, rfl⟩
  obtain ⟨D, hD⟩ : ∃ D : Nat → Bool, D = fun i => (s.take i).any fun x => decide (v < x) := ⟨_, rfl⟩
  obtain ⟨F, hF⟩ : ∃ F : Nat → List A, F = fun i => (U i).map i64 := ⟨_, rfl⟩
  have hF0 : F 0 = [] := by rw [hF, hU]; rfl
  have hD0 : D 0 = false := by rw [hD]; rfl
  have hFl : ∀ i, (F i).length = (U i).length := fun i => by rw [hF]; exact List.length_map _
  have hUl : ∀ i, (U i).length ≤ i + 1 := fun i => by rw [hU]; exact Nat.le_trans (putUp_len _ _) (by simp; omega)
  have hst : ∀ i c, s[i]? = some c → U (i + 1) = (if D i = false ∧ v < c then U i ++ [v] ++ [c] else U i ++ [c]) ∧ D (i + 1) = (D i || decide (v < c)) := fun i c h => by
    rw [hU, hD]; dsimp only
    rw [List.take_add_one, h]
    exact ⟨putUp_step, by rw [List.any_append]; simp⟩
  have hs1 : ∀ i n L, (U i).length = L → Ω.app (Ω.take L (F i)) [i64 n] = (U i ++ [n]).map i64 := fun i n L h => by
    subst hΩ; rw [hF]; show List.take L (List.map i64 (U i)) ++ _ = _
    rw [List.map_append, List.take_of_length_le (by simp; omega)]; rfl
  have hs2 : ∀ i n n2 L, (U i).length = L → Ω.app (Ω.take (Ω.plus L (Ω.len [i64 n])) (Ω.app (Ω.take L (F i)) [i64 n])) [i64 n2] = (U i ++ [n] ++ [n2]).map i64 := fun i n n2 L h => by
    rw [hs1 i n L h]; subst hΩ; show List.take (L + 1) _ ++ _ = _
    rw [List.map_append (l₂ := [n2]), List.take_of_length_le (by simp; omega)]; rfl
  have hend : put3 v s = if D s.length then U s.length else U s.length ++ [v] := by
    have h0 := @putUp_end v (s.take s.length)
    rw [hU, hD]; show put3 v s = if ((s.take s.length).any fun x => decide (v < x)) = true then putUp v (s.take s.length) else putUp v (s.take s.length) ++ [v]
    rw [← h0, List.take_length]
  have hFm : ∀ i, F i = (U i).map i64 := fun i => by rw [hF]
  clear hF hU hD
  have htab := tab
  refine PCtr.walk tab hΩ fn_spec_l3Put rfl ?_
  obtain ⟨R, hR⟩ : ∃ R, R = put3 v s := ⟨_, rfl⟩
  rw [← hR] at hend ⊢
  obtain ⟨G, hG⟩ : ∃ G, G = R.map i64 := ⟨_, rfl⟩
  rw [← hG]
  generalize PP = P at *
  cbv
  refine loopX htab hΩ (fun i : Nat => ⟨[(0, .sl false 1 xs), (1, i64 v), (5, .vw 0 0 (U i).length), (6, boo (D i)), (7, i64 (Ω.int i))], 43, [some ⟨1, F i, false⟩]⟩) (fun i => i ≤ s.length) (fun i => s.length - i) 0 (Nat.zero_le _)
    (Sbs.mk rfl (by rw [hF0]) ⟨rfl, rfl, by have := hFl 0; rw [hF0] at this; rw [← this]; rfl, by rw [hD0]; rfl, zeroI hΩ, trivial⟩) ?_
  intro i hi
  have hFli := hFl i
  have hUli := hUl i
  have hs1i := hs1 i
  have hs2i := hs2 i
  have hsti := hst i
  have hFi1 := hFm (i + 1)
  obtain ⟨m, hm⟩ : ∃ m, (U i).length = m := ⟨_, rfl⟩
  obtain ⟨d, hd⟩ : ∃ d, D i = d := ⟨_, rfl⟩
  have e1 : ∀ n, [some (Row.mk 1 (Ω.app (Ω.take m (F i)) [i64 n]) false)] = [some (Row.mk 1 ((U i ++ [n]).map i64) false)] := fun n => by rw [hs1i n m hm]
  have l1 : ∀ n : Int, A.vw 0 0 (Ω.plus m (Ω.len [i64 n])) = .vw 0 0 (U i ++ [n]).length := fun n => by subst hΩ; rw [List.length_append, hm]; rfl
  have e2 : ∀ n n2, [some (Row.mk 1 (Ω.app (Ω.take (Ω.plus m (Ω.len [i64 n])) (Ω.app (Ω.take m (F i)) [i64 n])) [i64 n2]) false)] = [some (Row.mk 1 ((U i ++ [n] ++ [n2]).map i64) false)] := fun n n2 => by rw [hs2i n n2 m hm]
  have l2 : ∀ n n2 : Int, A.vw 0 0 (Ω.plus (Ω.plus m (Ω.len [i64 n])) (Ω.len [i64 n2])) = .vw 0 0 (U i ++ [n] ++ [n2]).length := fun n n2 => by subst hΩ; rw [List.length_append, List.length_append, hm]; rfl
  rw [hd] at hsti ⊢
  rw [hm] at hFli hUli ⊢
  cbv
  refine br (fun h => ?_) (fun h => ?_) <;> cbv
  · replace h := ltI hΩ h
    obtain ⟨c, hc⟩ := at_of (cs := s) (by omega : i < s.length)
    obtain ⟨q1, q2⟩ := hsti c hc
    have hok : (m + 1) * 8 ≤ 140737488355328 ∧ m + 1 ≤ 9223372036854775807 := by omega
    have hok2 : (Ω.plus m (Ω.len [i64 v]) + 1) * 8 ≤ 140737488355328 ∧ Ω.plus m (Ω.len [i64 v]) + 1 ≤ 9223372036854775807 := by
      have e : Ω.plus m (Ω.len [i64 v]) = m + 1 := by subst hΩ; rfl
      rw [e]; omega
    refine ⟨⟨nnI hΩ⟩, _, rdI hΩ hxs hc, ?_⟩
    cbv
    refine br (fun g1 => ?_) (fun g1 => ?_) <;> cbv
    · have g1 := gtI_t hΩ g1
      refine br (fun g2 => ?_) (fun g2 => ?_) <;> cbv
      · have g2 : d = false := notT' hΩ (by subst hΩ; exact g2)
        rw [if_pos ⟨g2, g1⟩] at q1
        refine ⟨⟨rfl, okAll rfl, hok.1, hok.2⟩, ?_⟩
        refine ⟨⟨nnI hΩ⟩, _, rdI hΩ hxs hc, ?_⟩
        cbv
        exact ⟨⟨rfl, okAll rfl, hok2.1, hok2.2⟩, i + 1, by omega, by omega, (Sbs.cut 1 rfl).trans (Sbs.mk rfl (by show _ = [some (Row.mk 1 (F (i + 1)) false)]; rw [hFi1, q1, ← e2 v c]; rfl) ⟨rfl, rfl, by rw [q1]; exact l2 v c, by rw [q2]; show boo true = _; rw [decide_eq_true g1, Bool.or_true], incI hΩ (by omega), trivial⟩)⟩
      · have g2 : d = true := notF' hΩ (by subst hΩ; exact g2)
        rw [if_neg (by rw [g2]; simp)] at q1
        refine ⟨⟨nnI hΩ⟩, _, rdI hΩ hxs hc, ?_⟩
        cbv
        exact ⟨⟨rfl, okAll rfl, hok.1, hok.2⟩, i + 1, by omega, by omega, (Sbs.cut 1 rfl).trans (Sbs.mk rfl (by show _ = [some (Row.mk 1 (F (i + 1)) false)]; rw [hFi1, q1, ← e1 c]; rfl) ⟨rfl, rfl, by rw [q1]; exact l1 c, by rw [q2, g2]; rfl, incI hΩ (by omega), trivial⟩)⟩
    · have g1 := gtI_f hΩ g1
      rw [if_neg (by omega)] at q1
      refine ⟨⟨nnI hΩ⟩, _, rdI hΩ hxs hc, ?_⟩
      cbv
      exact ⟨⟨rfl, okAll rfl, hok.1, hok.2⟩, i + 1, by omega, by omega, (Sbs.cut 1 rfl).trans (Sbs.mk rfl (by show _ = [some (Row.mk 1 (F (i + 1)) false)]; rw [hFi1, q1, ← e1 c]; rfl) ⟨rfl, rfl, by rw [q1]; exact l1 c, by rw [q2, decide_eq_false (by omega), Bool.or_false]; rfl, incI hΩ (by omega), trivial⟩)⟩
  · have h := geI hΩ h
    have hil : i = s.length := by omega
    rw [← hil] at hend
    refine br (fun g => ?_) (fun g => ?_) <;> cbv
    · have g : d = false := notT' hΩ (by subst hΩ; exact g)
      rw [hd, g, if_neg (by simp)] at hend
      refine ⟨⟨rfl, okAll rfl, by show (m + 1) * 8 ≤ 140737488355328; omega, by show m + 1 ≤ 9223372036854775807; omega⟩, ⟨rfl, ?_⟩, ?_⟩
      · show Ω.plus m (Ω.len [i64 v]) ≤ (Ω.app (Ω.take m (F i)) [i64 v]).length
        rw [hs1i v m hm]; subst hΩ; rw [List.length_map, List.length_append, hm]; exact Nat.le_refl _
      · have e : A.sl true 1 (Ω.take (Ω.plus m (Ω.len [i64 v])) (Ω.app (Ω.take m (F i)) [i64 v])) = .sl true 1 G := by
          rw [hs1i v m hm, hG, hend]; subst hΩ; exact congrArg _ (List.take_of_length_le (by rw [List.length_map, List.length_append, hm]; exact Nat.le_refl _))
        exact .of e
    · have g : d = true := notF' hΩ (by subst hΩ; exact g)
      rw [hd, g, if_pos rfl] at hend
      refine ⟨⟨rfl, ?_⟩, ?_⟩
      · show m ≤ (F i).length; omega
      · have e : A.sl true 1 (Ω.take m (F i)) = .sl true 1 G := by
          rw [hFm i, hG, hend]; subst hΩ; exact congrArg _ (List.take_of_length_le (by rw [List.length_map, hm]; exact Nat.le_refl _))
        exact .of e
end Go.Proofs.YtgcnggefeapalaaGreatDoor

/- Walks: names in a set, sets without a place; what they say of plain data. Plain theorems. -/
set_option linter.unusedVariables false
set_option linter.unusedSimpArgs false
namespace Go.Proofs.YtgcnggefeapalaaGreatDoor
open Go Go.Fw
set_option maxRecDepth 100000
/-- Each name leads to its own place. -/
def apart (c : List Pck) (s : List Int) : List Int → Bool
  | [] => true
  | k :: ks => decide (nmF c (pk c k).n s = k) && apart c s ks
end Go.Proofs.YtgcnggefeapalaaGreatDoor

/- Walks: the reference's solver, its parts. Plain theorems. -/
set_option linter.unusedVariables false
set_option linter.unusedSimpArgs false
namespace Go.Proofs.YtgcnggefeapalaaGreatDoor
open Go Go.Fw
set_option maxRecDepth 100000
theorem put3_mem {v x : Int} : ∀ {l : List Int}, x ∈ put3 v l → x = v ∨ x ∈ l
  | [], h => by simp [put3] at h; exact .inl h
  | y :: ys, h => by
    rw [put3] at h
    split at h
    · simp at h; rcases h with h | h | h <;> simp [h]
    · rcases List.mem_cons.1 h with h | h
      · simp [h]
      · rcases put3_mem h with h | h <;> simp [h]
end Go.Proofs.YtgcnggefeapalaaGreatDoor

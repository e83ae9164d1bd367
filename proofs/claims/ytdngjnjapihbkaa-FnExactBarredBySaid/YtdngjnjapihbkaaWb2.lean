/- Walks: names. Plain theorems. -/
import Derived.Test.YtdngjnjapihbkaaWb1
set_option linter.unusedVariables false
set_option linter.unusedSimpArgs false
namespace Go.Proofs.Ytdngjnjapihbkaa
open Go Go.Fw
set_option maxRecDepth 100000
theorem ltS {Ω : Opq} (hΩ : Ω = std) {i : Nat} {xs : List UInt8} (h : Ω.cmp .lss (Ω.int i) (Ω.int (Ω.lenS xs)) = true) : i < xs.length := by
  subst hΩ
  have h : (i : Int) < xs.length := lt_t h
  omega
theorem geS {Ω : Opq} (hΩ : Ω = std) {i : Nat} {xs : List UInt8} (h : Ω.cmp .lss (Ω.int i) (Ω.int (Ω.lenS xs)) = false) : xs.length ≤ i := by
  subst hΩ
  have h : (xs.length : Int) ≤ i := lt_f h
  omega
theorem c_implNameFault (s : List UInt8) : PCtr PP n_impl_NameFault [str s] (i64 (nameF s)) := by
  obtain ⟨Ω, hΩ⟩ : ∃ Ω, Ω = std := ⟨_, rfl⟩
  obtain ⟨r, hr⟩ : ∃ r, r = nameF s := ⟨_, rfl⟩
  rw [← hr]
  have hc : ∀ c, PCtr PP n_impl_isNameByte [.sc (.int .u8 (Ω.u8 c))] (boo (nameB c)) := by subst hΩ; exact c_isNameByte
  unfold nameF at hr
  generalize nameB = F at *
  have htab := tab
  have hle : Ω.lenS s = s.length := by subst hΩ; rfl
  refine PCtr.walk tab hΩ fn_impl_NameFault rfl ?_
  generalize PP = P at *
  cbv
  refine br (fun h1 => ?_) (fun h1 => ?_) <;> cbv
  · exact .of (congrArg i64 (by rw [hr, if_pos (by subst hΩ; exact lt_t h1)]))
  rw [if_neg (by subst hΩ; exact Int.not_lt.2 (lt_f h1))] at hr
  refine br (fun h2 => ?_) (fun h2 => ?_) <;> cbv
  · exact .of (congrArg i64 (by rw [hr, if_pos (by subst hΩ; exact gt_t h2)]))
  rw [if_neg (by subst hΩ; exact Int.not_lt.2 (gt_f h2))] at hr
  have hs : s.length ≤ 12 := by subst hΩ; have h2 : (s.length : Int) ≤ 12 := gt_f h2; omega
  obtain ⟨c0, s', hs0⟩ : ∃ c s', s = c :: s' := by
    subst hΩ
    have h1 : (1 : Int) ≤ s.length := lt_f h1
    cases s with
    | nil => simp at h1
    | cons c s' => exact ⟨_, _, rfl⟩
  rw [show s.headD 0 = c0 by rw [hs0]; rfl] at hr
  refine ⟨⟨by decide⟩, c0, by rw [hs0]; rfl, ?_⟩
  cbv
  refine br (fun h3 => ?_) (fun h3 => ?_) <;> cbv
  · exact .of (congrArg i64 (by rw [hr, if_neg (by subst hΩ; have h3 : (c0.toNat : Int) < 97 := lt_t h3; unfold letterB; simp; omega)]))
  refine ⟨⟨by decide⟩, c0, by rw [hs0]; rfl, ?_⟩
  cbv
  refine br (fun h4 => ?_) (fun h4 => ?_) <;> cbv
  · exact .of (congrArg i64 (by rw [hr, if_neg (by subst hΩ; have h4 : 122 < (c0.toNat : Int) := gt_t h4; unfold letterB; simp; omega)]))
  rw [if_pos (by subst hΩ; have h3 : 97 ≤ (c0.toNat : Int) := lt_f h3; have h4 : (c0.toNat : Int) ≤ 122 := gt_f h4; unfold letterB; simp; omega)] at hr
  refine loopX htab hΩ (fun i : Nat => ⟨[(0, .sc (.string (mkS s))), (23, .sc (.int .i64 (Ω.int (Ω.lenS s)))), (24, .sc (.int .i64 (Ω.int i)))], 33, []⟩) (fun i => i ≤ s.length ∧ r = allCode F 5 (s.drop i)) (fun i => s.length - i) 0
    ⟨Nat.zero_le _, hr⟩ (Sbs.mk rfl rfl ⟨rfl, rfl, zeroI hΩ, trivial⟩) ?_
  rintro i ⟨hi, he⟩
  cbv
  refine br (fun h => ?_) (fun h => ?_) <;> cbv
  · replace h := ltS hΩ h
    obtain ⟨c, hcc⟩ := at_of (cs := s) h
    rw [allCode_at _ _ hcc] at he
    refine ⟨⟨nnI hΩ⟩, c, by subst hΩ; exact hcc, ?_⟩
    cbv
    refine call_pure hΩ 3 (hc c) rfl (fits _) rfl rfl ?_
    cbv
    refine br (fun g => ?_) (fun g => ?_) <;> cbv
    · exact .of (congrArg i64 (by rw [he, notT' hΩ g]; rfl))
    · rw [notF' hΩ g] at he
      exact ⟨i + 1, ⟨by omega, he⟩, by omega, Sbs.mk rfl rfl ⟨rfl, rfl, incI hΩ (by omega), trivial⟩⟩
  · replace h := geS hΩ h
    exact .of (congrArg i64 (by rw [he, List.drop_of_length_le h]; rfl))
theorem c_specNameFault (s : List UInt8) : PCtr PP n_spec_NameFault [str s] (i64 (nameF s)) := by
  obtain ⟨Ω, hΩ⟩ : ∃ Ω, Ω = std := ⟨_, rfl⟩
  obtain ⟨r, hr⟩ : ∃ r, r = nameF s := ⟨_, rfl⟩
  rw [← hr]
  have hc : ∀ c, PCtr PP n_spec_l1Name [.sc (.int .u8 (Ω.u8 c))] (boo (nameB c)) := by subst hΩ; exact c_l1Name
  unfold nameF at hr
  generalize nameB = F at *
  have hc2 := c_l1Letter
  have htab := tab
  have hle : Ω.lenS s = s.length := by subst hΩ; rfl
  refine PCtr.walk tab hΩ fn_spec_NameFault rfl ?_
  generalize PP = P at *
  cbv
  refine br (fun h1 => ?_) (fun h1 => ?_) <;> cbv
  · exact .of (congrArg i64 (by rw [hr, if_pos (by subst hΩ; exact lt_t h1)]))
  rw [if_neg (by subst hΩ; exact Int.not_lt.2 (lt_f h1))] at hr
  refine br (fun h2 => ?_) (fun h2 => ?_) <;> cbv
  · exact .of (congrArg i64 (by rw [hr, if_pos (by subst hΩ; exact gt_t h2)]))
  rw [if_neg (by subst hΩ; exact Int.not_lt.2 (gt_f h2))] at hr
  have hs : s.length ≤ 12 := by subst hΩ; have h2 : (s.length : Int) ≤ 12 := gt_f h2; omega
  obtain ⟨c0, s', hs0⟩ : ∃ c s', s = c :: s' := by
    subst hΩ
    have h1 : (1 : Int) ≤ s.length := lt_f h1
    cases s with
    | nil => simp at h1
    | cons c s' => exact ⟨_, _, rfl⟩
  rw [show s.headD 0 = c0 by rw [hs0]; rfl] at hr
  refine ⟨⟨by decide⟩, c0, by rw [hs0]; rfl, ?_⟩
  cbv
  have hl : PCtr P 130 [.sc (.int .u8 (Ω.u8 c0))] (boo (letterB c0)) := by subst hΩ; exact hc2 c0
  generalize letterB c0 = b at *
  refine call_pure hΩ 3 hl rfl (fits _) rfl rfl ?_
  cbv
  refine br (fun h3 => ?_) (fun h3 => ?_) <;> cbv
  · exact .of (congrArg i64 (by rw [hr, notT' hΩ (b := b) (by subst hΩ; exact h3)]; rfl))
  rw [notF' hΩ (b := b) (by subst hΩ; exact h3), if_pos rfl] at hr
  refine loopX htab hΩ (fun i : Nat => ⟨[(0, .sc (.string (mkS s))), (3, .sc (.int .i64 (Ω.int i)))], 29, []⟩) (fun i => i ≤ s.length ∧ r = allCode F 5 (s.drop i)) (fun i => s.length - i) 0
    ⟨Nat.zero_le _, hr⟩ (Sbs.mk rfl rfl ⟨rfl, zeroI hΩ, trivial⟩) ?_
  rintro i ⟨hi, he⟩
  cbv
  refine br (fun h => ?_) (fun h => ?_) <;> cbv
  · replace h := ltS hΩ h
    obtain ⟨c, hcc⟩ := at_of (cs := s) h
    rw [allCode_at _ _ hcc] at he
    refine ⟨⟨nnI hΩ⟩, c, by subst hΩ; exact hcc, ?_⟩
    cbv
    refine call_pure hΩ 3 (hc c) rfl (fits _) rfl rfl ?_
    cbv
    refine br (fun g => ?_) (fun g => ?_) <;> cbv
    · exact .of (congrArg i64 (by rw [he, notT' hΩ g]; rfl))
    · rw [notF' hΩ g] at he
      exact ⟨i + 1, ⟨by omega, he⟩, by omega, Sbs.mk rfl rfl ⟨rfl, incI hΩ (by omega), trivial⟩⟩
  · replace h := geS hΩ h
    exact .of (congrArg i64 (by rw [he, List.drop_of_length_le h]; rfl))
end Go.Proofs.Ytdngjnjapihbkaa

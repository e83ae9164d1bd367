/- Walks: the marks' text. Plain theorems. -/
import Derived.Test.YtdngjnjapihbkaaWd
set_option linter.unusedVariables false
set_option linter.unusedSimpArgs false
namespace Go.Proofs.Ytdngjnjapihbkaa
open Go Go.Fw
set_option maxRecDepth 100000
def mkL (k : Nat) (out : List UInt8) : List UInt8 := if k = 0 then out else mkL (k / 10) (UInt8.ofNat (48 + k % 10) :: out)
termination_by k
decreasing_by omega
def markT (k : Int) : List UInt8 := if k ≤ 0 then [109, 48] else 109 :: mkL k.toNat []
theorem mark_byte (k : Nat) : IntKind.u8.wrap (IntKind.i64.wrap (48 + Int.tmod (k : Int) 10)) = ((UInt8.ofNat (48 + k % 10)).toNat : Int) := by
  have h1 : Int.tmod (k : Int) 10 = ((k % 10 : Nat) : Int) := by rw [Int.tmod_eq_emod_of_nonneg (by omega)]; omega
  have h2 : k % 10 < 10 := Nat.mod_lt _ (by omega)
  have h3 : (UInt8.ofNat (48 + k % 10)).toNat = 48 + k % 10 := by simp; omega
  rw [h1, wrap64 (by omega) (by omega), h3]
  have h4 : ∀ y : Int, IntKind.u8.wrap y = y % 256 := fun y => rfl
  rw [h4]
  omega
theorem c_markText (k : Int) (hk : k ≤ 1152921504606846976) : PCtr PP n_laws_markText [i64 k] (str (markT k)) := by
  obtain ⟨Ω, hΩ⟩ : ∃ Ω, Ω = std := ⟨_, rfl⟩
  obtain ⟨r, hr⟩ : ∃ r, r = markT k := ⟨_, rfl⟩
  rw [← hr]
  have htab := tab
  refine PCtr.walk tab hΩ fn_laws_markText rfl ?_
  generalize PP = P at *
  cbv
  refine br (fun h => ?_) (fun h => ?_)
  · replace h : r = [109, 48] := by rw [hr, markT, if_pos (leI_t hΩ h)]
    cbv
    exact .of (congrArg str h.symm)
  obtain ⟨n, hn, hrn, hnb⟩ : ∃ n : Nat, k = Ω.int n ∧ r = 109 :: mkL n [] ∧ n ≤ 1152921504606846976 := by
    have h := leI_f hΩ h
    refine ⟨k.toNat, ?_, by rw [hr, markT, if_neg (by omega)], by omega⟩
    subst hΩ
    exact (Int.toNat_of_nonneg (by omega)).symm
  subst hn
  cbv
  refine loopX htab hΩ (fun i : Nat × List UInt8 => ⟨[(0, .sc (.int .i64 (Ω.int i.1))), (3, .sc (.string (mkS i.2)))], 20, []⟩) (fun i => i.1 + i.2.length ≤ 1152921504606846976 ∧ r = 109 :: mkL i.1 i.2) (fun i => i.1) (n, []) ⟨by simpa using hnb, hrn⟩
    (Sbs.mk rfl rfl ⟨rfl, rfl, trivial⟩) ?_
  rintro ⟨m, out⟩ ⟨hm, he⟩
  dsimp only at hm he
  cbv
  refine br (fun h => ?_) (fun h => ?_)
  · have hm0 : m ≠ 0 := by subst hΩ; have h : (0 : Int) < (m : Int) := gt_t h; omega
    rw [mkL, if_neg hm0] at he
    obtain ⟨b, hb⟩ : ∃ b, b = UInt8.ofNat (48 + m % 10) := ⟨_, rfl⟩
    rw [← hb] at he
    have hb2 : Ω.wrap .u8 (Ω.ar .add .i64 48 (Ω.ar .rem .i64 (Ω.int m) 10)) = (b.toNat : Int) := by subst hΩ; rw [hb]; exact mark_byte m
    have hq : i64 (Ω.ar .quo .i64 (Ω.int m) 10) = i64 (Ω.int (m / 10)) := by
      subst hΩ
      show i64 (IntKind.i64.wrap ((m : Int).tdiv 10)) = i64 ((m / 10 : Nat) : Int)
      rw [show (m : Int).tdiv 10 = ((m / 10 : Nat) : Int) by rw [Int.tdiv_eq_ediv_of_nonneg (by omega)]; omega, wrap64 (by omega) (by omega)]
    have hm2 : m / 10 + (b :: out).length ≤ 1152921504606846976 := by simp only [List.length_cons]; omega
    have hm3 : m / 10 < m := by omega
    have hl : (([b] : List UInt8).length + out.length : Nat) ≤ 9223372036854775807 := by simp only [List.length_singleton]; omega
    have hl2 : ((([b] : List UInt8).length + out.length : Nat) : Int) ≤ 9223372036854775807 := by omega
    cbv
    refine ⟨⟨by decide⟩, [b], ⟨Nat.le_refl 1, congrArg (fun v => [A.sc (.int .u8 v)]) hb2⟩, ?_⟩
    cbv
    refine ⟨⟨hl2⟩, ⟨by decide⟩, (m / 10, b :: out), ⟨hm2, he⟩, hm3, Sbs.mkL (rows := []) rfl rfl rfl ⟨hq, ?_, trivial⟩⟩
    subst hΩ; rfl
  · have hm0 : m = 0 := by subst hΩ; have h : (m : Int) ≤ 0 := gt_f h; omega
    rw [mkL, if_pos hm0] at he
    have hl2 : ((([109] : List UInt8).length + out.length : Nat) : Int) ≤ 9223372036854775807 := by simp only [List.length_singleton]; omega
    cbv
    refine ⟨⟨hl2⟩, .of ?_⟩
    rw [he]; subst hΩ; rfl
end Go.Proofs.Ytdngjnjapihbkaa

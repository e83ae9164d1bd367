/- Walks: held marks are told. Plain theorems. -/
import Derived.Test.YtknkllffikfmdaaWc4
set_option linter.unusedVariables false
set_option linter.unusedSimpArgs false
namespace Go.Proofs.Ytknkllffikfmdaa
open Go Go.Fw
set_option maxRecDepth 100000
theorem neSame {Ω : Opq} (hΩ : Ω = std) {x y : Int} (h : Ω.cmp .neq x y = true) (e : x = y) : False := by subst hΩ; exact ne_t h e
theorem sneSame {Ω : Opq} (hΩ : Ω = std) {x y : List UInt8} (h : Ω.cmpS .neq x y = true) (e : x = y) : False := by subst hΩ; exact sne_t h e
theorem c_heldChangeS (n : Nat) (k : Int) (h0 : 0 ≤ k) (h1 : k ≤ 1099511627776) (hb : n ≤ 1048576) :
    PCtr PP n_laws_heldChangeS [.sl false 8 ((marksC k n).map Chg.enc), i64 k] (i64 (k + 8 * n)) := by
  obtain ⟨Ω, hΩ⟩ : ∃ Ω, Ω = std := ⟨_, rfl⟩
  obtain ⟨ms, hms⟩ : ∃ ms, ms = marksC k n := ⟨_, rfl⟩
  have hml : ms.length = n := by rw [hms, marksC_length]
  obtain ⟨xs, hxs⟩ : ∃ xs, xs = ms.map Chg.enc := ⟨_, rfl⟩
  have hlen : xs.length = n := by rw [hxs, List.length_map, hml]
  obtain ⟨kf, hk0, hkm, hkn, hkb⟩ : ∃ kf : Nat → Int, kf 0 = k ∧
      (∀ i, i < n → ∃ c, ms[i]? = some c ∧ c.k = kf i ∧ c.n = markT (inc (kf i)) ∧ c.o.a = inc (inc (kf i)) ∧ c.o.b = inc (inc (inc (kf i))) ∧ c.o.c = inc (inc (inc (inc (kf i)))) ∧ c.w.a = inc (inc (inc (inc (inc (kf i))))) ∧
        c.w.b = inc (inc (inc (inc (inc (inc (kf i)))))) ∧ c.w.c = inc (inc (inc (inc (inc (inc (inc (kf i))))))) ∧
        inc (inc (inc (inc (inc (inc (inc (inc (kf i)))))))) = kf (i + 1)) ∧ kf n = k + 8 * n ∧ ∀ i, i < n → inc (kf i) ≤ 1152921504606846976 := by
    refine ⟨fun i => k + 8 * i, by simp, fun i hi => ?_, rfl, fun i hi => ?_⟩
    · have h := mark_inc (k := k + 8 * i) (by omega) (by omega)
      refine ⟨_, by rw [hms]; exact marksC_at hi, ?_⟩
      rw [h.1]
      exact ⟨rfl, rfl, rfl, rfl, rfl, rfl, rfl, rfl, by simp only; rw [h.2]; omega⟩
    · simp only; rw [inc_eq (by omega) (by omega)]; omega
  rw [← hms, ← hxs, ← hkn]
  have hc := c_markText
  have htab := tab
  have hmo := hmo
  refine PCtr.walk tab hΩ fn_laws_heldChangeS rfl ?_
  generalize PP = P at *
  cbv
  refine loopX htab hΩ (fun i : Nat => ⟨[(0, .sl false 8 xs), (1, .sc (.int .i64 (kf i))), (5, .sc (.int .i64 (Ω.int i)))], 92, []⟩) (fun i => i ≤ n) (fun i => n - i) 0 (Nat.zero_le _)
    (Sbs.mk rfl rfl ⟨rfl, congrArg i64 hk0.symm, zeroI hΩ, trivial⟩) (fun i hi => ?_)
  cbv
  refine br (fun h => ?_) (fun h => ?_)
  · replace h : i < n := by have := ltI hΩ h; omega
    obtain ⟨c, hcc, e0, e1, e2, e3, e4, e5, e6, e7, e8⟩ := hkm i h
    cbv
    refine ⟨⟨nnI hΩ⟩, _, rdI hΩ hxs hcc, ?_⟩
    cbv
    refine br (fun h => (neSame hΩ h (by subst hΩ; exact e0)).elim) (fun h => ?_)
    cbv
    refine ⟨VC_drawn htab hΩ hmo (by kernel_rfl) ?_⟩
    cbv
    refine ⟨⟨nnI hΩ⟩, _, rdI hΩ hxs hcc, ?_⟩
    cbv
    refine QCall_pure (k := 3) (hc (Ω.ar .add .i64 (kf i) 1) (by subst hΩ; exact hkb i (by assumption))) rfl (fits _) rfl ?_
    generalize hmt : markT (Ω.ar .add .i64 (kf i) 1) = mt
    cbv
    refine br (fun h => (sneSame hΩ h (by subst hΩ; rw [← hmt]; exact e1)).elim) (fun h => ?_)
    cbv
    refine ⟨⟨nnI hΩ⟩, _, rdI hΩ hxs hcc, ?_⟩
    cbv
    refine br (fun h => (neSame hΩ h (by subst hΩ; exact e2)).elim) (fun h => ?_)
    cbv
    refine ⟨⟨nnI hΩ⟩, _, rdI hΩ hxs hcc, ?_⟩
    cbv
    refine br (fun h => (neSame hΩ h (by subst hΩ; exact e3)).elim) (fun h => ?_)
    cbv
    refine ⟨⟨nnI hΩ⟩, _, rdI hΩ hxs hcc, ?_⟩
    cbv
    refine br (fun h => (neSame hΩ h (by subst hΩ; exact e4)).elim) (fun h => ?_)
    cbv
    refine ⟨⟨nnI hΩ⟩, _, rdI hΩ hxs hcc, ?_⟩
    cbv
    refine br (fun h => (neSame hΩ h (by subst hΩ; exact e5)).elim) (fun h => ?_)
    cbv
    refine ⟨⟨nnI hΩ⟩, _, rdI hΩ hxs hcc, ?_⟩
    cbv
    refine br (fun h => (neSame hΩ h (by subst hΩ; exact e6)).elim) (fun h => ?_)
    cbv
    refine ⟨⟨nnI hΩ⟩, _, rdI hΩ hxs hcc, ?_⟩
    cbv
    refine br (fun h => (neSame hΩ h (by subst hΩ; exact e7)).elim) (fun h => ?_)
    cbv
    exact ⟨i + 1, by omega, by omega, Sbs.mk rfl rfl ⟨rfl, by subst hΩ; exact congrArg i64 e8, incI hΩ (by omega), trivial⟩⟩
  · replace h : i = n := by have := geI hΩ h; omega
    subst h
    cbv
    exact .same
end Go.Proofs.Ytknkllffikfmdaa

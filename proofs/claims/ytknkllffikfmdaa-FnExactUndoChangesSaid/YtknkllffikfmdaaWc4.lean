/- Walks: changes are marked, and held marks are told. Plain theorems. -/
import Derived.Test.YtknkllffikfmdaaWc3
import Derived.Test.YtknkllffikfmdaaWm
set_option linter.unusedVariables false
set_option linter.unusedSimpArgs false
namespace Go.Proofs.Ytknkllffikfmdaa
open Go Go.Fw
set_option maxRecDepth 100000
/-- The marks from k on. -/
def Chg.mark (k : Int) : Chg := ⟨k, markT (k + 1), ⟨k + 2, k + 3, k + 4⟩, ⟨k + 5, k + 6, k + 7⟩⟩
def marksC (k : Int) (n : Nat) : List Chg := (List.range n).map fun i : Nat => Chg.mark (k + 8 * i)
theorem mark_inc {k : Int} (h0 : 0 ≤ k) (h1 : k ≤ 2199023255552) :
    Chg.mark k = ⟨k, markT (inc k), ⟨inc (inc k), inc (inc (inc k)), inc (inc (inc (inc k)))⟩, ⟨inc (inc (inc (inc (inc k)))), inc (inc (inc (inc (inc (inc k))))), inc (inc (inc (inc (inc (inc (inc k))))))⟩⟩ ∧
    inc (inc (inc (inc (inc (inc (inc (inc k))))))) = k + 8 := by
  have e1 := inc_eq h0 (by omega)
  have e2 := inc_eq (x := k + 1) (by omega) (by omega)
  have e3 := inc_eq (x := k + 1 + 1) (by omega) (by omega)
  have e4 := inc_eq (x := k + 1 + 1 + 1) (by omega) (by omega)
  have e5 := inc_eq (x := k + 1 + 1 + 1 + 1) (by omega) (by omega)
  have e6 := inc_eq (x := k + 1 + 1 + 1 + 1 + 1) (by omega) (by omega)
  have e7 := inc_eq (x := k + 1 + 1 + 1 + 1 + 1 + 1) (by omega) (by omega)
  have e8 := inc_eq (x := k + 1 + 1 + 1 + 1 + 1 + 1 + 1) (by omega) (by omega)
  rw [e1, e2, e3, e4, e5, e6, e7, e8]
  refine ⟨?_, by omega⟩
  simp only [Chg.mark, Chg.mk.injEq, Ver.mk.injEq, true_and]
  refine ⟨⟨?_, ?_, ?_⟩, ?_, ?_, ?_⟩ <;> omega
theorem marksC_at {k : Int} {n i : Nat} (h : i < n) : (marksC k n)[i]? = some (Chg.mark (k + 8 * i)) := by
  unfold marksC
  rw [List.getElem?_map, List.getElem?_range h]; rfl
theorem marksC_length (k : Int) (n : Nat) : (marksC k n).length = n := by simp [marksC]
/-- The first i ones are marked. -/
def half (cs ms : List Chg) (i : Nat) : List A := (ms.take i).map Chg.enc ++ (cs.drop i).map Chg.enc
theorem half_set {cs ms : List Chg} {i : Nat} {m : Chg} (hl : ms.length = cs.length) (h : ms[i]? = some m) : (half cs ms i).set i m.enc = half cs ms (i + 1) := by
  have hi := (List.getElem?_eq_some_iff.1 h).1
  unfold half
  rw [List.take_add_one, h, List.map_append, List.set_append]
  have e : cs.drop i = cs[i] :: cs.drop (i + 1) := List.drop_eq_getElem_cons (by omega)
  rw [e]
  simp only [List.map_cons, List.length_map, List.length_take, Nat.min_eq_left (Nat.le_of_lt hi), Nat.lt_irrefl, if_false, Nat.sub_self, List.set_cons_zero]
  simp
theorem half_at {cs ms : List Chg} {i : Nat} {c : Chg} (hl : ms.length = cs.length) (h : cs[i]? = some c) : (half cs ms i)[i]? = some c.enc := by
  have hi := (List.getElem?_eq_some_iff.1 h).1
  unfold half
  rw [List.getElem?_append_right (by simp; omega)]
  simp [Nat.min_eq_left (by omega : i ≤ ms.length), h]
theorem half_length {cs ms : List Chg} {i : Nat} (hl : ms.length = cs.length) (hi : i ≤ cs.length) : (half cs ms i).length = cs.length := by simp [half]; omega
theorem c_markChangeS (cs : List Chg) (k : Int) (h0 : 0 ≤ k) (h1 : k ≤ 1099511627776) (hb : cs.length ≤ 1048576) :
    MCtr PP n_laws_markChangeS [.sl true 8 (cs.map Chg.enc), i64 k] (i64 (k + 8 * cs.length)) [.sl true 8 ((marksC k cs.length).map Chg.enc), i64 k] := by
  obtain ⟨Ω, hΩ⟩ : ∃ Ω, Ω = std := ⟨_, rfl⟩
  obtain ⟨n, hn⟩ : ∃ n, n = cs.length := ⟨_, rfl⟩
  obtain ⟨ms, hms⟩ : ∃ ms, ms = marksC k n := ⟨_, rfl⟩
  have hml : ms.length = cs.length := by rw [hms, marksC_length, hn]
  obtain ⟨ys, hys⟩ : ∃ ys, ys = half cs ms := ⟨_, rfl⟩
  have hyl : ∀ i, i ≤ n → (ys i).length = n := fun i hi => by rw [hys, hn]; exact half_length hml (by omega)
  obtain ⟨xs, hxs⟩ : ∃ xs, xs = cs.map Chg.enc := ⟨_, rfl⟩
  have hlen : xs.length = n := by rw [hxs, hn, List.length_map]
  have hx0 : xs = ys 0 := by rw [hxs, hys]; rfl
  obtain ⟨kf, hk0, hkm, hkn, hkb⟩ : ∃ kf : Nat → Int, kf 0 = k ∧
      (∀ i, i < n → ms[i]? = some ⟨kf i, markT (inc (kf i)), ⟨inc (inc (kf i)), inc (inc (inc (kf i))), inc (inc (inc (inc (kf i))))⟩, ⟨inc (inc (inc (inc (inc (kf i))))), inc (inc (inc (inc (inc (inc (kf i)))))), inc (inc (inc (inc (inc (inc (inc (kf i)))))))⟩⟩ ∧
        inc (inc (inc (inc (inc (inc (inc (inc (kf i)))))))) = kf (i + 1)) ∧ kf n = k + 8 * cs.length ∧ ∀ i, i < n → inc (kf i) ≤ 1152921504606846976 := by
    refine ⟨fun i => k + 8 * i, by simp, fun i hi => ?_, by simp only; rw [hn], fun i hi => ?_⟩
    · have h := mark_inc (k := k + 8 * i) (by omega) (by omega)
      simp only
      rw [hms, marksC_at hi, ← h.1, h.2]
      exact ⟨rfl, by omega⟩
    · simp only; rw [inc_eq (by omega) (by omega)]; omega
  rw [← hxs, ← hn, ← hms]
  rw [← hn] at hkn
  rw [← hkn]
  obtain ⟨zs, hzs⟩ : ∃ zs, zs = ms.map Chg.enc := ⟨_, rfl⟩
  rw [← hzs]
  have hzn : zs = ys n := by rw [hzs, hys, half, hn, ← hml, List.take_length, hml, List.drop_length]; simp
  have hc := c_markText
  have htab := tab
  have hinc : ∀ x, i64 (Ω.ar .add .i64 x 1) = i64 (inc x) := fun x => by subst hΩ; rfl
  refine MCtr.walkO tab hΩ 3 fn_laws_markChangeS rfl rfl rfl ?_
  have hlo : Ω.len xs = n := by subst hΩ; exact hlen
  generalize PP = P at *
  cbv
  refine loopX htab hΩ (fun i : Nat => ⟨[(0, .vw 0 0 n), (1, .sc (.int .i64 (kf i))), (5, .sc (.int .i64 (Ω.int i))), (76, .vw 0 0 n), (77, .sc (.int .i64 k))], 76, [some ⟨8, ys i, false⟩]⟩) (fun i => i ≤ n) (fun i => n - i) 0 (Nat.zero_le _)
    (Sbs.mk rfl (by rw [← hx0]) ⟨congrArg (A.vw 0 0) hlo, congrArg i64 hk0.symm, zeroI hΩ, congrArg (A.vw 0 0) hlo, rfl, trivial⟩) (fun i hi => ?_)
  cbv
  refine br (fun h => ?_) (fun h => ?_)
  · replace h := ltN hΩ h
    have hi1 := hyl i hi
    have hlt : i < (ys i).length := by omega
    obtain ⟨c, hcc⟩ := at_of (cs := cs) (by omega : i < _)
    have hyc : (ys i)[i]? = some c.enc := by rw [hys]; exact half_at hml hcc
    cbv
    refine ⟨⟨ixI hΩ h⟩, c.enc, atI hΩ hyc, ?_⟩
    cbv
    refine ⟨CallOK_pure (k := 3) (hc (Ω.ar .add .i64 (kf i) 1) (by subst hΩ; exact hkb i h)) rfl (fits _) rfl rfl ?_⟩
    generalize hmt : markT (Ω.ar .add .i64 (kf i) 1) = mt
    cbv
    refine ⟨⟨ixI hΩ h⟩, _, setI hΩ hlt, ?_⟩
    cbv
    refine ⟨⟨ixI hΩ h⟩, _, setI hΩ (setI_lt hΩ hlt), ?_⟩
    cbv
    refine ⟨⟨ixI hΩ h⟩, _, setI hΩ (setI_lt hΩ (setI_lt hΩ hlt)), ?_⟩
    cbv
    refine ⟨⟨ixI hΩ h⟩, _, setI hΩ (setI_lt hΩ (setI_lt hΩ (setI_lt hΩ hlt))), ?_⟩
    cbv
    refine ⟨⟨ixI hΩ h⟩, _, setI hΩ (setI_lt hΩ (setI_lt hΩ (setI_lt hΩ (setI_lt hΩ hlt)))), ?_⟩
    cbv
    refine ⟨⟨ixI hΩ h⟩, _, setI hΩ (setI_lt hΩ (setI_lt hΩ (setI_lt hΩ (setI_lt hΩ (setI_lt hΩ hlt))))), ?_⟩
    cbv
    refine ⟨⟨ixI hΩ h⟩, _, setI hΩ (setI_lt hΩ (setI_lt hΩ (setI_lt hΩ (setI_lt hΩ (setI_lt hΩ (setI_lt hΩ hlt)))))), ?_⟩
    cbv
    refine ⟨i + 1, by omega, by omega, Sbs.mk rfl ?_ ⟨rfl, by subst hΩ; exact congrArg i64 (hkm i h).2, incI hΩ (by omega), rfl, rfl, trivial⟩⟩
    have hset := half_set hml (hkm i h).1
    rw [← hys] at hset
    rw [← hset]
    subst hΩ
    subst hmt
    simp only [std, Int.toNat_natCast, Nat.zero_add, List.set_set]
    rfl
  · replace h : i = n := by have := geN hΩ h; omega
    subst h
    cbv
    refine ⟨⟨rfl, (hyl i hi).symm⟩, .same, .of ?_⟩
    rw [hzn]
end Go.Proofs.Ytknkllffikfmdaa

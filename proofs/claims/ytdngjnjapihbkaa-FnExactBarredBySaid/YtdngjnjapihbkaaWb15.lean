/- Walks: numbers are marked and held. Plain theorems. -/
import Derived.Test.YtdngjnjapihbkaaWb14
set_option linter.unusedVariables false
set_option linter.unusedSimpArgs false
namespace Go.Proofs.Ytdngjnjapihbkaa
open Go Go.Fw
set_option maxRecDepth 100000
theorem neSame {Ω : Opq} (hΩ : Ω = std) {x y : Int} (h : Ω.cmp .neq x y = true) (e : x = y) : False := by subst hΩ; exact ne_t h e
theorem mutVw {S : State} {r len n : Nat} {ys zs : List A} (hr : Fw.rowAt S.rows r = some ⟨n, ys, false⟩) (hl : len = ys.length) (hl' : zs.length = ys.length) : Mut S (.vw r 0 len) (.sl true n ys) (.sl true n zs) [(r, zs)] := .row hr rfl hl hl'
theorem rdJ {Ω : Opq} (hΩ : Ω = std) {i : Nat} {xs : List A} {z : A} (h : xs[i]? = some z) : xs[(Ω.int i).toNat]? = some z := by subst hΩ; exact h
theorem takeI {Ω : Opq} (hΩ : Ω = std) {i : Nat} {xs : List A} (h : xs.length = i) : Ω.take i xs = xs := by subst hΩ; subst h; exact List.take_length
/-- The marks from k on. -/
def marksI (k : Int) (n : Nat) : List A := (List.range n).map fun i : Nat => i64 (k + i)
theorem marksI_at {k : Int} {n i : Nat} (h : i < n) : (marksI k n)[i]? = some (i64 (k + i)) := by
  unfold marksI
  rw [List.getElem?_map, List.getElem?_range h]; rfl
theorem marksI_length (k : Int) (n : Nat) : (marksI k n).length = n := by simp [marksI]
theorem marksI_frz (k : Int) (n : Nat) : (marksI k n).map frz = marksI k n := by
  unfold marksI
  rw [List.map_map]; exact List.map_congr_left fun c _ => rfl
theorem marksI_na (k : Int) (n : Nat) : ∀ y ∈ marksI k n, vStore.isAggA y = false := fun y hy => by
  obtain ⟨c, _, rfl⟩ := List.mem_map.1 hy; rfl
/-- The first i ones are marked. -/
def halfA (ms xs : List A) (i : Nat) : List A := ms.take i ++ xs.drop i
theorem halfA_set {ms xs : List A} {i : Nat} {m : A} (hl : ms.length = xs.length) (h : ms[i]? = some m) : (halfA ms xs i).set i m = halfA ms xs (i + 1) := by
  have hi := (List.getElem?_eq_some_iff.1 h).1
  unfold halfA
  rw [List.take_add_one, h, List.set_append]
  have e : xs.drop i = xs[i] :: xs.drop (i + 1) := List.drop_eq_getElem_cons (by omega)
  rw [e]
  simp only [List.length_take, Nat.min_eq_left (Nat.le_of_lt hi), Nat.lt_irrefl, if_false, Nat.sub_self, List.set_cons_zero]
  simp
theorem halfA_length {ms xs : List A} {i : Nat} (hl : ms.length = xs.length) (hi : i ≤ xs.length) : (halfA ms xs i).length = xs.length := by simp [halfA]; omega
theorem halfA_na {ms xs : List A} {i : Nat} (h1 : ∀ y ∈ ms, vStore.isAggA y = false) (h2 : ∀ y ∈ xs, vStore.isAggA y = false) : ∀ y ∈ halfA ms xs i, vStore.isAggA y = false := fun y hy => by
  rcases List.mem_append.1 hy with h | h
  · exact h1 y (List.mem_of_mem_take h)
  · exact h2 y (List.mem_of_mem_drop h)
theorem c_markInt64S (cs : List Int) (k : Int) (h0 : 0 ≤ k) (h1 : k ≤ 2199023255552) (hb : cs.length ≤ 1048576) :
    MCtr PP n_laws_markInt64S [.sl true 1 (cs.map i64), i64 k] (i64 (k + cs.length)) [.sl true 1 (marksI k cs.length), i64 k] := by
  obtain ⟨Ω, hΩ⟩ : ∃ Ω, Ω = std := ⟨_, rfl⟩
  obtain ⟨n, hn⟩ : ∃ n, n = cs.length := ⟨_, rfl⟩
  obtain ⟨ms, hms⟩ : ∃ ms, ms = marksI k n := ⟨_, rfl⟩
  obtain ⟨xs, hxs⟩ : ∃ xs, xs = cs.map i64 := ⟨_, rfl⟩
  have hlen : xs.length = n := by rw [hxs, hn, List.length_map]
  have hml : ms.length = xs.length := by rw [hms, marksI_length, hlen]
  obtain ⟨ys, hys⟩ : ∃ ys, ys = halfA ms xs := ⟨_, rfl⟩
  have hyl : ∀ i, i ≤ n → (ys i).length = n := fun i hi => by rw [hys, halfA_length hml (by omega)]; exact hlen
  have hyn : ∀ i, ∀ y ∈ ys i, vStore.isAggA y = false := fun i => by rw [hys, hms, hxs]; exact halfA_na (marksI_na _ _) fun y hy => by obtain ⟨c, _, rfl⟩ := List.mem_map.1 hy; rfl
  have hx0 : xs = ys 0 := by rw [hys]; rfl
  obtain ⟨kf, hk0, hkn, hkb, hks, hkm⟩ : ∃ kf : Nat → Int, kf 0 = k ∧ kf n = k + n ∧ (∀ i, i ≤ n → 0 ≤ kf i ∧ kf i ≤ 2199024304128) ∧ (∀ i, kf (i + 1) = kf i + 1) ∧ (∀ i, i < n → ms[i]? = some (i64 (kf i))) :=
    ⟨fun i => k + i, by simp, rfl, fun i hi => by simp only; omega, fun i => by simp only; omega, fun i hi => by rw [hms]; exact marksI_at hi⟩
  have hset : ∀ i, i < n → (ys i).set i (i64 (kf i)) = ys (i + 1) := fun i hi => by rw [hys]; exact halfA_set hml (hkm i hi)
  have hzn : ms = ys n := by rw [hys, halfA, ← hlen, ← hml, List.take_length, hml, List.drop_length, List.append_nil]
  clear hkm hys
  rw [← hxs, ← hn, ← hms, hzn, ← hkn]
  have htab := tab
  refine MCtr.walkO tab hΩ 3 fn_laws_markInt64S rfl rfl rfl ?_
  have hlo : Ω.len xs = n := by subst hΩ; exact hlen
  generalize PP = P at *
  cbv
  refine loopX htab hΩ (fun i : Nat => ⟨[(0, .vw 0 0 n), (1, .sc (.int .i64 (kf i))), (5, .sc (.int .i64 (Ω.int i))), (19, .vw 0 0 n), (20, .sc (.int .i64 k))], 19, [some ⟨1, ys i, false⟩]⟩) (fun i => i ≤ n) (fun i => n - i) 0 (Nat.zero_le _)
    (Sbs.mk rfl (by rw [← hx0]) ⟨congrArg (A.vw 0 0) hlo, congrArg i64 hk0.symm, zeroI hΩ, congrArg (A.vw 0 0) hlo, rfl, trivial⟩) (fun i hi => ?_)
  have hyli := hyl i hi
  have hyni := hyn i
  have hkbi := hkb i hi
  have hse := hset i
  have hks1 := hks i
  cbv
  refine br (fun h => ?_) (fun h => ?_) <;> cbv
  · replace h : i < n := by have := ltN hΩ h; omega
    refine ⟨⟨ixI hΩ h⟩, ⟨by subst hΩ; show 0 + i < (ys i).length; omega, hyni⟩, i + 1, by omega, by omega, Sbs.mk rfl ?_ ⟨rfl, congrArg i64 ((addV hΩ hkbi.1 (by omega)).trans hks1.symm), incI hΩ (by omega), rfl, rfl, trivial⟩⟩
    rw [← hse h]
    subst hΩ
    show [some (Row.mk 1 ((ys i).set (0 + i) _) false)] = _
    rw [Nat.zero_add]
    rfl
  · replace h : i = n := by have := geN hΩ h; omega
    subst h
    exact ⟨⟨rfl, Nat.le_of_eq (hyl i hi).symm⟩, .same, .of (congrArg (fun z => [A.sl true 1 z, i64 k]) (takeI hΩ (hyl i hi)))⟩
theorem c_markSetResult (a b : Int) (cs : List Int) (k : Int) (h0 : 0 ≤ k) (h1 : k ≤ 2199023255552) (hb : cs.length ≤ 1048576) :
    MCtr PP n_laws_markSetResult [.agg [i64 a, i64 b, .sl true 1 (cs.map i64)], i64 k] (i64 (k + cs.length)) [.agg [i64 a, i64 b, .sl true 1 (marksI k cs.length)], i64 k] := by
  obtain ⟨Ω, hΩ⟩ : ∃ Ω, Ω = std := ⟨_, rfl⟩
  have h := c_markInt64S cs k h0 h1 hb
  have hml : (marksI k cs.length).length = (cs.map i64).length := by rw [marksI_length, List.length_map]
  generalize marksI k cs.length = ms at *
  generalize cs.map i64 = xs at *
  generalize k + (cs.length : Int) = kk at *
  have hl : Ω.len xs = xs.length := by subst hΩ; rfl
  have hlm : Ω.len xs = ms.length := by omega
  have htab := tab
  refine MCtr.walkO tab hΩ 3 fn_laws_markSetResult rfl rfl rfl ?_
  generalize PP = P at *
  cbv
  refine call_mut hΩ 3 (l := [(0, ms)] ++ ([] ++ [])) h (.cons (mutVw rfl hl hml) (.cons (.data rfl rfl) .nil)) (by simp) rfl ?_
  cbv
  exact ⟨⟨rfl, Nat.le_of_eq hlm⟩, .same, .of (congrArg (fun z => [A.agg [i64 a, i64 b, A.sl true 1 z], i64 k]) (takeI hΩ hlm.symm))⟩
theorem c_heldInt64S (n : Nat) (k : Int) (h0 : 0 ≤ k) (h1 : k ≤ 2199023255552) (hb : n ≤ 1048576) :
    PCtr PP n_laws_heldInt64S [.sl false 1 (marksI k n), i64 k] (i64 (k + n)) := by
  obtain ⟨Ω, hΩ⟩ : ∃ Ω, Ω = std := ⟨_, rfl⟩
  obtain ⟨ms, hms⟩ : ∃ ms, ms = marksI k n := ⟨_, rfl⟩
  have hml : ms.length = n := by rw [hms, marksI_length]
  obtain ⟨kf, hk0, hkn, hkb, hks, hkm⟩ : ∃ kf : Nat → Int, kf 0 = k ∧ kf n = k + n ∧ (∀ i, i ≤ n → 0 ≤ kf i ∧ kf i ≤ 2199024304128) ∧ (∀ i, kf (i + 1) = kf i + 1) ∧ (∀ i, i < n → ms[i]? = some (i64 (kf i))) :=
    ⟨fun i => k + i, by simp, rfl, fun i hi => by simp only; omega, fun i => by simp only; omega, fun i hi => by rw [hms]; exact marksI_at hi⟩
  rw [← hms, ← hkn]
  have htab := tab
  have hmo := hmo
  refine PCtr.walk tab hΩ fn_laws_heldInt64S rfl ?_
  generalize PP = P at *
  cbv
  refine loopX htab hΩ (fun i : Nat => ⟨[(0, .sl false 1 ms), (1, .sc (.int .i64 (kf i))), (5, .sc (.int .i64 (Ω.int i)))], 21, []⟩) (fun i => i ≤ n) (fun i => n - i) 0 (Nat.zero_le _)
    (Sbs.mk rfl rfl ⟨rfl, congrArg i64 hk0.symm, zeroI hΩ, trivial⟩) (fun i hi => ?_)
  have hkbi := hkb i hi
  have hks1 := hks i
  have hat := hkm i
  cbv
  refine br (fun h => ?_) (fun h => ?_) <;> cbv
  · replace h : i < n := by have := ltI hΩ h; omega
    refine ⟨⟨nnI hΩ⟩, _, rdJ hΩ (hat h), ?_⟩
    cbv
    refine br (fun h => (neSame hΩ h rfl).elim) (fun h => ?_)
    cbv
    exact ⟨i + 1, by omega, by omega, Sbs.mk rfl rfl ⟨rfl, congrArg i64 ((addV hΩ hkbi.1 (by omega)).trans hks1.symm), incI hΩ (by omega), trivial⟩⟩
  · replace h : i = n := by have := geI hΩ h; omega
    subst h
    exact .same
theorem c_heldSetResult (a b : Int) (n : Nat) (k : Int) (h0 : 0 ≤ k) (h1 : k ≤ 2199023255552) (hb : n ≤ 1048576) :
    PCtr PP n_laws_heldSetResult [.agg [i64 a, i64 b, .sl false 1 (marksI k n)], i64 k] (i64 (k + n)) := by
  obtain ⟨Ω, hΩ⟩ : ∃ Ω, Ω = std := ⟨_, rfl⟩
  have h := c_heldInt64S n k h0 h1 hb
  generalize marksI k n = ms at *
  obtain ⟨kk, hkk, hk0⟩ : ∃ kk : Int, kk = k + n ∧ 0 ≤ kk := ⟨_, rfl, by omega⟩
  rw [← hkk] at h ⊢
  clear hkk
  have htab := tab
  have hmo := hmo
  refine PCtr.walk tab hΩ fn_laws_heldSetResult rfl ?_
  generalize PP = P at *
  cbv
  refine call_pure hΩ 3 h rfl (fits _) rfl rfl ?_
  cbv
  refine br (fun h => absurd (ltI_t hΩ h) (Int.not_lt.2 hk0)) (fun h => ?_)
  cbv
  exact .same
end Go.Proofs.Ytdngjnjapihbkaa

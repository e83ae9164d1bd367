/- Walks: what can be spared. Plain theorems. -/
import Derived.Test.YtfmcncflooechaaGreatC4
import Derived.Deep.Slices
import Derived.ChangeStays
import Derived.OpenShut
import Derived.WalkKit
import Derived.ProofKit
set_option linter.unusedVariables false
set_option linter.unusedSimpArgs false
namespace Go.Proofs.YtfmcncflooechaaGreat
open Go Go.Fw
set_option maxRecDepth 100000
theorem rise_adj {s : List Int} : ∀ (n i : Nat), s.length - i = n → riseAll s i (s.drop i) = true → ∀ j x y, i ≤ j → 1 ≤ j → s[j - 1]? = some x → s[j]? = some y → x < y
  | 0, i, hn, _, j, x, y, hij, _, _, hy => by
    have := (List.getElem?_eq_some_iff.1 hy).1
    omega
  | n + 1, i, hn, h, j, x, y, hij, h1, hx, hy => by
    have hi : i < s.length := by omega
    rw [riseAll_at (List.getElem?_eq_getElem hi), Bool.and_eq_true] at h
    by_cases hji : j = i
    · subst hji
      have h2 := h.1
      rw [Bool.or_eq_true] at h2
      rcases h2 with h2 | h2
      · have : j = 0 := by simpa using h2
        omega
      · have h3 := of_decide_eq_true h2
        rw [List.getD_eq_getElem?_getD, hx] at h3
        rw [List.getElem?_eq_getElem hi] at hy
        cases hy
        exact h3
    · exact rise_adj n (i + 1) (by omega) h.2 j x y (by omega) h1 hx hy
theorem setF_rise {c : List Pck} {s : List Int} (h : setF c s = 0) : riseAll s 0 (s.drop 0) = true := by
  unfold setF at h
  split at h
  · rename_i h0; exact absurd h h0
  · split at h
    · rename_i h1
      rw [setOk_eq, Bool.and_eq_true] at h1
      exact h1.1
    · simp at h
theorem setF_lt {c : List Pck} {s : List Int} (h : setF c s = 0) : ∀ (d i : Nat) (x y : Int), s[i]? = some x → s[i + d + 1]? = some y → x < y
  | 0, i, x, y, hx, hy => rise_adj _ 0 rfl (setF_rise h) (i + 1) x y (by omega) (by omega) hx hy
  | d + 1, i, x, y, hx, hy => by
    have hlt := (List.getElem?_eq_some_iff.1 hy).1
    obtain ⟨z, hz⟩ : ∃ z, s[i + d + 1]? = some z := ⟨_, List.getElem?_eq_getElem (by omega)⟩
    have h1 := setF_lt h d i x z hx hz
    have h2 := rise_adj _ 0 rfl (setF_rise h) (i + (d + 1) + 1) z y (by omega) (by omega) hz hy
    omega
end Go.Proofs.YtfmcncflooechaaGreat

/- Walks: do all of a set's asks hold? Plain theorems. -/
set_option linter.unusedVariables false
set_option linter.unusedSimpArgs false
namespace Go.Proofs.YtfmcncflooechaaGreat
open Go Go.Fw
set_option maxRecDepth 100000
theorem setF_pw {c : List Pck} {s : List Int} (h : setF c s = 0) : s.Pairwise (· < ·) := by
  rw [List.pairwise_iff_getElem]
  intro i j hi hj hij
  exact setF_lt h (j - i - 1) i _ _ (List.getElem?_eq_getElem hi) (by rw [show i + (j - i - 1) + 1 = j by omega]; exact List.getElem?_eq_getElem hj)
end Go.Proofs.YtfmcncflooechaaGreat

/- What a change of a set keeps. Plain theorems, no program. -/
set_option linter.unusedVariables false
set_option linter.unusedSimpArgs false
namespace Go.Proofs.YtfmcncflooechaaGreat
open Go Go.Fw
theorem idxFrom_spec {α : Type} {p : α → Bool} : ∀ {l : List α} {i : Nat}, 0 ≤ idxFrom p i l → ∃ j o, l[j]? = some o ∧ p o = true ∧ idxFrom p i l = ((i + j : Nat) : Int)
  | [], i, h => by rw [idxFrom] at h; omega
  | x :: l, i, h => by
    rw [idxFrom] at h ⊢
    split
    · rename_i hp; exact ⟨0, x, rfl, hp, by simp⟩
    · rename_i hp
      rw [if_neg hp] at h
      obtain ⟨j, o, h1, h2, h3⟩ := idxFrom_spec h
      exact ⟨j + 1, o, by simpa using h1, h2, by rw [h3]; congr 1; omega⟩
theorem findF_spec {c : List Pck} {n : List UInt8} {v : Ver} (h : 0 ≤ findF c n v) : inB (findF c n v) 0 ((c.length : Int) - 1) = true ∧ (pk c (findF c n v)).n = n ∧ (pk c (findF c n v)).v = v := by
  obtain ⟨j, o, h1, h2, h3⟩ := idxFrom_spec h
  have hj := (List.getElem?_eq_some_iff.1 h1).1
  have e : findF c n v = (j : Int) := by unfold findF idx; rw [h3]; simp
  rw [e]
  have e2 : pk c (j : Int) = o := by
    unfold pk
    rw [List.getD_eq_getElem?_getD, Int.toNat_natCast, h1]; rfl
  rw [e2]
  unfold isP at h2
  simp only [Bool.and_eq_true, beq_iff_eq, decide_eq_true_eq] at h2
  refine ⟨?_, h2.1, h2.2⟩
  simp only [inB, Bool.and_eq_true, decide_eq_true_eq]; omega
/-- A set that is in order, of places, each name once. -/
structure Good (c : List Pck) (s : List Int) : Prop where
  lt : s.Pairwise (· < ·)
  at_ : ∀ k ∈ s, inB k 0 ((c.length : Int) - 1) = true
  nm : s.Pairwise fun a b => (pk c a).n ≠ (pk c b).n
theorem Good.le {c : List Pck} {s : List Int} (h : Good c s) : s.Pairwise (· ≤ ·) := h.lt.imp fun h => by omega
theorem len_bound {L : Int} : ∀ {s : List Int} {lo : Int}, s.Pairwise (· < ·) → (∀ k ∈ s, lo ≤ k ∧ k < L) → (s.length : Int) ≤ max 0 (L - lo)
  | [], lo, _, _ => by simp; omega
  | x :: s, lo, h, hk => by
    rw [List.pairwise_cons] at h
    have h1 := len_bound (lo := x + 1) h.2 fun k hk' => ⟨by have := h.1 k hk'; omega, (hk k (by simp [hk'])).2⟩
    have h2 := hk x (by simp)
    rw [List.length_cons]; omega
theorem Good.len {c : List Pck} {s : List Int} (h : Good c s) : s.length ≤ c.length := by
  have := len_bound (L := (c.length : Int)) (lo := 0) h.lt fun k hk => by
    have := h.at_ k hk
    simp only [inB, Bool.and_eq_true, decide_eq_true_eq] at this; omega
  omega
theorem nmF_no {c : List Pck} {n : List UInt8} : ∀ {s : List Int}, (∀ k ∈ s, 0 ≤ k) → nmF c n s < 0 → ∀ k ∈ s, (pk c k).n ≠ n
  | [], _, _, k, hk => by cases hk
  | x :: s, h0, h, k, hk => by
    rw [nmF] at h
    split at h
    · have := h0 x (by simp); omega
    · rename_i hx
      rcases List.mem_cons.1 hk with rfl | hk
      · intro e; exact hx (by simp [e])
      · exact nmF_no (fun k hk => h0 k (by simp [hk])) h k hk
theorem nmF_name {c : List Pck} {n : List UInt8} : ∀ {s : List Int}, 0 ≤ nmF c n s → (pk c (nmF c n s)).n = n
  | [], h => by rw [nmF] at h; omega
  | x :: s, h => by
    rw [nmF] at h ⊢
    split
    · rename_i hx; simpa using hx
    · rename_i hx; rw [if_neg hx] at h; exact nmF_name h
theorem put3_strict {v : Int} : ∀ {l : List Int}, l.Pairwise (· < ·) → v ∉ l → (put3 v l).Pairwise (· < ·)
  | [], _, _ => by simp [put3]
  | x :: l, h, hv => by
    rw [List.pairwise_cons] at h
    rw [put3]
    split
    · rename_i hlt
      rw [List.pairwise_cons, List.pairwise_cons]
      refine ⟨fun y hy => ?_, h⟩
      rcases List.mem_cons.1 hy with rfl | hy
      · exact hlt
      · have := h.1 y hy; omega
    · rename_i hlt
      rw [List.pairwise_cons]
      have hne : v ≠ x := fun e => hv (by simp [e])
      refine ⟨fun y hy => ?_, put3_strict h.2 fun hm => hv (by simp [hm])⟩
      rcases put3_mem hy with rfl | hy
      · omega
      · exact h.1 y hy
theorem pairwise_name {c : List Pck} : ∀ {s : List Int}, (s.Pairwise fun a b => (pk c a).n ≠ (pk c b).n) → ∀ {a b : Int}, a ∈ s → b ∈ s → a ≠ b → (pk c a).n ≠ (pk c b).n
  | [], _, _, _, ha, _, _ => by cases ha
  | x :: s, h, a, b, ha, hb, hne => by
    rw [List.pairwise_cons] at h
    rcases List.mem_cons.1 ha with rfl | ha'
    · rcases List.mem_cons.1 hb with rfl | hb'
      · exact absurd rfl hne
      · exact h.1 b hb'
    · rcases List.mem_cons.1 hb with rfl | hb'
      · exact (h.1 a ha').symm
      · exact pairwise_name h.2 ha' hb' hne
theorem Good.filter {c : List Pck} {s : List Int} (h : Good c s) (p : Int → Bool) : Good c (s.filter p) := ⟨h.lt.filter _, fun k hk => h.at_ k (List.mem_filter.1 hk).1, h.nm.filter _⟩
theorem Good.put {c : List Pck} {s : List Int} (h : Good c s) {v : Int} (hv : inB v 0 ((c.length : Int) - 1) = true) (hn : ∀ k ∈ s, (pk c k).n ≠ (pk c v).n) : Good c (put3 v s) := by
  have hnot : v ∉ s := fun hm => hn v hm rfl
  refine ⟨put3_strict h.lt hnot, fun k hk => ?_, ?_⟩
  · rcases put3_mem hk with rfl | hk
    · exact hv
    · exact h.at_ k hk
  · refine (put3_perm v s).symm.pairwise ?_ fun hab => Ne.symm hab
    rw [List.pairwise_cons]
    exact ⟨fun k hk => (hn k hk).symm, h.nm⟩
theorem newC_zero {c : List Pck} {s : List Int} {x : Chg} (h : newC c s x = 0) : inB x.k 1 3 = true ∧ (x.k = 1 ∨ (0 ≤ nmF c x.n s ∧ (pk c (nmF c x.n s)).v = x.o)) ∧ (x.k = 2 ∨ 0 ≤ findF c x.n x.w) ∧ (x.k = 1 → nmF c x.n s < 0) := by
  unfold newC at h
  split at h
  · cases h
  · rename_i h1
    split at h
    · cases h
    · rename_i h2
      split at h
      · cases h
      · rename_i h3
        refine ⟨by simpa using h1, ?_, by omega, by omega⟩
        by_cases hk : x.k = 1
        · exact .inl hk
        · refine .inr ⟨by omega, cmpV_zero.1 (by omega)⟩
theorem Good.new {c : List Pck} {s : List Int} {x : Chg} (hg : Good c s) (h : newC c s x = 0) : Good c (newS c s x) := by
  obtain ⟨h1, h2, h3, h4⟩ := newC_zero h
  have h0 : ∀ k ∈ s, 0 ≤ k := fun k hk => (pk_at (hg.at_ k hk)).1
  obtain ⟨a, ha⟩ : ∃ a, a = if x.k = 1 then s else s.filter fun k => !decide (k = nmF c x.n s) := ⟨_, rfl⟩
  have hga : Good c a := by rw [ha]; split <;> first | exact hg | exact hg.filter _
  have hna : ∀ k ∈ a, (pk c k).n ≠ x.n := by
    rw [ha]
    split
    · rename_i hk; exact nmF_no h0 (h4 hk)
    · rename_i hk
      intro k hk'
      obtain ⟨m1, m2⟩ := List.mem_filter.1 hk'
      have hnn := (h2.resolve_left hk).1
      have := pairwise_name hg.nm m1 (nmF_mem hnn) (by simpa using m2)
      rwa [nmF_name hnn] at this
  unfold newS
  dsimp only
  rw [← ha]
  split
  · exact hga
  · rename_i hk
    obtain ⟨f1, f2, f3⟩ := findF_spec (h3.resolve_left hk)
    exact hga.put f1 fun k hk => by rw [f2]; exact hna k hk
theorem twice_false {c : List Pck} {s : List Int} : ∀ (n i : Nat), s.length - i = n → twice c s i (s.drop i) = false → ∀ j k, i ≤ j → s[j]? = some k → twB c s j (pk c k).n = false
  | 0, i, hn, _, j, k, hij, hk => by have := (List.getElem?_eq_some_iff.1 hk).1; omega
  | n + 1, i, hn, h, j, k, hij, hk => by
    have hi : i < s.length := by omega
    rw [twice_at (List.getElem?_eq_getElem hi), Bool.or_eq_false_iff] at h
    by_cases e : j = i
    · subst e
      rw [List.getElem?_eq_getElem hi] at hk
      obtain rfl := Option.some.inj hk
      exact h.1
    · exact twice_false n (i + 1) (by omega) h.2 j k (by omega) hk
theorem twice_true {c : List Pck} {s : List Int} : ∀ (n i : Nat), s.length - i = n → (∀ j k, i ≤ j → s[j]? = some k → twB c s j (pk c k).n = false) → twice c s i (s.drop i) = false
  | 0, i, hn, _ => by rw [List.drop_of_length_le (by omega)]; rfl
  | n + 1, i, hn, h => by
    have hi : i < s.length := by omega
    rw [twice_at (List.getElem?_eq_getElem hi), Bool.or_eq_false_iff]
    exact ⟨h i _ (Nat.le_refl _) (List.getElem?_eq_getElem hi), twice_true n (i + 1) (by omega) fun j k hj => h j k (by omega)⟩
theorem twice_names {c : List Pck} {s : List Int} : twice c s 0 s = false ↔ s.Pairwise fun a b => (pk c a).n ≠ (pk c b).n := by
  have e : twice c s 0 s = twice c s 0 (s.drop 0) := by rw [List.drop_zero]
  rw [e]
  constructor
  · intro h
    rw [List.pairwise_iff_getElem]
    intro i j hi hj hij e
    have := twice_false _ 0 rfl h j _ (Nat.zero_le _) (List.getElem?_eq_getElem hj)
    unfold twB at this
    rw [List.any_eq_false] at this
    refine this s[i] ?_ (by simp [e])
    rw [List.mem_iff_getElem]
    exact ⟨i, by simp; omega, by rw [List.getElem_take]⟩
  · intro h
    refine twice_true _ 0 rfl fun j k _ hk => ?_
    unfold twB
    rw [List.any_eq_false]
    intro o ho he
    obtain ⟨i, hi, rfl⟩ := List.mem_iff_getElem.1 ho
    obtain ⟨hj, rfl⟩ := List.getElem?_eq_some_iff.1 hk
    rw [List.getElem_take] at he
    have hij : i < j := by simp at hi; omega
    exact List.pairwise_iff_getElem.1 h i j (by omega) hj hij (by simpa using he)
theorem apart_all {c : List Pck} {s : List Int} : ∀ {l : List Int}, apart c s l = true ↔ ∀ k ∈ l, nmF c (pk c k).n s = k
  | [] => by simp [apart]
  | x :: l => by rw [apart, Bool.and_eq_true, decide_eq_true_eq, apart_all]; simp
theorem nmF_self {c : List Pck} : ∀ {s : List Int}, (s.Pairwise fun a b => (pk c a).n ≠ (pk c b).n) → ∀ k ∈ s, nmF c (pk c k).n s = k
  | [], _, k, hk => by cases hk
  | x :: s, h, k, hk => by
    rw [List.pairwise_cons] at h
    rw [nmF]
    rcases List.mem_cons.1 hk with rfl | hk
    · simp
    · rw [if_neg (by simpa using h.1 k hk)]; exact nmF_self h.2 k hk
theorem apart_twice {c : List Pck} {s : List Int} (h : s.Pairwise (· < ·)) : apart c s s = !twice c s 0 s := by
  cases ht : twice c s 0 s with
  | false => rw [Bool.not_false, apart_all]; exact nmF_self (twice_names.1 ht)
  | true =>
    rw [Bool.not_true, ← Bool.not_eq_true]
    intro ha
    rw [apart_all] at ha
    have : twice c s 0 s = false := by
      rw [twice_names]
      refine h.imp_of_mem fun {a b} hma hmb hab e => ?_
      have h1 := ha a hma
      have h2 := ha b hmb
      rw [e, h2] at h1
      omega
    rw [this] at ht; cases ht
/-- Changes, one behind another. -/
def runC (c : List Pck) : List Int → List Chg → Int × List Int
  | s, [] => (0, s)
  | s, x :: xs => if newC c s x = 0 then runC c (newS c s x) xs else (newC c s x, [])
def appC (c : List Pck) (s : List Int) (g : List Chg) : Int := if setF c s ≠ 0 then setF c s else if twice c s 0 s then 6 else (runC c s g).1
def appS (c : List Pck) (s : List Int) (g : List Chg) : List Int := if appC c s g = 0 then (runC c s g).2 else []
theorem runC_at {c : List Pck} {s : List Int} {g : List Chg} {i : Nat} {x : Chg} (h : g[i]? = some x) : runC c s (g.drop i) = if newC c s x = 0 then runC c (newS c s x) (g.drop (i + 1)) else (newC c s x, []) := by
  obtain ⟨h1, h2⟩ := List.getElem?_eq_some_iff.1 h
  rw [List.drop_eq_getElem_cons h1, h2, runC]
theorem good_of {c : List Pck} {s : List Int} (h : setF c s = 0) (ht : twice c s 0 s = false) : Good c s := ⟨setF_pw h, setF_in h, twice_names.1 ht⟩
end Go.Proofs.YtfmcncflooechaaGreat

/- Walks: changes put to a set, one behind another. Plain theorems. -/
set_option linter.unusedVariables false
set_option linter.unusedSimpArgs false
namespace Go.Proofs.YtfmcncflooechaaGreat
open Go Go.Fw
set_option maxRecDepth 100000
theorem roF_setK (k : Int) (s : List Int) : roFree (setK k s) = true := by
  unfold setK
  rw [roFree_tup]
  simp only [List.all_cons, List.all_nil, roF_I]
  rfl
theorem c_specApply (l : List Pck) (s : List Int) (g : List Chg) (hl : l.length ≤ 1048576) (ho : ∀ o ∈ l, o.Small) (hs : s.length ≤ 1048576) (hgl : g.length ≤ 1048576) :
    PCtr PP n_spec_ApplyChanges [encP l, .sl false 1 (s.map i64), .sl false 8 (g.map Chg.enc)] (setR (appC l s g) 0 (appS l s g)) := by
  obtain ⟨Ω, hΩ⟩ : ∃ Ω, Ω = std := ⟨_, rfl⟩
  obtain ⟨C, hC⟩ : ∃ C, C = appC l s g := ⟨_, rfl⟩
  obtain ⟨S, hS⟩ : ∃ S, S = appS l s g := ⟨_, rfl⟩
  rw [← hC, ← hS]
  unfold appS at hS
  rw [← hC] at hS
  unfold appC at hC
  have hsf := c_specSetFault l s (by omega) ho hs
  have hap : setF l s = 0 → PCtr PP n_spec_l5Apart [encP l, .sl false 1 (s.map i64)] (boo (!twice l s 0 s)) := fun h => by
    have := c_l5Apart l s (by omega) hs (setF_in h)
    rwa [apart_twice (setF_pw h)] at this
  have hstep := fun (t : List Int) (x : Chg) (h : Good l t) => c_l15Apply l t x (by omega) (by have := h.len; omega) h.at_
  obtain ⟨k0, hk0⟩ : ∃ x, setF l s = x := ⟨_, rfl⟩
  obtain ⟨T, hT⟩ : ∃ x, twice l s 0 s = x := ⟨_, rfl⟩
  have hgood : k0 = 0 → T = false → Good l s := fun h1 h2 => good_of (hk0.trans h1) (hT.trans h2)
  rw [hk0] at hsf hap hC
  rw [hT] at hap hC
  obtain ⟨NT, hNT⟩ : ∃ x, x = !T := ⟨_, rfl⟩
  rw [← hNT] at hap
  unfold setR
  obtain ⟨Z, hZ⟩ : ∃ Z, Z = S.map i64 := ⟨_, rfl⟩
  rw [← hZ]
  have hnil : ∀ k : Int, C = k → k ≠ 0 → FitX (.agg [i64 k, i64 0, .nil]) (.agg [i64 C, i64 0, .sl true 1 Z]) := fun k h h2 => by
    have : Z = [] := by rw [hZ, hS, if_neg (by omega)]; rfl
    rw [h, this]; exact fit_nilR k 0
  obtain ⟨xs, hxs⟩ : ∃ xs, xs = s.map i64 := ⟨_, rfl⟩
  have hno := noInt s
  have hxl : xs.length = s.length := by rw [hxs, List.length_map]
  obtain ⟨gs, hgs⟩ : ∃ gs, gs = g.map Chg.enc := ⟨_, rfl⟩
  have hgsl : gs.length = g.length := by rw [hgs, List.length_map]
  obtain ⟨F, hF⟩ : ∃ F : List Int → List A, F = fun s => s.map i64 := ⟨_, rfl⟩
  have hFm : ∀ t : List Int, t.map i64 = F t := fun t => by rw [hF]
  have hFz : ∀ t, (F t).map frz = F t := fun t => by rw [hF]; exact frz_I t
  have hlen : ∀ t : List Int, Ω.len (F t) = (F t).length := fun t => by subst hΩ; rfl
  have htk : ∀ t : List Int, Ω.take (Ω.len (F t)) (F t) = F t := fun t => takeAll hΩ _
  have hroF := fun (t : List Int) (x : Chg) => roF_setK (newC l t x) (if newC l t x = 0 then newS l t x else [])
  unfold setK encP at *
  simp only [hFm] at hstep hroF hZ hxs
  rw [← hgs]
  generalize l.map (Pck.enc false) = cs at *
  rw [hFm s] at hsf hap hno ⊢
  rw [← hxs] at hsf hap hno ⊢
  have happ : Ω.app (Ω.take 0 []) xs = F s := by rw [← hxs]; subst hΩ; rfl
  have hpl : Ω.plus 0 (Ω.len xs) = Ω.len (F s) := by rw [← hxs]; subst hΩ; exact Nat.zero_add _
  have htab := tab
  have hmo := hmo
  refine PCtr.walk tab hΩ fn_spec_ApplyChanges rfl ?_
  generalize PP = P at *
  cbv
  refine call_pure hΩ 3 hsf rfl (fits _) rfl rfl ?_
  cbv
  refine br (fun h => ?_) (fun h => ?_) <;> cbv
  · have h := neI_t hΩ h
    exact hnil k0 (by rw [hC, if_pos h]) h
  have h := neI_f hΩ h
  rw [if_neg (by omega)] at hC
  refine call_pure hΩ 3 (hap h) rfl (fits _) rfl rfl ?_
  cbv
  refine br (fun h2 => ?_) (fun h2 => ?_) <;> cbv
  · have h2 : T = true := by have := notT' hΩ h2; rw [hNT] at this; simpa using this
    exact hnil 6 (by rw [hC, h2]; rfl) (by decide)
  have h2 : T = false := by have := notF' hΩ h2; rw [hNT] at this; simpa using this
  rw [h2] at hC
  have hg0 := hgood h h2
  refine ⟨⟨hno.1, hno.2.1, by show (0 + xs.length) * 8 ≤ 140737488355328; omega, by show 0 + xs.length ≤ 9223372036854775807; omega⟩, ?_⟩
  refine loopX htab hΩ (fun i : Nat × List Int => ⟨[(0, .sl false 8 cs), (2, .sl false 8 gs), (6, .pt 0 0 0), (8, .vw 1 0 (Ω.len (F i.2))), (9, i64 (Ω.int i.1))], 50, [some ⟨3, [.agg [i64 0, i64 0, .nil]], true⟩, some ⟨1, F i.2, false⟩]⟩)
    (fun i => i.1 ≤ g.length ∧ Good l i.2 ∧ runC l s g = runC l i.2 (g.drop i.1)) (fun i => g.length - i.1) (0, s) ⟨Nat.zero_le _, hg0, by rw [List.drop_zero]⟩
    ((Sbs.cut 2 rfl).trans (Sbs.mk rfl (by dsimp only; rw [← happ]; rfl) ⟨rfl, rfl, rfl, congrArg (A.vw 1 0) hpl, zeroI hΩ, trivial⟩)) ?_
  rintro ⟨i, t⟩ ⟨i1, i2, i3⟩
  dsimp only at i1 i2 i3
  have hlt := hlen t
  have hFzt := hFz t
  have htkt := htk t
  have hle : Ω.len (F t) ≤ (F t).length := by rw [hlt]; exact Nat.le_refl _
  have hro : ∀ {S : State}, Fw.rowAt S.rows 1 = some ⟨1, F t, false⟩ → roO S 3 (.vw 1 0 (Ω.len (F t))) = some (.sl false 1 (F t)) := fun h => ro_vw h hlt hFzt
  cbv
  refine br (fun h3 => ?_) (fun h3 => ?_) <;> cbv
  · replace h3 := ltI hΩ h3
    obtain ⟨x, hx⟩ := at_of (cs := g) (by omega : i < g.length)
    rw [runC_at hx] at i3
    have hst := hstep t x i2
    have hrx := hroF t x
    have hnew : newC l t x = 0 → Good l (newS l t x) := i2.new
    obtain ⟨K, n, ⟨o1, o2, o3⟩, ⟨w1, w2, w3⟩⟩ := x
    have hrd : gs[(Ω.int i).toNat]? = some (.agg [i64 K, str n, i64 o1, i64 o2, i64 o3, i64 w1, i64 w2, i64 w3]) := by have := rdI hΩ hgs hx; exact this
    generalize newC l t ⟨K, n, ⟨o1, o2, o3⟩, ⟨w1, w2, w3⟩⟩ = D at *
    generalize newS l t ⟨K, n, ⟨o1, o2, o3⟩, ⟨w1, w2, w3⟩⟩ = u at *
    unfold Chg.enc Chg.cells at hst
    obtain ⟨Y, hY⟩ : ∃ Y, Y = F (if D = 0 then u else []) := ⟨_, rfl⟩
    rw [← hY] at hst hrx
    refine ⟨⟨nnI hΩ⟩, _, hrd, ?_⟩
    cbv
    refine call_pure hΩ 3 hst (mapO3 rfl (hro rfl) rfl) (fits _) hrx rfl ?_
    cbv
    refine br (fun h4 => ?_) (fun h4 => ?_) <;> cbv
    · have h4 := neI_t hΩ h4
      exact hnil D (by rw [hC, i3, if_neg h4]; rfl) h4
    · have h4 := neI_f hΩ h4
      rw [if_pos h4] at i3 hY
      subst hY
      exact ⟨(i + 1, u), ⟨by dsimp only; omega, hnew h4, i3⟩, by dsimp only; omega, (Sbs.drop (r := 1) rfl).trans ((Sbs.mv (a := 2) (b := 1) rfl rfl (Nat.le_of_ble_eq_true rfl)).trans ((Sbs.cut 2 rfl).trans (Sbs.mk rfl rfl ⟨rfl, rfl, rfl, rfl, incI hΩ (by omega), trivial⟩)))⟩
  · replace h3 := geI hΩ h3
    rw [List.drop_of_length_le (by omega), runC] at i3
    have hC0 : C = 0 := by rw [hC, i3]; rfl
    have hZ2 : Z = F t := by rw [hZ, hS, if_pos hC0, i3]
    refine ⟨⟨rfl, hle⟩, .of ?_⟩
    rw [hC0, hZ2]
    exact congrArg (fun q => A.agg [i64 0, i64 0, A.sl true 1 q]) htkt
theorem c_implApply (l : List Pck) (s : List Int) (g : List Chg) (hl : l.length ≤ 1048576) (ho : ∀ o ∈ l, o.Small) (hs : s.length ≤ 1048576) (hgl : g.length ≤ 1048576) :
    PCtr PP n_impl_ApplyChanges [encP l, .sl false 1 (s.map i64), .sl false 8 (g.map Chg.enc)] (setR (appC l s g) 0 (appS l s g)) := by
  obtain ⟨Ω, hΩ⟩ : ∃ Ω, Ω = std := ⟨_, rfl⟩
  obtain ⟨C, hC⟩ : ∃ C, C = appC l s g := ⟨_, rfl⟩
  obtain ⟨S, hS⟩ : ∃ S, S = appS l s g := ⟨_, rfl⟩
  rw [← hC, ← hS]
  unfold appS at hS
  rw [← hC] at hS
  unfold appC at hC
  have hsf := c_implSetFault l s (by omega) ho hs
  have hap : setF l s = 0 → PCtr PP n_impl_isTwice [encP l, .sl false 1 (s.map i64)] (boo (twice l s 0 s)) := fun h => c_isTwice l s (by omega) hs (setF_in h)
  have hcl := c_Clone s hs
  have hstep := fun (t : List Int) (x : Chg) (h : Good l t) => c_applied l t x (by omega) (by have := h.len; omega) h.at_ h.le
  obtain ⟨k0, hk0⟩ : ∃ x, setF l s = x := ⟨_, rfl⟩
  obtain ⟨T, hT⟩ : ∃ x, twice l s 0 s = x := ⟨_, rfl⟩
  have hgood : k0 = 0 → T = false → Good l s := fun h1 h2 => good_of (hk0.trans h1) (hT.trans h2)
  rw [hk0] at hsf hap hC
  rw [hT] at hap hC
  unfold setR
  obtain ⟨Z, hZ⟩ : ∃ Z, Z = S.map i64 := ⟨_, rfl⟩
  rw [← hZ]
  have hnil : ∀ k : Int, C = k → k ≠ 0 → FitX (.agg [i64 k, i64 0, .nil]) (.agg [i64 C, i64 0, .sl true 1 Z]) := fun k h h2 => by
    have : Z = [] := by rw [hZ, hS, if_neg (by omega)]; rfl
    rw [h, this]; exact fit_nilR k 0
  obtain ⟨xs, hxs⟩ : ∃ xs, xs = s.map i64 := ⟨_, rfl⟩
  have hno := noInt s
  have hxl : xs.length = s.length := by rw [hxs, List.length_map]
  obtain ⟨gs, hgs⟩ : ∃ gs, gs = g.map Chg.enc := ⟨_, rfl⟩
  have hgsl : gs.length = g.length := by rw [hgs, List.length_map]
  obtain ⟨F, hF⟩ : ∃ F : List Int → List A, F = fun s => s.map i64 := ⟨_, rfl⟩
  have hFm : ∀ t : List Int, t.map i64 = F t := fun t => by rw [hF]
  have hFz : ∀ t, (F t).map frz = F t := fun t => by rw [hF]; exact frz_I t
  have hlen : ∀ t : List Int, Ω.len (F t) = (F t).length := fun t => by subst hΩ; rfl
  have htk : ∀ t : List Int, Ω.take (Ω.len (F t)) (F t) = F t := fun t => takeAll hΩ _
  have hroF := fun (t : List Int) (x : Chg) => roF_setK (newC l t x) (if newC l t x = 0 then newS l t x else [])
  unfold setK encP ints at *
  simp only [hFm] at hstep hroF hZ hxs
  rw [← hgs]
  generalize l.map (Pck.enc false) = cs at *
  rw [hFm s] at hsf hap hno hcl ⊢
  rw [← hxs] at hsf hap hno hcl ⊢
  have happ : Ω.app (Ω.take 0 []) xs = F s := by rw [← hxs]; subst hΩ; rfl
  have hpl : Ω.plus 0 (Ω.len xs) = Ω.len (F s) := by rw [← hxs]; subst hΩ; exact Nat.zero_add _
  have htab := tab
  have hmo := hmo
  refine PCtr.walk tab hΩ fn_impl_ApplyChanges rfl ?_
  generalize PP = P at *
  cbv
  refine call_pure hΩ 3 hsf rfl (fits _) rfl rfl ?_
  cbv
  refine br (fun h => ?_) (fun h => ?_) <;> cbv
  rotate_left
  · have h := eqZf hΩ h
    refine br (fun h2 => ?_) (fun h2 => absurd (neZf hΩ h2) h) <;> cbv
    exact hnil k0 (by rw [hC, if_pos h]) h
  have h := eqZt hΩ h
  rw [if_neg (by omega)] at hC
  refine call_pure hΩ 3 (hap h) rfl (fits _) rfl rfl ?_
  cbv
  refine br (fun h2 => ?_) (fun h2 => ?_) <;> cbv
  · have h2 : T = true := iteA hΩ h2
    refine br (fun h5 => ?_) (fun h5 => absurd (neZf hΩ h5) (by decide)) <;> cbv
    exact hnil 6 (by rw [hC, h2]; rfl) (by decide)
  have h2 : T = false := iteA hΩ h2
  rw [h2] at hC
  have hg0 := hgood h h2
  refine br (fun h5 => absurd h (neZt hΩ h5)) (fun h5 => ?_) <;> cbv
  refine call_pure hΩ 3 hcl rfl (fits _) (by rw [hxs, ← hFm]; exact roF_I s) rfl ?_
  cbv
  refine loopX htab hΩ (fun i : Nat × List Int => ⟨[(0, .sl false 8 cs), (6, .pt 0 0 0), (1, .vw 1 0 (Ω.len (F i.2))), (28, .sl false 8 gs), (29, i64 (Ω.int (Ω.len gs))), (30, i64 (Ω.int i.1))], 49, [some ⟨3, [.agg [i64 0, i64 0, .nil]], true⟩, some ⟨1, F i.2, false⟩]⟩)
    (fun i => i.1 ≤ g.length ∧ Good l i.2 ∧ runC l s g = runC l i.2 (g.drop i.1)) (fun i => g.length - i.1) (0, s) ⟨Nat.zero_le _, hg0, by rw [List.drop_zero]⟩
    ((Sbs.cut 2 rfl).trans (Sbs.mk rfl (by show [_, some (Row.mk 1 xs false)] = _; rw [hxs]; rfl) ⟨rfl, rfl, by show A.vw 1 0 (Ω.len xs) = _; rw [hxs], rfl, rfl, zeroI hΩ, trivial⟩)) ?_
  rintro ⟨i, t⟩ ⟨i1, i2, i3⟩
  dsimp only at i1 i2 i3
  have hlt := hlen t
  have hFzt := hFz t
  have htkt := htk t
  have hle : Ω.len (F t) ≤ (F t).length := by rw [hlt]; exact Nat.le_refl _
  have hro : ∀ {S : State}, Fw.rowAt S.rows 1 = some ⟨1, F t, false⟩ → roO S 3 (.vw 1 0 (Ω.len (F t))) = some (.sl false 1 (F t)) := fun h => ro_vw h hlt hFzt
  cbv
  refine br (fun h3 => ?_) (fun h3 => ?_) <;> cbv
  · replace h3 := ltI hΩ h3
    obtain ⟨x, hx⟩ := at_of (cs := g) (by omega : i < g.length)
    rw [runC_at hx] at i3
    have hst := hstep t x i2
    have hrx := hroF t x
    have hnew : newC l t x = 0 → Good l (newS l t x) := i2.new
    obtain ⟨K, n, ⟨o1, o2, o3⟩, ⟨w1, w2, w3⟩⟩ := x
    have hrd : gs[(Ω.int i).toNat]? = some (.agg [i64 K, str n, i64 o1, i64 o2, i64 o3, i64 w1, i64 w2, i64 w3]) := by have := rdI hΩ hgs hx; exact this
    generalize newC l t ⟨K, n, ⟨o1, o2, o3⟩, ⟨w1, w2, w3⟩⟩ = D at *
    generalize newS l t ⟨K, n, ⟨o1, o2, o3⟩, ⟨w1, w2, w3⟩⟩ = u at *
    unfold Chg.enc Chg.cells at hst
    obtain ⟨Y, hY⟩ : ∃ Y, Y = F (if D = 0 then u else []) := ⟨_, rfl⟩
    rw [← hY] at hst hrx
    refine ⟨⟨nnI hΩ⟩, _, hrd, ?_⟩
    cbv
    refine call_pure hΩ 3 hst (mapO3 rfl (hro rfl) rfl) (fits _) hrx rfl ?_
    cbv
    refine br (fun h4 => ?_) (fun h4 => ?_) <;> cbv
    · have h4 := neI_t hΩ h4
      exact hnil D (by rw [hC, i3, if_neg h4]; rfl) h4
    · have h4 := neI_f hΩ h4
      rw [if_pos h4] at i3 hY
      subst hY
      exact ⟨(i + 1, u), ⟨by dsimp only; omega, hnew h4, i3⟩, by dsimp only; omega, (Sbs.drop (r := 1) rfl).trans ((Sbs.mv (a := 3) (b := 1) rfl rfl (Nat.le_of_ble_eq_true rfl)).trans ((Sbs.cut 2 rfl).trans (Sbs.mk rfl rfl ⟨rfl, rfl, rfl, rfl, rfl, incI hΩ (by omega), trivial⟩)))⟩
  · replace h3 := geI hΩ h3
    rw [List.drop_of_length_le (by omega), runC] at i3
    have hC0 : C = 0 := by rw [hC, i3]; rfl
    have hZ2 : Z = F t := by rw [hZ, hS, if_pos hC0, i3]
    refine ⟨⟨rfl, hle⟩, .of ?_⟩
    rw [hC0, hZ2]
    exact congrArg (fun q => A.agg [i64 0, i64 0, A.sl true 1 q]) htkt
end Go.Proofs.YtfmcncflooechaaGreat

/- Walks: changes: sizes, copies, equality, marks. Plain theorems. -/
set_option linter.unusedVariables false
set_option linter.unusedSimpArgs false
namespace Go.Proofs.YtfmcncflooechaaGreat
open Go Go.Fw
set_option maxRecDepth 100000
theorem c_szChange (c : Chg) (l : Int) : PCtr PP n_laws_szChange [c.enc, i64 l] (i64 (szStr c.n l)) := by
  obtain ⟨Ω, hΩ⟩ : ∃ Ω, Ω = std := ⟨_, rfl⟩
  obtain ⟨r, hr⟩ : ∃ r, r = szStr c.n l := ⟨_, rfl⟩
  rw [← hr]
  refine PCtr.walk tab hΩ fn_laws_szChange rfl ?_
  generalize PP = P at *
  cbv
  refine br (fun h => ?_) (fun h => ?_)
  · replace h : r = -1 := by subst hΩ; rw [hr, szStr]; exact if_pos (lt_t h)
    cbv
    exact .of (congrArg i64 h.symm)
  · replace h : r = IntKind.i64.wrap (l - c.n.length) := by subst hΩ; rw [hr, szStr]; exact if_neg (Int.not_lt.2 (lt_f h))
    cbv
    exact .of (by subst hΩ; exact congrArg i64 h.symm)
theorem c_szChangeS (cs : List Chg) (l : Int) (h0 : 0 ≤ l) (h1 : l ≤ 1048576) (hm : cs.length ≤ maxLen) : PCtr PP n_laws_szChangeS [.sl false 8 (cs.map Chg.enc), i64 l] (i64 (szS (fun c => szStr c.n) cs l)) := by
  obtain ⟨Ω, hΩ⟩ : ∃ Ω, Ω = std := ⟨_, rfl⟩
  obtain ⟨r, hr⟩ : ∃ r, r = szS (fun (c : Chg) => szStr c.n) cs l := ⟨_, rfl⟩
  obtain ⟨xs, hxs⟩ : ∃ xs, xs = cs.map Chg.enc := ⟨_, rfl⟩
  have hlen : xs.length = cs.length := by rw [hxs, List.length_map]
  rw [← hxs, ← hr]
  have hc := c_szChange
  have htab := tab
  refine PCtr.walk tab hΩ fn_laws_szChangeS rfl ?_
  generalize PP = P at *
  cbv
  refine br (fun h => ?_) (fun h => ?_)
  · replace h : r = -1 := by
      subst hΩ
      have h : IntKind.i64.wrap (l - xs.length) < 0 := lt_t h
      rw [hlen, szw h0 h1 hm] at h
      rw [hr, szS, if_pos h]
    cbv
    exact .of (congrArg i64 h.symm)
  obtain ⟨l', hl', h, hr⟩ : ∃ l', IntKind.i64.wrap (l - xs.length) = l' ∧ (0 ≤ l' ∧ l' ≤ 1048576) ∧ r = szLoop (fun (c : Chg) => szStr c.n) cs l' := by
    subst hΩ
    have h : 0 ≤ IntKind.i64.wrap (l - xs.length) := lt_f h
    rw [hlen, szw h0 h1 hm] at h ⊢
    exact ⟨_, rfl, ⟨h, by omega⟩, by rw [hr, szS, if_neg (by omega)]⟩
  cbv
  refine loopX htab hΩ (fun i : Nat × Int => ⟨[(0, .sl false 8 xs), (1, .sc (.int .i64 i.2)), (5, .sc (.int .i64 (Ω.int i.1)))], 27, []⟩) (fun i => i.1 ≤ cs.length ∧ 0 ≤ i.2 ∧ r = szLoop (fun (c : Chg) => szStr c.n) (cs.drop i.1) i.2)
    (fun i => cs.length - i.1) (0, l') ⟨Nat.zero_le _, h.1, hr⟩ (Sbs.mk rfl rfl ⟨rfl, by subst hΩ; exact congrArg i64 hl', by subst hΩ; rfl, trivial⟩) ?_
  rintro ⟨i, y⟩ ⟨hi, hy, he⟩
  dsimp only at hi hy he
  cbv
  refine br (fun h => ?_) (fun h => ?_)
  · replace h : i < cs.length := by subst hΩ; have h : (i : Int) < xs.length := lt_t h; omega
    obtain ⟨c, hcc⟩ : ∃ c, cs[i]? = some c := ⟨_, List.getElem?_eq_getElem (by omega)⟩
    rw [szLoop_at _ hcc] at he
    cbv
    refine ⟨⟨by subst hΩ; exact Int.natCast_nonneg i⟩, c.enc, by subst hΩ; show xs[i]? = _; rw [hxs, List.getElem?_map, hcc]; rfl, ?_⟩
    cbv
    have hcc' := hc c y
    generalize szStr c.n y = y' at he hcc'
    refine ⟨CallOK_pure (k := 3) hcc' rfl (fits _) (by cbv) (by cbv) ?_⟩
    cbv
    refine br (fun h => ?_) (fun h => ?_)
    · replace h : y' < 0 := by subst hΩ; exact lt_t h
      cbv
      exact .of (congrArg i64 (by rw [he, if_pos h]))
    · replace h : 0 ≤ y' := by subst hΩ; exact lt_f h
      cbv
      refine ⟨(i + 1, y'), ⟨by dsimp only; omega, h, by rw [he, if_neg (by omega)]⟩, by dsimp only; omega, Sbs.mk rfl rfl ⟨rfl, rfl, by subst hΩ; exact congrArg i64 (inc64 (n := i) (by simp only [maxLen] at hm; omega)), trivial⟩⟩
  · replace h : i = cs.length := by subst hΩ; have h : (xs.length : Int) ≤ i := lt_f h; omega
    subst h
    cbv
    exact .of (congrArg i64 (by rw [he, List.drop_length]; rfl))
theorem c_toChange (v : Chg) : PCtr PP n_laws_toChange [v.enc] v.enc := by
  obtain ⟨Ω, hΩ⟩ : ∃ Ω, Ω = std := ⟨_, rfl⟩
  refine PCtr.walk tab hΩ fn_laws_toChange rfl ?_
  have hc := c_toVersion
  generalize PP = P at *
  cbv
  refine ⟨CallOK_pure (k := 3) (hc v.o) rfl (fits _) (by cbv) (by cbv) ?_⟩
  cbv
  refine ⟨CallOK_pure (k := 3) (hc v.w) rfl (fits _) (by cbv) (by cbv) ?_⟩
  cbv
  exact .same
/-- A slice that is filled from the left. -/
theorem c_toChangeS (cs : List Chg) (hb : cs.length ≤ 1048576) : PCtr PP n_laws_toChangeS [.sl false 8 (cs.map Chg.enc)] (.sl true 8 (cs.map Chg.enc)) := by
  obtain ⟨Ω, hΩ⟩ : ∃ Ω, Ω = std := ⟨_, rfl⟩
  obtain ⟨xs, hxs⟩ : ∃ xs, xs = cs.map Chg.enc := ⟨_, rfl⟩
  obtain ⟨n, hn⟩ : ∃ n, n = cs.length := ⟨_, rfl⟩
  have hlen : xs.length = n := by rw [hxs, hn, List.length_map]
  obtain ⟨ys, hys⟩ : ∃ ys : Nat → List A, ys = fill Chg.enc Chg.zero.enc cs := ⟨_, rfl⟩
  rw [← hxs]
  have hc := c_toChange
  refine PCtr.walk tab hΩ fn_laws_toChangeS rfl ?_
  have htab := tab
  generalize PP = P at *
  cbv
  refine ⟨⟨by subst hΩ; show _ ∧ (0 : Int) ≤ xs.length ∧ 72 * ((xs.length : Int).toNat) ≤ _ ∧ (xs.length : Int).toNat ≤ 9223372036854775807; rw [hlen]; refine ⟨rfl, ?_, ?_, ?_⟩ <;> omega⟩,
    loopX htab hΩ (fun i : Nat => ⟨[(0, .sl false 8 xs), (3, .vw 0 0 n), (4, .sc (.int .i64 (Ω.int i)))], 23, [some ⟨8, ys i, false⟩]⟩) (fun i => i ≤ n) (fun i => n - i) 0 (Nat.zero_le _) (Sbs.mk rfl ?_ ?_) (fun i hi => ?_)⟩
  · subst hΩ; rw [hys, fill_zero, ← hn, ← hlen]; rfl
  · subst hΩ; subst hlen; exact ⟨rfl, rfl, rfl, trivial⟩
  cbv
  refine br (fun h => ?_) (fun h => ?_)
  · replace h : i < n := by subst hΩ; have h : (i : Int) < xs.length := lt_t h; omega
    obtain ⟨c, hcc⟩ : ∃ c, cs[i]? = some c := ⟨_, List.getElem?_eq_getElem (by omega)⟩
    cbv
    refine ⟨⟨by subst hΩ; exact Int.natCast_nonneg i⟩, c.enc, by subst hΩ; show xs[i]? = _; rw [hxs, List.getElem?_map, hcc]; rfl, ?_⟩
    cbv
    refine ⟨CallOK_pure (k := 3) (hc c) rfl (fits _) (by cbv) (by cbv) ?_⟩
    cbv
    have hl2 : (ys i).length = n := by rw [hys, hn]; exact fill_length (by omega)
    refine ⟨⟨by subst hΩ; exact ⟨Int.natCast_nonneg i, Int.ofNat_lt.2 h⟩⟩, ⟨by subst hΩ; show 0 + i < _ ∧ _; rw [hl2]; exact ⟨by omega, by rw [hys]; exact fill_all (fun _ => rfl) rfl⟩⟩,
      i + 1, by omega, by omega, Sbs.mk rfl ?_ ?_⟩
    · subst hΩ; rw [hys, ← fill_set hcc, ← hys]; show [some (Row.mk 8 ((ys i).set (0 + i) c.enc) false)] = _; rw [Nat.zero_add]
    · subst hΩ; exact ⟨rfl, rfl, congrArg i64 (inc64 (by omega)), trivial⟩
  · replace h : i = n := by subst hΩ; have h : (xs.length : Int) ≤ i := lt_f h; omega
    cbv
    refine ⟨⟨rfl, ?_⟩, .of ?_⟩
    · rw [hys, hn]; exact Nat.le_of_eq (fill_length (f := Chg.enc) (z := Chg.zero.enc) (cs := cs) (i := i) (by omega)).symm
    · rw [h, hys, hxs, hn, fill_full]; subst hΩ; exact congrArg (A.sl true 8) (List.take_of_length_le (by simp))
set_option maxRecDepth 100000
theorem c_eqChange (v : Chg) : PCtr PP n_laws_eqChange [v.enc, v.enc] (boo true) := by
  obtain ⟨Ω, hΩ⟩ : ∃ Ω, Ω = std := ⟨_, rfl⟩
  refine PCtr.walk tab hΩ fn_laws_eqChange rfl ?_
  have hc := c_eqVersion
  generalize PP = P at *
  cbv
  refine br (fun h => (ne_self hΩ h).elim) (fun h => ?_)
  cbv
  refine br (fun h => (sne_self hΩ h).elim) (fun h => ?_)
  cbv
  refine ⟨CallOK_pure (k := 3) (hc v.o) rfl (fits _) (by cbv) (by cbv) ?_⟩
  cbv
  refine br (fun h => (notT hΩ h).elim) (fun h => ?_)
  cbv
  refine ⟨CallOK_pure (k := 3) (hc v.w) rfl (fits _) (by cbv) (by cbv) ?_⟩
  cbv
  refine br (fun h => (notT hΩ h).elim) (fun h => ?_)
  cbv
  exact .same
theorem c_eqChangeS (cs : List Chg) (hb : cs.length ≤ 9223372036854775806) : PCtr PP n_laws_eqChangeS [.sl false 8 (cs.map Chg.enc), .sl false 8 (cs.map Chg.enc)] (boo true) := by
  obtain ⟨Ω, hΩ⟩ : ∃ Ω, Ω = std := ⟨_, rfl⟩
  obtain ⟨xs, hxs⟩ : ∃ xs, xs = cs.map Chg.enc := ⟨_, rfl⟩
  have hlen : xs.length = cs.length := by rw [hxs, List.length_map]
  rw [← hxs]
  have hc := c_eqChange
  have htab := tab
  have hmo := hmo
  refine PCtr.walk tab hΩ fn_laws_eqChangeS rfl ?_
  generalize PP = P at *
  cbv
  refine br (fun h => (ne_self hΩ h).elim) (fun h => ?_)
  cbv
  refine loopX htab hΩ (fun i : Nat => ⟨[(0, .sl false 8 xs), (1, .sl false 8 xs), (5, .sc (.int .i64 (Ω.int i)))], 27, []⟩) (fun i => i ≤ cs.length) (fun i => cs.length - i) 0 (Nat.zero_le _) (Sbs.mk rfl rfl ⟨rfl, rfl, zeroI hΩ, trivial⟩) (fun i hi => ?_)
  cbv
  refine br (fun h => ?_) (fun h => ?_)
  · replace h := ltI hΩ h
    obtain ⟨c, hcc⟩ := at_of (cs := cs) (by omega : i < _)
    cbv
    refine ⟨VC_drawn htab hΩ hmo (by kernel_rfl) ?_⟩
    cbv
    refine ⟨⟨nnI hΩ⟩, _, rdI hΩ hxs hcc, ?_⟩
    cbv
    refine ⟨⟨nnI hΩ⟩, _, rdI hΩ hxs hcc, ?_⟩
    cbv
    refine QCall_pure (k := 3) (hc c) rfl (fits _) rfl ?_
    cbv
    refine br (fun h => (notT hΩ h).elim) (fun h => ?_)
    cbv
    refine ⟨i + 1, by omega, by omega, Sbs.mk rfl rfl ⟨rfl, rfl, incI hΩ (by omega), trivial⟩⟩
  · cbv
    exact .same
set_option maxRecDepth 100000
/-- The marks from k on. -/
def Chg.mark (k : Int) : Chg := ⟨k, markT (k + 1), ⟨k + 2, k + 3, k + 4⟩, ⟨k + 5, k + 6, k + 7⟩⟩
def marksC (k : Int) (n : Nat) : List Chg := (List.range n).map fun i : Nat => Chg.mark (k + 8 * i)
theorem mark_inc {k : Int} (h0 : 0 ≤ k) (h1 : k ≤ 2199023255552) :
    Chg.mark k = ⟨k, markT (inc k), ⟨inc (inc k), inc (inc (inc k)), inc (inc (inc (inc k)))⟩, ⟨inc (inc (inc (inc (inc k)))), inc (inc (inc (inc (inc (inc k))))), inc (inc (inc (inc (inc (inc (inc k))))))⟩⟩ ∧
    inc (inc (inc (inc (inc (inc (inc (inc k))))))) = k + 8 := by
  have e1 := inc_eq h0 (by omega)
  have e2 := inc_eq (x := k + 1) (by omega) (by omega)
  have e3 := inc_eq (x := k + 1 + 1) (by omega) (by omega)
  have e4 := inc_eq (x := k + 1 + 1 + 1) (by omega) (by omega)
  have e5 := inc_eq (x := k + 1 + 1 + 1 + 1) (by omega) (by omega)
  have e6 := inc_eq (x := k + 1 + 1 + 1 + 1 + 1) (by omega) (by omega)
  have e7 := inc_eq (x := k + 1 + 1 + 1 + 1 + 1 + 1) (by omega) (by omega)
  have e8 := inc_eq (x := k + 1 + 1 + 1 + 1 + 1 + 1 + 1) (by omega) (by omega)
  rw [e1, e2, e3, e4, e5, e6, e7, e8]
  refine ⟨?_, by omega⟩
  simp only [Chg.mark, Chg.mk.injEq, Ver.mk.injEq, true_and]
  refine ⟨⟨?_, ?_, ?_⟩, ?_, ?_, ?_⟩ <;> omega
theorem marksC_at {k : Int} {n i : Nat} (h : i < n) : (marksC k n)[i]? = some (Chg.mark (k + 8 * i)) := by
  unfold marksC
  rw [List.getElem?_map, List.getElem?_range h]; rfl
theorem marksC_length (k : Int) (n : Nat) : (marksC k n).length = n := by simp [marksC]
/-- The first i ones are marked. -/
def half (cs ms : List Chg) (i : Nat) : List A := (ms.take i).map Chg.enc ++ (cs.drop i).map Chg.enc
theorem half_set {cs ms : List Chg} {i : Nat} {m : Chg} (hl : ms.length = cs.length) (h : ms[i]? = some m) : (half cs ms i).set i m.enc = half cs ms (i + 1) := by
  have hi := (List.getElem?_eq_some_iff.1 h).1
  unfold half
  rw [List.take_add_one, h, List.map_append, List.set_append]
  have e : cs.drop i = cs[i] :: cs.drop (i + 1) := List.drop_eq_getElem_cons (by omega)
  rw [e]
  simp only [List.map_cons, List.length_map, List.length_take, Nat.min_eq_left (Nat.le_of_lt hi), Nat.lt_irrefl, if_false, Nat.sub_self, List.set_cons_zero]
  simp
theorem half_at {cs ms : List Chg} {i : Nat} {c : Chg} (hl : ms.length = cs.length) (h : cs[i]? = some c) : (half cs ms i)[i]? = some c.enc := by
  have hi := (List.getElem?_eq_some_iff.1 h).1
  unfold half
  rw [List.getElem?_append_right (by simp; omega)]
  simp [Nat.min_eq_left (by omega : i ≤ ms.length), h]
theorem half_length {cs ms : List Chg} {i : Nat} (hl : ms.length = cs.length) (hi : i ≤ cs.length) : (half cs ms i).length = cs.length := by simp [half]; omega
theorem c_markChangeS (cs : List Chg) (k : Int) (h0 : 0 ≤ k) (h1 : k ≤ 1099511627776) (hb : cs.length ≤ 1048576) :
    MCtr PP n_laws_markChangeS [.sl true 8 (cs.map Chg.enc), i64 k] (i64 (k + 8 * cs.length)) [.sl true 8 ((marksC k cs.length).map Chg.enc), i64 k] := by
  obtain ⟨Ω, hΩ⟩ : ∃ Ω, Ω = std := ⟨_, rfl⟩
  obtain ⟨n, hn⟩ : ∃ n, n = cs.length := ⟨_, rfl⟩
  obtain ⟨ms, hms⟩ : ∃ ms, ms = marksC k n := ⟨_, rfl⟩
  have hml : ms.length = cs.length := by rw [hms, marksC_length, hn]
  obtain ⟨ys, hys⟩ : ∃ ys, ys = half cs ms := ⟨_, rfl⟩
  have hyl : ∀ i, i ≤ n → (ys i).length = n := fun i hi => by rw [hys, hn]; exact half_length hml (by omega)
  obtain ⟨xs, hxs⟩ : ∃ xs, xs = cs.map Chg.enc := ⟨_, rfl⟩
  have hlen : xs.length = n := by rw [hxs, hn, List.length_map]
  have hx0 : xs = ys 0 := by rw [hxs, hys]; rfl
  obtain ⟨kf, hk0, hkm, hkn, hkb⟩ : ∃ kf : Nat → Int, kf 0 = k ∧
      (∀ i, i < n → ms[i]? = some ⟨kf i, markT (inc (kf i)), ⟨inc (inc (kf i)), inc (inc (inc (kf i))), inc (inc (inc (inc (kf i))))⟩, ⟨inc (inc (inc (inc (inc (kf i))))), inc (inc (inc (inc (inc (inc (kf i)))))), inc (inc (inc (inc (inc (inc (inc (kf i)))))))⟩⟩ ∧
        inc (inc (inc (inc (inc (inc (inc (inc (kf i)))))))) = kf (i + 1)) ∧ kf n = k + 8 * cs.length ∧ ∀ i, i < n → inc (kf i) ≤ 1152921504606846976 := by
    refine ⟨fun i => k + 8 * i, by simp, fun i hi => ?_, by simp only; rw [hn], fun i hi => ?_⟩
    · have h := mark_inc (k := k + 8 * i) (by omega) (by omega)
      simp only
      rw [hms, marksC_at hi, ← h.1, h.2]
      exact ⟨rfl, by omega⟩
    · simp only; rw [inc_eq (by omega) (by omega)]; omega
  rw [← hxs, ← hn, ← hms]
  rw [← hn] at hkn
  rw [← hkn]
  obtain ⟨zs, hzs⟩ : ∃ zs, zs = ms.map Chg.enc := ⟨_, rfl⟩
  rw [← hzs]
  have hzn : zs = ys n := by rw [hzs, hys, half, hn, ← hml, List.take_length, hml, List.drop_length]; simp
  have hc := c_markText
  have htab := tab
  have hinc : ∀ x, i64 (Ω.ar .add .i64 x 1) = i64 (inc x) := fun x => by subst hΩ; rfl
  refine MCtr.walkO tab hΩ 3 fn_laws_markChangeS rfl rfl rfl ?_
  have hlo : Ω.len xs = n := by subst hΩ; exact hlen
  generalize PP = P at *
  cbv
  refine loopX htab hΩ (fun i : Nat => ⟨[(0, .vw 0 0 n), (1, .sc (.int .i64 (kf i))), (5, .sc (.int .i64 (Ω.int i))), (76, .vw 0 0 n), (77, .sc (.int .i64 k))], 76, [some ⟨8, ys i, false⟩]⟩) (fun i => i ≤ n) (fun i => n - i) 0 (Nat.zero_le _)
    (Sbs.mk rfl (by rw [← hx0]) ⟨congrArg (A.vw 0 0) hlo, congrArg i64 hk0.symm, zeroI hΩ, congrArg (A.vw 0 0) hlo, rfl, trivial⟩) (fun i hi => ?_)
  cbv
  refine br (fun h => ?_) (fun h => ?_)
  · replace h := ltN hΩ h
    have hi1 := hyl i hi
    have hlt : i < (ys i).length := by omega
    obtain ⟨c, hcc⟩ := at_of (cs := cs) (by omega : i < _)
    have hyc : (ys i)[i]? = some c.enc := by rw [hys]; exact half_at hml hcc
    cbv
    refine ⟨⟨ixI hΩ h⟩, c.enc, atI hΩ hyc, ?_⟩
    cbv
    refine ⟨CallOK_pure (k := 3) (hc (Ω.ar .add .i64 (kf i) 1) (by subst hΩ; exact hkb i h)) rfl (fits _) rfl rfl ?_⟩
    generalize hmt : markT (Ω.ar .add .i64 (kf i) 1) = mt
    cbv
    refine ⟨⟨ixI hΩ h⟩, _, setI hΩ hlt, ?_⟩
    cbv
    refine ⟨⟨ixI hΩ h⟩, _, setI hΩ (setI_lt hΩ hlt), ?_⟩
    cbv
    refine ⟨⟨ixI hΩ h⟩, _, setI hΩ (setI_lt hΩ (setI_lt hΩ hlt)), ?_⟩
    cbv
    refine ⟨⟨ixI hΩ h⟩, _, setI hΩ (setI_lt hΩ (setI_lt hΩ (setI_lt hΩ hlt))), ?_⟩
    cbv
    refine ⟨⟨ixI hΩ h⟩, _, setI hΩ (setI_lt hΩ (setI_lt hΩ (setI_lt hΩ (setI_lt hΩ hlt)))), ?_⟩
    cbv
    refine ⟨⟨ixI hΩ h⟩, _, setI hΩ (setI_lt hΩ (setI_lt hΩ (setI_lt hΩ (setI_lt hΩ (setI_lt hΩ hlt))))), ?_⟩
    cbv
    refine ⟨⟨ixI hΩ h⟩, _, setI hΩ (setI_lt hΩ (setI_lt hΩ (setI_lt hΩ (setI_lt hΩ (setI_lt hΩ (setI_lt hΩ hlt)))))), ?_⟩
    cbv
    refine ⟨i + 1, by omega, by omega, Sbs.mk rfl ?_ ⟨rfl, by subst hΩ; exact congrArg i64 (hkm i h).2, incI hΩ (by omega), rfl, rfl, trivial⟩⟩
    have hset := half_set hml (hkm i h).1
    rw [← hys] at hset
    rw [← hset]
    subst hΩ
    subst hmt
    simp only [std, Int.toNat_natCast, Nat.zero_add, List.set_set]
    rfl
  · replace h : i = n := by have := geN hΩ h; omega
    subst h
    cbv
    refine ⟨⟨rfl, Nat.le_of_eq (hyl i hi).symm⟩, .same, .of ?_⟩
    rw [hzn]
    exact congrArg (fun q => [A.sl true 8 q, i64 k]) (takeI hΩ (hyl i hi))
end Go.Proofs.YtfmcncflooechaaGreat

/- The law of ApplyChanges, walked. Plain theorems. -/
set_option linter.unusedVariables false
set_option linter.unusedSimpArgs false
namespace Go.Proofs.YtfmcncflooechaaGreat
open Go Go.Fw
set_option maxRecDepth 100000
theorem frz_Chg (cs : List Chg) : (cs.map Chg.enc).map frz = cs.map Chg.enc := by
  rw [List.map_map]; exact List.map_congr_left fun c _ => rfl
theorem roF_Chg (cs : List Chg) : roFree (.sl true 8 (cs.map Chg.enc)) = true := roFAll fun x hx => by obtain ⟨c, _, rfl⟩ := List.mem_map.1 hx; rfl
theorem szS_len {α : Type} {f : α → Int → Int} {cs : List α} {l : Int} (h : 0 ≤ szS f cs l) : (cs.length : Int) ≤ l := by
  unfold szS at h
  split at h <;> omega
theorem appS_len {c : List Pck} {s : List Int} {g : List Chg} : (appS c s g).length ≤ c.length := by
  unfold appS
  split
  · rename_i h
    unfold appC at h
    split at h
    · rename_i h2; exact absurd h h2
    · rename_i h2
      split at h
      · cases h
      · rename_i h3
        have hg : Good c s := good_of (Decidable.not_not.1 h2) (by simpa using h3)
        clear h2 h3
        induction g generalizing s with
        | nil => exact hg.len
        | cons x g ih =>
          rw [runC] at h ⊢
          split
          · rename_i h4; rw [if_pos h4] at h; exact ih h (hg.new h4)
          · exact Nat.zero_le _
  · exact Nat.zero_le _
theorem c_lawApply (cs : List Pck) (s : List Int) (t : List Chg) (hm : cs.length ≤ maxLen) (hf : ∀ o ∈ cs, o.Fit) (hsm : s.length ≤ maxLen) (htm : t.length ≤ maxLen) : PCtr PP n_laws_FnExactApplyChanges [.sl false 8 (cs.map (Pck.enc false)), .sl false 1 (s.map i64), .sl false 8 (t.map Chg.enc)] (boo true) := by
  obtain ⟨Ω, hΩ⟩ : ∃ Ω, Ω = std := ⟨_, rfl⟩
  obtain ⟨xs, hxs⟩ : ∃ xs, xs = cs.map (Pck.enc false) := ⟨_, rfl⟩
  obtain ⟨os, hos⟩ : ∃ os, os = cs.map (Pck.enc true) := ⟨_, rfl⟩
  obtain ⟨ss, hss⟩ : ∃ ss, ss = s.map i64 := ⟨_, rfl⟩
  obtain ⟨ts, hts⟩ : ∃ ts, ts = t.map Chg.enc := ⟨_, rfl⟩
  obtain ⟨kk, hkk⟩ : ∃ kk, kk = appC cs s t := ⟨_, rfl⟩
  obtain ⟨zs, hzs⟩ : ∃ zs, zs = (appS cs s t).map i64 := ⟨_, rfl⟩
  have hol : os.length = cs.length := by rw [hos, List.length_map]
  have hsl : ss.length = s.length := by rw [hss, List.length_map]
  have htl : ts.length = t.length := by rw [hts, List.length_map]
  have htf : ts.map frz = ts := by rw [hts]; exact frz_Chg t
  have rt : roFree (.sl true 8 ts) = true := by rw [hts]; exact roF_Chg t
  have hzl : zs.length = (appS cs s t).length := by rw [hzs, List.length_map]
  have hof : os.map frz = xs := by rw [hos, hxs]; exact frz_Pcks cs
  have hsf : ss.map frz = ss := by rw [hss]; exact frz_I s
  have hzf : zs.map frz = zs := by rw [hzs]; exact frz_I _
  have ro : roFree (.sl true 8 os) = true := by rw [hos]; exact roFPs cs
  have rs : roFree (.sl true 1 ss) = true := by rw [hss]; exact roF_I s
  have rz : roFree (.agg [i64 kk, i64 0, .sl true 1 zs]) = true := by rw [hzs]; exact roF_setR _ _ _
  have h1 := c_szPackS cs 1048576 (by omega) (by omega) hm hf
  obtain ⟨l, hl, hl2⟩ : ∃ l, szS szP cs 1048576 = l ∧ (0 ≤ l → cs.length ≤ 1048576 ∧ (∀ o ∈ cs, o.Small) ∧ psum Pck.cnt cs cs.length ≤ 12582912) := ⟨_, rfl, sz_facts⟩
  obtain ⟨l2, hl2', hl3, hl4⟩ : ∃ l2, szS (fun (c : Chg) => szStr c.n) t l = l2 ∧ (0 ≤ l → 0 ≤ l2 → t.length ≤ 1048576) ∧ (0 ≤ l → PCtr PP n_laws_szChangeS [.sl false 8 (t.map Chg.enc), i64 l] (i64 l2)) :=
    ⟨_, rfl, fun h0 h1 => by have h2 := szS_len h1; have h3 : l ≤ 1048576 := by rw [← hl]; exact szP_le _ (by rw [hl]; exact h0)
                             omega, fun h0 => c_szChangeS t l h0 (by rw [← hl]; exact szP_le _ (by rw [hl]; exact h0)) htm⟩
  have hzl0 : 0 ≤ l → (appS cs s t).length ≤ 1048576 := fun h => Nat.le_trans appS_len (hl2 h).1
  obtain ⟨n, hn⟩ : ∃ n, n = (appS cs s t).length := ⟨_, rfl⟩
  obtain ⟨m1, hm1⟩ : ∃ m1 : Int, m1 = 1 + psum Pck.cnt cs cs.length := ⟨_, rfl⟩
  obtain ⟨m2, hm2⟩ : ∃ m2 : Int, m2 = m1 + s.length := ⟨_, rfl⟩
  obtain ⟨m4, hm4⟩ : ∃ m4 : Int, m4 = m2 + 8 * t.length := ⟨_, rfl⟩
  have hm40 : 0 ≤ m4 := by omega
  obtain ⟨m3, hm3⟩ : ∃ m3 : Int, m3 = 1 + (n : Nat) := ⟨_, rfl⟩
  obtain ⟨ms, has⟩ : ∃ ms, ms = marksI m1 s.length := ⟨_, rfl⟩
  obtain ⟨cm, hcm⟩ : ∃ cm, cm = (marksC m2 t.length).map Chg.enc := ⟨_, rfl⟩
  have hcml : cm.length = ts.length := by rw [hcm, List.length_map, marksC_length, htl]
  obtain ⟨bs, hbs⟩ : ∃ bs, bs = marksI 1 n := ⟨_, rfl⟩
  have hal : ms.length = ss.length := by rw [has, hsl, marksI_length]
  have hbl : bs.length = zs.length := by rw [hbs, hzl, marksI_length, hn]
  have hbf : bs.map frz = bs := by rw [hbs]; exact marksI_frz _ _
  have hm20 : 0 ≤ m2 := by omega
  have hm30 : 0 ≤ m3 := by omega
  have H : 0 ≤ l → s.length ≤ 1048576 → 0 ≤ l2 → (PCtr PP n_laws_toChangeS [.sl false 8 ts] (.sl true 8 ts) ∧ PCtr PP n_laws_eqChangeS [.sl false 8 ts, .sl false 8 ts] (boo true) ∧ MCtr PP n_laws_markChangeS [.sl true 8 ts, i64 m2] (i64 m4) [.sl true 8 cm, i64 m2]) ∧ (PCtr PP n_laws_toPackS [.sl false 8 xs] (.sl true 8 os) ∧ PCtr PP n_laws_toInt64S [.sl false 1 ss] (.sl true 1 ss)) ∧
      (PCtr PP n_spec_ApplyChanges [.sl false 8 xs, .sl false 1 ss, .sl false 8 ts] (.agg [i64 kk, i64 0, .sl true 1 zs]) ∧ PCtr PP n_impl_ApplyChanges [.sl false 8 xs, .sl false 1 ss, .sl false 8 ts] (.agg [i64 kk, i64 0, .sl true 1 zs])) ∧
      (PCtr PP n_laws_eqSetResult [.agg [i64 kk, i64 0, .sl false 1 zs], .agg [i64 kk, i64 0, .sl false 1 zs]] (boo true) ∧ PCtr PP n_laws_eqPackS [.sl false 8 xs, .sl false 8 xs] (boo true) ∧ PCtr PP n_laws_eqInt64S [.sl false 1 ss, .sl false 1 ss] (boo true)) ∧
      (ECtr PP n_laws_markPackS [.sl true 8 os, i64 1] (i64 m1) ∧ MCtr PP n_laws_markInt64S [.sl true 1 ss, i64 m1] (i64 m2) [.sl true 1 ms, i64 m1]) ∧
      (MCtr PP n_laws_markSetResult [.agg [i64 kk, i64 0, .sl true 1 zs], i64 1] (i64 m3) [.agg [i64 kk, i64 0, .sl true 1 bs], i64 1] ∧ PCtr PP n_laws_heldSetResult [.agg [i64 kk, i64 0, .sl false 1 bs], i64 1] (i64 m3)) := fun h hs h2 => by
    obtain ⟨k1, k2, k3⟩ := hl2 h
    have k4 := hl3 h h2
    have k5 := hzl0 h
    have d1 := c_toChangeS t k4
    have d2 := c_eqChangeS t (by omega)
    have d3 := c_markChangeS t m2 (by omega) (by omega) k4
    rw [← hm4, ← hts, ← hcm] at d3
    rw [← hts] at d1 d2
    have a1 := c_toPackS cs k1 k2
    have a2 := c_toInt64S s hs
    have a3 := c_specApply cs s t k1 k2 hs k4
    have a4 := c_implApply cs s t k1 k2 hs k4
    have a5 := c_eqSetResult kk 0 (appS cs s t) (by omega)
    have a6 := c_eqPackS cs k1 k2
    have a7 := c_eqInt64S s hs
    have a8 := c_markPackS cs 1 (by omega) (by omega) k1 k2
    have a9 := c_markInt64S s m1 (by omega) (by omega) hs
    have b1 := c_markSetResult kk 0 (appS cs s t) 1 (by omega) (by omega) (by omega)
    have b2 := c_heldSetResult kk 0 n 1 (by omega) (by omega) (by omega)
    unfold setR at a3 a4
    unfold encP at a3 a4
    rw [← hkk, ← hzs, ← hxs, ← hss, ← hts] at a3 a4
    rw [← hxs] at a1 a6
    rw [← hos] at a1 a8
    rw [← hss] at a2 a7 a9
    rw [← hzs] at a5 b1
    rw [← hn, ← hm3, ← hbs] at b1
    rw [← hm3, ← hbs] at b2
    rw [← hm1] at a8
    rw [← hm2, ← has] at a9
    exact ⟨⟨d1, d2, d3⟩, ⟨a1, a2⟩, ⟨a3, a4⟩, ⟨a5, a6, a7⟩, ⟨a8, a9⟩, b1, b2⟩
  rw [hl, ← hxs] at h1
  rw [← hts] at hl4
  rw [← hxs, ← hss, ← hts]
  clear hl2 hl3 hkk hzs hxs hos hss hts
  refine PCtr.walk tab hΩ fn_laws_FnExactApplyChanges rfl ?_
  have htab := tab
  generalize PP = P at *
  cbv
  refine br (fun h => ?_) (fun hs => ?_)
  · cbv
    exact .same
  have hs1 : s.length ≤ 1048576 := by
    rw [← hsl]
    subst hΩ
    have h : (ss.length : Int) ≤ 1048576 := gt_f hs
    omega
  cbv
  refine call_pure hΩ 3 h1 rfl (fits _) rfl rfl ?_
  cbv
  refine br (fun h => ?_) (fun h => ?_)
  · cbv
    exact .same
  have hl0 := ltI_f hΩ h
  cbv
  refine call_pure hΩ 3 (hl4 hl0) rfl (fits _) rfl rfl ?_
  cbv
  refine br (fun h => ?_) (fun h => ?_)
  · cbv
    exact .same
  obtain ⟨⟨d1, d2, d3⟩, ⟨a1, a2⟩, ⟨a3, a4⟩, ⟨a5, a6, a7⟩, ⟨a8, a9⟩, b1, b2⟩ := H hl0 hs1 (ltI_f hΩ h)
  clear H
  have lo : Ω.len os = os.length := by subst hΩ; rfl
  have lt : Ω.len ts = ts.length := by subst hΩ; rfl
  have ls : Ω.len ss = ss.length := by subst hΩ; rfl
  have lz : Ω.len zs = zs.length := by subst hΩ; rfl
  have lb : Ω.len zs = bs.length := lz.trans hbl.symm
  cbv
  refine call_pure hΩ 3 a1 rfl (fits _) ro rfl ?_
  cbv
  refine call_pure hΩ 3 a2 rfl (fits _) rs rfl ?_
  cbv
  refine call_pure hΩ 3 d1 rfl (fits _) rt rfl ?_
  cbv
  refine call_pure hΩ 3 a3 (mapO3 (ro_vw rfl lo hof) (ro_vw rfl ls hsf) (ro_vw rfl lt htf)) (fits _) rz rfl ?_
  cbv
  refine call_pure hΩ 3 a1 rfl (fits _) ro rfl ?_
  cbv
  refine call_pure hΩ 3 a2 rfl (fits _) rs rfl ?_
  cbv
  refine call_pure hΩ 3 d1 rfl (fits _) rt rfl ?_
  cbv
  refine call_pure hΩ 3 a4 (mapO3 (ro_vw rfl lo hof) (ro_vw rfl ls hsf) (ro_vw rfl lt htf)) (fits _) rz rfl ?_
  cbv
  refine call_pure hΩ 3 a5 (mapO2 (ro_agg3 rfl rfl (ro_vw rfl lz hzf)) (ro_agg3 rfl rfl (ro_vw rfl lz hzf))) (fits _) rfl rfl ?_
  cbv
  refine br (fun h => (notT hΩ h).elim) (fun h => ?_)
  cbv
  refine call_pure hΩ 3 a1 rfl (fits _) ro rfl ?_
  cbv
  refine call_pure hΩ 3 a6 (mapO2 (ro_vw rfl lo hof) (ro_vw rfl lo hof)) (fits _) rfl rfl ?_
  cbv
  refine br (fun h => (notT hΩ h).elim) (fun h => ?_)
  cbv
  refine call_pure hΩ 3 a2 rfl (fits _) rs rfl ?_
  cbv
  refine call_pure hΩ 3 a7 (mapO2 (ro_vw rfl ls hsf) (ro_vw rfl ls hsf)) (fits _) rfl rfl ?_
  cbv
  refine br (fun h => (notT hΩ h).elim) (fun h => ?_)
  cbv
  refine call_pure hΩ 3 d1 rfl (fits _) rt rfl ?_
  cbv
  refine call_pure hΩ 3 d2 (mapO2 (ro_vw rfl lt htf) (ro_vw rfl lt htf)) (fits _) rfl rfl ?_
  cbv
  refine br (fun h => (notT hΩ h).elim) (fun h => ?_)
  cbv
  refine call_eat2 (row := ⟨8, os, false⟩) hΩ 3 a8 rfl rfl lo rfl (fits _) rfl rfl ?_
  cbv
  refine call_mut hΩ 3 (l := [(6, ms)] ++ ([] ++ [])) a9 (.cons (mutVw rfl ls hal) (.cons (.data rfl rfl) .nil)) (by simp) rfl ?_
  cbv
  refine call_mut hΩ 3 (l := [(7, cm)] ++ ([] ++ [])) d3 (.cons (mutVw rfl lt hcml) (.cons (.data rfl rfl) .nil)) (by simp) rfl ?_
  cbv
  refine br (fun h => absurd (ltI_t hΩ h) (Int.not_lt.2 hm40)) (fun h => ?_)
  cbv
  refine call_pure hΩ 3 a5 (mapO2 (ro_agg3 rfl rfl (ro_vw rfl lz hzf)) (ro_agg3 rfl rfl (ro_vw rfl lz hzf))) (fits _) rfl rfl ?_
  cbv
  refine br (fun h => ?_) (fun h => ?_)
  · exfalso
    subst hΩ
    exact absurd (show (!true) = true from h) (by decide)
  cbv
  refine call_mut hΩ 3 (l := ([] ++ ([] ++ ([(8, bs)] ++ []))) ++ ([] ++ [])) b1 (.cons (.agg (.cons (.data rfl rfl) (.cons (.data rfl rfl) (.cons (mutVw rfl lz hbl) .nil)))) (.cons (.data rfl rfl) .nil)) (by simp) rfl ?_
  cbv
  refine call_pure hΩ 3 b2 (mapO2 (ro_agg3 rfl rfl (ro_vw rfl lb hbf)) rfl) (fits _) rfl rfl ?_
  cbv
  refine br (fun h => absurd (ltI_t hΩ h) (Int.not_lt.2 hm30)) (fun h => ?_)
  cbv
  refine br (fun h => (ne_self hΩ h).elim) (fun h => ?_)
  cbv
  refine call_pure hΩ 3 a1 rfl (fits _) ro rfl ?_
  cbv
  refine call_pure hΩ 3 a2 rfl (fits _) rs rfl ?_
  cbv
  refine call_pure hΩ 3 d1 rfl (fits _) rt rfl ?_
  cbv
  refine call_pure hΩ 3 a4 (mapO3 (ro_vw rfl lo hof) (ro_vw rfl ls hsf) (ro_vw rfl lt htf)) (fits _) rz rfl ?_
  cbv
  refine call_pure hΩ 3 a5 (mapO2 (ro_agg3 rfl rfl (ro_vw rfl lz hzf)) (ro_agg3 rfl rfl (ro_vw rfl lz hzf))) (fits _) rfl rfl ?_
  cbv
  refine br (fun h => (notT hΩ h).elim) (fun h => ?_)
  cbv
  refine call_pure hΩ 3 b2 (mapO2 (ro_agg3 rfl rfl (ro_vw rfl lb hbf)) rfl) (fits _) rfl rfl ?_
  cbv
  refine br (fun h => absurd (ltI_t hΩ h) (Int.not_lt.2 hm30)) (fun h => ?_)
  cbv
  refine br (fun h => (ne_self hΩ h).elim) (fun h => ?_)
  cbv
  exact .same
end Go.Proofs.YtfmcncflooechaaGreat

/- What a reading of an argument says of it: it is read-only plain data. Plain theorems, no condition. -/
set_option linter.unusedVariables false
set_option linter.unusedSimpArgs false
namespace Go.Fw
/-- Types of plain data. -/
inductive Ty where
  | int (k : IntKind)
  | bool
  | str
  | sl (e : Ty)
  | st (fs : List Ty)
mutual
def Ty.n : Ty → Nat
  | .st fs => Ty.nL fs
  | .int _ => 1
  | .bool => 1
  | .str => 1
  | .sl _ => 1
def Ty.nL : List Ty → Nat
  | [] => 0
  | x :: xs => x.n + Ty.nL xs
end
def Ty.elem (e : Ty) (cs : List A) : A :=
  match e with
  | .st _ => .agg cs
  | _ => cs.headD .un
mutual
def TyOK (P : Program) : Ty → TypeId → Prop
  | .int k, t => P.underlying t = some (.int k)
  | .bool, t => P.underlying t = some .bool
  | .str, t => P.underlying t = some .string
  | .sl e, t => ∃ te, P.underlying t = some (.slice te) ∧ P.cellsOf te = e.n ∧ Nat.ble 1 e.n = true ∧ TyOK P e te
  | .st fs, t => ∃ f, P.underlying t = some (.struct f) ∧ P.cellsOf t = Ty.nL fs ∧ TysOK P 0 fs f.toList
def TysOK (P : Program) : Nat → List Ty → List Field → Prop
  | _, [], [] => True
  | o, x :: xs, f :: fs => f.offset = o ∧ P.cellsOf f.type = x.n ∧ TyOK P x f.type ∧ TysOK P (o + x.n) xs fs
  | _, _, _ => False
end
mutual
inductive Shp : Ty → List A → Prop
  | int {k : IntKind} {n : Int} (h : (Lit.int k n).wf = true) : Shp (.int k) [.sc (.int k n)]
  | bool {b : Bool} : Shp .bool [.sc (.bool b)]
  | str {s : List UInt8} (h : s.length ≤ maxLen) : Shp .str [.sc (.string (mkS s))]
  | sl {e : Ty} {ys : List A} (h : ∀ y ∈ ys, Shp e y.cells) (h2 : ∀ y ∈ ys, y = e.elem y.cells) (hl : ys.length ≤ maxLen) : Shp (.sl e) [.sl false e.n ys]
  | st {fs : List Ty} {xs : List A} (h : ShpL fs xs) : Shp (.st fs) xs
inductive ShpL : List Ty → List A → Prop
  | nil : ShpL [] []
  | cons {t : Ty} {ts : List Ty} {xs ys : List A} (h : Shp t xs) (hl : ShpL ts ys) : ShpL (t :: ts) (xs ++ ys)
end
mutual
theorem Shp.length : ∀ {t : Ty} {xs : List A}, Shp t xs → xs.length = t.n
  | _, _, .int _ => rfl
  | _, _, .bool => rfl
  | _, _, .str _ => rfl
  | _, _, .sl _ _ _ => rfl
  | _, _, .st h => by rw [Ty.n]; exact h.length
theorem ShpL.length : ∀ {ts : List Ty} {xs : List A}, ShpL ts xs → xs.length = Ty.nL ts
  | _, _, .nil => rfl
  | _, _, .cons h hl => by rw [List.length_append, h.length, hl.length, Ty.nL]
end
theorem elem_cells {e : Ty} {cs : List A} (h : Shp e cs) : (e.elem cs).cells = cs := by
  cases h <;> rfl
theorem cells_list {w : World} {base : Nat} {a : Addr} {n : Nat} {cs : List Value} (h : w.cells? base a n = some cs) (hn : 0 < n) :
    ∃ cur e fr, w.heap[a.block]? = some (.cells cur e fr) ∧ a.spot = none ∧ cs = (cur.toList.drop a.off).take n ∧ cs.length = n := by
  unfold World.cells? at h
  split at h <;> try simp at h
  have hget : ∀ (l : List Nat) (r : List Value), l.mapM (fun i => w.cell? (a.add i)) = some r → r.length = l.length ∧ ∀ (j i : Nat), l[j]? = some i → ∃ v, r[j]? = some v ∧ w.cell? (a.add i) = some v := by
    intro l
    induction l with
    | nil => intro r h; simp at h; subst h; simp
    | cons x l ih =>
      intro r h
      simp only [List.mapM_cons, Option.bind_eq_bind, Option.pure_def, Option.bind_eq_some_iff, Option.some.injEq] at h
      obtain ⟨v, hv, r', hr', rfl⟩ := h
      obtain ⟨h1, h2⟩ := ih r' hr'
      refine ⟨by simp [h1], fun j i hj => ?_⟩
      cases j with
      | zero => simp at hj; subst hj; exact ⟨v, rfl, hv⟩
      | succ j => simpa using h2 j i (by simpa using hj)
  obtain ⟨hl, hat⟩ := hget _ _ h
  rw [List.length_range] at hl
  obtain ⟨v0, _, hv0⟩ := hat 0 0 (by rw [List.getElem?_range hn])
  have hblk : ∀ i, (a.add i).block = a.block := fun i => by unfold Addr.add; split <;> rfl
  unfold World.cell? at hv0
  rw [hblk] at hv0
  split at hv0 <;> try simp at hv0
  rename_i cur e fr hh
  have hsp : a.spot = none := by
    cases hs : a.spot with
    | none => rfl
    | some s => simp [Addr.add, hs] at hv0
  refine ⟨cur, e, fr, hh, hsp, ?_, hl⟩
  have ha : a = ⟨a.block, a.off, none⟩ := by cases a; simp at hsp; subst hsp; rfl
  have hcell : ∀ i, w.cell? (a.add i) = cur[a.off + i]? := fun i => by rw [ha, add_none, cell_at hh]
  have hlen : a.off + n ≤ cur.size := by
    obtain ⟨v, _, hv⟩ := hat (n - 1) (n - 1) (by rw [List.getElem?_range (by omega)])
    rw [hcell] at hv
    have := (Array.getElem?_eq_some_iff.1 hv).1
    omega
  apply List.ext_getElem?
  intro j
  by_cases hj : j < n
  · obtain ⟨v, hv1, hv2⟩ := hat j j (by rw [List.getElem?_range hj])
    rw [hv1, List.getElem?_take_of_lt hj, List.getElem?_drop]
    rw [hcell] at hv2
    simpa using hv2.symm
  · rw [List.getElem?_eq_none (by omega), List.getElem?_eq_none (by simp; omega)]
theorem add_block (a : Addr) (i : Nat) : (a.add i).block = a.block := by unfold Addr.add; split <;> rfl
theorem rows_rel {w : World} {G : Nat → Prop} {n : Nat} {X : Nat → List A} {l : List Value} : ∀ len : Nat, (∀ i, i < len → RelL w G (X i) ((l.drop (i * n)).take n) []) → RelL w G ((List.range len).flatMap X) (l.take (len * n)) []
  | 0, _ => by simpa using RelL.nil
  | len + 1, h => by
    have h1 := rows_rel (X := X) len fun i hi => h i (by omega)
    have h2 := h1.append (h len (by omega))
    rw [List.range_succ, List.flatMap_append, Nat.succ_mul, List.take_add]
    simpa using h2
mutual
theorem trod_rel {H : Type} {enc : TypeId × Value → H} {P : Program} {w : World} {base : Nat} {sp : Nat → Bool} {held : Bool} (hsp : ∀ b, sp b = true) :
    ∀ (ty : Ty) (t : TypeId) (fuel : Nat) (cs : List Value) (x : DataW H × List MemPlace), TyOK P ty t → DataW.trod enc P w base sp held fuel t cs = some x → ∃ xs, RelL w (Old w) xs cs [] ∧ Shp ty xs
  | .int k, t, 0, cs, x, hu, h => by simp [DataW.trod] at h
  | .int k, t, fuel + 1, cs, x, hu, h => by
    have hu : P.underlying t = some (.int k) := hu
    unfold DataW.trod at h
    rw [hu] at h
    split at h <;> try simp_all
    obtain ⟨⟨rfl, hw⟩, _⟩ := h
    exact ⟨_, .cons (F := []) (Fs := []) (.sc rfl) .nil, .int hw⟩
  | .bool, t, 0, cs, x, hu, h => by simp [DataW.trod] at h
  | .bool, t, fuel + 1, cs, x, hu, h => by
    have hu : P.underlying t = some .bool := hu
    unfold DataW.trod at h
    rw [hu] at h
    split at h <;> try simp_all
    exact ⟨_, .cons (F := []) (Fs := []) (.sc rfl) .nil, .bool⟩
  | .str, t, 0, cs, x, hu, h => by simp [DataW.trod] at h
  | .str, t, fuel + 1, cs, x, hu, h => by
    have hu : P.underlying t = some .string := hu
    unfold DataW.trod at h
    rw [hu] at h
    split at h <;> try simp_all
    rename_i s
    refine ⟨[.sc (.string (mkS (bs s)))], .cons (F := []) (Fs := []) (.sc rfl) .nil, .str ?_⟩
    rw [bs_length]; exact h.1
  | .sl e, t, fuel, cs, x, hu, h => by
    obtain ⟨te, hu, hc, hpos, hte⟩ := hu
    have hpos := Nat.le_of_ble_eq_true hpos
    rcases Go.Deep.open_slice hu h with ⟨rfl, _⟩ | ⟨a, len, cap, m, n, D, Pl, rfl, _, hl, hm, hmm, _, hel⟩
    · exact ⟨[.sl false e.n []], .cons (F := []) (Fs := []) .nils .nil, .sl (by simp) (by simp) (by simp)⟩
    · rw [hsp, if_pos rfl] at hmm
      subst hmm
      rw [hc] at hel
      by_cases hm0 : m = 0
      · subst hm0
        have : len = 0 := by omega
        subst this
        exact ⟨[.sl false e.n []], .cons (F := []) (Fs := []) .roz .nil, .sl (by simp) (by simp) (by simp)⟩
      · obtain ⟨cs0, hc0, _⟩ := hel 0 (by omega)
        obtain ⟨cur, et, fr, hh, hspot, _, _⟩ := cells_list hc0 hpos
        rw [add_block] at hh
        have hspot' : a.spot = none := by
          cases hs : a.spot with
          | none => rfl
          | some s => simp [Addr.add, hs] at hspot
        have ha : a = ⟨a.block, a.off, none⟩ := by cases a; simp at hspot'; subst hspot'; rfl
        have hX : ∀ i, i < m → ∃ xs, RelL w (Old w) xs ((cur.toList.drop (a.off + i * e.n)).take e.n) [] ∧ Shp e xs := fun i hi => by
          obtain ⟨csi, hci, hti⟩ := hel i hi
          obtain ⟨cur', et', fr', hh', _, hcs, _⟩ := cells_list hci hpos
          rw [add_block, hh] at hh'
          simp only [Option.some.injEq, Obj.cells.injEq] at hh'
          obtain ⟨rfl, _, _⟩ := hh'
          obtain ⟨xs, h1, h2⟩ := trod_rel hsp e te n csi _ hte hti
          refine ⟨xs, ?_, h2⟩
          rw [hcs] at h1
          have : (a.add (i * e.n)).off = a.off + i * e.n := by rw [ha, add_none]
          rw [this] at h1
          exact h1
        let X : Nat → List A := fun i => if h : i < m then Classical.choose (hX i h) else []
        have hX1 : ∀ i, i < m → RelL w (Old w) (X i) ((cur.toList.drop (a.off + i * e.n)).take e.n) [] ∧ Shp e (X i) := fun i hi => by
          have : X i = Classical.choose (hX i hi) := by simp only [X]; rw [dif_pos hi]
          rw [this]; exact Classical.choose_spec (hX i hi)
        have hmem : ∀ y ∈ (List.range len).map fun i => e.elem (X i), Shp e y.cells ∧ y = e.elem y.cells := fun y hy => by
          obtain ⟨i, hi, rfl⟩ := List.mem_map.1 hy
          have hi := List.mem_range.1 hi
          have hs := (hX1 i (by omega)).2
          rw [elem_cells hs]
          exact ⟨hs, rfl⟩
        refine ⟨[.sl false e.n ((List.range len).map fun i => e.elem (X i))], .cons (F := []) (Fs := []) ?_ .nil, .sl (fun y hy => (hmem y hy).1) (fun y hy => (hmem y hy).2) (by simp; omega)⟩
        have hlt : a.block < w.heap.size := (Array.getElem?_eq_some_iff.1 hh).1
        rw [ha]
        refine .ro hh hlt (fun y hy => ?_) (by simp) rfl ?_ (by omega) (by omega)
        · have := (hmem y hy).1.length
          exact this
        · have hf : flat ((List.range len).map fun i => e.elem (X i)) = (List.range len).flatMap X := by
            unfold flat
            rw [List.flatMap_map]
            have : ∀ l : List Nat, (∀ i ∈ l, i < m) → l.flatMap (fun i => (e.elem (X i)).cells) = l.flatMap X := by
              intro l
              induction l with
              | nil => intro _; rfl
              | cons i l ih =>
                intro hl
                rw [List.flatMap_cons, List.flatMap_cons, ih fun j hj => hl j (by simp [hj]), elem_cells (hX1 i (hl i (by simp))).2]
            exact this _ fun i hi => by have := List.mem_range.1 hi; omega
          rw [hf]
          refine rows_rel len fun i hi => ?_
          have := (hX1 i (by omega)).1
          rw [← List.drop_drop] at this
          exact this
  | .st fs, t, 0, cs, x, hu, h => by simp [DataW.trod] at h
  | .st fs, t, fuel + 1, cs, x, hu, h => by
    obtain ⟨f, hu, hc, hfs⟩ := hu
    unfold DataW.trod at h
    rw [hu] at h
    simp only at h
    split at h <;> try simp at h
    rename_i hlen
    obtain ⟨ys, hys, _⟩ := h
    obtain ⟨xs, h1, h2⟩ := trod_rels hsp fs f.toList fuel 0 cs ys hfs (by rw [hlen, hc]; omega) hys
    exact ⟨xs, by simpa using h1, .st h2⟩
theorem trod_rels {H : Type} {enc : TypeId × Value → H} {P : Program} {w : World} {base : Nat} {sp : Nat → Bool} {held : Bool} (hsp : ∀ b, sp b = true) :
    ∀ (tys : List Ty) (fs : List Field) (fuel o : Nat) (cs : List Value) (ys : List (DataW H × List MemPlace)), TysOK P o tys fs → cs.length = o + Ty.nL tys →
      fs.mapM (fun f => DataW.trod enc P w base sp held fuel f.type ((cs.drop f.offset).take (P.cellsOf f.type))) = some ys → ∃ xs, RelL w (Old w) xs (cs.drop o) [] ∧ ShpL tys xs
  | [], [], fuel, o, cs, ys, _, hl, _ => ⟨[], by rw [List.drop_eq_nil_of_le (by rw [hl, Ty.nL]; omega)]; exact .nil, .nil⟩
  | [], _ :: _, fuel, o, cs, ys, hu, hl, h => hu.elim
  | _ :: _, [], fuel, o, cs, ys, hu, hl, h => hu.elim
  | ty :: tys, f :: fs, fuel, o, cs, ys, hu, hl, h => by
    obtain ⟨ho, hc, ht, hts⟩ := hu
    simp only [List.mapM_cons, Option.bind_eq_bind, Option.pure_def, Option.bind_eq_some_iff, Option.some.injEq] at h
    obtain ⟨y, hy, ys', hys', _⟩ := h
    rw [ho, hc] at hy
    obtain ⟨xs1, h1, h2⟩ := trod_rel hsp ty f.type fuel _ _ ht hy
    rw [Ty.nL] at hl
    obtain ⟨xs2, h3, h4⟩ := trod_rels hsp tys fs fuel (o + ty.n) cs ys' hts (by omega) hys'
    refine ⟨xs1 ++ xs2, ?_, .cons h2 h4⟩
    have := h1.append h3
    rw [← List.drop_drop, List.take_append_drop] at this
    simpa using this
end
end Go.Fw

/- The closing of a law's row. Plain theorems, no condition. -/
set_option linter.unusedVariables false
set_option linter.unusedSimpArgs false
namespace Go.Fw
open Go.ChangeShapes Go.WideShapes Go.ChangeAt Go.RowKit
def PlainT (P : Program) (t : TypeId) : Prop := ∃ ty, TyOK P ty t
theorem tys_fields {P : Program} : ∀ {tys : List Ty} {fs : List Field} {o : Nat}, TysOK P o tys fs → (∀ f ∈ fs, PlainT P f.type) ∧ Ty.nL tys = (fs.map fun f => P.cellsOf f.type).sum ∧
    ∀ (j : Nat) f, fs[j]? = some f → f.offset = o + ((fs.take j).map fun f => P.cellsOf f.type).sum
  | [], [], o, _ => ⟨by simp, rfl, by simp⟩
  | [], _ :: _, o, h => h.elim
  | _ :: _, [], o, h => h.elim
  | ty :: tys, f :: fs, o, h => by
    obtain ⟨h1, h2, h3, h4⟩ := h
    obtain ⟨g1, g2, g3⟩ := tys_fields h4
    refine ⟨fun f' hf => ?_, by rw [Ty.nL, g2, ← h2]; simp, fun j f' hj => ?_⟩
    · rcases List.mem_cons.1 hf with rfl | hf
      · exact ⟨ty, h3⟩
      · exact g1 f' hf
    · cases j with
      | zero => simp at hj; subst hj; simp [h1]
      | succ j =>
        have := g3 j f' (by simpa using hj)
        rw [this, ← h2]; simp; omega
theorem kids (P : Program) : Kids P (PlainT P) := by
  refine ⟨?_, ?_, ?_, ?_, ?_⟩
  · rintro t e ⟨ty, h⟩ hu
    cases ty with
    | sl _ => obtain ⟨te, h, _⟩ := h; rw [hu] at h; simp at h
    | st _ => obtain ⟨f, h, _⟩ := h; rw [hu] at h; simp at h
    | _ => rw [TyOK, hu] at h; simp at h
  · rintro t e ⟨ty, h⟩ hu
    cases ty with
    | sl e' => obtain ⟨te, h, _, _, h2⟩ := h; rw [hu] at h; simp at h; subst h; exact ⟨e', h2⟩
    | st _ => obtain ⟨f, h, _⟩ := h; rw [hu] at h; simp at h
    | _ => rw [TyOK, hu] at h; simp at h
  · rintro t e n ⟨ty, h⟩ hu
    cases ty with
    | sl _ => obtain ⟨te, h, _⟩ := h; rw [hu] at h; simp at h
    | st _ => obtain ⟨f, h, _⟩ := h; rw [hu] at h; simp at h
    | _ => rw [TyOK, hu] at h; simp at h
  · rintro t fs ⟨ty, h⟩ hu
    cases ty with
    | sl _ => obtain ⟨te, h, _⟩ := h; rw [hu] at h; simp at h
    | st tys =>
      obtain ⟨f, h, hc, hts⟩ := h
      rw [hu] at h
      simp at h
      subst h
      obtain ⟨g1, g2, g3⟩ := tys_fields hts
      exact ⟨g1, by rw [hc, g2], fun j f hj => by rw [g3 j f hj, Nat.zero_add]⟩
    | _ => rw [TyOK, hu] at h; simp at h
  · rintro t k e ⟨ty, h⟩ hu
    cases ty with
    | sl _ => obtain ⟨te, h, _⟩ := h; rw [hu] at h; simp at h
    | st _ => obtain ⟨f, h, _⟩ := h; rw [hu] at h; simp at h
    | _ => rw [TyOK, hu] at h; simp at h
theorem plain_sz {P : Program} {t e : TypeId} (h : PlainT P t) (hu : P.underlying t = some (.slice e)) : 0 < P.cellsOf e := by
  obtain ⟨ty, h⟩ := h
  cases ty with
  | sl _ => obtain ⟨te, h, hc, hb, _⟩ := h; rw [hu] at h; simp at h; subst h; rw [hc]; exact Nat.le_of_ble_eq_true hb
  | st _ => obtain ⟨f, h, _⟩ := h; rw [hu] at h; simp at h
  | _ => rw [TyOK, hu] at h; simp at h
section
variable {H : Type} {enc : TypeId × Value → H} {P : Program}
theorem stays_all {W W' : World} {sp' : Nat → Bool} : ∀ {ts : List TypeId} {vs : List Value} {ds : List (DataW H)} {ps : List MemPlace}, (∀ t ∈ ts, PlainT P t) → DataW.TrodAll enc P W 0 (fun _ => true) true ts vs ds ps →
    (∀ p ∈ ps, W.sameAt W' p) → (∀ p ∈ ps, sp' p.block = true) → DataW.TrodAll enc P W' 0 sp' true ts vs ds ps
  | [], [], [], ps, _, h, _, _ => h
  | t :: ts, v :: vs, d :: ds, ps, ht, h, hsame, hs => by
    obtain ⟨p, q, ⟨n, hn⟩, hl, rfl⟩ := h
    refine ⟨p, q, ⟨n, ?_⟩, stays_all (fun t h => ht t (by simp [h])) hl (fun x hx => hsame x (by simp [hx])) (fun x hx => hs x (by simp [hx])), rfl⟩
    exact DataW.trod_stays (kids P) plain_sz (by simp) (ht t (by simp)) hn (fun x hx => hsame x (by simp [hx])) (fun x hx => hs x (by simp [hx]))
theorem post_law {f : Func} {s : ChangeSpec} {apart fresh handsOn again : Bool} {W W' : World} {args : Array Value} {ds gs : List (DataW H)} {before : List MemPlace} {tb : TypeId} (hsv : s.vars = [])
    (hW : DataW.Whole enc P f.params.toList s.vars apart W args.toList ds gs before) (htys : ∀ t ∈ f.params.toList, PlainT P t) (hrt : f.resultTypes = #[tb]) (hub : P.underlying tb = some .bool)
    (hfn : s.fn H (ds ++ gs) = { results := [.lit (.bool true)], args := ds }) (hb : Below W.heap.size W W') : s.post enc P f apart fresh handsOn again W args (.bool true) W' := by
  have hW0 := hW
  obtain ⟨p, q, hA, hV, rfl, hfz, hnd⟩ := hW
  rw [hsv] at hV
  obtain ⟨rfl, rfl⟩ := trodVars_none hV
  rw [List.append_nil] at hfz hnd hW0
  have hlt := hW0.lt
  have hsame : ∀ x ∈ p, W.sameAt W' x := fun x hx => hb.same (hlt x hx)
  have hres : ∀ (b : Nat) (sp : Nat → Bool) (hd : Bool), DataW.TrodAll enc P W' b sp hd f.resultTypes.toList ((Value.bool true).resultList f.resultTypes.size) (s.fn H (ds ++ [])).results [] := fun b sp hd => by
    rw [hfn, hrt]
    exact trodAll_cons_mk (shut_bool hub _) trodAll_mk0
  have hargs : ∀ sp : Nat → Bool, (∀ x ∈ p, sp x.block = true) → DataW.TrodAll enc P W' 0 sp true f.params.toList args.toList (s.fn H (ds ++ [])).args p := fun sp hs => by
    rw [hfn]; exact stays_all htys hA hsame hs
  have hvars : ∀ sp : Nat → Bool, DataW.TrodVars enc P W' sp s.vars (s.fn H (ds ++ [])).vars [] := fun sp => by rw [hfn, hsv]; rfl
  have hold : ∀ x ∈ p, (fun b => decide (b < W.heap.size)) x.block = true := fun x hx => by simpa using hlt x hx
  refine ⟨ds, [], p, [], p, [], hW0, hres _ _ _, hargs _ hold, hvars _, World.keptBut_mono (fun x hx => ⟨hx, .inr (.inl hx)⟩) (hb.frame (· ∈ p)), fun _ => ?_⟩
  refine ⟨?_, _, _, ([] ++ p) ++ [], ⟨[] ++ p, [], trodAll_append (hargs _ (fun _ _ => rfl)) (hres 0 (fun _ => true) true), hvars _, rfl, ?_, ?_⟩, ?_⟩
  · intro j t r h1 h2
    exact ok_one (v := .bool true) hrt rfl (okWide_bool_mk hub true) j t r h1 h2
  · intro b off hp
    have hp' : MemPlace.cell b off ∈ p := by simpa using hp
    rw [hb.frozen (p := ⟨b, off, none⟩) (hlt _ hp')]
    exact hfz b off hp'
  · intro ha
    simpa using hnd ha
  · intro x hx _
    simpa using hx
end
mutual
def tyChk (P : Program) : Ty → TypeId → Bool
  | .int k, t => match P.underlying t with | some (.int k') => decide (k' = k) | _ => false
  | .bool, t => match P.underlying t with | some .bool => true | _ => false
  | .str, t => match P.underlying t with | some .string => true | _ => false
  | .sl e, t => match P.underlying t with | some (.slice te) => P.cellsOf te == e.n && (Nat.ble 1 e.n && tyChk P e te) | _ => false
  | .st fs, t => match P.underlying t with | some (.struct f) => P.cellsOf t == Ty.nL fs && tysChk P 0 fs f.toList | _ => false
def tysChk (P : Program) : Nat → List Ty → List Field → Bool
  | _, [], [] => true
  | o, x :: xs, f :: fs => f.offset == o && (P.cellsOf f.type == x.n && (tyChk P x f.type && tysChk P (o + x.n) xs fs))
  | _, _, _ => false
end
mutual
theorem tyChk_ok {P : Program} : ∀ (ty : Ty) (t : TypeId), tyChk P ty t = true → TyOK P ty t
  | .int k, t, h => by
    rw [tyChk] at h; split at h <;> try simp at h
    rename_i hu; subst h; rw [TyOK]; exact hu
  | .bool, t, h => by
    rw [tyChk] at h; split at h <;> try simp at h
    rename_i hu; rw [TyOK]; exact hu
  | .str, t, h => by
    rw [tyChk] at h; split at h <;> try simp at h
    rename_i hu; rw [TyOK]; exact hu
  | .sl e, t, h => by
    rw [tyChk] at h; split at h <;> try simp at h
    rename_i te hu; rw [TyOK]
    exact ⟨te, hu, h.1, by simpa using h.2.1, tyChk_ok e te h.2.2⟩
  | .st fs, t, h => by
    rw [tyChk] at h; split at h <;> try simp at h
    rename_i f hu; rw [TyOK]
    exact ⟨f, hu, h.1, tysChk_ok fs _ _ h.2⟩
theorem tysChk_ok {P : Program} : ∀ (tys : List Ty) (o : Nat) (fs : List Field), tysChk P o tys fs = true → TysOK P o tys fs
  | [], _, [], _ => by rw [TysOK]; trivial
  | [], _, _ :: _, h => by simp [tysChk] at h
  | _ :: _, _, [], h => by simp [tysChk] at h
  | x :: xs, o, f :: fs, h => by
    rw [tysChk] at h
    simp only [Bool.and_eq_true, beq_iff_eq] at h
    rw [TysOK]
    exact ⟨h.1, h.2.1, tyChk_ok x _ h.2.2.1, tysChk_ok xs _ fs h.2.2.2⟩
end
theorem slice_cells {P : Program} {W : World} {base : Nat} {t e : TypeId} {v : Value} (hu : P.underlying t = some (.slice e)) (h : Value.okWide P W .any base t v) : v.cells.toList = [v] := by
  unfold Value.okWide at h
  rw [hu] at h
  simp only at h
  unfold Cell.okWide at h
  rw [hu] at h
  cases v <;> first | rfl | (simp [Cell.ok, hu] at h)
end Go.Fw

/- Shapes of arguments. Plain theorems. -/
set_option linter.unusedVariables false
set_option linter.unusedSimpArgs false
namespace Go.Proofs.YtfmcncflooechaaGreat
open Go Go.Fw
open Go.ChangeShapes Go.WideShapes Go.ChangeAt Go.RowKit
def tyVer : Ty := .st [.int .i64, .int .i64, .int .i64]
def tyTrm : Ty := .st [.str, tyVer, tyVer]
def tyPck : Ty := .st [.str, tyVer, .int .i64, .sl .str, .sl (.sl tyTrm), .sl tyTrm]
theorem shp_i64 {xs : List A} (h : Shp (.int .i64) xs) : ∃ x, xs = [i64 x] := by cases h; exact ⟨_, rfl⟩
theorem shp_str {xs : List A} (h : Shp .str xs) : ∃ x, xs = [str x] ∧ x.length ≤ Go.maxLen := by cases h; exact ⟨_, rfl, by assumption⟩
theorem shp_Ver {xs : List A} (h : Shp tyVer xs) : ∃ v : Ver, xs = v.cells := by
  cases h with | st h =>
  cases h with | cons h1 h =>
  cases h with | cons h2 h =>
  cases h with | cons h3 h =>
  cases h
  obtain ⟨a, rfl⟩ := shp_i64 h1
  obtain ⟨b, rfl⟩ := shp_i64 h2
  obtain ⟨c, rfl⟩ := shp_i64 h3
  exact ⟨⟨a, b, c⟩, rfl⟩
theorem shp_Trm {xs : List A} (h : Shp tyTrm xs) : ∃ v : Trm, xs = v.cells ∧ v.n.length ≤ Go.maxLen := by
  cases h with | st h =>
  cases h with | cons h1 h =>
  cases h with | cons h2 h =>
  cases h with | cons h3 h =>
  cases h
  obtain ⟨n, rfl, hn⟩ := shp_str h1
  obtain ⟨o, rfl⟩ := shp_Ver h2
  obtain ⟨w, rfl⟩ := shp_Ver h3
  exact ⟨⟨n, o, w⟩, rfl, hn⟩
theorem maps_of {α : Type} {f : α → A} {p : α → Prop} : ∀ {ys : List A}, (∀ y ∈ ys, ∃ c, y = f c ∧ p c) → ∃ cs : List α, ys = cs.map f ∧ ∀ c ∈ cs, p c
  | [], _ => ⟨[], rfl, by simp⟩
  | y :: ys, h => by
    obtain ⟨c, rfl, hc⟩ := h y (by simp)
    obtain ⟨cs, rfl, hcs⟩ := maps_of (ys := ys) fun z hz => h z (by simp [hz])
    exact ⟨c :: cs, rfl, fun z hz => by exact (List.mem_cons.1 hz).elim (fun e => e ▸ hc) (hcs z)⟩
theorem shp_sl {e : Ty} {xs : List A} (h : Shp (.sl e) xs) {α : Type} {f : α → A} {p : α → Prop} (hf : ∀ y, Shp e y.cells → y = e.elem y.cells → ∃ c, y = f c ∧ p c) : ∃ cs : List α, xs = [.sl false e.n (cs.map f)] ∧ cs.length ≤ Go.maxLen ∧ ∀ c ∈ cs, p c := by
  cases h with | sl h1 h2 hl =>
  rename_i ys
  obtain ⟨cs, rfl, hp⟩ := maps_of (f := f) (p := p) (ys := ys) fun y hy => hf y (h1 y hy) (h2 y hy)
  exact ⟨cs, rfl, by simpa using hl, hp⟩
theorem shp_strS {xs : List A} (h : Shp (.sl .str) xs) : ∃ cs : List (List UInt8), xs = [.sl false 1 (cs.map str)] ∧ cs.length ≤ Go.maxLen ∧ ∀ c ∈ cs, c.length ≤ Go.maxLen :=
  shp_sl h fun y h1 h2 => by
    obtain ⟨v, hv, hp⟩ := shp_str h1
    exact ⟨v, by rw [h2, hv]; rfl, hp⟩
theorem shp_TrmS {xs : List A} (h : Shp (.sl tyTrm) xs) : ∃ cs : List Trm, xs = [.sl false 7 (cs.map Trm.enc)] ∧ cs.length ≤ Go.maxLen ∧ ∀ c ∈ cs, c.n.length ≤ Go.maxLen :=
  shp_sl h fun y h1 h2 => by
    obtain ⟨v, hv, hp⟩ := shp_Trm h1
    exact ⟨v, by rw [h2, hv]; rfl, hp⟩
def tyChg : Ty := .st [.int .i64, .str, tyVer, tyVer]
theorem shp_Chg {xs : List A} (h : Shp tyChg xs) : ∃ v : Chg, xs = v.cells ∧ v.n.length ≤ Go.maxLen := by
  cases h with | st h =>
  cases h with | cons h1 h =>
  cases h with | cons h2 h =>
  cases h with | cons h3 h =>
  cases h with | cons h4 h =>
  cases h
  obtain ⟨k, rfl⟩ := shp_i64 h1
  obtain ⟨n, rfl, hn⟩ := shp_str h2
  obtain ⟨o, rfl⟩ := shp_Ver h3
  obtain ⟨w, rfl⟩ := shp_Ver h4
  exact ⟨⟨k, n, o, w⟩, rfl, hn⟩
theorem shp_ChgS {xs : List A} (h : Shp (.sl tyChg) xs) : ∃ cs : List Chg, xs = [.sl false 8 (cs.map Chg.enc)] ∧ cs.length ≤ Go.maxLen ∧ ∀ c ∈ cs, c.n.length ≤ Go.maxLen :=
  shp_sl h fun y h1 h2 => by
    obtain ⟨v, hv, hp⟩ := shp_Chg h1
    exact ⟨v, by rw [h2, hv]; rfl, hp⟩
theorem shp_TrmSS {xs : List A} (h : Shp (.sl (.sl tyTrm)) xs) : ∃ cs : List (List Trm), xs = [.sl false 1 (cs.map (encTs false))] ∧ cs.length ≤ Go.maxLen ∧ ∀ c ∈ cs, c.length ≤ Go.maxLen ∧ ∀ t ∈ c, t.n.length ≤ Go.maxLen :=
  shp_sl h fun y h1 h2 => by
    obtain ⟨v, hv, hp⟩ := shp_TrmS h1
    exact ⟨v, by rw [h2, hv]; rfl, hp⟩
theorem shp_i64S {xs : List A} (h : Shp (.sl (.int .i64)) xs) : ∃ cs : List Int, xs = [.sl false 1 (cs.map i64)] ∧ cs.length ≤ Go.maxLen := by
  obtain ⟨cs, h1, h2, _⟩ := shp_sl (f := i64) (p := fun _ => True) h fun y h1 h2 => by
    obtain ⟨v, hv⟩ := shp_i64 h1
    exact ⟨v, by rw [h2, hv]; rfl, trivial⟩
  exact ⟨cs, h1, h2⟩
theorem shp_Pck {xs : List A} (h : Shp tyPck xs) : ∃ v : Pck, xs = v.cells false ∧ v.Fit := by
  cases h with | st h =>
  cases h with | cons h1 h =>
  cases h with | cons h2 h =>
  cases h with | cons h3 h =>
  cases h with | cons h4 h =>
  cases h with | cons h5 h =>
  cases h with | cons h6 h =>
  cases h
  obtain ⟨n, rfl, hn⟩ := shp_str h1
  obtain ⟨v, rfl⟩ := shp_Ver h2
  obtain ⟨s, rfl⟩ := shp_i64 h3
  obtain ⟨p, rfl, hp⟩ := shp_strS h4
  obtain ⟨d, rfl, hd⟩ := shp_TrmSS h5
  obtain ⟨b, rfl, hb⟩ := shp_TrmS h6
  exact ⟨⟨n, v, s, p, d, b⟩, rfl, ⟨hn, hp, hd, hb⟩⟩
theorem shp_PckS {xs : List A} (h : Shp (.sl tyPck) xs) : ∃ cs : List Pck, xs = [.sl false 8 (cs.map (Pck.enc false))] ∧ cs.length ≤ Go.maxLen ∧ ∀ c ∈ cs, c.Fit :=
  shp_sl h fun y h1 h2 => by
    obtain ⟨v, hv, hp⟩ := shp_Pck h1
    exact ⟨v, by rw [h2, hv]; rfl, hp⟩
end Go.Proofs.YtfmcncflooechaaGreat

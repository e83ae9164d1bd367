/- Lists in strict order: what compaction of a sorted list gives, and what put5 keeps. Plain theorems, no program. -/
import Derived.Test.YtfmcncflooechaaGreatC4
import Derived.Deep.Slices
import Derived.ChangeStays
import Derived.OpenShut
import Derived.WalkKit
import Derived.ProofKit
set_option linter.unusedVariables false
set_option linter.unusedSimpArgs false
namespace Go.Proofs.YtfmcncflooechaaGreat
open Go Go.Fw Go.Sort Go.Lib
theorem strict_ext {α : Type} [LT α] (irr : ∀ a : α, ¬ a < a) (tr : ∀ a b c : α, a < b → b < c → a < c) : ∀ {a b : List α}, a.Pairwise (· < ·) → b.Pairwise (· < ·) → (∀ x, x ∈ a ↔ x ∈ b) → a = b
  | [], [], _, _, _ => rfl
  | [], y :: b, _, _, h => by have := (h y).2 (by simp); cases this
  | x :: a, [], _, _, h => by have := (h x).1 (by simp); cases this
  | x :: a, y :: b, ha, hb, h => by
    rw [List.pairwise_cons] at ha hb
    have e : x = y := by
      rcases List.mem_cons.1 ((h x).1 (by simp)) with e | hx
      · exact e
      · rcases List.mem_cons.1 ((h y).2 (by simp)) with e | hy
        · exact e.symm
        · exact absurd (tr _ _ _ (ha.1 y hy) (hb.1 x hx)) (irr _)
    subst e
    rw [strict_ext irr tr ha.2 hb.2 fun z => ⟨fun hz => ?_, fun hz => ?_⟩]
    · rcases List.mem_cons.1 ((h z).1 (by simp [hz])) with rfl | h1
      · exact absurd (ha.1 z hz) (irr z)
      · exact h1
    · rcases List.mem_cons.1 ((h z).2 (by simp [hz])) with rfl | h1
      · exact absurd (hb.1 z hz) (irr z)
      · exact h1
theorem compact_spec {α : Type} [LT α] [Inhabited α] [DecidableEq α] (tr : ∀ a b c : α, a < b → b < c → a < c) {d : Array α} (hs : ∀ i j, i < j → j < d.size → d[i]! < d[j]! ∨ d[i]! = d[j]!) : ∀ m, m ≤ d.size → (compactUpTo d m).Pairwise (· < ·) ∧ (∀ x, x ∈ compactUpTo d m ↔ ∃ j, j < m ∧ x = d[j]!)
  | 0, _ => by simp [compactUpTo]
  | m + 1, hm => by
    obtain ⟨h1, h2⟩ := compact_spec tr hs m (by omega)
    rw [compactUpTo_succ]
    cases hk : keeps d m with
    | false =>
      unfold keeps at hk
      rw [decide_eq_false_iff_not] at hk
      have h0 : m ≠ 0 := fun e => hk (.inl e)
      have he : d[m]! = d[m - 1]! := Decidable.byContradiction fun e => hk (.inr e)
      rw [if_neg (by simp), List.append_nil]
      refine ⟨h1, fun x => (h2 x).trans ⟨fun ⟨j, hj, e⟩ => ⟨j, by omega, e⟩, fun ⟨j, hj, e⟩ => ?_⟩⟩
      by_cases ej : j = m
      · exact ⟨m - 1, by omega, by rw [e, ej, he]⟩
      · exact ⟨j, by omega, e⟩
    | true =>
      rw [if_pos rfl]
      refine ⟨?_, fun x => ?_⟩
      · rw [List.pairwise_append]
        refine ⟨h1, by simp, fun x hx y hy => ?_⟩
        rw [List.mem_singleton] at hy
        subst hy
        obtain ⟨j, hj, rfl⟩ := (h2 x).1 hx
        unfold keeps at hk
        have hk := of_decide_eq_true hk
        have hne : d[m]! ≠ d[m - 1]! := hk.resolve_left (by omega)
        have hl : d[m - 1]! < d[m]! := (hs (m - 1) m (by omega) (by omega)).resolve_right fun e => hne e.symm
        by_cases e : j = m - 1
        · rw [e]; exact hl
        · rcases hs j (m - 1) (by omega) (by omega) with h | h
          · exact tr _ _ _ h hl
          · rw [h]; exact hl
      · rw [List.mem_append, h2, List.mem_singleton]
        constructor
        · rintro (⟨j, hj, e⟩ | e)
          · exact ⟨j, by omega, e⟩
          · exact ⟨m, by omega, e⟩
        · rintro ⟨j, hj, e⟩
          by_cases ej : j = m
          · exact .inr (by rw [e, ej])
          · exact .inl ⟨j, by omega, e⟩
theorem compact_strict {α : Type} [LT α] [Inhabited α] [DecidableEq α] (tr : ∀ a b c : α, a < b → b < c → a < c) {zs : List α} (hs : zs.Pairwise fun x y => x < y ∨ x = y) : (compact zs).Pairwise (· < ·) ∧ ∀ x, x ∈ compact zs ↔ x ∈ zs := by
  have hg : ∀ j (h : j < zs.length), zs.toArray[j]! = zs[j] := fun j h => by rw [getElem!_pos _ _ (by simpa using h)]; simp
  have h := compact_spec tr (d := zs.toArray) (fun i j hij hj => by
    have hj' : j < zs.length := by simpa using hj
    rw [hg i (by omega), hg j hj']; exact List.pairwise_iff_getElem.1 hs i j (by omega) hj' hij) zs.length (by simp)
  refine ⟨h.1, fun x => (h.2 x).trans ⟨?_, fun hx => ?_⟩⟩
  · rintro ⟨j, hj, rfl⟩; rw [hg j hj]; exact List.getElem_mem hj
  · obtain ⟨j, hj, rfl⟩ := List.mem_iff_getElem.1 hx; exact ⟨j, hj, (hg j hj).symm⟩
theorem ltS_irr (a : List UInt8) : ¬ a < a := List.lt_irrefl a
theorem ltS_tr (a b c : List UInt8) (h : a < b) (h' : b < c) : a < c := List.lt_trans h h'
theorem ltS_tri (a b : List UInt8) : a < b ∨ a = b ∨ b < a := by
  by_cases h : a < b
  · exact .inl h
  · rcases List.le_iff_lt_or_eq.1 (List.not_lt.1 h) with h | h
    · exact .inr (.inr h)
    · exact .inr (.inl h.symm)
theorem sortS_spec (xs : List (List UInt8)) : (compS (sortS xs)).Pairwise (· < ·) ∧ ∀ x, x ∈ compS (sortS xs) ↔ x ∈ xs := by
  have hp : (sortS xs).Pairwise fun x y => x < y ∨ x = y := by
    have := List.pairwise_mergeSort (le := fun x y : List UInt8 => decide (x ≤ y)) (by intro a b c; simp only [decide_eq_true_eq]; exact List.le_trans) (by intro a b; simp only [Bool.or_eq_true, decide_eq_true_eq]; exact List.le_total a b) xs
    exact this.imp fun h => List.le_iff_lt_or_eq.1 (by simpa using h)
  obtain ⟨h1, h2⟩ := compact_strict ltS_tr hp
  exact ⟨h1, fun x => (h2 x).trans (List.mergeSort_perm xs _).mem_iff⟩
theorem putGo_spec {v : List UInt8} {l : List (List UInt8)} : ∀ {xs o : List (List UInt8)} {d : Bool}, (o ++ xs).Pairwise (· < ·) → (d = true → v ∈ o) → (d = false → v ∉ o ∧ (∀ y ∈ o, y < v)) → (∀ x, x ∈ l → x = v ∨ x ∈ o ++ xs) → (∀ x ∈ o ++ xs, x = v ∨ x ∈ l) → l.Pairwise (· < ·) → (v ∈ xs → v ∈ l) →
    (putGo v l o d xs).Pairwise (· < ·) ∧ ∀ x, x ∈ putGo v l o d xs ↔ x = v ∨ x ∈ l
  | [], o, d, h1, h2, h3, h4, h5, h6, h7 => by
    rw [putGo]
    rw [List.append_nil] at h1 h4 h5
    cases d with
    | true => rw [if_pos rfl]; exact ⟨h1, fun x => ⟨h5 x, fun h => h.elim (fun e => e ▸ h2 rfl) fun hx => (h4 x hx).elim (fun e => e ▸ h2 rfl) id⟩⟩
    | false =>
      rw [if_neg (by simp)]
      refine ⟨?_, fun x => ?_⟩
      · rw [List.pairwise_append]; exact ⟨h1, by simp, fun a ha b hb => by rw [List.mem_singleton] at hb; subst hb; exact (h3 rfl).2 a ha⟩
      · rw [List.mem_append, List.mem_singleton]
        exact ⟨fun h => h.elim (h5 x) .inl, fun h => h.elim .inr fun hx => (h4 x hx).elim .inr .inl⟩
  | x :: xs, o, d, h1, h2, h3, h4, h5, h6, h7 => by
    rw [putGo]
    split
    · rename_i e
      have hv : v ∈ l := h7 (by simp [e])
      exact ⟨h6, fun y => ⟨.inr, fun h => h.elim (fun e => e ▸ hv) id⟩⟩
    · rename_i hne
      have ho := (List.pairwise_append.1 h1)
      split
      · rename_i hk
        obtain ⟨hk1, rfl⟩ := hk
        have h3' := h3 rfl
        have hxs := List.pairwise_cons.1 ho.2.1
        refine putGo_spec ?_ (fun _ => by simp) (fun h => by cases h) (fun y hy => ?_) (fun y hy => ?_) h6 (fun h => h7 (by simp [h]))
        · rw [List.append_assoc, List.append_assoc, List.pairwise_append]
          refine ⟨ho.1, ?_, fun a ha b hb => ?_⟩
          · simp only [List.singleton_append, List.pairwise_cons]
            exact ⟨fun b hb => (List.mem_cons.1 hb).elim (fun e => e ▸ hk1) fun hb => ltS_tr _ _ _ hk1 (hxs.1 b hb), hxs⟩
          · simp only [List.singleton_append, List.mem_cons] at hb
            rcases hb with rfl | rfl | hb
            · exact h3'.2 a ha
            · exact ho.2.2 a ha b (by simp)
            · exact ho.2.2 a ha b (by simp [hb])
        · rcases h4 y hy with h | h
          · exact .inl h
          · right; simp at h ⊢; exact h.imp id .inr
        · simp at hy
          rcases hy with hy | hy | hy | hy
          · exact h5 y (by simp [hy])
          · exact .inl hy
          · exact h5 y (by simp [hy])
          · exact h5 y (by simp [hy])
      · rename_i hk
        refine putGo_spec (by simpa using h1) (fun h => by simp [h2 h]) (fun h => ?_) (fun y hy => by simpa using h4 y hy) (fun y hy => h5 y (by simpa using hy)) h6 (fun h => h7 (by simp [h]))
        subst h
        have h3' := h3 rfl
        refine ⟨by simp [h3'.1]; exact fun e => hne e.symm, fun y hy => ?_⟩
        rcases List.mem_append.1 hy with hy | hy
        · exact h3'.2 y hy
        · rw [List.mem_singleton] at hy
          subst hy
          rcases ltS_tri y v with h | h | h
          · exact h
          · exact absurd h hne
          · exact absurd ⟨h, rfl⟩ hk
theorem put5_spec {v : List UInt8} {l : List (List UInt8)} (h : l.Pairwise (· < ·)) : (put5 v l).Pairwise (· < ·) ∧ ∀ x, x ∈ put5 v l ↔ x = v ∨ x ∈ l :=
  putGo_spec (by simpa using h) (fun h => by cases h) (fun _ => by simp) (fun x hx => by simp [hx]) (fun x hx => .inr (by simpa using hx)) h (fun h => h)
theorem foldPut_spec {p : List UInt8 → Bool} : ∀ {ns o : List (List UInt8)}, o.Pairwise (· < ·) → (ns.foldl (fun o n => if p n then put5 n o else o) o).Pairwise (· < ·) ∧ ∀ x, x ∈ ns.foldl (fun o n => if p n then put5 n o else o) o ↔ x ∈ o ∨ (x ∈ ns ∧ p x = true)
  | [], o, h => ⟨h, by simp⟩
  | n :: ns, o, h => by
    rw [List.foldl_cons]
    cases hp : p n with
    | false =>
      obtain ⟨h1, h2⟩ := foldPut_spec (p := p) (ns := ns) h
      refine ⟨h1, fun x => (h2 x).trans ⟨fun h => h.imp id fun h => ⟨by simp [h.1], h.2⟩, fun h => h.imp id fun h => ⟨?_, h.2⟩⟩⟩
      rcases List.mem_cons.1 h.1 with rfl | h1
      · rw [hp] at h; cases h.2
      · exact h1
    | true =>
      obtain ⟨g1, g2⟩ := put5_spec (v := n) h
      obtain ⟨h1, h2⟩ := foldPut_spec (p := p) (ns := ns) g1
      refine ⟨h1, fun x => (h2 x).trans ⟨fun h => ?_, fun h => ?_⟩⟩
      · rcases h with h | h
        · rcases (g2 x).1 h with rfl | h
          · exact .inr ⟨by simp, hp⟩
          · exact .inl h
        · exact .inr ⟨by simp [h.1], h.2⟩
      · rcases h with h | h
        · exact .inl ((g2 x).2 (.inr h))
        · rcases List.mem_cons.1 h.1 with rfl | h1
          · exact .inl ((g2 x).2 (.inl rfl))
          · exact .inr ⟨h1, h.2⟩
theorem nmF_none {c : List Pck} {n : List UInt8} : ∀ {s : List Int}, (∀ k ∈ s, (pk c k).n ≠ n) → nmF c n s = -1
  | [], _ => rfl
  | k :: s, h => by rw [nmF, if_neg (by simpa using h k (by simp))]; exact nmF_none fun k hk => h k (by simp [hk])
/-- Both sides tell the same names. -/
theorem ch_eq {c : List Pck} {f t : List Int} (hf : ∀ k ∈ f, inB k 0 ((c.length : Int) - 1) = true) (ht : ∀ k ∈ t, inB k 0 ((c.length : Int) - 1) = true) : compS (sortS (chI c f t)) = chS c f t := by
  obtain ⟨h1, h2⟩ := sortS_spec (chI c f t)
  obtain ⟨h3, h4⟩ := foldPut_spec (p := chB c f t) (ns := c.map Pck.n) (o := []) (by simp)
  refine strict_ext ltS_irr ltS_tr h1 h3 fun x => (h2 x).trans ((h4 x).trans ?_).symm
  unfold chI
  rw [List.mem_filter]
  simp only [List.not_mem_nil, false_or]
  refine and_congr_left fun hp => ?_
  constructor
  · intro hx
    refine Decidable.byContradiction fun hno => ?_
    have hno : ∀ k ∈ f ++ t, (pk c k).n ≠ x := fun k hk e => hno (List.mem_map.2 ⟨k, hk, e⟩)
    unfold chB at hp
    rw [nmF_none fun k hk => hno k (by simp [hk]), nmF_none fun k hk => hno k (by simp [hk])] at hp
    simp at hp
  · intro hx
    obtain ⟨k, hk, rfl⟩ := List.mem_map.1 hx
    have := (pk_at ((List.mem_append.1 hk).elim (hf k) (ht k))).2.2.2
    exact List.mem_map.2 ⟨_, this, rfl⟩
theorem ch_len {c : List Pck} {f t : List Int} : (chS c f t).length ≤ c.length := by
  unfold chS
  have : ∀ (ns o : List (List UInt8)), (ns.foldl (fun o n => if chB c f t n then put5 n o else o) o).length ≤ o.length + ns.length := by
    intro ns
    induction ns with
    | nil => intro o; simp
    | cons n ns ih =>
      intro o
      rw [List.foldl_cons]
      refine Nat.le_trans (ih _) ?_
      have := put5_len n o
      split <;> simp only [List.length_cons] <;> omega
  have := this (c.map Pck.n) []
  simpa using this
end Go.Proofs.YtfmcncflooechaaGreat

/- Walks: the reference's solver, its parts. Plain theorems. -/
set_option linter.unusedVariables false
set_option linter.unusedSimpArgs false
namespace Go.Proofs.YtfmcncflooechaaGreat
open Go Go.Fw
set_option maxRecDepth 100000
theorem put3_mem {v x : Int} : ∀ {l : List Int}, x ∈ put3 v l → x = v ∨ x ∈ l
  | [], h => by simp [put3] at h; exact .inl h
  | y :: ys, h => by
    rw [put3] at h
    split at h
    · simp at h; rcases h with h | h | h <;> simp [h]
    · rcases List.mem_cons.1 h with h | h
      · simp [h]
      · rcases put3_mem h with h | h <;> simp [h]
end Go.Proofs.YtfmcncflooechaaGreat

/- Walks: a change put to a set. Plain theorems. -/
set_option linter.unusedVariables false
set_option linter.unusedSimpArgs false
namespace Go.Proofs.YtfmcncflooechaaGreat
open Go Go.Fw
set_option maxRecDepth 100000
def newS (c : List Pck) (s : List Int) (x : Chg) : List Int :=
  let a := if x.k = 1 then s else s.filter fun k => !decide (k = nmF c x.n s)
  if x.k = 2 then a else put3 (findF c x.n x.w) a
def newC (c : List Pck) (s : List Int) (x : Chg) : Int :=
  if inB x.k 1 3 = false then 5 else if (x.k ≠ 1 ∧ (nmF c x.n s < 0 ∨ cmpV (pk c (nmF c x.n s)).v x.o ≠ 0)) ∨ (x.k ≠ 2 ∧ findF c x.n x.w < 0) then 4 else if x.k = 1 ∧ 0 ≤ nmF c x.n s then 6 else 0
theorem nmF_mem {c : List Pck} {n : List UInt8} : ∀ {s : List Int}, 0 ≤ nmF c n s → nmF c n s ∈ s
  | [], h => by rw [nmF] at h; omega
  | k :: s, h => by
    rw [nmF] at h ⊢
    split
    · simp
    · rename_i h0; rw [if_neg h0] at h; exact List.mem_cons_of_mem _ (nmF_mem h)
end Go.Proofs.YtfmcncflooechaaGreat

/- Walks: the program's change of a set. Plain theorems. -/
set_option linter.unusedVariables false
set_option linter.unusedSimpArgs false
namespace Go.Proofs.YtfmcncflooechaaGreat
open Go Go.Fw
set_option maxRecDepth 100000
theorem put3_perm (v : Int) : ∀ l : List Int, (put3 v l).Perm (v :: l)
  | [] => .refl _
  | x :: l => by
    rw [put3]
    split
    · exact .refl _
    · exact ((put3_perm v l).cons x).trans (.swap _ _ _)

end Go.Proofs.YtfmcncflooechaaGreat

/- Walks: what can be spared. Plain theorems. -/
set_option linter.unusedVariables false
set_option linter.unusedSimpArgs false
namespace Go.Proofs.YtfmcncflooechaaGreat
open Go Go.Fw
set_option maxRecDepth 100000
theorem rise_adj {s : List Int} : ∀ (n i : Nat), s.length - i = n → riseAll s i (s.drop i) = true → ∀ j x y, i ≤ j → 1 ≤ j → s[j - 1]? = some x → s[j]? = some y → x < y
  | 0, i, hn, _, j, x, y, hij, _, _, hy => by
    have := (List.getElem?_eq_some_iff.1 hy).1
    omega
  | n + 1, i, hn, h, j, x, y, hij, h1, hx, hy => by
    have hi : i < s.length := by omega
    rw [riseAll_at (List.getElem?_eq_getElem hi), Bool.and_eq_true] at h
    by_cases hji : j = i
    · subst hji
      have h2 := h.1
      rw [Bool.or_eq_true] at h2
      rcases h2 with h2 | h2
      · have : j = 0 := by simpa using h2
        omega
      · have h3 := of_decide_eq_true h2
        rw [List.getD_eq_getElem?_getD, hx] at h3
        rw [List.getElem?_eq_getElem hi] at hy
        cases hy
        exact h3
    · exact rise_adj n (i + 1) (by omega) h.2 j x y (by omega) h1 hx hy
theorem setF_rise {c : List Pck} {s : List Int} (h : setF c s = 0) : riseAll s 0 (s.drop 0) = true := by
  unfold setF at h
  split at h
  · rename_i h0; exact absurd h h0
  · split at h
    · rename_i h1
      rw [setOk_eq, Bool.and_eq_true] at h1
      exact h1.1
    · simp at h
theorem setF_lt {c : List Pck} {s : List Int} (h : setF c s = 0) : ∀ (d i : Nat) (x y : Int), s[i]? = some x → s[i + d + 1]? = some y → x < y
  | 0, i, x, y, hx, hy => rise_adj _ 0 rfl (setF_rise h) (i + 1) x y (by omega) (by omega) hx hy
  | d + 1, i, x, y, hx, hy => by
    have hlt := (List.getElem?_eq_some_iff.1 hy).1
    obtain ⟨z, hz⟩ : ∃ z, s[i + d + 1]? = some z := ⟨_, List.getElem?_eq_getElem (by omega)⟩
    have h1 := setF_lt h d i x z hx hz
    have h2 := rise_adj _ 0 rfl (setF_rise h) (i + (d + 1) + 1) z y (by omega) (by omega) hz hy
    omega
end Go.Proofs.YtfmcncflooechaaGreat

/- Walks: do all of a set's asks hold? Plain theorems. -/
set_option linter.unusedVariables false
set_option linter.unusedSimpArgs false
namespace Go.Proofs.YtfmcncflooechaaGreat
open Go Go.Fw
set_option maxRecDepth 100000
theorem setF_pw {c : List Pck} {s : List Int} (h : setF c s = 0) : s.Pairwise (· < ·) := by
  rw [List.pairwise_iff_getElem]
  intro i j hi hj hij
  exact setF_lt h (j - i - 1) i _ _ (List.getElem?_eq_getElem hi) (by rw [show i + (j - i - 1) + 1 = j by omega]; exact List.getElem?_eq_getElem hj)
end Go.Proofs.YtfmcncflooechaaGreat

/- What a change of a set keeps. Plain theorems, no program. -/
set_option linter.unusedVariables false
set_option linter.unusedSimpArgs false
namespace Go.Proofs.YtfmcncflooechaaGreat
open Go Go.Fw
theorem idxFrom_spec {α : Type} {p : α → Bool} : ∀ {l : List α} {i : Nat}, 0 ≤ idxFrom p i l → ∃ j o, l[j]? = some o ∧ p o = true ∧ idxFrom p i l = ((i + j : Nat) : Int)
  | [], i, h => by rw [idxFrom] at h; omega
  | x :: l, i, h => by
    rw [idxFrom] at h ⊢
    split
    · rename_i hp; exact ⟨0, x, rfl, hp, by simp⟩
    · rename_i hp
      rw [if_neg hp] at h
      obtain ⟨j, o, h1, h2, h3⟩ := idxFrom_spec h
      exact ⟨j + 1, o, by simpa using h1, h2, by rw [h3]; congr 1; omega⟩
theorem findF_spec {c : List Pck} {n : List UInt8} {v : Ver} (h : 0 ≤ findF c n v) : inB (findF c n v) 0 ((c.length : Int) - 1) = true ∧ (pk c (findF c n v)).n = n ∧ (pk c (findF c n v)).v = v := by
  obtain ⟨j, o, h1, h2, h3⟩ := idxFrom_spec h
  have hj := (List.getElem?_eq_some_iff.1 h1).1
  have e : findF c n v = (j : Int) := by unfold findF idx; rw [h3]; simp
  rw [e]
  have e2 : pk c (j : Int) = o := by
    unfold pk
    rw [List.getD_eq_getElem?_getD, Int.toNat_natCast, h1]; rfl
  rw [e2]
  unfold isP at h2
  simp only [Bool.and_eq_true, beq_iff_eq, decide_eq_true_eq] at h2
  refine ⟨?_, h2.1, h2.2⟩
  simp only [inB, Bool.and_eq_true, decide_eq_true_eq]; omega
/-- A set that is in order, of places, each name once. -/
structure Good (c : List Pck) (s : List Int) : Prop where
  lt : s.Pairwise (· < ·)
  at_ : ∀ k ∈ s, inB k 0 ((c.length : Int) - 1) = true
  nm : s.Pairwise fun a b => (pk c a).n ≠ (pk c b).n
theorem Good.le {c : List Pck} {s : List Int} (h : Good c s) : s.Pairwise (· ≤ ·) := h.lt.imp fun h => by omega
theorem len_bound {L : Int} : ∀ {s : List Int} {lo : Int}, s.Pairwise (· < ·) → (∀ k ∈ s, lo ≤ k ∧ k < L) → (s.length : Int) ≤ max 0 (L - lo)
  | [], lo, _, _ => by simp; omega
  | x :: s, lo, h, hk => by
    rw [List.pairwise_cons] at h
    have h1 := len_bound (lo := x + 1) h.2 fun k hk' => ⟨by have := h.1 k hk'; omega, (hk k (by simp [hk'])).2⟩
    have h2 := hk x (by simp)
    rw [List.length_cons]; omega
theorem Good.len {c : List Pck} {s : List Int} (h : Good c s) : s.length ≤ c.length := by
  have := len_bound (L := (c.length : Int)) (lo := 0) h.lt fun k hk => by
    have := h.at_ k hk
    simp only [inB, Bool.and_eq_true, decide_eq_true_eq] at this; omega
  omega
theorem nmF_no {c : List Pck} {n : List UInt8} : ∀ {s : List Int}, (∀ k ∈ s, 0 ≤ k) → nmF c n s < 0 → ∀ k ∈ s, (pk c k).n ≠ n
  | [], _, _, k, hk => by cases hk
  | x :: s, h0, h, k, hk => by
    rw [nmF] at h
    split at h
    · have := h0 x (by simp); omega
    · rename_i hx
      rcases List.mem_cons.1 hk with rfl | hk
      · intro e; exact hx (by simp [e])
      · exact nmF_no (fun k hk => h0 k (by simp [hk])) h k hk
theorem nmF_name {c : List Pck} {n : List UInt8} : ∀ {s : List Int}, 0 ≤ nmF c n s → (pk c (nmF c n s)).n = n
  | [], h => by rw [nmF] at h; omega
  | x :: s, h => by
    rw [nmF] at h ⊢
    split
    · rename_i hx; simpa using hx
    · rename_i hx; rw [if_neg hx] at h; exact nmF_name h
theorem put3_strict {v : Int} : ∀ {l : List Int}, l.Pairwise (· < ·) → v ∉ l → (put3 v l).Pairwise (· < ·)
  | [], _, _ => by simp [put3]
  | x :: l, h, hv => by
    rw [List.pairwise_cons] at h
    rw [put3]
    split
    · rename_i hlt
      rw [List.pairwise_cons, List.pairwise_cons]
      refine ⟨fun y hy => ?_, h⟩
      rcases List.mem_cons.1 hy with rfl | hy
      · exact hlt
      · have := h.1 y hy; omega
    · rename_i hlt
      rw [List.pairwise_cons]
      have hne : v ≠ x := fun e => hv (by simp [e])
      refine ⟨fun y hy => ?_, put3_strict h.2 fun hm => hv (by simp [hm])⟩
      rcases put3_mem hy with rfl | hy
      · omega
      · exact h.1 y hy
theorem pairwise_name {c : List Pck} : ∀ {s : List Int}, (s.Pairwise fun a b => (pk c a).n ≠ (pk c b).n) → ∀ {a b : Int}, a ∈ s → b ∈ s → a ≠ b → (pk c a).n ≠ (pk c b).n
  | [], _, _, _, ha, _, _ => by cases ha
  | x :: s, h, a, b, ha, hb, hne => by
    rw [List.pairwise_cons] at h
    rcases List.mem_cons.1 ha with rfl | ha'
    · rcases List.mem_cons.1 hb with rfl | hb'
      · exact absurd rfl hne
      · exact h.1 b hb'
    · rcases List.mem_cons.1 hb with rfl | hb'
      · exact (h.1 a ha').symm
      · exact pairwise_name h.2 ha' hb' hne
theorem Good.filter {c : List Pck} {s : List Int} (h : Good c s) (p : Int → Bool) : Good c (s.filter p) := ⟨h.lt.filter _, fun k hk => h.at_ k (List.mem_filter.1 hk).1, h.nm.filter _⟩
theorem Good.put {c : List Pck} {s : List Int} (h : Good c s) {v : Int} (hv : inB v 0 ((c.length : Int) - 1) = true) (hn : ∀ k ∈ s, (pk c k).n ≠ (pk c v).n) : Good c (put3 v s) := by
  have hnot : v ∉ s := fun hm => hn v hm rfl
  refine ⟨put3_strict h.lt hnot, fun k hk => ?_, ?_⟩
  · rcases put3_mem hk with rfl | hk
    · exact hv
    · exact h.at_ k hk
  · refine (put3_perm v s).symm.pairwise ?_ fun hab => Ne.symm hab
    rw [List.pairwise_cons]
    exact ⟨fun k hk => (hn k hk).symm, h.nm⟩
theorem newC_zero {c : List Pck} {s : List Int} {x : Chg} (h : newC c s x = 0) : inB x.k 1 3 = true ∧ (x.k = 1 ∨ (0 ≤ nmF c x.n s ∧ (pk c (nmF c x.n s)).v = x.o)) ∧ (x.k = 2 ∨ 0 ≤ findF c x.n x.w) ∧ (x.k = 1 → nmF c x.n s < 0) := by
  unfold newC at h
  split at h
  · cases h
  · rename_i h1
    split at h
    · cases h
    · rename_i h2
      split at h
      · cases h
      · rename_i h3
        refine ⟨by simpa using h1, ?_, by omega, by omega⟩
        by_cases hk : x.k = 1
        · exact .inl hk
        · refine .inr ⟨by omega, cmpV_zero.1 (by omega)⟩
theorem Good.new {c : List Pck} {s : List Int} {x : Chg} (hg : Good c s) (h : newC c s x = 0) : Good c (newS c s x) := by
  obtain ⟨h1, h2, h3, h4⟩ := newC_zero h
  have h0 : ∀ k ∈ s, 0 ≤ k := fun k hk => (pk_at (hg.at_ k hk)).1
  obtain ⟨a, ha⟩ : ∃ a, a = if x.k = 1 then s else s.filter fun k => !decide (k = nmF c x.n s) := ⟨_, rfl⟩
  have hga : Good c a := by rw [ha]; split <;> first | exact hg | exact hg.filter _
  have hna : ∀ k ∈ a, (pk c k).n ≠ x.n := by
    rw [ha]
    split
    · rename_i hk; exact nmF_no h0 (h4 hk)
    · rename_i hk
      intro k hk'
      obtain ⟨m1, m2⟩ := List.mem_filter.1 hk'
      have hnn := (h2.resolve_left hk).1
      have := pairwise_name hg.nm m1 (nmF_mem hnn) (by simpa using m2)
      rwa [nmF_name hnn] at this
  unfold newS
  dsimp only
  rw [← ha]
  split
  · exact hga
  · rename_i hk
    obtain ⟨f1, f2, f3⟩ := findF_spec (h3.resolve_left hk)
    exact hga.put f1 fun k hk => by rw [f2]; exact hna k hk
theorem twice_false {c : List Pck} {s : List Int} : ∀ (n i : Nat), s.length - i = n → twice c s i (s.drop i) = false → ∀ j k, i ≤ j → s[j]? = some k → twB c s j (pk c k).n = false
  | 0, i, hn, _, j, k, hij, hk => by have := (List.getElem?_eq_some_iff.1 hk).1; omega
  | n + 1, i, hn, h, j, k, hij, hk => by
    have hi : i < s.length := by omega
    rw [twice_at (List.getElem?_eq_getElem hi), Bool.or_eq_false_iff] at h
    by_cases e : j = i
    · subst e
      rw [List.getElem?_eq_getElem hi] at hk
      obtain rfl := Option.some.inj hk
      exact h.1
    · exact twice_false n (i + 1) (by omega) h.2 j k (by omega) hk
theorem twice_true {c : List Pck} {s : List Int} : ∀ (n i : Nat), s.length - i = n → (∀ j k, i ≤ j → s[j]? = some k → twB c s j (pk c k).n = false) → twice c s i (s.drop i) = false
  | 0, i, hn, _ => by rw [List.drop_of_length_le (by omega)]; rfl
  | n + 1, i, hn, h => by
    have hi : i < s.length := by omega
    rw [twice_at (List.getElem?_eq_getElem hi), Bool.or_eq_false_iff]
    exact ⟨h i _ (Nat.le_refl _) (List.getElem?_eq_getElem hi), twice_true n (i + 1) (by omega) fun j k hj => h j k (by omega)⟩
theorem twice_names {c : List Pck} {s : List Int} : twice c s 0 s = false ↔ s.Pairwise fun a b => (pk c a).n ≠ (pk c b).n := by
  have e : twice c s 0 s = twice c s 0 (s.drop 0) := by rw [List.drop_zero]
  rw [e]
  constructor
  · intro h
    rw [List.pairwise_iff_getElem]
    intro i j hi hj hij e
    have := twice_false _ 0 rfl h j _ (Nat.zero_le _) (List.getElem?_eq_getElem hj)
    unfold twB at this
    rw [List.any_eq_false] at this
    refine this s[i] ?_ (by simp [e])
    rw [List.mem_iff_getElem]
    exact ⟨i, by simp; omega, by rw [List.getElem_take]⟩
  · intro h
    refine twice_true _ 0 rfl fun j k _ hk => ?_
    unfold twB
    rw [List.any_eq_false]
    intro o ho he
    obtain ⟨i, hi, rfl⟩ := List.mem_iff_getElem.1 ho
    obtain ⟨hj, rfl⟩ := List.getElem?_eq_some_iff.1 hk
    rw [List.getElem_take] at he
    have hij : i < j := by simp at hi; omega
    exact List.pairwise_iff_getElem.1 h i j (by omega) hj hij (by simpa using he)
theorem apart_all {c : List Pck} {s : List Int} : ∀ {l : List Int}, apart c s l = true ↔ ∀ k ∈ l, nmF c (pk c k).n s = k
  | [] => by simp [apart]
  | x :: l => by rw [apart, Bool.and_eq_true, decide_eq_true_eq, apart_all]; simp
theorem nmF_self {c : List Pck} : ∀ {s : List Int}, (s.Pairwise fun a b => (pk c a).n ≠ (pk c b).n) → ∀ k ∈ s, nmF c (pk c k).n s = k
  | [], _, k, hk => by cases hk
  | x :: s, h, k, hk => by
    rw [List.pairwise_cons] at h
    rw [nmF]
    rcases List.mem_cons.1 hk with rfl | hk
    · simp
    · rw [if_neg (by simpa using h.1 k hk)]; exact nmF_self h.2 k hk
theorem apart_twice {c : List Pck} {s : List Int} (h : s.Pairwise (· < ·)) : apart c s s = !twice c s 0 s := by
  cases ht : twice c s 0 s with
  | false => rw [Bool.not_false, apart_all]; exact nmF_self (twice_names.1 ht)
  | true =>
    rw [Bool.not_true, ← Bool.not_eq_true]
    intro ha
    rw [apart_all] at ha
    have : twice c s 0 s = false := by
      rw [twice_names]
      refine h.imp_of_mem fun {a b} hma hmb hab e => ?_
      have h1 := ha a hma
      have h2 := ha b hmb
      rw [e, h2] at h1
      omega
    rw [this] at ht; cases ht
end Go.Proofs.YtfmcncflooechaaGreat

/- Walks: what is asked of two sets; the changes between them, on both sides. Plain theorems. -/
set_option linter.unusedVariables false
set_option linter.unusedSimpArgs false
namespace Go.Proofs.YtfmcncflooechaaGreat
open Go Go.Fw
set_option maxRecDepth 100000
theorem nmF_ge {c : List Pck} {n : List UInt8} : ∀ {s : List Int}, (∀ k ∈ s, inB k 0 ((c.length : Int) - 1) = true) → -1 ≤ nmF c n s
  | [], _ => by rw [nmF]; omega
  | k :: s, h => by
    rw [nmF]
    split
    · have := (pk_at (h k (by simp))).1; omega
    · exact nmF_ge fun k hk => h k (by simp [hk])
def dltC (c : List Pck) (f t : List Int) : Int := if setF c f ≠ 0 then setF c f else if setF c t ≠ 0 then setF c t else if twice c f 0 f = true ∨ twice c t 0 t = true then 6 else 0
theorem c_deltaCode (l : List Pck) (f t : List Int) (hl : l.length ≤ 1048576) (ho : ∀ o ∈ l, o.Small) (hf : f.length ≤ 1048576) (ht : t.length ≤ 1048576) : PCtr PP n_impl_deltaCode [encP l, .sl false 1 (f.map i64), .sl false 1 (t.map i64)] (i64 (dltC l f t)) := by
  obtain ⟨Ω, hΩ⟩ : ∃ Ω, Ω = std := ⟨_, rfl⟩
  have h1 := c_implSetFault l f hl ho hf
  have h2 := c_implSetFault l t hl ho ht
  have h3 : setF l f = 0 → PCtr PP n_impl_isTwice [encP l, .sl false 1 (f.map i64)] (boo (twice l f 0 f)) := fun h => c_isTwice l f hl hf (setF_in h)
  have h4 : setF l t = 0 → PCtr PP n_impl_isTwice [encP l, .sl false 1 (t.map i64)] (boo (twice l t 0 t)) := fun h => c_isTwice l t hl ht (setF_in h)
  obtain ⟨r, hr⟩ : ∃ r, r = dltC l f t := ⟨_, rfl⟩
  rw [← hr]
  unfold dltC at hr
  obtain ⟨a, ha⟩ : ∃ x, setF l f = x := ⟨_, rfl⟩
  obtain ⟨b, hb⟩ : ∃ x, setF l t = x := ⟨_, rfl⟩
  rw [ha] at h1 h3 hr
  rw [hb] at h2 h4 hr
  have h5 := c_firstCode [a, b] (by simp)
  obtain ⟨k, hk⟩ : ∃ x, orF [a, b] = x := ⟨_, rfl⟩
  have hk' : k = if a ≠ 0 then a else b := by rw [← hk]; by_cases h : a = 0 <;> by_cases h' : b = 0 <;> simp [orF, h, h']
  rw [hk] at h5
  have hro : ∀ {S : State}, Fw.rowAt S.rows 0 = some ⟨1, [i64 a, i64 b], false⟩ → roO S 3 (.vw 0 0 2) = some (.sl false 1 [i64 a, i64 b]) := fun h => ro_vw h rfl rfl
  generalize twice l f 0 f = p at *
  generalize twice l t 0 t = q at *
  unfold encP at *
  generalize l.map (Pck.enc false) = xs at *
  generalize f.map i64 = fa at *
  generalize t.map i64 = ta at *
  clear ha hb hk
  have htab := tab
  refine PCtr.walk tab hΩ fn_impl_deltaCode rfl ?_
  generalize PP = P at *
  cbv
  refine call_pure hΩ 3 h1 rfl (fits _) rfl rfl ?_
  cbv
  refine call_pure hΩ 3 h2 rfl (fits _) rfl rfl ?_
  cbv
  refine call_pure hΩ 3 h5 (mapO1 (hro rfl)) (fits _) rfl rfl ?_
  cbv
  have hk0 : k = 0 → a = 0 ∧ b = 0 := fun h => by rw [hk'] at h; split at h <;> omega
  repeat' (first | (refine br (fun hh => ?_) (fun hh => ?_) <;> (repeat' (first | replace hh := iteA hΩ hh | replace hh := iteB hΩ hh)) <;> (first | replace hh := neZt hΩ hh | replace hh := neZf hΩ hh | replace hh := eqZt hΩ hh | replace hh := eqZf hΩ hh | replace hh := ltZt hΩ hh | replace hh := ltZf hΩ hh | replace hh := geZt hΩ hh | replace hh := geZf hΩ hh | replace hh := gtZt hΩ hh | replace hh := gtZf hΩ hh | replace hh := leZt hΩ hh | replace hh := leZf hΩ hh | replace hh := notA hΩ hh | replace hh := notB hΩ hh | skip) <;> (first | (exfalso; (first | omega | (cases hh; done) | (simp_all; done))) | cbv)) | (refine call_pure hΩ 3 (h3 (hk0 (by omega)).1) rfl (fits _) rfl rfl ?_; cbv) | (refine call_pure hΩ 3 (h4 (hk0 (by omega)).2) rfl (fits _) rfl rfl ?_; cbv))
  all_goals (refine .of (congrArg i64 ?_); clear h1 h2 h3 h4 h5 htab hro; subst hΩ; subst hr; simp_all [std, cmpIS])
  all_goals omega
theorem c_l5Asked (l : List Pck) (f t : List Int) (hl : l.length ≤ 1048576) (ho : ∀ o ∈ l, o.Small) (hf : f.length ≤ 1048576) (ht : t.length ≤ 1048576) : PCtr PP n_spec_l5Asked [encP l, .sl false 1 (f.map i64), .sl false 1 (t.map i64)] (i64 (dltC l f t)) := by
  obtain ⟨Ω, hΩ⟩ : ∃ Ω, Ω = std := ⟨_, rfl⟩
  have h1 := c_specSetFault l f hl ho hf
  have h2 := c_specSetFault l t hl ho ht
  have h3 : setF l f = 0 → PCtr PP n_spec_l5Apart [encP l, .sl false 1 (f.map i64)] (boo (!twice l f 0 f)) := fun h => by
    have := c_l5Apart l f hl hf (setF_in h); rwa [apart_twice (setF_pw h)] at this
  have h4 : setF l t = 0 → PCtr PP n_spec_l5Apart [encP l, .sl false 1 (t.map i64)] (boo (!twice l t 0 t)) := fun h => by
    have := c_l5Apart l t hl ht (setF_in h); rwa [apart_twice (setF_pw h)] at this
  obtain ⟨r, hr⟩ : ∃ r, r = dltC l f t := ⟨_, rfl⟩
  rw [← hr]
  unfold dltC at hr
  generalize setF l f = a at *
  generalize setF l t = b at *
  generalize twice l f 0 f = p at *
  generalize twice l t 0 t = q at *
  obtain ⟨p', hp⟩ : ∃ x, (!p) = x := ⟨_, rfl⟩
  obtain ⟨q', hq⟩ : ∃ x, (!q) = x := ⟨_, rfl⟩
  rw [hp] at h3
  rw [hq] at h4
  unfold encP at *
  generalize l.map (Pck.enc false) = xs at *
  generalize f.map i64 = fa at *
  generalize t.map i64 = ta at *
  have htab := tab
  refine PCtr.walk tab hΩ fn_spec_l5Asked rfl ?_
  generalize PP = P at *
  cbv
  refine call_pure hΩ 3 h1 rfl (fits _) rfl rfl ?_
  cbv
  repeat' (first | (refine br (fun hh => ?_) (fun hh => ?_) <;> (repeat' (first | replace hh := iteA hΩ hh | replace hh := iteB hΩ hh)) <;> (first | replace hh := neZt hΩ hh | replace hh := neZf hΩ hh | replace hh := eqZt hΩ hh | replace hh := eqZf hΩ hh | replace hh := ltZt hΩ hh | replace hh := ltZf hΩ hh | replace hh := geZt hΩ hh | replace hh := geZf hΩ hh | replace hh := gtZt hΩ hh | replace hh := gtZf hΩ hh | replace hh := leZt hΩ hh | replace hh := leZf hΩ hh | replace hh := notA hΩ hh | replace hh := notB hΩ hh | skip) <;> (first | (exfalso; (first | omega | (cases hh; done) | (simp_all; done))) | cbv)) | (refine call_pure hΩ 3 h2 rfl (fits _) rfl rfl ?_; cbv) | (refine call_pure hΩ 3 (h3 (by omega)) rfl (fits _) rfl rfl ?_; cbv) | (refine call_pure hΩ 3 (h4 (by omega)) rfl (fits _) rfl rfl ?_; cbv))
  all_goals (refine .of (congrArg i64 ?_); clear h1 h2 h3 h4 htab; subst hΩ; subst hr; simp_all [std, cmpIS])
/-- What became of a name. -/
def chg (c : List Pck) (f t : List Int) (n : List UInt8) : Chg :=
  ⟨if nmF c n f < 0 then 1 else if nmF c n t < 0 then 2 else 3, n, if nmF c n f < 0 then Ver.zero else (pk c (nmF c n f)).v, if nmF c n t < 0 then Ver.zero else (pk c (nmF c n t)).v⟩
def chgS (c : List Pck) (f t : List Int) : List Chg := (chS c f t).map (chg c f t)
def chgR (k : Int) (g : List Chg) : A := .agg [i64 k, i64 0, .sl true 8 (g.map Chg.enc)]
theorem c_l15Changes (l : List Pck) (f t : List Int) (hl : l.length ≤ 1048576) (hf : f.length ≤ 1048576) (ht : t.length ≤ 1048576) (hkf : ∀ k ∈ f, inB k 0 ((l.length : Int) - 1) = true) (hkt : ∀ k ∈ t, inB k 0 ((l.length : Int) - 1) = true) :
    PCtr PP n_spec_l15Changes [encP l, .sl false 1 (f.map i64), .sl false 1 (t.map i64)] (.sl true 8 ((chgS l f t).map Chg.enc)) := by
  obtain ⟨Ω, hΩ⟩ : ∃ Ω, Ω = std := ⟨_, rfl⟩
  have hat : ∀ (s : List Int) n, (∀ k ∈ s, inB k 0 ((l.length : Int) - 1) = true) → 0 ≤ nmF l n s → ∃ n' v1 v2 v3 sz ps ds bs, (pk l (nmF l n s)).v = ⟨v1, v2, v3⟩ ∧ (l.map (Pck.enc false))[(nmF l n s).toNat]? = some (.agg [str n', i64 v1, i64 v2, i64 v3, i64 sz, .sl false 1 ps, .sl false 1 ds, .sl false 7 bs]) := fun s n hs h => by
    obtain ⟨h0, h1, h2, h3⟩ := pk_at (hs _ (nmF_mem (c := l) (n := n) (s := s) h))
    obtain ⟨ps, ds, bs, hen, hp, hd, hb⟩ := enc_raw (pk l (nmF l n s))
    exact ⟨_, (pk l (nmF l n s)).v.a, (pk l (nmF l n s)).v.b, (pk l (nmF l n s)).v.c, _, ps, ds, bs, rfl, by rw [List.getElem?_map, h2]; exact congrArg some hen⟩
  have hatf := fun n => hat f n hkf
  have hatt := fun n => hat t n hkt
  clear hat
  have hnf := fun n => c_l5One l f n hl hf hkf
  have hnt := fun n => c_l5One l t n hl ht hkt
  have hch := c_l5Changed l f t hl hf ht hkf hkt
  have hcl := ch_len (c := l) (f := f) (t := t)
  unfold chgS
  have hcg : ∀ n ∈ chS l f t, ¬ nmF l n f = nmF l n t ∧ -1 ≤ nmF l n f ∧ -1 ≤ nmF l n t := fun n hn => by
    have := ((foldPut_spec (p := chB l f t) (ns := l.map Pck.n) (o := []) (by simp)).2 n).1 hn
    simp only [List.not_mem_nil, false_or] at this
    refine ⟨?_, nmF_ge hkf, nmF_ge hkt⟩
    have := this.2
    unfold chB at this
    simpa using this
  generalize chS l f t = ns at *
  obtain ⟨C, hC⟩ : ∃ C : Nat → List A, C = fun i => ((ns.take i).map (chg l f t)).map Chg.enc := ⟨_, rfl⟩
  have hC0 : C 0 = [] := by rw [hC]; rfl
  have hCl : ∀ i, (C i).length ≤ i := fun i => by rw [hC]; simp only [List.length_map, List.length_take]; omega
  have hCi : ∀ i n, ns[i]? = some n → Ω.app (Ω.take (Ω.len (C i)) (C i)) [(chg l f t n).enc] = C (i + 1) := fun i n h => by
    rw [takeAll hΩ, hC]; dsimp only; rw [List.take_add_one, h, List.map_append, List.map_append]; subst hΩ; rfl
  have hpl : ∀ i n (x : A), ns[i]? = some n → Ω.plus (Ω.len (C i)) (Ω.len [x]) = Ω.len (C (i + 1)) := fun i n x h => by rw [show Ω.len [x] = Ω.len [(chg l f t n).enc] by subst hΩ; rfl]; rw [← hCi i n h, takeAll hΩ]; subst hΩ; exact (List.length_append).symm
  have hfin : (ns.map (chg l f t)).map Chg.enc = C ns.length := by rw [hC]; dsimp only; rw [List.take_length]
  rw [hfin]
  obtain ⟨m, hm⟩ : ∃ m, m = ns.length := ⟨_, rfl⟩
  rw [← hm]
  obtain ⟨q, hq⟩ : ∃ q, q = ns.map str := ⟨_, rfl⟩
  have hql : q.length = ns.length := by rw [hq, List.length_map]
  have hqz : q.map frz = q := by rw [hq]; exact frz_S _
  rw [← hq] at hch
  unfold chg Chg.enc Chg.cells at hCi
  dsimp only at hCi
  unfold encP at *
  generalize f.map i64 = fa at *
  generalize t.map i64 = ta at *
  generalize l.map (Pck.enc false) = xs at *
  clear hC hfin
  have htab := tab
  refine PCtr.walk tab hΩ fn_spec_l15Changes rfl ?_
  generalize PP = P at *
  cbv
  refine call_share hΩ 3 hch rfl (fits _) rfl ?_
  cbv
  refine loopX htab hΩ (fun i : Nat => ⟨[(0, .sl false 8 xs), (1, .sl false 1 fa), (2, .sl false 1 ta), (7, .vw 0 0 (Ω.len (C i))), (8, .sl false 1 q), (9, i64 (Ω.int i))], 66, [some ⟨8, C i, false⟩]⟩) (fun i => i ≤ ns.length) (fun i => ns.length - i) 0 (Nat.zero_le _)
    (Sbs.mk rfl (by rw [hC0]) ⟨rfl, rfl, rfl, by rw [hC0]; subst hΩ; rfl, rfl, zeroI hΩ, trivial⟩) (fun i hi => ?_)
  have hCli := hCl i
  have hlo : Ω.len (C i) = (C i).length := by subst hΩ; rfl
  have hle : Ω.len (C i) ≤ (C i).length := by rw [hlo]; exact Nat.le_refl _
  have htk : Ω.take (Ω.len (C i)) (C i) = C i := takeAll hΩ _
  cbv
  refine br (fun h => ?_) (fun h => ?_) <;> cbv
  · replace h := ltI hΩ h
    obtain ⟨n, hn⟩ := at_of (cs := ns) (by omega : i < ns.length)
    have hCi := hCi i n hn
    have hpl := fun x => hpl i n x hn
    obtain ⟨hne, hg1, hg2⟩ := hcg n (List.mem_of_getElem? hn)
    have hnf := hnf n
    have hnt := hnt n
    have hatf := hatf n
    have hatt := hatt n
    generalize nmF l n f = a at *
    generalize nmF l n t = b at *
    refine ⟨⟨nnI hΩ⟩, _, rdI hΩ hq hn, ?_⟩
    cbv
    refine call_pure hΩ 3 hnf rfl (fits _) rfl rfl ?_
    cbv
    refine ⟨⟨nnI hΩ⟩, _, rdI hΩ hq hn, ?_⟩
    cbv
    refine call_pure hΩ 3 hnt rfl (fits _) rfl rfl ?_
    cbv
    refine ⟨⟨nnI hΩ⟩, _, rdI hΩ hq hn, ?_⟩
    cbv
    repeat' (first
      | (refine br (fun hh => ?_) (fun hh => ?_) <;> (repeat' (first | replace hh := iteA hΩ hh | replace hh := iteB hΩ hh)) <;> (first | replace hh := neZt hΩ hh | replace hh := neZf hΩ hh | replace hh := eqZt hΩ hh | replace hh := eqZf hΩ hh | replace hh := ltZt hΩ hh | replace hh := ltZf hΩ hh | replace hh := geZt hΩ hh | replace hh := geZf hΩ hh | replace hh := gtZt hΩ hh | replace hh := gtZf hΩ hh | replace hh := leZt hΩ hh | replace hh := leZf hΩ hh | replace hh := notA hΩ hh | replace hh := notB hΩ hh | skip) <;> (first | (exfalso; (first | omega | (cases hh; done) | (simp_all; done))) | cbv))
      | (obtain ⟨n', v1, v2, v3, sz, ps, ds, bs, hv, hx⟩ := hatf (by omega); rw [hv] at hCi; refine ⟨⟨by omega⟩, _, hx, ?_⟩; clear hatf; cbv)
      | (obtain ⟨n', v1, v2, v3, sz, ps, ds, bs, hv, hx⟩ := hatt (by omega); rw [hv] at hCi; refine ⟨⟨by omega⟩, _, hx, ?_⟩; clear hatt; cbv))
    all_goals (first
      | (have e1 : ¬ a < 0 := by omega)
      | (have e1 : a < 0 := by omega))
    all_goals (first
      | (have e2 : ¬ b < 0 := by omega)
      | (have e2 : b < 0 := by omega))
    all_goals simp only [e1, e2, if_true, if_false] at hCi
    all_goals exact ⟨⟨rfl, okAll rfl, by show (Ω.len (C i) + 1) * 72 ≤ 140737488355328; omega, by show Ω.len (C i) + 1 ≤ 9223372036854775807; omega⟩, i + 1, by omega, by omega,
        (Sbs.cut 1 rfl).trans (Sbs.mk rfl (by rw [← hCi]; rfl) ⟨rfl, rfl, rfl, congrArg (A.vw 0 0) (hpl _), rfl, incI hΩ (by omega), trivial⟩)⟩
  · replace h := geI hΩ h
    obtain rfl : m = i := by omega
    exact ⟨⟨rfl, hle⟩, .of (congrArg (A.sl true 8) htk)⟩
end Go.Proofs.YtfmcncflooechaaGreat

/- Walks: ChangesOf on both sides. Plain theorems. -/
set_option linter.unusedVariables false
set_option linter.unusedSimpArgs false
namespace Go.Proofs.YtfmcncflooechaaGreat
open Go Go.Fw
set_option maxRecDepth 100000
theorem dltC_zero {c : List Pck} {f t : List Int} (h : dltC c f t = 0) : setF c f = 0 ∧ setF c t = 0 ∧ twice c f 0 f = false ∧ twice c t 0 t = false := by
  unfold dltC at h
  split at h
  · omega
  · split at h
    · omega
    · split at h
      · cases h
      · rename_i h1 h2 h3
        refine ⟨by omega, by omega, ?_, ?_⟩
        · cases hq : twice c f 0 f
          · rfl
          · exact absurd (.inl hq) h3
        · cases hq : twice c t 0 t
          · rfl
          · exact absurd (.inr hq) h3
def chOf (c : List Pck) (f t : List Int) : List Chg := if dltC c f t = 0 then chgS c f t else []
theorem chOf_len {c : List Pck} {f t : List Int} : (chOf c f t).length ≤ c.length := by
  unfold chOf
  split
  · unfold chgS; rw [List.length_map]; exact ch_len
  · exact Nat.zero_le _
theorem fit_nil8 (k a : Int) : FitX (.agg [i64 k, i64 a, .nil]) (.agg [i64 k, i64 a, .sl true 8 []]) := ⟨2, by simp [fitA, fitA.fitL, i64]⟩
theorem roF_Chgs (cs : List Chg) : roFree (.sl true 8 (cs.map Chg.enc)) = true := roFAll fun x hx => by obtain ⟨c, _, rfl⟩ := List.mem_map.1 hx; rfl
theorem c_specChangesOf (l : List Pck) (f t : List Int) (hl : l.length ≤ 1048576) (ho : ∀ o ∈ l, o.Small) (hf : f.length ≤ 1048576) (ht : t.length ≤ 1048576) :
    PCtr PP n_spec_ChangesOf [encP l, .sl false 1 (f.map i64), .sl false 1 (t.map i64)] (chgR (dltC l f t) (chOf l f t)) := by
  obtain ⟨Ω, hΩ⟩ : ∃ Ω, Ω = std := ⟨_, rfl⟩
  have h1 := c_l5Asked l f t hl ho hf ht
  have h2 := fun h : dltC l f t = 0 => c_l15Changes l f t hl hf ht (setF_in (dltC_zero h).1) (setF_in (dltC_zero h).2.1)
  unfold chgR chOf
  have hr := roF_Chgs (chgS l f t)
  obtain ⟨gs, hgs⟩ : ∃ gs, gs = (chgS l f t).map Chg.enc := ⟨_, rfl⟩
  rw [← hgs] at h2 hr
  obtain ⟨zs, hzs⟩ : ∃ zs, zs = (if dltC l f t = 0 then chgS l f t else []).map Chg.enc := ⟨_, rfl⟩
  rw [← hzs]
  have hz1 : dltC l f t = 0 → zs = gs := fun h => by rw [hzs, if_pos h, hgs]
  have hz2 : dltC l f t ≠ 0 → zs = [] := fun h => by rw [hzs, if_neg h]; rfl
  clear hzs hgs
  generalize dltC l f t = k at *
  unfold encP at *
  generalize f.map i64 = fa at *
  generalize t.map i64 = ta at *
  generalize l.map (Pck.enc false) = xs at *
  have htab := tab
  refine PCtr.walk tab hΩ fn_spec_ChangesOf rfl ?_
  have hlg : Ω.len gs ≤ gs.length := by subst hΩ; exact Nat.le_refl _
  have htg : Ω.take (Ω.len gs) gs = gs := takeAll hΩ _
  generalize PP = P at *
  cbv
  refine call_pure hΩ 3 h1 rfl (fits _) rfl rfl ?_
  cbv
  refine br (fun h => ?_) (fun h => ?_) <;> cbv
  · have h := neZt hΩ h
    rw [hz2 h]; exact fit_nil8 k 0
  · have h := neZf hΩ h
    refine call_pure hΩ 3 (h2 h) rfl (fits _) hr rfl ?_
    cbv
    rw [hz1 h, h]
    exact ⟨⟨rfl, hlg⟩, .of (congrArg (fun q => A.agg [i64 0, i64 0, A.sl true 8 q]) htg)⟩
theorem c_changesOf (l : List Pck) (f t : List Int) (hl : l.length ≤ 1048576) (ho : ∀ o ∈ l, o.Small) (hf : f.length ≤ 1048576) (ht : t.length ≤ 1048576) :
    PCtr PP n_impl_changesOf [encP l, .sl false 1 (f.map i64), .sl false 1 (t.map i64)] (.tup [.sl true 8 ((chOf l f t).map Chg.enc), i64 (dltC l f t)]) := by
  obtain ⟨Ω, hΩ⟩ : ∃ Ω, Ω = std := ⟨_, rfl⟩
  have h1 := c_deltaCode l f t hl ho hf ht
  unfold chOf
  by_cases hD : dltC l f t = 0
  rotate_left
  · rw [if_neg hD]
    generalize dltC l f t = k at *
    unfold encP at *
    generalize f.map i64 = fa at *
    generalize t.map i64 = ta at *
    generalize l.map (Pck.enc false) = xs at *
    have htab := tab
    refine PCtr.walk tab hΩ fn_impl_changesOf rfl ?_
    generalize PP = P at *
    cbv
    refine call_pure hΩ 3 h1 rfl (fits _) rfl rfl ?_
    cbv
    repeat' (first | (refine br (fun hh => ?_) (fun hh => ?_) <;> (repeat' (first | replace hh := iteA hΩ hh | replace hh := iteB hΩ hh)) <;> (first | replace hh := neZt hΩ hh | replace hh := neZf hΩ hh | replace hh := eqZt hΩ hh | replace hh := eqZf hΩ hh | replace hh := ltZt hΩ hh | replace hh := ltZf hΩ hh | replace hh := geZt hΩ hh | replace hh := geZf hΩ hh | replace hh := gtZt hΩ hh | replace hh := gtZf hΩ hh | replace hh := leZt hΩ hh | replace hh := leZf hΩ hh | replace hh := notA hΩ hh | replace hh := notB hΩ hh | skip) <;> (first | (exfalso; (first | omega | (cases hh; done) | (simp_all; done))) | cbv)))
    exact ⟨2, by simp [fitA, fitA.fitL, i64]⟩
  obtain ⟨hF, hT, -, -⟩ := dltC_zero hD
  have hkf := setF_in hF
  have hkt := setF_in hT
  rw [if_pos hD]
  rw [hD] at h1 ⊢
  have hat : ∀ (s : List Int) n, (∀ k ∈ s, inB k 0 ((l.length : Int) - 1) = true) → 0 ≤ nmF l n s → ∃ n' v1 v2 v3 sz ps ds bs, (pk l (nmF l n s)).v = ⟨v1, v2, v3⟩ ∧ (l.map (Pck.enc false))[(nmF l n s).toNat]? = some (.agg [str n', i64 v1, i64 v2, i64 v3, i64 sz, .sl false 1 ps, .sl false 1 ds, .sl false 7 bs]) := fun s n hs h => by
    obtain ⟨h0, h1, h2, h3⟩ := pk_at (hs _ (nmF_mem (c := l) (n := n) (s := s) h))
    obtain ⟨ps, ds, bs, hen, hp, hd, hb⟩ := enc_raw (pk l (nmF l n s))
    exact ⟨_, (pk l (nmF l n s)).v.a, (pk l (nmF l n s)).v.b, (pk l (nmF l n s)).v.c, _, ps, ds, bs, rfl, by rw [List.getElem?_map, h2]; exact congrArg some hen⟩
  have hatf := fun n => hat f n hkf
  have hatt := fun n => hat t n hkt
  clear hat
  have hnf := fun n => c_named l f n hl hf hkf
  have hnt := fun n => c_named l t n hl ht hkt
  have hch := c_changed l f t hl hf ht hkf hkt
  rw [ch_eq hkf hkt] at hch
  have hcl := ch_len (c := l) (f := f) (t := t)
  unfold chgS
  have hcg : ∀ n ∈ chS l f t, ¬ nmF l n f = nmF l n t ∧ -1 ≤ nmF l n f ∧ -1 ≤ nmF l n t := fun n hn => by
    have := ((foldPut_spec (p := chB l f t) (ns := l.map Pck.n) (o := []) (by simp)).2 n).1 hn
    simp only [List.not_mem_nil, false_or] at this
    refine ⟨?_, nmF_ge hkf, nmF_ge hkt⟩
    have := this.2
    unfold chB at this
    simpa using this
  generalize chS l f t = ns at *
  obtain ⟨C, hC⟩ : ∃ C : Nat → List A, C = fun i => ((ns.take i).map (chg l f t)).map Chg.enc := ⟨_, rfl⟩
  have hC0 : C 0 = [] := by rw [hC]; rfl
  have hCl : ∀ i, (C i).length ≤ i := fun i => by rw [hC]; simp only [List.length_map, List.length_take]; omega
  have hCi : ∀ i n, ns[i]? = some n → Ω.app (Ω.take (Ω.len (C i)) (C i)) [(chg l f t n).enc] = C (i + 1) := fun i n h => by
    rw [takeAll hΩ, hC]; dsimp only; rw [List.take_add_one, h, List.map_append, List.map_append]; subst hΩ; rfl
  have hpl : ∀ i n (x : A), ns[i]? = some n → Ω.plus (Ω.len (C i)) (Ω.len [x]) = Ω.len (C (i + 1)) := fun i n x h => by rw [show Ω.len [x] = Ω.len [(chg l f t n).enc] by subst hΩ; rfl]; rw [← hCi i n h, takeAll hΩ]; subst hΩ; exact (List.length_append).symm
  have hfin : (ns.map (chg l f t)).map Chg.enc = C ns.length := by rw [hC]; dsimp only; rw [List.take_length]
  rw [hfin]
  obtain ⟨m, hm⟩ : ∃ m, m = ns.length := ⟨_, rfl⟩
  rw [← hm]
  have hro := roF_S ns
  obtain ⟨q, hq⟩ : ∃ q, q = ns.map str := ⟨_, rfl⟩
  have hql : q.length = ns.length := by rw [hq, List.length_map]
  have hqz : q.map frz = q := by rw [hq]; exact frz_S _
  have hqz' : frz (.sl true 1 q) = .sl false 1 q := by rw [frz_sl, hqz]
  rw [← hq] at hch hro
  unfold chg Chg.enc Chg.cells at hCi
  dsimp only at hCi
  unfold encP at *
  generalize f.map i64 = fa at *
  generalize t.map i64 = ta at *
  generalize l.map (Pck.enc false) = xs at *
  clear hC hfin
  have htab := tab
  have hmo := hmo
  refine PCtr.walk tab hΩ fn_impl_changesOf rfl ?_
  generalize PP = P at *
  cbv
  refine call_pure hΩ 3 h1 rfl (fits _) rfl rfl ?_
  cbv
  refine br (fun h => absurd rfl (neZt hΩ h)) (fun h => ?_)
  cbv
  refine call_pf hΩ 3 hch rfl (fits _) hro hqz' rfl ?_
  cbv
  refine loopX htab hΩ (fun i : Nat => ⟨[(0, .sl false 8 xs), (1, .sl false 1 fa), (2, .sl false 1 ta), (9, .vw 0 0 (Ω.len (C i))), (26, .sl false 1 q), (27, i64 (Ω.int (Ω.len q))), (28, i64 (Ω.int i))], 70, [some ⟨8, C i, false⟩]⟩) (fun i => i ≤ ns.length) (fun i => ns.length - i) 0 (Nat.zero_le _)
    (Sbs.mk rfl (by rw [hC0]) ⟨rfl, rfl, rfl, by rw [hC0]; subst hΩ; rfl, rfl, rfl, zeroI hΩ, trivial⟩) (fun i hi => ?_)
  have hCli := hCl i
  have hlo : Ω.len (C i) = (C i).length := by subst hΩ; rfl
  have hle : Ω.len (C i) ≤ (C i).length := by rw [hlo]; exact Nat.le_refl _
  have htk : Ω.take (Ω.len (C i)) (C i) = C i := takeAll hΩ _
  cbv
  refine br (fun h => ?_) (fun h => ?_) <;> cbv
  · replace h := ltI hΩ h
    obtain ⟨n, hn⟩ := at_of (cs := ns) (by omega : i < ns.length)
    have hCi := hCi i n hn
    have hpl := fun x => hpl i n x hn
    obtain ⟨hne, hg1, hg2⟩ := hcg n (List.mem_of_getElem? hn)
    have hnf := hnf n
    have hnt := hnt n
    have hatf := hatf n
    have hatt := hatt n
    generalize nmF l n f = a at *
    generalize nmF l n t = b at *
    refine ⟨⟨nnI hΩ⟩, _, rdI hΩ hq hn, ?_⟩
    cbv
    refine call_pure hΩ 3 hnf rfl (fits _) rfl rfl ?_
    cbv
    repeat' (first
      | (refine br (fun hh => ?_) (fun hh => ?_) <;> (repeat' (first | replace hh := iteA hΩ hh | replace hh := iteB hΩ hh)) <;> (first | replace hh := neZt hΩ hh | replace hh := neZf hΩ hh | replace hh := eqZt hΩ hh | replace hh := eqZf hΩ hh | replace hh := ltZt hΩ hh | replace hh := ltZf hΩ hh | replace hh := geZt hΩ hh | replace hh := geZf hΩ hh | replace hh := gtZt hΩ hh | replace hh := gtZf hΩ hh | replace hh := leZt hΩ hh | replace hh := leZf hΩ hh | replace hh := notA hΩ hh | replace hh := notB hΩ hh | skip) <;> (first | (exfalso; (first | omega | (cases hh; done) | (simp_all; done))) | cbv))
      | (refine ⟨VC_lord htab hΩ hmo [0, 1, 2, 3, 4, 5] (.step 6 (.step 7 (.step 8 .fin))) [] [] (by kernel_rfl) ?_⟩; cbv)
      | (refine call_pure hΩ 3 hnt rfl (fits _) rfl rfl ?_; clear hnt; cbv)
      | (obtain ⟨n', v1, v2, v3, sz, ps, ds, bs, hv, hx⟩ := hatf (by omega); rw [hv] at hCi; refine ⟨⟨by omega⟩, _, hx, ?_⟩; clear hatf; cbv)
      | (obtain ⟨n', v1, v2, v3, sz, ps, ds, bs, hv, hx⟩ := hatt (by omega); rw [hv] at hCi; refine ⟨⟨by omega⟩, _, hx, ?_⟩; clear hatt; cbv)
      | (intro vs; cbv))
    all_goals (first
      | (have e1 : ¬ a < 0 := by omega)
      | (have e1 : a < 0 := by omega))
    all_goals (first
      | (have e2 : ¬ b < 0 := by omega)
      | (have e2 : b < 0 := by omega))
    all_goals simp only [e1, e2, if_true, if_false] at hCi
    all_goals exact ⟨⟨rfl, okAll rfl, by show (Ω.len (C i) + 1) * 72 ≤ 140737488355328; omega, by show Ω.len (C i) + 1 ≤ 9223372036854775807; omega⟩, i + 1, by omega, by omega,
        (Sbs.cut 1 rfl).trans (Sbs.mk rfl (by rw [← hCi]; rfl) ⟨rfl, rfl, rfl, congrArg (A.vw 0 0) (hpl _), rfl, rfl, incI hΩ (by omega), trivial⟩)⟩
  · replace h := geI hΩ h
    obtain rfl : m = i := by omega
    exact ⟨⟨rfl, hle⟩, .of (congrArg (fun z => A.tup [A.sl true 8 z, i64 0]) htk)⟩
theorem c_implChangesOf (l : List Pck) (f t : List Int) (hl : l.length ≤ 1048576) (ho : ∀ o ∈ l, o.Small) (hf : f.length ≤ 1048576) (ht : t.length ≤ 1048576) :
    PCtr PP n_impl_ChangesOf [encP l, .sl false 1 (f.map i64), .sl false 1 (t.map i64)] (chgR (dltC l f t) (chOf l f t)) := by
  obtain ⟨Ω, hΩ⟩ : ∃ Ω, Ω = std := ⟨_, rfl⟩
  have h1 := c_changesOf l f t hl ho hf ht
  unfold chgR
  have hr : roFree (.tup [.sl true 8 ((chOf l f t).map Chg.enc), i64 (dltC l f t)]) = true := by
    rw [roFree_tup]; simp only [List.all_cons, List.all_nil, roF_Chgs]; rfl
  generalize (chOf l f t).map Chg.enc = gs at *
  generalize dltC l f t = k at *
  unfold encP at *
  generalize f.map i64 = fa at *
  generalize t.map i64 = ta at *
  generalize l.map (Pck.enc false) = xs at *
  have htab := tab
  refine PCtr.walk tab hΩ fn_impl_ChangesOf rfl ?_
  have hlg : Ω.len gs ≤ gs.length := by subst hΩ; exact Nat.le_refl _
  have htg : Ω.take (Ω.len gs) gs = gs := takeAll hΩ _
  generalize PP = P at *
  cbv
  refine call_pure hΩ 3 h1 rfl (fits _) hr rfl ?_
  cbv
  exact ⟨⟨rfl, hlg⟩, .of (congrArg (fun q => A.agg [i64 k, i64 0, A.sl true 8 q]) htg)⟩
end Go.Proofs.YtfmcncflooechaaGreat

/- Walks: changes: sizes, copies, equality, marks. Plain theorems. -/
set_option linter.unusedVariables false
set_option linter.unusedSimpArgs false
namespace Go.Proofs.YtfmcncflooechaaGreat
open Go Go.Fw
set_option maxRecDepth 100000
set_option maxRecDepth 100000
theorem c_eqChange (v : Chg) : PCtr PP n_laws_eqChange [v.enc, v.enc] (boo true) := by
  obtain ⟨Ω, hΩ⟩ : ∃ Ω, Ω = std := ⟨_, rfl⟩
  refine PCtr.walk tab hΩ fn_laws_eqChange rfl ?_
  have hc := c_eqVersion
  generalize PP = P at *
  cbv
  refine br (fun h => (ne_self hΩ h).elim) (fun h => ?_)
  cbv
  refine br (fun h => (sne_self hΩ h).elim) (fun h => ?_)
  cbv
  refine ⟨CallOK_pure (k := 3) (hc v.o) rfl (fits _) (by cbv) (by cbv) ?_⟩
  cbv
  refine br (fun h => (notT hΩ h).elim) (fun h => ?_)
  cbv
  refine ⟨CallOK_pure (k := 3) (hc v.w) rfl (fits _) (by cbv) (by cbv) ?_⟩
  cbv
  refine br (fun h => (notT hΩ h).elim) (fun h => ?_)
  cbv
  exact .same
theorem c_eqChangeS (cs : List Chg) (hb : cs.length ≤ 9223372036854775806) : PCtr PP n_laws_eqChangeS [.sl false 8 (cs.map Chg.enc), .sl false 8 (cs.map Chg.enc)] (boo true) := by
  obtain ⟨Ω, hΩ⟩ : ∃ Ω, Ω = std := ⟨_, rfl⟩
  obtain ⟨xs, hxs⟩ : ∃ xs, xs = cs.map Chg.enc := ⟨_, rfl⟩
  have hlen : xs.length = cs.length := by rw [hxs, List.length_map]
  rw [← hxs]
  have hc := c_eqChange
  have htab := tab
  have hmo := hmo
  refine PCtr.walk tab hΩ fn_laws_eqChangeS rfl ?_
  generalize PP = P at *
  cbv
  refine br (fun h => (ne_self hΩ h).elim) (fun h => ?_)
  cbv
  refine loopX htab hΩ (fun i : Nat => ⟨[(0, .sl false 8 xs), (1, .sl false 8 xs), (5, .sc (.int .i64 (Ω.int i)))], 27, []⟩) (fun i => i ≤ cs.length) (fun i => cs.length - i) 0 (Nat.zero_le _) (Sbs.mk rfl rfl ⟨rfl, rfl, zeroI hΩ, trivial⟩) (fun i hi => ?_)
  cbv
  refine br (fun h => ?_) (fun h => ?_)
  · replace h := ltI hΩ h
    obtain ⟨c, hcc⟩ := at_of (cs := cs) (by omega : i < _)
    cbv
    refine ⟨VC_drawn htab hΩ hmo (by kernel_rfl) ?_⟩
    cbv
    refine ⟨⟨nnI hΩ⟩, _, rdI hΩ hxs hcc, ?_⟩
    cbv
    refine ⟨⟨nnI hΩ⟩, _, rdI hΩ hxs hcc, ?_⟩
    cbv
    refine QCall_pure (k := 3) (hc c) rfl (fits _) rfl ?_
    cbv
    refine br (fun h => (notT hΩ h).elim) (fun h => ?_)
    cbv
    refine ⟨i + 1, by omega, by omega, Sbs.mk rfl rfl ⟨rfl, rfl, incI hΩ (by omega), trivial⟩⟩
  · cbv
    exact .same
set_option maxRecDepth 100000
/-- The marks from k on. -/
def Chg.mark (k : Int) : Chg := ⟨k, markT (k + 1), ⟨k + 2, k + 3, k + 4⟩, ⟨k + 5, k + 6, k + 7⟩⟩
def marksC (k : Int) (n : Nat) : List Chg := (List.range n).map fun i : Nat => Chg.mark (k + 8 * i)
theorem mark_inc {k : Int} (h0 : 0 ≤ k) (h1 : k ≤ 2199023255552) :
    Chg.mark k = ⟨k, markT (inc k), ⟨inc (inc k), inc (inc (inc k)), inc (inc (inc (inc k)))⟩, ⟨inc (inc (inc (inc (inc k)))), inc (inc (inc (inc (inc (inc k))))), inc (inc (inc (inc (inc (inc (inc k))))))⟩⟩ ∧
    inc (inc (inc (inc (inc (inc (inc (inc k))))))) = k + 8 := by
  have e1 := inc_eq h0 (by omega)
  have e2 := inc_eq (x := k + 1) (by omega) (by omega)
  have e3 := inc_eq (x := k + 1 + 1) (by omega) (by omega)
  have e4 := inc_eq (x := k + 1 + 1 + 1) (by omega) (by omega)
  have e5 := inc_eq (x := k + 1 + 1 + 1 + 1) (by omega) (by omega)
  have e6 := inc_eq (x := k + 1 + 1 + 1 + 1 + 1) (by omega) (by omega)
  have e7 := inc_eq (x := k + 1 + 1 + 1 + 1 + 1 + 1) (by omega) (by omega)
  have e8 := inc_eq (x := k + 1 + 1 + 1 + 1 + 1 + 1 + 1) (by omega) (by omega)
  rw [e1, e2, e3, e4, e5, e6, e7, e8]
  refine ⟨?_, by omega⟩
  simp only [Chg.mark, Chg.mk.injEq, Ver.mk.injEq, true_and]
  refine ⟨⟨?_, ?_, ?_⟩, ?_, ?_, ?_⟩ <;> omega
theorem marksC_at {k : Int} {n i : Nat} (h : i < n) : (marksC k n)[i]? = some (Chg.mark (k + 8 * i)) := by
  unfold marksC
  rw [List.getElem?_map, List.getElem?_range h]; rfl
theorem marksC_length (k : Int) (n : Nat) : (marksC k n).length = n := by simp [marksC]
/-- The first i ones are marked. -/
def half (cs ms : List Chg) (i : Nat) : List A := (ms.take i).map Chg.enc ++ (cs.drop i).map Chg.enc
theorem half_set {cs ms : List Chg} {i : Nat} {m : Chg} (hl : ms.length = cs.length) (h : ms[i]? = some m) : (half cs ms i).set i m.enc = half cs ms (i + 1) := by
  have hi := (List.getElem?_eq_some_iff.1 h).1
  unfold half
  rw [List.take_add_one, h, List.map_append, List.set_append]
  have e : cs.drop i = cs[i] :: cs.drop (i + 1) := List.drop_eq_getElem_cons (by omega)
  rw [e]
  simp only [List.map_cons, List.length_map, List.length_take, Nat.min_eq_left (Nat.le_of_lt hi), Nat.lt_irrefl, if_false, Nat.sub_self, List.set_cons_zero]
  simp
theorem half_at {cs ms : List Chg} {i : Nat} {c : Chg} (hl : ms.length = cs.length) (h : cs[i]? = some c) : (half cs ms i)[i]? = some c.enc := by
  have hi := (List.getElem?_eq_some_iff.1 h).1
  unfold half
  rw [List.getElem?_append_right (by simp; omega)]
  simp [Nat.min_eq_left (by omega : i ≤ ms.length), h]
theorem half_length {cs ms : List Chg} {i : Nat} (hl : ms.length = cs.length) (hi : i ≤ cs.length) : (half cs ms i).length = cs.length := by simp [half]; omega
theorem c_markChangeS (cs : List Chg) (k : Int) (h0 : 0 ≤ k) (h1 : k ≤ 1099511627776) (hb : cs.length ≤ 1048576) :
    MCtr PP n_laws_markChangeS [.sl true 8 (cs.map Chg.enc), i64 k] (i64 (k + 8 * cs.length)) [.sl true 8 ((marksC k cs.length).map Chg.enc), i64 k] := by
  obtain ⟨Ω, hΩ⟩ : ∃ Ω, Ω = std := ⟨_, rfl⟩
  obtain ⟨n, hn⟩ : ∃ n, n = cs.length := ⟨_, rfl⟩
  obtain ⟨ms, hms⟩ : ∃ ms, ms = marksC k n := ⟨_, rfl⟩
  have hml : ms.length = cs.length := by rw [hms, marksC_length, hn]
  obtain ⟨ys, hys⟩ : ∃ ys, ys = half cs ms := ⟨_, rfl⟩
  have hyl : ∀ i, i ≤ n → (ys i).length = n := fun i hi => by rw [hys, hn]; exact half_length hml (by omega)
  obtain ⟨xs, hxs⟩ : ∃ xs, xs = cs.map Chg.enc := ⟨_, rfl⟩
  have hlen : xs.length = n := by rw [hxs, hn, List.length_map]
  have hx0 : xs = ys 0 := by rw [hxs, hys]; rfl
  obtain ⟨kf, hk0, hkm, hkn, hkb⟩ : ∃ kf : Nat → Int, kf 0 = k ∧
      (∀ i, i < n → ms[i]? = some ⟨kf i, markT (inc (kf i)), ⟨inc (inc (kf i)), inc (inc (inc (kf i))), inc (inc (inc (inc (kf i))))⟩, ⟨inc (inc (inc (inc (inc (kf i))))), inc (inc (inc (inc (inc (inc (kf i)))))), inc (inc (inc (inc (inc (inc (inc (kf i)))))))⟩⟩ ∧
        inc (inc (inc (inc (inc (inc (inc (inc (kf i)))))))) = kf (i + 1)) ∧ kf n = k + 8 * cs.length ∧ ∀ i, i < n → inc (kf i) ≤ 1152921504606846976 := by
    refine ⟨fun i => k + 8 * i, by simp, fun i hi => ?_, by simp only; rw [hn], fun i hi => ?_⟩
    · have h := mark_inc (k := k + 8 * i) (by omega) (by omega)
      simp only
      rw [hms, marksC_at hi, ← h.1, h.2]
      exact ⟨rfl, by omega⟩
    · simp only; rw [inc_eq (by omega) (by omega)]; omega
  rw [← hxs, ← hn, ← hms]
  rw [← hn] at hkn
  rw [← hkn]
  obtain ⟨zs, hzs⟩ : ∃ zs, zs = ms.map Chg.enc := ⟨_, rfl⟩
  rw [← hzs]
  have hzn : zs = ys n := by rw [hzs, hys, half, hn, ← hml, List.take_length, hml, List.drop_length]; simp
  have hc := c_markText
  have htab := tab
  have hinc : ∀ x, i64 (Ω.ar .add .i64 x 1) = i64 (inc x) := fun x => by subst hΩ; rfl
  refine MCtr.walkO tab hΩ 3 fn_laws_markChangeS rfl rfl rfl ?_
  have hlo : Ω.len xs = n := by subst hΩ; exact hlen
  generalize PP = P at *
  cbv
  refine loopX htab hΩ (fun i : Nat => ⟨[(0, .vw 0 0 n), (1, .sc (.int .i64 (kf i))), (5, .sc (.int .i64 (Ω.int i))), (76, .vw 0 0 n), (77, .sc (.int .i64 k))], 76, [some ⟨8, ys i, false⟩]⟩) (fun i => i ≤ n) (fun i => n - i) 0 (Nat.zero_le _)
    (Sbs.mk rfl (by rw [← hx0]) ⟨congrArg (A.vw 0 0) hlo, congrArg i64 hk0.symm, zeroI hΩ, congrArg (A.vw 0 0) hlo, rfl, trivial⟩) (fun i hi => ?_)
  cbv
  refine br (fun h => ?_) (fun h => ?_)
  · replace h := ltN hΩ h
    have hi1 := hyl i hi
    have hlt : i < (ys i).length := by omega
    obtain ⟨c, hcc⟩ := at_of (cs := cs) (by omega : i < _)
    have hyc : (ys i)[i]? = some c.enc := by rw [hys]; exact half_at hml hcc
    cbv
    refine ⟨⟨ixI hΩ h⟩, c.enc, atI hΩ hyc, ?_⟩
    cbv
    refine ⟨CallOK_pure (k := 3) (hc (Ω.ar .add .i64 (kf i) 1) (by subst hΩ; exact hkb i h)) rfl (fits _) rfl rfl ?_⟩
    generalize hmt : markT (Ω.ar .add .i64 (kf i) 1) = mt
    cbv
    refine ⟨⟨ixI hΩ h⟩, _, setI hΩ hlt, ?_⟩
    cbv
    refine ⟨⟨ixI hΩ h⟩, _, setI hΩ (setI_lt hΩ hlt), ?_⟩
    cbv
    refine ⟨⟨ixI hΩ h⟩, _, setI hΩ (setI_lt hΩ (setI_lt hΩ hlt)), ?_⟩
    cbv
    refine ⟨⟨ixI hΩ h⟩, _, setI hΩ (setI_lt hΩ (setI_lt hΩ (setI_lt hΩ hlt))), ?_⟩
    cbv
    refine ⟨⟨ixI hΩ h⟩, _, setI hΩ (setI_lt hΩ (setI_lt hΩ (setI_lt hΩ (setI_lt hΩ hlt)))), ?_⟩
    cbv
    refine ⟨⟨ixI hΩ h⟩, _, setI hΩ (setI_lt hΩ (setI_lt hΩ (setI_lt hΩ (setI_lt hΩ (setI_lt hΩ hlt))))), ?_⟩
    cbv
    refine ⟨⟨ixI hΩ h⟩, _, setI hΩ (setI_lt hΩ (setI_lt hΩ (setI_lt hΩ (setI_lt hΩ (setI_lt hΩ (setI_lt hΩ hlt)))))), ?_⟩
    cbv
    refine ⟨i + 1, by omega, by omega, Sbs.mk rfl ?_ ⟨rfl, by subst hΩ; exact congrArg i64 (hkm i h).2, incI hΩ (by omega), rfl, rfl, trivial⟩⟩
    have hset := half_set hml (hkm i h).1
    rw [← hys] at hset
    rw [← hset]
    subst hΩ
    subst hmt
    simp only [std, Int.toNat_natCast, Nat.zero_add, List.set_set]
    rfl
  · replace h : i = n := by have := geN hΩ h; omega
    subst h
    cbv
    refine ⟨⟨rfl, Nat.le_of_eq (hyl i hi).symm⟩, .same, .of ?_⟩
    rw [hzn]
    exact congrArg (fun q => [A.sl true 8 q, i64 k]) (takeI hΩ (hyl i hi))
end Go.Proofs.YtfmcncflooechaaGreat

/- Results of changes: alike, marked, held. Plain theorems. -/
set_option linter.unusedVariables false
set_option linter.unusedSimpArgs false
namespace Go.Proofs.YtfmcncflooechaaGreat
open Go Go.Fw
set_option maxRecDepth 100000
theorem c_eqChangesResult (k a : Int) (g : List Chg) (hg : g.length ≤ 1048576) : PCtr PP n_laws_eqChangesResult [.agg [i64 k, i64 a, .sl false 8 (g.map Chg.enc)], .agg [i64 k, i64 a, .sl false 8 (g.map Chg.enc)]] (boo true) := by
  obtain ⟨Ω, hΩ⟩ : ∃ Ω, Ω = std := ⟨_, rfl⟩
  have h1 := c_eqChangeS g (by omega)
  generalize g.map Chg.enc = xs at *
  have htab := tab
  have hmo := hmo
  refine PCtr.walk tab hΩ fn_laws_eqChangesResult rfl ?_
  generalize PP = P at *
  cbv
  repeat' (first | (refine br (fun h => (notT hΩ h).elim) (fun h => ?_); cbv) | (refine br (fun h => (ne_self hΩ h).elim) (fun h => ?_); cbv) | (refine ⟨VC_drawn htab hΩ hmo (by kernel_rfl) ?_⟩; cbv) | (refine call_pure hΩ 3 h1 rfl (fits _) rfl rfl ?_; cbv) | (refine QCall_pure (k := 3) h1 rfl (fits _) rfl ?_; cbv))
  exact .same
theorem c_heldChangeS (n : Nat) (k : Int) (h0 : 0 ≤ k) (h1 : k ≤ 1099511627776) (hb : n ≤ 1048576) :
    PCtr PP n_laws_heldChangeS [.sl false 8 ((marksC k n).map Chg.enc), i64 k] (i64 (k + 8 * n)) := by
  obtain ⟨Ω, hΩ⟩ : ∃ Ω, Ω = std := ⟨_, rfl⟩
  obtain ⟨ms, hms⟩ : ∃ ms, ms = (marksC k n).map Chg.enc := ⟨_, rfl⟩
  have hml : ms.length = n := by rw [hms, List.length_map, marksC_length]
  obtain ⟨kf, hk0, hkm, hkn, hkb⟩ : ∃ kf : Nat → Int, kf 0 = k ∧
      (∀ i, i < n → ms[i]? = some (Chg.enc ⟨kf i, markT (inc (kf i)), ⟨inc (inc (kf i)), inc (inc (inc (kf i))), inc (inc (inc (inc (kf i))))⟩, ⟨inc (inc (inc (inc (inc (kf i))))), inc (inc (inc (inc (inc (inc (kf i)))))), inc (inc (inc (inc (inc (inc (inc (kf i)))))))⟩⟩) ∧
        inc (inc (inc (inc (inc (inc (inc (inc (kf i)))))))) = kf (i + 1)) ∧ kf n = k + 8 * n ∧ ∀ i, i < n → inc (kf i) ≤ 1152921504606846976 := by
    refine ⟨fun i => k + 8 * i, by simp, fun i hi => ?_, rfl, fun i hi => ?_⟩
    · have h := mark_inc (k := k + 8 * i) (by omega) (by omega)
      simp only
      rw [hms, List.getElem?_map, marksC_at hi, ← h.1, h.2]
      exact ⟨rfl, by omega⟩
    · simp only; rw [inc_eq (by omega) (by omega)]; omega
  rw [← hms, ← hkn]
  have hc := c_markText
  have hinc : ∀ x, i64 (Ω.ar .add .i64 x 1) = i64 (inc x) := fun x => by subst hΩ; rfl
  have htab := tab
  have hmo := hmo
  refine PCtr.walk tab hΩ fn_laws_heldChangeS rfl ?_
  generalize PP = P at *
  cbv
  refine loopX htab hΩ (fun i : Nat => ⟨[(0, .sl false 8 ms), (1, .sc (.int .i64 (kf i))), (5, .sc (.int .i64 (Ω.int i)))], 92, []⟩) (fun i => i ≤ n) (fun i => n - i) 0 (Nat.zero_le _)
    (Sbs.mk rfl rfl ⟨rfl, congrArg i64 hk0.symm, zeroI hΩ, trivial⟩) (fun i hi => ?_)
  cbv
  refine br (fun h => ?_) (fun h => ?_)
  · replace h : i < n := by have := ltI hΩ h; omega
    obtain ⟨hat, hnx⟩ := hkm i h
    have hcc := hc (Ω.ar .add .i64 (kf i) 1) (by subst hΩ; exact hkb i h)
    generalize hmt : markT (Ω.ar .add .i64 (kf i) 1) = mt at *
    have hat : ms[i]? = some (.agg [i64 (kf i), str mt, i64 (Ω.ar .add .i64 (Ω.ar .add .i64 (kf i) 1) 1), i64 (Ω.ar .add .i64 (Ω.ar .add .i64 (Ω.ar .add .i64 (kf i) 1) 1) 1), i64 (Ω.ar .add .i64 (Ω.ar .add .i64 (Ω.ar .add .i64 (Ω.ar .add .i64 (kf i) 1) 1) 1) 1),
      i64 (Ω.ar .add .i64 (Ω.ar .add .i64 (Ω.ar .add .i64 (Ω.ar .add .i64 (Ω.ar .add .i64 (kf i) 1) 1) 1) 1) 1), i64 (Ω.ar .add .i64 (Ω.ar .add .i64 (Ω.ar .add .i64 (Ω.ar .add .i64 (Ω.ar .add .i64 (Ω.ar .add .i64 (kf i) 1) 1) 1) 1) 1) 1), i64 (Ω.ar .add .i64 (Ω.ar .add .i64 (Ω.ar .add .i64 (Ω.ar .add .i64 (Ω.ar .add .i64 (Ω.ar .add .i64 (Ω.ar .add .i64 (kf i) 1) 1) 1) 1) 1) 1) 1)]) := by
      rw [hat, ← hmt]; subst hΩ; rfl
    have hrd := rdJ hΩ hat
    clear hkm hms hat hc
    cbv
    repeat' (first
      | (refine br (fun h => (neSame hΩ h rfl).elim) (fun h => ?_); cbv)
      | (refine br (fun h => (sne_self hΩ h).elim) (fun h => ?_); cbv)
      | (refine ⟨⟨nnI hΩ⟩, _, hrd, ?_⟩; cbv)
      | (refine ⟨VC_drawn htab hΩ hmo (by kernel_rfl) ?_⟩; cbv)
      | (refine QCall_pure (k := 3) hcc rfl (fits _) rfl ?_; cbv))
    exact ⟨i + 1, by omega, by omega, Sbs.mk rfl rfl ⟨rfl, by subst hΩ; exact congrArg i64 hnx, incI hΩ (by omega), trivial⟩⟩
  · replace h : i = n := by have := geI hΩ h; omega
    subst h
    cbv
    exact .same
theorem c_heldChangesResult (a b : Int) (n : Nat) (k : Int) (h0 : 0 ≤ k) (h1 : k ≤ 1099511627776) (hb : n ≤ 1048576) :
    PCtr PP n_laws_heldChangesResult [.agg [i64 a, i64 b, .sl false 8 ((marksC k n).map Chg.enc)], i64 k] (i64 (k + 8 * n)) := by
  obtain ⟨Ω, hΩ⟩ : ∃ Ω, Ω = std := ⟨_, rfl⟩
  have h := c_heldChangeS n k h0 h1 hb
  generalize (marksC k n).map Chg.enc = ms at *
  obtain ⟨kk, hkk, hk0⟩ : ∃ kk : Int, kk = k + 8 * n ∧ 0 ≤ kk := ⟨_, rfl, by omega⟩
  rw [← hkk] at h ⊢
  clear hkk
  have htab := tab
  have hmo := hmo
  refine PCtr.walk tab hΩ fn_laws_heldChangesResult rfl ?_
  generalize PP = P at *
  cbv
  refine call_pure hΩ 3 h rfl (fits _) rfl rfl ?_
  cbv
  refine br (fun h => absurd (ltI_t hΩ h) (Int.not_lt.2 hk0)) (fun h => ?_)
  cbv
  exact .same
theorem c_markChangesResult (a b : Int) (cs : List Chg) (k : Int) (h0 : 0 ≤ k) (h1 : k ≤ 1099511627776) (hb : cs.length ≤ 1048576) :
    MCtr PP n_laws_markChangesResult [.agg [i64 a, i64 b, .sl true 8 (cs.map Chg.enc)], i64 k] (i64 (k + 8 * cs.length)) [.agg [i64 a, i64 b, .sl true 8 ((marksC k cs.length).map Chg.enc)], i64 k] := by
  obtain ⟨Ω, hΩ⟩ : ∃ Ω, Ω = std := ⟨_, rfl⟩
  have h := c_markChangeS cs k h0 h1 hb
  have hml : ((marksC k cs.length).map Chg.enc).length = (cs.map Chg.enc).length := by rw [List.length_map, marksC_length, List.length_map]
  generalize (marksC k cs.length).map Chg.enc = ms at *
  generalize cs.map Chg.enc = xs at *
  generalize k + 8 * (cs.length : Int) = kk at *
  have hl : Ω.len xs = xs.length := by subst hΩ; rfl
  have hlm : Ω.len xs = ms.length := by omega
  have htab := tab
  refine MCtr.walkO tab hΩ 3 fn_laws_markChangesResult rfl rfl rfl ?_
  generalize PP = P at *
  cbv
  refine call_mut hΩ 3 (l := [(0, ms)] ++ ([] ++ [])) h (.cons (mutVw rfl hl hml) (.cons (.data rfl rfl) .nil)) (by simp) rfl ?_
  cbv
  exact ⟨⟨rfl, Nat.le_of_eq hlm⟩, .same, .of (congrArg (fun z => [A.agg [i64 a, i64 b, A.sl true 8 z], i64 k]) (takeI hΩ hlm.symm))⟩
theorem roF_chgR (k a : Int) (g : List Chg) : roFree (.agg [i64 k, i64 a, .sl true 8 (g.map Chg.enc)]) = true := by
  rw [roFree_agg]
  have : roFree (.sl true 8 (g.map Chg.enc)) = true := roFAll fun x hx => by obtain ⟨c, _, rfl⟩ := List.mem_map.1 hx; rfl
  simp only [List.all_cons, List.all_nil, this]
  rfl
theorem frz_Cg (cs : List Chg) : (cs.map Chg.enc).map frz = cs.map Chg.enc := by
  rw [List.map_map]; exact List.map_congr_left fun c _ => rfl
end Go.Proofs.YtfmcncflooechaaGreat

/- The law of ChangesOf, walked. Plain theorems. -/
set_option linter.unusedVariables false
set_option linter.unusedSimpArgs false
namespace Go.Proofs.YtfmcncflooechaaGreat
open Go Go.Fw
set_option maxRecDepth 100000
theorem c_lawChangesOf (cs : List Pck) (s t : List Int) (hm : cs.length ≤ maxLen) (hf : ∀ o ∈ cs, o.Fit) (hsm : s.length ≤ maxLen) (htm : t.length ≤ maxLen) : PCtr PP n_laws_FnExactChangesOf [.sl false 8 (cs.map (Pck.enc false)), .sl false 1 (s.map i64), .sl false 1 (t.map i64)] (boo true) := by
  obtain ⟨Ω, hΩ⟩ : ∃ Ω, Ω = std := ⟨_, rfl⟩
  obtain ⟨xs, hxs⟩ : ∃ xs, xs = cs.map (Pck.enc false) := ⟨_, rfl⟩
  obtain ⟨os, hos⟩ : ∃ os, os = cs.map (Pck.enc true) := ⟨_, rfl⟩
  obtain ⟨ss, hss⟩ : ∃ ss, ss = s.map i64 := ⟨_, rfl⟩
  obtain ⟨ts, hts⟩ : ∃ ts, ts = t.map i64 := ⟨_, rfl⟩
  obtain ⟨kk, hkk⟩ : ∃ kk, kk = dltC cs s t := ⟨_, rfl⟩
  obtain ⟨g, hg⟩ : ∃ g, g = chOf cs s t := ⟨_, rfl⟩
  obtain ⟨zs, hzs⟩ : ∃ zs, zs = g.map Chg.enc := ⟨_, rfl⟩
  have hol : os.length = cs.length := by rw [hos, List.length_map]
  have hsl : ss.length = s.length := by rw [hss, List.length_map]
  have htl : ts.length = t.length := by rw [hts, List.length_map]
  have hzl : zs.length = g.length := by rw [hzs, List.length_map]
  have hof : os.map frz = xs := by rw [hos, hxs]; exact frz_Pcks cs
  have hsf : ss.map frz = ss := by rw [hss]; exact frz_I s
  have htf : ts.map frz = ts := by rw [hts]; exact frz_I t
  have hzf : zs.map frz = zs := by rw [hzs]; exact frz_Cg _
  have ro : roFree (.sl true 8 os) = true := by rw [hos]; exact roFPs cs
  have rs : roFree (.sl true 1 ss) = true := by rw [hss]; exact roF_I s
  have rt : roFree (.sl true 1 ts) = true := by rw [hts]; exact roF_I t
  have rz : roFree (.agg [i64 kk, i64 0, .sl true 8 zs]) = true := by rw [hzs]; exact roF_chgR _ _ _
  have h1 := c_szPackS cs 1048576 (by omega) (by omega) hm hf
  obtain ⟨l, hl, hl2⟩ : ∃ l, szS szP cs 1048576 = l ∧ (0 ≤ l → cs.length ≤ 1048576 ∧ (∀ o ∈ cs, o.Small) ∧ psum Pck.cnt cs cs.length ≤ 12582912) := ⟨_, rfl, sz_facts⟩
  obtain ⟨n, hn⟩ : ∃ n, n = g.length := ⟨_, rfl⟩
  have hnl : n ≤ cs.length := by rw [hn, hg]; exact chOf_len
  obtain ⟨m1, hm1⟩ : ∃ m1 : Int, m1 = 1 + psum Pck.cnt cs cs.length := ⟨_, rfl⟩
  obtain ⟨m2, hm2⟩ : ∃ m2 : Int, m2 = m1 + s.length := ⟨_, rfl⟩
  obtain ⟨m4, hm4⟩ : ∃ m4 : Int, m4 = m2 + t.length := ⟨_, rfl⟩
  have hm40 : 0 ≤ m4 := by omega
  obtain ⟨m3, hm3⟩ : ∃ m3 : Int, m3 = 1 + 8 * (n : Nat) := ⟨_, rfl⟩
  obtain ⟨ms, has⟩ : ∃ ms, ms = marksI m1 s.length := ⟨_, rfl⟩
  obtain ⟨mt, hat⟩ : ∃ mt, mt = marksI m2 t.length := ⟨_, rfl⟩
  obtain ⟨bs, hbs⟩ : ∃ bs, bs = (marksC 1 n).map Chg.enc := ⟨_, rfl⟩
  have hal : ms.length = ss.length := by rw [has, hsl, marksI_length]
  have hatl : mt.length = ts.length := by rw [hat, htl, marksI_length]
  have hbl : bs.length = zs.length := by rw [hbs, hzl, List.length_map, marksC_length, hn]
  have hbf : bs.map frz = bs := by rw [hbs]; exact frz_Cg _
  have hm20 : 0 ≤ m2 := by omega
  have hm30 : 0 ≤ m3 := by omega
  have H : 0 ≤ l → s.length ≤ 1048576 → t.length ≤ 1048576 → (PCtr PP n_laws_toPackS [.sl false 8 xs] (.sl true 8 os) ∧ PCtr PP n_laws_toInt64S [.sl false 1 ss] (.sl true 1 ss) ∧ PCtr PP n_laws_toInt64S [.sl false 1 ts] (.sl true 1 ts)) ∧
      (PCtr PP n_spec_ChangesOf [.sl false 8 xs, .sl false 1 ss, .sl false 1 ts] (.agg [i64 kk, i64 0, .sl true 8 zs]) ∧ PCtr PP n_impl_ChangesOf [.sl false 8 xs, .sl false 1 ss, .sl false 1 ts] (.agg [i64 kk, i64 0, .sl true 8 zs])) ∧
      (PCtr PP n_laws_eqChangesResult [.agg [i64 kk, i64 0, .sl false 8 zs], .agg [i64 kk, i64 0, .sl false 8 zs]] (boo true) ∧ PCtr PP n_laws_eqPackS [.sl false 8 xs, .sl false 8 xs] (boo true) ∧ PCtr PP n_laws_eqInt64S [.sl false 1 ss, .sl false 1 ss] (boo true) ∧ PCtr PP n_laws_eqInt64S [.sl false 1 ts, .sl false 1 ts] (boo true)) ∧
      (ECtr PP n_laws_markPackS [.sl true 8 os, i64 1] (i64 m1) ∧ MCtr PP n_laws_markInt64S [.sl true 1 ss, i64 m1] (i64 m2) [.sl true 1 ms, i64 m1] ∧ MCtr PP n_laws_markInt64S [.sl true 1 ts, i64 m2] (i64 m4) [.sl true 1 mt, i64 m2]) ∧
      (MCtr PP n_laws_markChangesResult [.agg [i64 kk, i64 0, .sl true 8 zs], i64 1] (i64 m3) [.agg [i64 kk, i64 0, .sl true 8 bs], i64 1] ∧ PCtr PP n_laws_heldChangesResult [.agg [i64 kk, i64 0, .sl false 8 bs], i64 1] (i64 m3)) := fun h hs h2 => by
    obtain ⟨k1, k2, k3⟩ := hl2 h
    have a1 := c_toPackS cs k1 k2
    have a2 := c_toInt64S s hs
    have a2' := c_toInt64S t h2
    have a3 := c_specChangesOf cs s t k1 k2 hs h2
    have a4 := c_implChangesOf cs s t k1 k2 hs h2
    have a5 := c_eqChangesResult kk 0 g (by omega)
    have a6 := c_eqPackS cs k1 k2
    have a7 := c_eqInt64S s hs
    have a7' := c_eqInt64S t h2
    have a8 := c_markPackS cs 1 (by omega) (by omega) k1 k2
    have a9 := c_markInt64S s m1 (by omega) (by omega) hs
    have a9' := c_markInt64S t m2 (by omega) (by omega) h2
    have b1 := c_markChangesResult kk 0 g 1 (by omega) (by omega) (by omega)
    have b2 := c_heldChangesResult kk 0 n 1 (by omega) (by omega) (by omega)
    unfold chgR encP at a3 a4
    rw [← hkk, ← hg, ← hzs, ← hxs, ← hss, ← hts] at a3 a4
    rw [← hxs] at a1 a6
    rw [← hos] at a1 a8
    rw [← hss] at a2 a7 a9
    rw [← hts] at a2' a7' a9'
    rw [← hzs] at a5 b1
    rw [← hn, ← hm3, ← hbs] at b1
    rw [← hm3, ← hbs] at b2
    rw [← hm1] at a8
    rw [← hm2, ← has] at a9
    rw [← hm4, ← hat] at a9'
    exact ⟨⟨a1, a2, a2'⟩, ⟨a3, a4⟩, ⟨a5, a6, a7, a7'⟩, ⟨a8, a9, a9'⟩, b1, b2⟩
  rw [hl, ← hxs] at h1
  rw [← hxs, ← hss, ← hts]
  clear hl2 hkk hzs hxs hos hss hts
  refine PCtr.walk tab hΩ fn_laws_FnExactChangesOf rfl ?_
  have htab := tab
  generalize PP = P at *
  cbv
  refine br (fun h => ?_) (fun hs => ?_)
  · cbv
    exact .same
  have hs1 : s.length ≤ 1048576 := by
    rw [← hsl]
    subst hΩ
    have h : (ss.length : Int) ≤ 1048576 := gt_f hs
    omega
  cbv
  refine br (fun h => ?_) (fun ht => ?_)
  · cbv
    exact .same
  have ht1 : t.length ≤ 1048576 := by
    rw [← htl]
    subst hΩ
    have h : (ts.length : Int) ≤ 1048576 := gt_f ht
    omega
  cbv
  refine call_pure hΩ 3 h1 rfl (fits _) rfl rfl ?_
  cbv
  refine br (fun h => ?_) (fun h => ?_)
  · cbv
    exact .same
  obtain ⟨⟨a1, a2, a2'⟩, ⟨a3, a4⟩, ⟨a5, a6, a7, a7'⟩, ⟨a8, a9, a9'⟩, b1, b2⟩ := H (ltI_f hΩ h) hs1 ht1
  clear H
  have lo : Ω.len os = os.length := by subst hΩ; rfl
  have lt : Ω.len ts = ts.length := by subst hΩ; rfl
  have ls : Ω.len ss = ss.length := by subst hΩ; rfl
  have lz : Ω.len zs = zs.length := by subst hΩ; rfl
  have lb : Ω.len zs = bs.length := lz.trans hbl.symm
  cbv
  refine call_pure hΩ 3 a1 rfl (fits _) ro rfl ?_
  cbv
  refine call_pure hΩ 3 a2 rfl (fits _) rs rfl ?_
  cbv
  refine call_pure hΩ 3 a2' rfl (fits _) rt rfl ?_
  cbv
  refine call_pure hΩ 3 a3 (mapO3 (ro_vw rfl lo hof) (ro_vw rfl ls hsf) (ro_vw rfl lt htf)) (fits _) rz rfl ?_
  cbv
  refine call_pure hΩ 3 a1 rfl (fits _) ro rfl ?_
  cbv
  refine call_pure hΩ 3 a2 rfl (fits _) rs rfl ?_
  cbv
  refine call_pure hΩ 3 a2' rfl (fits _) rt rfl ?_
  cbv
  refine call_pure hΩ 3 a4 (mapO3 (ro_vw rfl lo hof) (ro_vw rfl ls hsf) (ro_vw rfl lt htf)) (fits _) rz rfl ?_
  cbv
  refine call_pure hΩ 3 a5 (mapO2 (ro_agg3 rfl rfl (ro_vw rfl lz hzf)) (ro_agg3 rfl rfl (ro_vw rfl lz hzf))) (fits _) rfl rfl ?_
  cbv
  refine br (fun h => (notT hΩ h).elim) (fun h => ?_)
  cbv
  refine call_pure hΩ 3 a1 rfl (fits _) ro rfl ?_
  cbv
  refine call_pure hΩ 3 a6 (mapO2 (ro_vw rfl lo hof) (ro_vw rfl lo hof)) (fits _) rfl rfl ?_
  cbv
  refine br (fun h => (notT hΩ h).elim) (fun h => ?_)
  cbv
  refine call_pure hΩ 3 a2 rfl (fits _) rs rfl ?_
  cbv
  refine call_pure hΩ 3 a7 (mapO2 (ro_vw rfl ls hsf) (ro_vw rfl ls hsf)) (fits _) rfl rfl ?_
  cbv
  refine br (fun h => (notT hΩ h).elim) (fun h => ?_)
  cbv
  refine call_pure hΩ 3 a2' rfl (fits _) rt rfl ?_
  cbv
  refine call_pure hΩ 3 a7' (mapO2 (ro_vw rfl lt htf) (ro_vw rfl lt htf)) (fits _) rfl rfl ?_
  cbv
  refine br (fun h => (notT hΩ h).elim) (fun h => ?_)
  cbv
  refine call_eat2 (row := ⟨8, os, false⟩) hΩ 3 a8 rfl rfl lo rfl (fits _) rfl rfl ?_
  cbv
  refine call_mut hΩ 3 (l := [(6, ms)] ++ ([] ++ [])) a9 (.cons (mutVw rfl ls hal) (.cons (.data rfl rfl) .nil)) (by simp) rfl ?_
  cbv
  refine call_mut hΩ 3 (l := [(7, mt)] ++ ([] ++ [])) a9' (.cons (mutVw rfl lt hatl) (.cons (.data rfl rfl) .nil)) (by simp) rfl ?_
  cbv
  refine br (fun h => absurd (ltI_t hΩ h) (Int.not_lt.2 hm40)) (fun h => ?_)
  cbv
  refine call_pure hΩ 3 a5 (mapO2 (ro_agg3 rfl rfl (ro_vw rfl lz hzf)) (ro_agg3 rfl rfl (ro_vw rfl lz hzf))) (fits _) rfl rfl ?_
  cbv
  refine br (fun h => ?_) (fun h => ?_)
  · exfalso
    subst hΩ
    exact absurd (show (!true) = true from h) (by decide)
  cbv
  refine call_mut hΩ 3 (l := ([] ++ ([] ++ ([(8, bs)] ++ []))) ++ ([] ++ [])) b1 (.cons (.agg (.cons (.data rfl rfl) (.cons (.data rfl rfl) (.cons (mutVw rfl lz hbl) .nil)))) (.cons (.data rfl rfl) .nil)) (by simp) rfl ?_
  cbv
  refine call_pure hΩ 3 b2 (mapO2 (ro_agg3 rfl rfl (ro_vw rfl lb hbf)) rfl) (fits _) rfl rfl ?_
  cbv
  refine br (fun h => absurd (ltI_t hΩ h) (Int.not_lt.2 hm30)) (fun h => ?_)
  cbv
  refine br (fun h => (ne_self hΩ h).elim) (fun h => ?_)
  cbv
  refine call_pure hΩ 3 a1 rfl (fits _) ro rfl ?_
  cbv
  refine call_pure hΩ 3 a2 rfl (fits _) rs rfl ?_
  cbv
  refine call_pure hΩ 3 a2' rfl (fits _) rt rfl ?_
  cbv
  refine call_pure hΩ 3 a4 (mapO3 (ro_vw rfl lo hof) (ro_vw rfl ls hsf) (ro_vw rfl lt htf)) (fits _) rz rfl ?_
  cbv
  refine call_pure hΩ 3 a5 (mapO2 (ro_agg3 rfl rfl (ro_vw rfl lz hzf)) (ro_agg3 rfl rfl (ro_vw rfl lz hzf))) (fits _) rfl rfl ?_
  cbv
  refine br (fun h => (notT hΩ h).elim) (fun h => ?_)
  cbv
  refine call_pure hΩ 3 b2 (mapO2 (ro_agg3 rfl rfl (ro_vw rfl lb hbf)) rfl) (fits _) rfl rfl ?_
  cbv
  refine br (fun h => absurd (ltI_t hΩ h) (Int.not_lt.2 hm30)) (fun h => ?_)
  cbv
  refine br (fun h => (ne_self hΩ h).elim) (fun h => ?_)
  cbv
  exact .same
end Go.Proofs.YtfmcncflooechaaGreat

/- What a reading of an argument says of it: it is read-only plain data. Plain theorems, no condition. -/
set_option linter.unusedVariables false
set_option linter.unusedSimpArgs false
namespace Go.Fw
/-- Types of plain data. -/
inductive Ty where
  | int (k : IntKind)
  | bool
  | str
  | sl (e : Ty)
  | st (fs : List Ty)
mutual
def Ty.n : Ty → Nat
  | .st fs => Ty.nL fs
  | .int _ => 1
  | .bool => 1
  | .str => 1
  | .sl _ => 1
def Ty.nL : List Ty → Nat
  | [] => 0
  | x :: xs => x.n + Ty.nL xs
end
def Ty.elem (e : Ty) (cs : List A) : A :=
  match e with
  | .st _ => .agg cs
  | _ => cs.headD .un
mutual
def TyOK (P : Program) : Ty → TypeId → Prop
  | .int k, t => P.underlying t = some (.int k)
  | .bool, t => P.underlying t = some .bool
  | .str, t => P.underlying t = some .string
  | .sl e, t => ∃ te, P.underlying t = some (.slice te) ∧ P.cellsOf te = e.n ∧ Nat.ble 1 e.n = true ∧ TyOK P e te
  | .st fs, t => ∃ f, P.underlying t = some (.struct f) ∧ P.cellsOf t = Ty.nL fs ∧ TysOK P 0 fs f.toList
def TysOK (P : Program) : Nat → List Ty → List Field → Prop
  | _, [], [] => True
  | o, x :: xs, f :: fs => f.offset = o ∧ P.cellsOf f.type = x.n ∧ TyOK P x f.type ∧ TysOK P (o + x.n) xs fs
  | _, _, _ => False
end
mutual
inductive Shp : Ty → List A → Prop
  | int {k : IntKind} {n : Int} (h : (Lit.int k n).wf = true) : Shp (.int k) [.sc (.int k n)]
  | bool {b : Bool} : Shp .bool [.sc (.bool b)]
  | str {s : List UInt8} (h : s.length ≤ maxLen) : Shp .str [.sc (.string (mkS s))]
  | sl {e : Ty} {ys : List A} (h : ∀ y ∈ ys, Shp e y.cells) (h2 : ∀ y ∈ ys, y = e.elem y.cells) (hl : ys.length ≤ maxLen) : Shp (.sl e) [.sl false e.n ys]
  | st {fs : List Ty} {xs : List A} (h : ShpL fs xs) : Shp (.st fs) xs
inductive ShpL : List Ty → List A → Prop
  | nil : ShpL [] []
  | cons {t : Ty} {ts : List Ty} {xs ys : List A} (h : Shp t xs) (hl : ShpL ts ys) : ShpL (t :: ts) (xs ++ ys)
end
mutual
theorem Shp.length : ∀ {t : Ty} {xs : List A}, Shp t xs → xs.length = t.n
  | _, _, .int _ => rfl
  | _, _, .bool => rfl
  | _, _, .str _ => rfl
  | _, _, .sl _ _ _ => rfl
  | _, _, .st h => by rw [Ty.n]; exact h.length
theorem ShpL.length : ∀ {ts : List Ty} {xs : List A}, ShpL ts xs → xs.length = Ty.nL ts
  | _, _, .nil => rfl
  | _, _, .cons h hl => by rw [List.length_append, h.length, hl.length, Ty.nL]
end
theorem elem_cells {e : Ty} {cs : List A} (h : Shp e cs) : (e.elem cs).cells = cs := by
  cases h <;> rfl
theorem cells_list {w : World} {base : Nat} {a : Addr} {n : Nat} {cs : List Value} (h : w.cells? base a n = some cs) (hn : 0 < n) :
    ∃ cur e fr, w.heap[a.block]? = some (.cells cur e fr) ∧ a.spot = none ∧ cs = (cur.toList.drop a.off).take n ∧ cs.length = n := by
  unfold World.cells? at h
  split at h <;> try simp at h
  have hget : ∀ (l : List Nat) (r : List Value), l.mapM (fun i => w.cell? (a.add i)) = some r → r.length = l.length ∧ ∀ (j i : Nat), l[j]? = some i → ∃ v, r[j]? = some v ∧ w.cell? (a.add i) = some v := by
    intro l
    induction l with
    | nil => intro r h; simp at h; subst h; simp
    | cons x l ih =>
      intro r h
      simp only [List.mapM_cons, Option.bind_eq_bind, Option.pure_def, Option.bind_eq_some_iff, Option.some.injEq] at h
      obtain ⟨v, hv, r', hr', rfl⟩ := h
      obtain ⟨h1, h2⟩ := ih r' hr'
      refine ⟨by simp [h1], fun j i hj => ?_⟩
      cases j with
      | zero => simp at hj; subst hj; exact ⟨v, rfl, hv⟩
      | succ j => simpa using h2 j i (by simpa using hj)
  obtain ⟨hl, hat⟩ := hget _ _ h
  rw [List.length_range] at hl
  obtain ⟨v0, _, hv0⟩ := hat 0 0 (by rw [List.getElem?_range hn])
  have hblk : ∀ i, (a.add i).block = a.block := fun i => by unfold Addr.add; split <;> rfl
  unfold World.cell? at hv0
  rw [hblk] at hv0
  split at hv0 <;> try simp at hv0
  rename_i cur e fr hh
  have hsp : a.spot = none := by
    cases hs : a.spot with
    | none => rfl
    | some s => simp [Addr.add, hs] at hv0
  refine ⟨cur, e, fr, hh, hsp, ?_, hl⟩
  have ha : a = ⟨a.block, a.off, none⟩ := by cases a; simp at hsp; subst hsp; rfl
  have hcell : ∀ i, w.cell? (a.add i) = cur[a.off + i]? := fun i => by rw [ha, add_none, cell_at hh]
  have hlen : a.off + n ≤ cur.size := by
    obtain ⟨v, _, hv⟩ := hat (n - 1) (n - 1) (by rw [List.getElem?_range (by omega)])
    rw [hcell] at hv
    have := (Array.getElem?_eq_some_iff.1 hv).1
    omega
  apply List.ext_getElem?
  intro j
  by_cases hj : j < n
  · obtain ⟨v, hv1, hv2⟩ := hat j j (by rw [List.getElem?_range hj])
    rw [hv1, List.getElem?_take_of_lt hj, List.getElem?_drop]
    rw [hcell] at hv2
    simpa using hv2.symm
  · rw [List.getElem?_eq_none (by omega), List.getElem?_eq_none (by simp; omega)]
theorem add_block (a : Addr) (i : Nat) : (a.add i).block = a.block := by unfold Addr.add; split <;> rfl
theorem rows_rel {w : World} {G : Nat → Prop} {n : Nat} {X : Nat → List A} {l : List Value} : ∀ len : Nat, (∀ i, i < len → RelL w G (X i) ((l.drop (i * n)).take n) []) → RelL w G ((List.range len).flatMap X) (l.take (len * n)) []
  | 0, _ => by simpa using RelL.nil
  | len + 1, h => by
    have h1 := rows_rel (X := X) len fun i hi => h i (by omega)
    have h2 := h1.append (h len (by omega))
    rw [List.range_succ, List.flatMap_append, Nat.succ_mul, List.take_add]
    simpa using h2
mutual
theorem trod_rel {H : Type} {enc : TypeId × Value → H} {P : Program} {w : World} {base : Nat} {sp : Nat → Bool} {held : Bool} (hsp : ∀ b, sp b = true) :
    ∀ (ty : Ty) (t : TypeId) (fuel : Nat) (cs : List Value) (x : DataW H × List MemPlace), TyOK P ty t → DataW.trod enc P w base sp held fuel t cs = some x → ∃ xs, RelL w (Old w) xs cs [] ∧ Shp ty xs
  | .int k, t, 0, cs, x, hu, h => by simp [DataW.trod] at h
  | .int k, t, fuel + 1, cs, x, hu, h => by
    have hu : P.underlying t = some (.int k) := hu
    unfold DataW.trod at h
    rw [hu] at h
    split at h <;> try simp_all
    obtain ⟨⟨rfl, hw⟩, _⟩ := h
    exact ⟨_, .cons (F := []) (Fs := []) (.sc rfl) .nil, .int hw⟩
  | .bool, t, 0, cs, x, hu, h => by simp [DataW.trod] at h
  | .bool, t, fuel + 1, cs, x, hu, h => by
    have hu : P.underlying t = some .bool := hu
    unfold DataW.trod at h
    rw [hu] at h
    split at h <;> try simp_all
    exact ⟨_, .cons (F := []) (Fs := []) (.sc rfl) .nil, .bool⟩
  | .str, t, 0, cs, x, hu, h => by simp [DataW.trod] at h
  | .str, t, fuel + 1, cs, x, hu, h => by
    have hu : P.underlying t = some .string := hu
    unfold DataW.trod at h
    rw [hu] at h
    split at h <;> try simp_all
    rename_i s
    refine ⟨[.sc (.string (mkS (bs s)))], .cons (F := []) (Fs := []) (.sc rfl) .nil, .str ?_⟩
    rw [bs_length]; exact h.1
  | .sl e, t, fuel, cs, x, hu, h => by
    obtain ⟨te, hu, hc, hpos, hte⟩ := hu
    have hpos := Nat.le_of_ble_eq_true hpos
    rcases Go.Deep.open_slice hu h with ⟨rfl, _⟩ | ⟨a, len, cap, m, n, D, Pl, rfl, _, hl, hm, hmm, _, hel⟩
    · exact ⟨[.sl false e.n []], .cons (F := []) (Fs := []) .nils .nil, .sl (by simp) (by simp) (by simp)⟩
    · rw [hsp, if_pos rfl] at hmm
      subst hmm
      rw [hc] at hel
      by_cases hm0 : m = 0
      · subst hm0
        have : len = 0 := by omega
        subst this
        exact ⟨[.sl false e.n []], .cons (F := []) (Fs := []) .roz .nil, .sl (by simp) (by simp) (by simp)⟩
      · obtain ⟨cs0, hc0, _⟩ := hel 0 (by omega)
        obtain ⟨cur, et, fr, hh, hspot, _, _⟩ := cells_list hc0 hpos
        rw [add_block] at hh
        have hspot' : a.spot = none := by
          cases hs : a.spot with
          | none => rfl
          | some s => simp [Addr.add, hs] at hspot
        have ha : a = ⟨a.block, a.off, none⟩ := by cases a; simp at hspot'; subst hspot'; rfl
        have hX : ∀ i, i < m → ∃ xs, RelL w (Old w) xs ((cur.toList.drop (a.off + i * e.n)).take e.n) [] ∧ Shp e xs := fun i hi => by
          obtain ⟨csi, hci, hti⟩ := hel i hi
          obtain ⟨cur', et', fr', hh', _, hcs, _⟩ := cells_list hci hpos
          rw [add_block, hh] at hh'
          simp only [Option.some.injEq, Obj.cells.injEq] at hh'
          obtain ⟨rfl, _, _⟩ := hh'
          obtain ⟨xs, h1, h2⟩ := trod_rel hsp e te n csi _ hte hti
          refine ⟨xs, ?_, h2⟩
          rw [hcs] at h1
          have : (a.add (i * e.n)).off = a.off + i * e.n := by rw [ha, add_none]
          rw [this] at h1
          exact h1
        let X : Nat → List A := fun i => if h : i < m then Classical.choose (hX i h) else []
        have hX1 : ∀ i, i < m → RelL w (Old w) (X i) ((cur.toList.drop (a.off + i * e.n)).take e.n) [] ∧ Shp e (X i) := fun i hi => by
          have : X i = Classical.choose (hX i hi) := by simp only [X]; rw [dif_pos hi]
          rw [this]; exact Classical.choose_spec (hX i hi)
        have hmem : ∀ y ∈ (List.range len).map fun i => e.elem (X i), Shp e y.cells ∧ y = e.elem y.cells := fun y hy => by
          obtain ⟨i, hi, rfl⟩ := List.mem_map.1 hy
          have hi := List.mem_range.1 hi
          have hs := (hX1 i (by omega)).2
          rw [elem_cells hs]
          exact ⟨hs, rfl⟩
        refine ⟨[.sl false e.n ((List.range len).map fun i => e.elem (X i))], .cons (F := []) (Fs := []) ?_ .nil, .sl (fun y hy => (hmem y hy).1) (fun y hy => (hmem y hy).2) (by simp; omega)⟩
        have hlt : a.block < w.heap.size := (Array.getElem?_eq_some_iff.1 hh).1
        rw [ha]
        refine .ro hh hlt (fun y hy => ?_) (by simp) rfl ?_ (by omega) (by omega)
        · have := (hmem y hy).1.length
          exact this
        · have hf : flat ((List.range len).map fun i => e.elem (X i)) = (List.range len).flatMap X := by
            unfold flat
            rw [List.flatMap_map]
            have : ∀ l : List Nat, (∀ i ∈ l, i < m) → l.flatMap (fun i => (e.elem (X i)).cells) = l.flatMap X := by
              intro l
              induction l with
              | nil => intro _; rfl
              | cons i l ih =>
                intro hl
                rw [List.flatMap_cons, List.flatMap_cons, ih fun j hj => hl j (by simp [hj]), elem_cells (hX1 i (hl i (by simp))).2]
            exact this _ fun i hi => by have := List.mem_range.1 hi; omega
          rw [hf]
          refine rows_rel len fun i hi => ?_
          have := (hX1 i (by omega)).1
          rw [← List.drop_drop] at this
          exact this
  | .st fs, t, 0, cs, x, hu, h => by simp [DataW.trod] at h
  | .st fs, t, fuel + 1, cs, x, hu, h => by
    obtain ⟨f, hu, hc, hfs⟩ := hu
    unfold DataW.trod at h
    rw [hu] at h
    simp only at h
    split at h <;> try simp at h
    rename_i hlen
    obtain ⟨ys, hys, _⟩ := h
    obtain ⟨xs, h1, h2⟩ := trod_rels hsp fs f.toList fuel 0 cs ys hfs (by rw [hlen, hc]; omega) hys
    exact ⟨xs, by simpa using h1, .st h2⟩
theorem trod_rels {H : Type} {enc : TypeId × Value → H} {P : Program} {w : World} {base : Nat} {sp : Nat → Bool} {held : Bool} (hsp : ∀ b, sp b = true) :
    ∀ (tys : List Ty) (fs : List Field) (fuel o : Nat) (cs : List Value) (ys : List (DataW H × List MemPlace)), TysOK P o tys fs → cs.length = o + Ty.nL tys →
      fs.mapM (fun f => DataW.trod enc P w base sp held fuel f.type ((cs.drop f.offset).take (P.cellsOf f.type))) = some ys → ∃ xs, RelL w (Old w) xs (cs.drop o) [] ∧ ShpL tys xs
  | [], [], fuel, o, cs, ys, _, hl, _ => ⟨[], by rw [List.drop_eq_nil_of_le (by rw [hl, Ty.nL]; omega)]; exact .nil, .nil⟩
  | [], _ :: _, fuel, o, cs, ys, hu, hl, h => hu.elim
  | _ :: _, [], fuel, o, cs, ys, hu, hl, h => hu.elim
  | ty :: tys, f :: fs, fuel, o, cs, ys, hu, hl, h => by
    obtain ⟨ho, hc, ht, hts⟩ := hu
    simp only [List.mapM_cons, Option.bind_eq_bind, Option.pure_def, Option.bind_eq_some_iff, Option.some.injEq] at h
    obtain ⟨y, hy, ys', hys', _⟩ := h
    rw [ho, hc] at hy
    obtain ⟨xs1, h1, h2⟩ := trod_rel hsp ty f.type fuel _ _ ht hy
    rw [Ty.nL] at hl
    obtain ⟨xs2, h3, h4⟩ := trod_rels hsp tys fs fuel (o + ty.n) cs ys' hts (by omega) hys'
    refine ⟨xs1 ++ xs2, ?_, .cons h2 h4⟩
    have := h1.append h3
    rw [← List.drop_drop, List.take_append_drop] at this
    simpa using this
end
end Go.Fw

/- The closing of a law's row. Plain theorems, no condition. -/
set_option linter.unusedVariables false
set_option linter.unusedSimpArgs false
namespace Go.Fw
open Go.ChangeShapes Go.WideShapes Go.ChangeAt Go.RowKit
def PlainT (P : Program) (t : TypeId) : Prop := ∃ ty, TyOK P ty t
theorem tys_fields {P : Program} : ∀ {tys : List Ty} {fs : List Field} {o : Nat}, TysOK P o tys fs → (∀ f ∈ fs, PlainT P f.type) ∧ Ty.nL tys = (fs.map fun f => P.cellsOf f.type).sum ∧
    ∀ (j : Nat) f, fs[j]? = some f → f.offset = o + ((fs.take j).map fun f => P.cellsOf f.type).sum
  | [], [], o, _ => ⟨by simp, rfl, by simp⟩
  | [], _ :: _, o, h => h.elim
  | _ :: _, [], o, h => h.elim
  | ty :: tys, f :: fs, o, h => by
    obtain ⟨h1, h2, h3, h4⟩ := h
    obtain ⟨g1, g2, g3⟩ := tys_fields h4
    refine ⟨fun f' hf => ?_, by rw [Ty.nL, g2, ← h2]; simp, fun j f' hj => ?_⟩
    · rcases List.mem_cons.1 hf with rfl | hf
      · exact ⟨ty, h3⟩
      · exact g1 f' hf
    · cases j with
      | zero => simp at hj; subst hj; simp [h1]
      | succ j =>
        have := g3 j f' (by simpa using hj)
        rw [this, ← h2]; simp; omega
theorem kids (P : Program) : Kids P (PlainT P) := by
  refine ⟨?_, ?_, ?_, ?_, ?_⟩
  · rintro t e ⟨ty, h⟩ hu
    cases ty with
    | sl _ => obtain ⟨te, h, _⟩ := h; rw [hu] at h; simp at h
    | st _ => obtain ⟨f, h, _⟩ := h; rw [hu] at h; simp at h
    | _ => rw [TyOK, hu] at h; simp at h
  · rintro t e ⟨ty, h⟩ hu
    cases ty with
    | sl e' => obtain ⟨te, h, _, _, h2⟩ := h; rw [hu] at h; simp at h; subst h; exact ⟨e', h2⟩
    | st _ => obtain ⟨f, h, _⟩ := h; rw [hu] at h; simp at h
    | _ => rw [TyOK, hu] at h; simp at h
  · rintro t e n ⟨ty, h⟩ hu
    cases ty with
    | sl _ => obtain ⟨te, h, _⟩ := h; rw [hu] at h; simp at h
    | st _ => obtain ⟨f, h, _⟩ := h; rw [hu] at h; simp at h
    | _ => rw [TyOK, hu] at h; simp at h
  · rintro t fs ⟨ty, h⟩ hu
    cases ty with
    | sl _ => obtain ⟨te, h, _⟩ := h; rw [hu] at h; simp at h
    | st tys =>
      obtain ⟨f, h, hc, hts⟩ := h
      rw [hu] at h
      simp at h
      subst h
      obtain ⟨g1, g2, g3⟩ := tys_fields hts
      exact ⟨g1, by rw [hc, g2], fun j f hj => by rw [g3 j f hj, Nat.zero_add]⟩
    | _ => rw [TyOK, hu] at h; simp at h
  · rintro t k e ⟨ty, h⟩ hu
    cases ty with
    | sl _ => obtain ⟨te, h, _⟩ := h; rw [hu] at h; simp at h
    | st _ => obtain ⟨f, h, _⟩ := h; rw [hu] at h; simp at h
    | _ => rw [TyOK, hu] at h; simp at h
theorem plain_sz {P : Program} {t e : TypeId} (h : PlainT P t) (hu : P.underlying t = some (.slice e)) : 0 < P.cellsOf e := by
  obtain ⟨ty, h⟩ := h
  cases ty with
  | sl _ => obtain ⟨te, h, hc, hb, _⟩ := h; rw [hu] at h; simp at h; subst h; rw [hc]; exact Nat.le_of_ble_eq_true hb
  | st _ => obtain ⟨f, h, _⟩ := h; rw [hu] at h; simp at h
  | _ => rw [TyOK, hu] at h; simp at h
section
variable {H : Type} {enc : TypeId × Value → H} {P : Program}
theorem stays_all {W W' : World} {sp' : Nat → Bool} : ∀ {ts : List TypeId} {vs : List Value} {ds : List (DataW H)} {ps : List MemPlace}, (∀ t ∈ ts, PlainT P t) → DataW.TrodAll enc P W 0 (fun _ => true) true ts vs ds ps →
    (∀ p ∈ ps, W.sameAt W' p) → (∀ p ∈ ps, sp' p.block = true) → DataW.TrodAll enc P W' 0 sp' true ts vs ds ps
  | [], [], [], ps, _, h, _, _ => h
  | t :: ts, v :: vs, d :: ds, ps, ht, h, hsame, hs => by
    obtain ⟨p, q, ⟨n, hn⟩, hl, rfl⟩ := h
    refine ⟨p, q, ⟨n, ?_⟩, stays_all (fun t h => ht t (by simp [h])) hl (fun x hx => hsame x (by simp [hx])) (fun x hx => hs x (by simp [hx])), rfl⟩
    exact DataW.trod_stays (kids P) plain_sz (by simp) (ht t (by simp)) hn (fun x hx => hsame x (by simp [hx])) (fun x hx => hs x (by simp [hx]))
theorem post_law {f : Func} {s : ChangeSpec} {apart fresh handsOn again : Bool} {W W' : World} {args : Array Value} {ds gs : List (DataW H)} {before : List MemPlace} {tb : TypeId} (hsv : s.vars = [])
    (hW : DataW.Whole enc P f.params.toList s.vars apart W args.toList ds gs before) (htys : ∀ t ∈ f.params.toList, PlainT P t) (hrt : f.resultTypes = #[tb]) (hub : P.underlying tb = some .bool)
    (hfn : s.fn H (ds ++ gs) = { results := [.lit (.bool true)], args := ds }) (hb : Below W.heap.size W W') : s.post enc P f apart fresh handsOn again W args (.bool true) W' := by
  have hW0 := hW
  obtain ⟨p, q, hA, hV, rfl, hfz, hnd⟩ := hW
  rw [hsv] at hV
  obtain ⟨rfl, rfl⟩ := trodVars_none hV
  rw [List.append_nil] at hfz hnd hW0
  have hlt := hW0.lt
  have hsame : ∀ x ∈ p, W.sameAt W' x := fun x hx => hb.same (hlt x hx)
  have hres : ∀ (b : Nat) (sp : Nat → Bool) (hd : Bool), DataW.TrodAll enc P W' b sp hd f.resultTypes.toList ((Value.bool true).resultList f.resultTypes.size) (s.fn H (ds ++ [])).results [] := fun b sp hd => by
    rw [hfn, hrt]
    exact trodAll_cons_mk (shut_bool hub _) trodAll_mk0
  have hargs : ∀ sp : Nat → Bool, (∀ x ∈ p, sp x.block = true) → DataW.TrodAll enc P W' 0 sp true f.params.toList args.toList (s.fn H (ds ++ [])).args p := fun sp hs => by
    rw [hfn]; exact stays_all htys hA hsame hs
  have hvars : ∀ sp : Nat → Bool, DataW.TrodVars enc P W' sp s.vars (s.fn H (ds ++ [])).vars [] := fun sp => by rw [hfn, hsv]; rfl
  have hold : ∀ x ∈ p, (fun b => decide (b < W.heap.size)) x.block = true := fun x hx => by simpa using hlt x hx
  refine ⟨ds, [], p, [], p, [], hW0, hres _ _ _, hargs _ hold, hvars _, World.keptBut_mono (fun x hx => ⟨hx, .inr (.inl hx)⟩) (hb.frame (· ∈ p)), fun _ => ?_⟩
  refine ⟨?_, _, _, ([] ++ p) ++ [], ⟨[] ++ p, [], trodAll_append (hargs _ (fun _ _ => rfl)) (hres 0 (fun _ => true) true), hvars _, rfl, ?_, ?_⟩, ?_⟩
  · intro j t r h1 h2
    exact ok_one (v := .bool true) hrt rfl (okWide_bool_mk hub true) j t r h1 h2
  · intro b off hp
    have hp' : MemPlace.cell b off ∈ p := by simpa using hp
    rw [hb.frozen (p := ⟨b, off, none⟩) (hlt _ hp')]
    exact hfz b off hp'
  · intro ha
    simpa using hnd ha
  · intro x hx _
    simpa using hx
end
mutual
def tyChk (P : Program) : Ty → TypeId → Bool
  | .int k, t => match P.underlying t with | some (.int k') => decide (k' = k) | _ => false
  | .bool, t => match P.underlying t with | some .bool => true | _ => false
  | .str, t => match P.underlying t with | some .string => true | _ => false
  | .sl e, t => match P.underlying t with | some (.slice te) => P.cellsOf te == e.n && (Nat.ble 1 e.n && tyChk P e te) | _ => false
  | .st fs, t => match P.underlying t with | some (.struct f) => P.cellsOf t == Ty.nL fs && tysChk P 0 fs f.toList | _ => false
def tysChk (P : Program) : Nat → List Ty → List Field → Bool
  | _, [], [] => true
  | o, x :: xs, f :: fs => f.offset == o && (P.cellsOf f.type == x.n && (tyChk P x f.type && tysChk P (o + x.n) xs fs))
  | _, _, _ => false
end
mutual
theorem tyChk_ok {P : Program} : ∀ (ty : Ty) (t : TypeId), tyChk P ty t = true → TyOK P ty t
  | .int k, t, h => by
    rw [tyChk] at h; split at h <;> try simp at h
    rename_i hu; subst h; rw [TyOK]; exact hu
  | .bool, t, h => by
    rw [tyChk] at h; split at h <;> try simp at h
    rename_i hu; rw [TyOK]; exact hu
  | .str, t, h => by
    rw [tyChk] at h; split at h <;> try simp at h
    rename_i hu; rw [TyOK]; exact hu
  | .sl e, t, h => by
    rw [tyChk] at h; split at h <;> try simp at h
    rename_i te hu; rw [TyOK]
    exact ⟨te, hu, h.1, by simpa using h.2.1, tyChk_ok e te h.2.2⟩
  | .st fs, t, h => by
    rw [tyChk] at h; split at h <;> try simp at h
    rename_i f hu; rw [TyOK]
    exact ⟨f, hu, h.1, tysChk_ok fs _ _ h.2⟩
theorem tysChk_ok {P : Program} : ∀ (tys : List Ty) (o : Nat) (fs : List Field), tysChk P o tys fs = true → TysOK P o tys fs
  | [], _, [], _ => by rw [TysOK]; trivial
  | [], _, _ :: _, h => by simp [tysChk] at h
  | _ :: _, _, [], h => by simp [tysChk] at h
  | x :: xs, o, f :: fs, h => by
    rw [tysChk] at h
    simp only [Bool.and_eq_true, beq_iff_eq] at h
    rw [TysOK]
    exact ⟨h.1, h.2.1, tyChk_ok x _ h.2.2.1, tysChk_ok xs _ fs h.2.2.2⟩
end
theorem slice_cells {P : Program} {W : World} {base : Nat} {t e : TypeId} {v : Value} (hu : P.underlying t = some (.slice e)) (h : Value.okWide P W .any base t v) : v.cells.toList = [v] := by
  unfold Value.okWide at h
  rw [hu] at h
  simp only at h
  unfold Cell.okWide at h
  rw [hu] at h
  cases v <;> first | rfl | (simp [Cell.ok, hu] at h)
end Go.Fw

/- Shapes of arguments. Plain theorems. -/
set_option linter.unusedVariables false
set_option linter.unusedSimpArgs false
namespace Go.Proofs.YtfmcncflooechaaGreat
open Go Go.Fw
open Go.ChangeShapes Go.WideShapes Go.ChangeAt Go.RowKit
def tyVer : Ty := .st [.int .i64, .int .i64, .int .i64]
def tyTrm : Ty := .st [.str, tyVer, tyVer]
def tyPck : Ty := .st [.str, tyVer, .int .i64, .sl .str, .sl (.sl tyTrm), .sl tyTrm]
theorem shp_i64 {xs : List A} (h : Shp (.int .i64) xs) : ∃ x, xs = [i64 x] := by cases h; exact ⟨_, rfl⟩
theorem shp_str {xs : List A} (h : Shp .str xs) : ∃ x, xs = [str x] ∧ x.length ≤ Go.maxLen := by cases h; exact ⟨_, rfl, by assumption⟩
theorem shp_Ver {xs : List A} (h : Shp tyVer xs) : ∃ v : Ver, xs = v.cells := by
  cases h with | st h =>
  cases h with | cons h1 h =>
  cases h with | cons h2 h =>
  cases h with | cons h3 h =>
  cases h
  obtain ⟨a, rfl⟩ := shp_i64 h1
  obtain ⟨b, rfl⟩ := shp_i64 h2
  obtain ⟨c, rfl⟩ := shp_i64 h3
  exact ⟨⟨a, b, c⟩, rfl⟩
theorem shp_Trm {xs : List A} (h : Shp tyTrm xs) : ∃ v : Trm, xs = v.cells ∧ v.n.length ≤ Go.maxLen := by
  cases h with | st h =>
  cases h with | cons h1 h =>
  cases h with | cons h2 h =>
  cases h with | cons h3 h =>
  cases h
  obtain ⟨n, rfl, hn⟩ := shp_str h1
  obtain ⟨o, rfl⟩ := shp_Ver h2
  obtain ⟨w, rfl⟩ := shp_Ver h3
  exact ⟨⟨n, o, w⟩, rfl, hn⟩
theorem maps_of {α : Type} {f : α → A} {p : α → Prop} : ∀ {ys : List A}, (∀ y ∈ ys, ∃ c, y = f c ∧ p c) → ∃ cs : List α, ys = cs.map f ∧ ∀ c ∈ cs, p c
  | [], _ => ⟨[], rfl, by simp⟩
  | y :: ys, h => by
    obtain ⟨c, rfl, hc⟩ := h y (by simp)
    obtain ⟨cs, rfl, hcs⟩ := maps_of (ys := ys) fun z hz => h z (by simp [hz])
    exact ⟨c :: cs, rfl, fun z hz => by exact (List.mem_cons.1 hz).elim (fun e => e ▸ hc) (hcs z)⟩
theorem shp_sl {e : Ty} {xs : List A} (h : Shp (.sl e) xs) {α : Type} {f : α → A} {p : α → Prop} (hf : ∀ y, Shp e y.cells → y = e.elem y.cells → ∃ c, y = f c ∧ p c) : ∃ cs : List α, xs = [.sl false e.n (cs.map f)] ∧ cs.length ≤ Go.maxLen ∧ ∀ c ∈ cs, p c := by
  cases h with | sl h1 h2 hl =>
  rename_i ys
  obtain ⟨cs, rfl, hp⟩ := maps_of (f := f) (p := p) (ys := ys) fun y hy => hf y (h1 y hy) (h2 y hy)
  exact ⟨cs, rfl, by simpa using hl, hp⟩
theorem shp_strS {xs : List A} (h : Shp (.sl .str) xs) : ∃ cs : List (List UInt8), xs = [.sl false 1 (cs.map str)] ∧ cs.length ≤ Go.maxLen ∧ ∀ c ∈ cs, c.length ≤ Go.maxLen :=
  shp_sl h fun y h1 h2 => by
    obtain ⟨v, hv, hp⟩ := shp_str h1
    exact ⟨v, by rw [h2, hv]; rfl, hp⟩
theorem shp_TrmS {xs : List A} (h : Shp (.sl tyTrm) xs) : ∃ cs : List Trm, xs = [.sl false 7 (cs.map Trm.enc)] ∧ cs.length ≤ Go.maxLen ∧ ∀ c ∈ cs, c.n.length ≤ Go.maxLen :=
  shp_sl h fun y h1 h2 => by
    obtain ⟨v, hv, hp⟩ := shp_Trm h1
    exact ⟨v, by rw [h2, hv]; rfl, hp⟩
theorem shp_TrmSS {xs : List A} (h : Shp (.sl (.sl tyTrm)) xs) : ∃ cs : List (List Trm), xs = [.sl false 1 (cs.map (encTs false))] ∧ cs.length ≤ Go.maxLen ∧ ∀ c ∈ cs, c.length ≤ Go.maxLen ∧ ∀ t ∈ c, t.n.length ≤ Go.maxLen :=
  shp_sl h fun y h1 h2 => by
    obtain ⟨v, hv, hp⟩ := shp_TrmS h1
    exact ⟨v, by rw [h2, hv]; rfl, hp⟩
theorem shp_i64S {xs : List A} (h : Shp (.sl (.int .i64)) xs) : ∃ cs : List Int, xs = [.sl false 1 (cs.map i64)] ∧ cs.length ≤ Go.maxLen := by
  obtain ⟨cs, h1, h2, _⟩ := shp_sl (f := i64) (p := fun _ => True) h fun y h1 h2 => by
    obtain ⟨v, hv⟩ := shp_i64 h1
    exact ⟨v, by rw [h2, hv]; rfl, trivial⟩
  exact ⟨cs, h1, h2⟩
theorem shp_Pck {xs : List A} (h : Shp tyPck xs) : ∃ v : Pck, xs = v.cells false ∧ v.Fit := by
  cases h with | st h =>
  cases h with | cons h1 h =>
  cases h with | cons h2 h =>
  cases h with | cons h3 h =>
  cases h with | cons h4 h =>
  cases h with | cons h5 h =>
  cases h with | cons h6 h =>
  cases h
  obtain ⟨n, rfl, hn⟩ := shp_str h1
  obtain ⟨v, rfl⟩ := shp_Ver h2
  obtain ⟨s, rfl⟩ := shp_i64 h3
  obtain ⟨p, rfl, hp⟩ := shp_strS h4
  obtain ⟨d, rfl, hd⟩ := shp_TrmSS h5
  obtain ⟨b, rfl, hb⟩ := shp_TrmS h6
  exact ⟨⟨n, v, s, p, d, b⟩, rfl, ⟨hn, hp, hd, hb⟩⟩
theorem shp_PckS {xs : List A} (h : Shp (.sl tyPck) xs) : ∃ cs : List Pck, xs = [.sl false 8 (cs.map (Pck.enc false))] ∧ cs.length ≤ Go.maxLen ∧ ∀ c ∈ cs, c.Fit :=
  shp_sl h fun y h1 h2 => by
    obtain ⟨v, hv, hp⟩ := shp_Pck h1
    exact ⟨v, by rw [h2, hv]; rfl, hp⟩
end Go.Proofs.YtfmcncflooechaaGreat

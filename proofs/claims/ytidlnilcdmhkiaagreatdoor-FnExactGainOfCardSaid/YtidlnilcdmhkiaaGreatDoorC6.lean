/- What a change of a set keeps. Plain theorems, no program. -/
import Derived.Test.YtidlnilcdmhkiaaGreatDoorC5
import Derived.Deep.Slices
import Derived.ChangeStays
import Derived.OpenShut
import Derived.WalkKit
import Derived.ProofKit
set_option linter.unusedVariables false
set_option linter.unusedSimpArgs false
namespace Go.Proofs.YtidlnilcdmhkiaaGreatDoor
open Go Go.Fw
theorem idxFrom_spec {α : Type} {p : α → Bool} : ∀ {l : List α} {i : Nat}, 0 ≤ idxFrom p i l → ∃ j o, l[j]? = some o ∧ p o = true ∧ idxFrom p i l = ((i + j : Nat) : Int)
  | [], i, h => by rw [idxFrom] at h; omega
  | x :: l, i, h => by
    rw [idxFrom] at h ⊢
    split
    · rename_i hp; exact ⟨0, x, rfl, hp, by simp⟩
    · rename_i hp
      rw [if_neg hp] at h
      obtain ⟨j, o, h1, h2, h3⟩ := idxFrom_spec h
      exact ⟨j + 1, o, by simpa using h1, h2, by rw [h3]; congr 1; omega⟩
theorem findF_spec {c : List Pck} {n : List UInt8} {v : Ver} (h : 0 ≤ findF c n v) : inB (findF c n v) 0 ((c.length : Int) - 1) = true ∧ (pk c (findF c n v)).n = n ∧ (pk c (findF c n v)).v = v := by
  obtain ⟨j, o, h1, h2, h3⟩ := idxFrom_spec h
  have hj := (List.getElem?_eq_some_iff.1 h1).1
  have e : findF c n v = (j : Int) := by unfold findF idx; rw [h3]; simp
  rw [e]
  have e2 : pk c (j : Int) = o := by
    unfold pk
    rw [List.getD_eq_getElem?_getD, Int.toNat_natCast, h1]; rfl
  rw [e2]
  unfold isP at h2
  simp only [Bool.and_eq_true, beq_iff_eq, decide_eq_true_eq] at h2
  refine ⟨?_, h2.1, h2.2⟩
  simp only [inB, Bool.and_eq_true, decide_eq_true_eq]; omega
/-- A set that is in order, of places, each name once. -/
structure Good (c : List Pck) (s : List Int) : Prop where
  lt : s.Pairwise (· < ·)
  at_ : ∀ k ∈ s, inB k 0 ((c.length : Int) - 1) = true
  nm : s.Pairwise fun a b => (pk c a).n ≠ (pk c b).n
theorem Good.le {c : List Pck} {s : List Int} (h : Good c s) : s.Pairwise (· ≤ ·) := h.lt.imp fun h => by omega
theorem len_bound {L : Int} : ∀ {s : List Int} {lo : Int}, s.Pairwise (· < ·) → (∀ k ∈ s, lo ≤ k ∧ k < L) → (s.length : Int) ≤ max 0 (L - lo)
  | [], lo, _, _ => by simp; omega
  | x :: s, lo, h, hk => by
    rw [List.pairwise_cons] at h
    have h1 := len_bound (lo := x + 1) h.2 fun k hk' => ⟨by have := h.1 k hk'; omega, (hk k (by simp [hk'])).2⟩
    have h2 := hk x (by simp)
    rw [List.length_cons]; omega
theorem Good.len {c : List Pck} {s : List Int} (h : Good c s) : s.length ≤ c.length := by
  have := len_bound (L := (c.length : Int)) (lo := 0) h.lt fun k hk => by
    have := h.at_ k hk
    simp only [inB, Bool.and_eq_true, decide_eq_true_eq] at this; omega
  omega
theorem nmF_no {c : List Pck} {n : List UInt8} : ∀ {s : List Int}, (∀ k ∈ s, 0 ≤ k) → nmF c n s < 0 → ∀ k ∈ s, (pk c k).n ≠ n
  | [], _, _, k, hk => by cases hk
  | x :: s, h0, h, k, hk => by
    rw [nmF] at h
    split at h
    · have := h0 x (by simp); omega
    · rename_i hx
      rcases List.mem_cons.1 hk with rfl | hk
      · intro e; exact hx (by simp [e])
      · exact nmF_no (fun k hk => h0 k (by simp [hk])) h k hk
theorem nmF_name {c : List Pck} {n : List UInt8} : ∀ {s : List Int}, 0 ≤ nmF c n s → (pk c (nmF c n s)).n = n
  | [], h => by rw [nmF] at h; omega
  | x :: s, h => by
    rw [nmF] at h ⊢
    split
    · rename_i hx; simpa using hx
    · rename_i hx; rw [if_neg hx] at h; exact nmF_name h
theorem put3_strict {v : Int} : ∀ {l : List Int}, l.Pairwise (· < ·) → v ∉ l → (put3 v l).Pairwise (· < ·)
  | [], _, _ => by simp [put3]
  | x :: l, h, hv => by
    rw [List.pairwise_cons] at h
    rw [put3]
    split
    · rename_i hlt
      rw [List.pairwise_cons, List.pairwise_cons]
      refine ⟨fun y hy => ?_, h⟩
      rcases List.mem_cons.1 hy with rfl | hy
      · exact hlt
      · have := h.1 y hy; omega
    · rename_i hlt
      rw [List.pairwise_cons]
      have hne : v ≠ x := fun e => hv (by simp [e])
      refine ⟨fun y hy => ?_, put3_strict h.2 fun hm => hv (by simp [hm])⟩
      rcases put3_mem hy with rfl | hy
      · omega
      · exact h.1 y hy
theorem pairwise_name {c : List Pck} : ∀ {s : List Int}, (s.Pairwise fun a b => (pk c a).n ≠ (pk c b).n) → ∀ {a b : Int}, a ∈ s → b ∈ s → a ≠ b → (pk c a).n ≠ (pk c b).n
  | [], _, _, _, ha, _, _ => by cases ha
  | x :: s, h, a, b, ha, hb, hne => by
    rw [List.pairwise_cons] at h
    rcases List.mem_cons.1 ha with rfl | ha'
    · rcases List.mem_cons.1 hb with rfl | hb'
      · exact absurd rfl hne
      · exact h.1 b hb'
    · rcases List.mem_cons.1 hb with rfl | hb'
      · exact (h.1 a ha').symm
      · exact pairwise_name h.2 ha' hb' hne
theorem Good.filter {c : List Pck} {s : List Int} (h : Good c s) (p : Int → Bool) : Good c (s.filter p) := ⟨h.lt.filter _, fun k hk => h.at_ k (List.mem_filter.1 hk).1, h.nm.filter _⟩
theorem Good.put {c : List Pck} {s : List Int} (h : Good c s) {v : Int} (hv : inB v 0 ((c.length : Int) - 1) = true) (hn : ∀ k ∈ s, (pk c k).n ≠ (pk c v).n) : Good c (put3 v s) := by
  have hnot : v ∉ s := fun hm => hn v hm rfl
  refine ⟨put3_strict h.lt hnot, fun k hk => ?_, ?_⟩
  · rcases put3_mem hk with rfl | hk
    · exact hv
    · exact h.at_ k hk
  · refine (put3_perm v s).symm.pairwise ?_ fun hab => Ne.symm hab
    rw [List.pairwise_cons]
    exact ⟨fun k hk => (hn k hk).symm, h.nm⟩
theorem newC_zero {c : List Pck} {s : List Int} {x : Chg} (h : newC c s x = 0) : inB x.k 1 3 = true ∧ (x.k = 1 ∨ (0 ≤ nmF c x.n s ∧ (pk c (nmF c x.n s)).v = x.o)) ∧ (x.k = 2 ∨ 0 ≤ findF c x.n x.w) ∧ (x.k = 1 → nmF c x.n s < 0) := by
  unfold newC at h
  split at h
  · cases h
  · rename_i h1
    split at h
    · cases h
    · rename_i h2
      split at h
      · cases h
      · rename_i h3
        refine ⟨by simpa using h1, ?_, by omega, by omega⟩
        by_cases hk : x.k = 1
        · exact .inl hk
        · refine .inr ⟨by omega, cmpV_zero.1 (by omega)⟩
theorem Good.new {c : List Pck} {s : List Int} {x : Chg} (hg : Good c s) (h : newC c s x = 0) : Good c (newS c s x) := by
  obtain ⟨h1, h2, h3, h4⟩ := newC_zero h
  have h0 : ∀ k ∈ s, 0 ≤ k := fun k hk => (pk_at (hg.at_ k hk)).1
  obtain ⟨a, ha⟩ : ∃ a, a = if x.k = 1 then s else s.filter fun k => !decide (k = nmF c x.n s) := ⟨_, rfl⟩
  have hga : Good c a := by rw [ha]; split <;> first | exact hg | exact hg.filter _
  have hna : ∀ k ∈ a, (pk c k).n ≠ x.n := by
    rw [ha]
    split
    · rename_i hk; exact nmF_no h0 (h4 hk)
    · rename_i hk
      intro k hk'
      obtain ⟨m1, m2⟩ := List.mem_filter.1 hk'
      have hnn := (h2.resolve_left hk).1
      have := pairwise_name hg.nm m1 (nmF_mem hnn) (by simpa using m2)
      rwa [nmF_name hnn] at this
  unfold newS
  dsimp only
  rw [← ha]
  split
  · exact hga
  · rename_i hk
    obtain ⟨f1, f2, f3⟩ := findF_spec (h3.resolve_left hk)
    exact hga.put f1 fun k hk => by rw [f2]; exact hna k hk
end Go.Proofs.YtidlnilcdmhkiaaGreatDoor

/- Changes make one set of another: plain law, no program. -/
set_option linter.unusedVariables false
set_option linter.unusedSimpArgs false
namespace Go.Proofs.YtidlnilcdmhkiaaGreatDoor
open Go Go.Fw
theorem idxFrom_first {α : Type} {p : α → Bool} : ∀ {l : List α} {i j : Nat}, idxFrom p i l = ((i + j : Nat) : Int) → ∀ q o, q < j → l[q]? = some o → ¬ p o = true
  | [], i, j, h, q, o, hq, ho => by simp at ho
  | x :: l, i, j, h, q, o, hq, ho => by
    rw [idxFrom] at h
    split at h
    · omega
    · rename_i hp
      cases q with
      | zero => simp at ho; subst ho; exact hp
      | succ q => exact idxFrom_first (i := i + 1) (j := j - 1) (by rw [h]; congr 1; omega) q o (by omega) (by simpa using ho)
theorem catFrom_all {c : List Pck} : ∀ (n i : Nat), c.length - i = n → catFrom c i (c.drop i) = 0 → ∀ j x, i ≤ j → c[j]? = some x → packF x = 0 ∧ findF (c.take j) x.n x.v < 0
  | 0, i, hn, _, j, x, hij, hx => by have := (List.getElem?_eq_some_iff.1 hx).1; omega
  | n + 1, i, hn, h, j, x, hij, hx => by
    have hi : i < c.length := by omega
    rw [catFrom_at (List.getElem?_eq_getElem hi)] at h
    split at h
    · omega
    · rename_i h1
      split at h
      · cases h
      · rename_i h2
        by_cases e : j = i
        · subst e
          rw [List.getElem?_eq_getElem hi] at hx
          obtain rfl := Option.some.inj hx
          exact ⟨by omega, by omega⟩
        · exact catFrom_all n (i + 1) (by omega) h j x (by omega) hx
/-- In a right catalog a package is found by its name and its version. -/
theorem findF_self {c : List Pck} (h : catF c = 0) {k : Int} (hk : inB k 0 ((c.length : Int) - 1) = true) : findF c (pk c k).n (pk c k).v = k := by
  obtain ⟨h0, h1, h2, -⟩ := pk_at hk
  have hc : catFrom c 0 (c.drop 0) = 0 := by
    unfold catF at h
    split at h
    · cases h
    · rw [List.drop_zero]; exact h
  obtain ⟨-, hno⟩ := catFrom_all _ 0 rfl hc k.toNat _ (Nat.zero_le _) h2
  have hnn : 0 ≤ findF c (pk c k).n (pk c k).v := by
    unfold findF idx
    rw [idxFrom_nn]
    exact List.any_eq_true.2 ⟨pk c k, (pk_at hk).2.2.2, by simp [isP]⟩
  obtain ⟨j, o, hj, ho, he⟩ := idxFrom_spec hnn
  have hj' : findF c (pk c k).n (pk c k).v = (j : Int) := by unfold findF idx; rw [he]; simp
  rw [hj']
  have hfirst := idxFrom_first (p := isP (pk c k).n (pk c k).v) (l := c) (i := 0) (j := j) (by unfold findF idx at hj'; simpa using hj')
  rcases Nat.lt_trichotomy j k.toNat with hlt | heq | hgt
  · exfalso
    have : 0 ≤ findF (c.take k.toNat) (pk c k).n (pk c k).v := by
      unfold findF idx
      rw [idxFrom_nn]
      exact List.any_eq_true.2 ⟨o, List.mem_of_getElem? (by rw [List.getElem?_take_of_lt hlt]; exact hj), ho⟩
    omega
  · omega
  · exact absurd (by simp [isP]) (hfirst k.toNat _ hgt h2)
end Go.Proofs.YtidlnilcdmhkiaaGreatDoor

/- Sets that are read: what they are. Plain law, no program. -/
set_option linter.unusedVariables false
set_option linter.unusedSimpArgs false
namespace Go.Proofs.YtidlnilcdmhkiaaGreatDoor
open Go Go.Fw Go.Sort
/-- A sound catalog. -/
theorem cat_ok {c : List Pck} (h : catF c = 0) : c.length ≤ 24 ∧ ∀ o ∈ c, packF o = 0 := by
  unfold catF at h
  split at h
  · cases h
  · refine ⟨by omega, fun o ho => ?_⟩
    obtain ⟨j, hj⟩ := List.mem_iff_getElem?.1 ho
    exact (catFrom_all _ 0 rfl (by rw [List.drop_zero]; exact h) j o (Nat.zero_le _) hj).1
theorem packF_ok {o : Pck} (h : packF o = 0) : nameF o.n = 0 ∧ verF o.v = 0 ∧ inB o.s 1 200 = true := by
  unfold packF at h
  split at h
  · rename_i h1; exact absurd h h1
  · rename_i h1
    split at h
    · rename_i h2; exact absurd h h2
    · rename_i h2
      split at h
      · cases h
      · rename_i h3
        exact ⟨by simpa using h1, by simpa using h2, by simpa using h3⟩
/-- A set that is told: rising, of places. -/
structure Told (c : List Pck) (s : List Int) : Prop where
  lt : s.Pairwise (· < ·)
  at_ : ∀ k ∈ s, inB k 0 ((c.length : Int) - 1) = true
theorem Told.nil {c : List Pck} : Told c [] := ⟨List.Pairwise.nil, by simp⟩
theorem Told.len {c : List Pck} {s : List Int} (h : Told c s) : s.length ≤ c.length := by
  have := len_bound (L := (c.length : Int)) (lo := 0) h.lt fun k hk => by
    have := h.at_ k hk
    simp only [inB, Bool.and_eq_true, decide_eq_true_eq] at this; omega
  omega
theorem rdP_in {c : List Pck} {ws : List (List UInt8)} (h : ¬ rdP c ws < 0) : inB (rdP c ws) 0 ((c.length : Int) - 1) = true := by
  by_cases h2 : ws.length = 2
  · obtain ⟨a, b, rfl⟩ := two_of h2
    rw [rdP] at h ⊢
    split at h
    · rename_i h3; rw [if_pos h3]; exact (findF_spec (by omega)).1
    · omega
  · rw [rdP_no h2] at h; omega
theorem prsL_told {c : List Pck} : ∀ {ls : List (List UInt8)} {i : Nat} {o : List Int}, o.Nodup → (∀ k ∈ o, inB k 0 ((c.length : Int) - 1) = true) → (prsL c ls i o).2.2.Nodup ∧ ∀ k ∈ (prsL c ls i o).2.2, inB k 0 ((c.length : Int) - 1) = true
  | [], i, o, h1, h2 => ⟨h1, h2⟩
  | l :: ls, i, o, h1, h2 => by
    rw [prsL]
    split
    · exact ⟨List.nodup_nil, by simp⟩
    · rename_i h
      have hk := rdP_in (c := c) (ws := wordsP l) fun h' => h (.inl h')
      refine prsL_told ?_ ?_
      · rw [List.nodup_append]
        refine ⟨h1, by simp, fun a ha b hb => ?_⟩
        simp only [List.mem_singleton] at hb
        subst hb
        intro e
        subst e
        exact h (.inr (List.any_eq_true.2 ⟨_, ha, by simp⟩))
      · intro k hk'
        rcases List.mem_append.1 hk' with hk' | hk'
        · exact h2 k hk'
        · simp only [List.mem_singleton] at hk'; subst hk'; exact hk
theorem sortZ_told {c : List Pck} {o : List Int} (h1 : o.Nodup) (h2 : ∀ k ∈ o, inB k 0 ((c.length : Int) - 1) = true) : Told c (sortZ o) :=
  ⟨((sortZ_sorted o).and ((sortZ_perm o).nodup_iff.2 h1)).imp fun h => by have := h.1; have := h.2; omega, fun k hk => h2 k ((sortZ_perm o).mem_iff.1 hk)⟩
theorem prsS_told (c : List Pck) (s : List UInt8) : Told c (prsS c s).2.2 := by
  unfold prsS
  split
  · exact .nil
  · obtain ⟨h1, h2⟩ := prsL_told (c := c) (ls := linesP s) (i := 0) (o := []) List.nodup_nil (by simp)
    exact sortZ_told h1 h2
theorem setW_told (c : List Pck) (l : List Fil) (n : Int) : Told c (setW c l n).2 := by
  unfold setW
  split
  · exact prsS_told c _
  · exact .nil
/-- The paths of a set's packages. -/
def pthS (c : List Pck) (s : List Int) : List (List UInt8) := s.map fun k => pathK (pk c k)
/-- The first code of numbers' sets. -/
def pgsC (c : List Pck) (l : List Fil) : List Int → Int
  | [] => 0
  | n :: g => if (setW c l n).1 ≠ 0 then (setW c l n).1 else pgsC c l g
/-- The paths of numbers' packages. -/
def pgsP (c : List Pck) (l : List Fil) (g : List Int) : List (List UInt8) := g.flatMap fun n => pthS c (setW c l n).2
theorem pgsC_at {c : List Pck} {l : List Fil} {g : List Int} {i : Nat} {n : Int} (h : g[i]? = some n) : pgsC c l (g.drop i) = if (setW c l n).1 ≠ 0 then (setW c l n).1 else pgsC c l (g.drop (i + 1)) := by
  obtain ⟨h1, h2⟩ := List.getElem?_eq_some_iff.1 h
  rw [List.drop_eq_getElem_cons h1, h2, pgsC]
theorem pgsP_at {c : List Pck} {l : List Fil} {g : List Int} {i : Nat} {n : Int} (h : g[i]? = some n) : pgsP c l (g.take (i + 1)) = pgsP c l (g.take i) ++ pthS c (setW c l n).2 := by
  unfold pgsP
  rw [List.take_add_one, h, List.flatMap_append]
  simp
theorem pgsP_len {c : List Pck} {l : List Fil} {g : List Int} : (pgsP c l g).length ≤ c.length * g.length := by
  induction g with
  | nil => simp [pgsP]
  | cons n g ih =>
    have h1 := (setW_told c l n).len
    have h2 : (pgsP c l (n :: g)).length = (setW c l n).2.length + (pgsP c l g).length := by simp [pgsP, pthS]
    rw [h2, List.length_cons, Nat.mul_add, Nat.mul_one]
    omega
end Go.Proofs.YtidlnilcdmhkiaaGreatDoor

/- Walks: the paths of numbers' packages. Plain theorems. -/
set_option linter.unusedVariables false
set_option linter.unusedSimpArgs false
namespace Go.Proofs.YtidlnilcdmhkiaaGreatDoor
open Go Go.Fw Go.Sort
set_option maxRecDepth 100000
/-- Paths in order, each once; a code. -/
def pgs (c : List Pck) (l : List Fil) (g : List Int) : List (List UInt8) := if pgsC c l g = 0 then compS (sortS (pgsP c l g)) else []
theorem pgsC_end {c : List Pck} {l : List Fil} {g : List Int} {i : Nat} (h : g.length ≤ i) : pgsC c l (g.drop i) = 0 := by rw [List.drop_of_length_le h]; rfl
theorem c_pathsOfGens (c : List Pck) (x : Dsk) (gs : List Int) (hl : c.length ≤ 1048576) (ho : ∀ o ∈ c, o.Small) (hc : catF c = 0) (hx : x.Ok) (hg : gs.length ≤ 100000) :
    PCtr PP n_impl_pathsOfGens [encP c, x.enc false false, .sl false 1 (gs.map i64)] (.tup [.sl true 1 ((pgs c x.f gs).map str), i64 (pgsC c x.f gs)]) := by
  obtain ⟨Ω, hΩ⟩ : ∃ Ω, Ω = std := ⟨_, rfl⟩
  obtain ⟨F, hF⟩ := grw hΩ str
  have hset := fun n => c_setOf c x n hl ho hc hx
  have htold := setW_told c x.f
  obtain ⟨h24, hpf⟩ := cat_ok hc
  have hat : ∀ k, inB k 0 ((c.length : Int) - 1) = true → 0 ≤ k ∧ (c.map (Pck.enc false))[k.toNat]? = some ((pk c k).enc false) ∧ PCtr PP n_impl_Pack_path [(pk c k).enc false] (str (pathK (pk c k))) := fun k h => by
    obtain ⟨h0, h1, h2, h3⟩ := pk_at h
    obtain ⟨g1, g2, g3⟩ := packF_ok (hpf _ h3)
    have := nameF_len g1
    exact ⟨h0, by rw [List.getElem?_map, h2]; rfl, c_path _ (by omega) g2⟩
  obtain ⟨Q, hQ⟩ : ∃ Q : Nat → List (List UInt8), ∀ i, Q i = pgsP c x.f (gs.take i) := ⟨_, fun _ => rfl⟩
  have hQ0 : Q 0 = [] := by rw [hQ]; rfl
  have hQs : ∀ i n, gs[i]? = some n → Q (i + 1) = Q i ++ pthS c (setW c x.f n).2 := fun i n h => by rw [hQ, hQ]; exact pgsP_at h
  have hQn : pgsP c x.f gs = Q gs.length := by rw [hQ, List.take_length]
  have hQl : ∀ i, (Q i).length ≤ 2400000 := fun i => by
    rw [hQ]
    refine Nat.le_trans pgsP_len (Nat.le_trans (Nat.mul_le_mul h24 (Nat.le_trans (by rw [List.length_take]; exact Nat.min_le_right _ _) hg)) (by decide))
  have hca : ∀ i n, gs[i]? = some n → pgsC c x.f (gs.drop i) = if (setW c x.f n).1 ≠ 0 then (setW c x.f n).1 else pgsC c x.f (gs.drop (i + 1)) := fun i n h => pgsC_at h
  have hce : pgsC c x.f (gs.drop gs.length) = 0 := pgsC_end (Nat.le_refl _)
  have hc0 : pgsC c x.f gs = pgsC c x.f (gs.drop 0) := rfl
  unfold pgs
  rw [hQn, hc0]
  have hso := c_sorted (Q gs.length) (by have := hQl gs.length; omega)
  obtain ⟨zs, hzs⟩ : ∃ zs, zs = (compS (sortS (Q gs.length))).map str := ⟨_, rfl⟩
  have hz : roFree (.sl true 1 zs) = true := by rw [hzs]; exact roF_S _
  have hle : Ω.len zs ≤ zs.length := by subst hΩ; exact Nat.le_refl _
  have htk : Ω.take (Ω.len zs) zs = zs := takeAll hΩ _
  rw [← hzs, hF.eq] at hso
  obtain ⟨R, hR⟩ : ∃ R, R = A.tup [.sl true 1 ((if pgsC c x.f (gs.drop 0) = 0 then compS (sortS (Q gs.length)) else []).map str), i64 (pgsC c x.f (gs.drop 0))] := ⟨_, rfl⟩
  have hok : pgsC c x.f (gs.drop 0) = 0 → R = .tup [.sl true 1 zs, i64 0] := fun h => by rw [hR, if_pos h, ← hzs, h]
  have hbad : ∀ k, pgsC c x.f (gs.drop 0) = k → k ≠ 0 → FitX (.tup [.nil, i64 k]) R := fun k h h' => by rw [hR, h, if_neg h']; exact ⟨2, by simp [fitA, fitA.fitL, i64]⟩
  rw [← hR]
  clear hR hzs hQn hc0 hQ
  generalize pgsC c x.f = G at *
  have htw : ∀ n, ∃ r s, setW c x.f n = (r, s) ∧ (∀ k ∈ s, inB k 0 ((c.length : Int) - 1) = true) ∧ s.length ≤ 24 := fun n => ⟨_, _, rfl, (htold n).at_, Nat.le_trans (htold n).len h24⟩
  generalize setW c x.f = W at *
  obtain ⟨gl, hgl⟩ : ∃ gl, gl = gs.map i64 := ⟨_, rfl⟩
  have hglen : gl.length = gs.length := by rw [hgl, List.length_map]
  rw [← hgl]
  have hgp : ∀ (s : List Int) j k, s[j]? = some k → pthS c (s.take (j + 1)) = pthS c (s.take j) ++ [pathK (pk c k)] := fun s j k h => by unfold pthS; rw [List.take_add_one, h, List.map_append]; rfl
  have hgz : ∀ s : List Int, pthS c (s.take 0) = [] := fun s => rfl
  have hgpl : ∀ s : List Int, (pthS c s).length = s.length := fun s => by unfold pthS; rw [List.length_map]
  unfold encP Dsk.enc at *
  generalize x.f.map (Fil.enc false) = xs at *
  generalize c.map (Pck.enc false) = cs at *
  generalize x.bg = v1 at *
  generalize x.wr = v2 at *
  generalize x.st = v3 at *
  generalize x.dn = v4 at *
  have hatr : ∀ k, inB k 0 ((c.length : Int) - 1) = true → 0 ≤ k ∧ ∃ n v1 v2 v3 sz ps ds bs, cs[k.toNat]? = some (.agg [str n, i64 v1, i64 v2, i64 v3, i64 sz, .sl false 1 ps, .sl false 1 ds, .sl false 7 bs]) ∧ PCtr PP n_impl_Pack_path [.agg [str n, i64 v1, i64 v2, i64 v3, i64 sz, .sl false 1 ps, .sl false 1 ds, .sl false 7 bs]] (str (pathK (pk c k))) := fun k h => by
    obtain ⟨h0, h1, h2⟩ := hat k h
    obtain ⟨ps, ds, bs, hen, hp, hd, hb⟩ := enc_raw (pk c k)
    rw [hen] at h1 h2
    exact ⟨h0, _, _, _, _, _, _, _, _, h1, h2⟩
  clear hat
  generalize pthS c = pt at *
  have htab := tab
  have hmo := hmo
  refine PCtr.walk tab hΩ fn_impl_pathsOfGens rfl ?_
  generalize PP = P at *
  cbv
  refine loopX htab hΩ (fun i : Nat => ⟨[(0, .sl false 8 cs), (4, .rp [.sl false 2 xs, i64 v1, i64 v2, i64 v3, boo v4]), (8, .vw 1 0 (Ω.len (F (Q i)))), (16, .sl false 1 gl), (17, i64 (Ω.int (Ω.len gl))), (18, i64 (Ω.int i))], 50, [none, some ⟨1, F (Q i), false⟩]⟩) (fun i => i ≤ gs.length ∧ G (gs.drop 0) = G (gs.drop i)) (fun i => gs.length - i) 0 ⟨Nat.zero_le _, rfl⟩
    ?enter ?_
  case enter => exact ((Sbs.unlk (r := 0) rfl rfl).trans (Sbs.thaw0 (r := 0) rfl rfl rfl)).trans (Sbs.mk rfl (by dsimp only; rw [hQ0, hF.nil]; rfl) ⟨rfl, rfl, by dsimp only; rw [hQ0, hF.z]; rfl, rfl, rfl, zeroI hΩ, trivial⟩)
  rintro i ⟨hi, hGi⟩
  cbv
  refine br (fun h => ?_) (fun h => ?_) <;> cbv
  · replace h := ltI hΩ h
    obtain ⟨n, hn⟩ := at_of (cs := gs) (by omega : i < _)
    have hs1 := hset n
    obtain ⟨r, s, hrs, hin, hsl⟩ := htw n
    have hca := hca i n hn
    have hQs := hQs i n hn
    rw [hrs] at hs1 hca hQs
    dsimp only at hs1 hca hQs
    obtain ⟨sa, hsa⟩ : ∃ sa, sa = s.map i64 := ⟨_, rfl⟩
    have hsal : sa.length = s.length := by rw [hsa, List.length_map]
    have hr1 : roFree (.tup [.sl true 1 sa, i64 r]) = true := by
      have := roF_I s
      rw [hsa, roFree_tup]; simp only [List.all_cons, List.all_nil, this]; rfl
    have hf1 : frz (.tup [.sl true 1 sa, i64 r]) = .tup [.sl false 1 sa, i64 r] := by
      rw [frz_tup]
      simp only [List.map_cons, List.map_nil, frz_sl, hsa, frz_I]; rfl
    rw [← hsa] at hs1
    refine ⟨⟨nnI hΩ⟩, _, rdI hΩ hgl hn, ?_⟩
    cbv
    refine call_pf hΩ 4 hs1 rfl (fits _) hr1 hf1 rfl ?_
    cbv
    refine br (fun g => ?_) (fun g => ?_) <;> cbv
    · have g := neZt hΩ g
      rw [if_pos g] at hca
      exact hbad r (by rw [hGi, hca]) g
    have g := neZf hΩ g
    rw [if_neg (by omega)] at hca
    have hQb : ∀ j, (Q i ++ pt (s.take j)).length ≤ 2400024 := fun j => by
      have := hQl i
      rw [List.length_append, hgpl, List.length_take]; omega
    have hgi := hGi.trans hca
    clear hca hGi hs1 hr1 hf1
    refine loopX htab hΩ (fun j : Nat => ⟨[(0, .sl false 8 cs), (4, .rp [.sl false 2 xs, i64 v1, i64 v2, i64 v3, boo v4]), (8, .vw 1 0 (Ω.len (F (Q i ++ pt (s.take j))))), (16, .sl false 1 gl), (17, i64 (Ω.int (Ω.len gl))), (18, i64 (Ω.int i)), (32, .sl false 1 sa), (33, i64 (Ω.int (Ω.len sa))), (34, i64 (Ω.int j))], 50, [none, some ⟨1, F (Q i ++ pt (s.take j)), false⟩]⟩) (fun j => j ≤ s.length) (fun j => s.length - j) 0 (Nat.zero_le _)
      ((Sbs.cut 2 rfl).trans (Sbs.mk rfl (by dsimp only; rw [hgz, List.append_nil]; rfl) ⟨rfl, rfl, by dsimp only; rw [hgz, List.append_nil]; rfl, rfl, rfl, rfl, rfl, rfl, zeroI hΩ, trivial⟩)) (fun j hj => ?_)
    have hQb := hQb j
    have hfl := hF.len (Q i ++ pt (s.take j))
    have hlo := hF.lo (Q i ++ pt (s.take j))
    cbv
    refine br (fun h => ?_) (fun h => ?_) <;> cbv
    · replace h := ltI hΩ h
      obtain ⟨k, hk⟩ := at_of (cs := s) (by omega : j < _)
      obtain ⟨hk0, nn, u1, u2, u3, sz, ps, ds, bs, hx, hcp⟩ := hatr k (hin k (List.mem_of_getElem? hk))
      have hst := hgp s j k hk
      generalize pathK (pk c k) = pp at *
      have hap0 := hF.app (Q i ++ pt (s.take j)) pp
      have hpl0 := hF.plus (Q i ++ pt (s.take j)) pp
      rw [List.append_assoc, ← hst] at hap0 hpl0
      generalize Q i ++ pt (s.take j) = U at *
      refine ⟨⟨nnI hΩ⟩, _, rdI hΩ hsa hk, ?_⟩
      cbv
      refine ⟨⟨hk0⟩, _, hx, ?_⟩
      cbv
      refine call_pure hΩ 4 hcp rfl (fits _) rfl rfl ?_
      cbv
      exact ⟨⟨rfl, okAll rfl, by show (Ω.len (F U) + 1) * 16 ≤ 140737488355328; omega, by show Ω.len (F U) + 1 ≤ 9223372036854775807; omega⟩,
        j + 1, by omega, by omega, (Sbs.cut 2 rfl).trans (Sbs.mk rfl (by show [none, some (Row.mk 1 (Ω.app (Ω.take (Ω.len (F U)) (F U)) [str pp]) false)] = _; rw [hap0]) ⟨rfl, rfl, congrArg (A.vw 1 0) hpl0, rfl, rfl, rfl, rfl, rfl, incI hΩ (by omega), trivial⟩)⟩
    · replace h := geI hΩ h
      obtain rfl : j = s.length := by omega
      rw [List.take_length, ← hQs]
      exact ⟨i + 1, ⟨by omega, hgi⟩, by omega, (Sbs.cut 2 rfl).trans (Sbs.mk rfl rfl ⟨rfl, rfl, rfl, rfl, rfl, incI hΩ (by omega), trivial⟩)⟩
  · replace h := geI hΩ h
    obtain rfl : i = gs.length := by omega
    have hlo := hF.lo (Q gs.length)
    rw [hok (hGi.trans hce)]
    refine call_eat2 (row := ⟨1, F (Q gs.length), false⟩) hΩ 3 hso rfl rfl hlo rfl (fits _) hz rfl ?_
    cbv
    exact ⟨⟨rfl, hle⟩, .of (by show A.tup [.sl true 1 (Ω.take (Ω.len zs) zs), i64 0] = _; rw [htk]; rfl)⟩
end Go.Proofs.YtidlnilcdmhkiaaGreatDoor

/- Walks: how much lies at paths; the other numbers. Plain theorems. -/
set_option linter.unusedVariables false
set_option linter.unusedSimpArgs false
namespace Go.Proofs.YtidlnilcdmhkiaaGreatDoor
open Go Go.Fw
set_option maxRecDepth 100000
theorem c_others1 (m n : Int) : PCtr PP n_impl_others_1 [i64 m, .rp [i64 n]] (boo (decide (m = n))) := by
  obtain ⟨Ω, hΩ⟩ : ∃ Ω, Ω = std := ⟨_, rfl⟩
  have htab := tab
  have hmo := hmo
  obtain ⟨r, hr⟩ : ∃ r, r = decide (m = n) := ⟨_, rfl⟩
  rw [← hr]
  refine PCtr.walk tab hΩ fn_impl_others_1 rfl ?_
  generalize PP = P at *
  cbv
  exact .of (by rw [hr]; subst hΩ; rfl)
def othF (l : List Fil) (n : Int) : List Int := (gensF l).filter fun m => !decide (m = n)
theorem c_others (x : Dsk) (n : Int) (hx : x.Fit) : PCtr PP n_impl_others [x.enc false false, i64 n] (.sl true 1 ((othF x.f n).map i64)) := by
  obtain ⟨Ω, hΩ⟩ : ∃ Ω, Ω = std := ⟨_, rfl⟩
  have hcg := c_gens x hx.n hx.p
  have hgl := gensF_len x.f
  have hxn := hx.n
  have hd := c_DeleteFunc (gensF x.f) (by omega) n_impl_others_1 [.rp [i64 n]] (fun m => decide (m = n)) ⟨fun S k => rfl, rfl, fun _ => rfl, fun m hm => c_others1 m n⟩
  have r1 := roF_I (gensF x.f)
  have r2 := roF_I (othF x.f n)
  unfold ints at hd
  unfold othF at *
  generalize ((gensF x.f).filter fun m => !decide (m = n)).map i64 = zs at *
  generalize (gensF x.f).map i64 = ys at *
  unfold Dsk.enc at *
  generalize x.f.map (Fil.enc false) = xs at *
  have lo : Ω.len ys = ys.length := by subst hΩ; rfl
  have htab := tab
  refine PCtr.walk tab hΩ fn_impl_others rfl ?_
  generalize PP = P at *
  cbv
  refine call_pure hΩ 4 hcg rfl (fits _) r1 rfl ?_
  cbv
  refine call_eat2 (row := ⟨1, ys, false⟩) hΩ 8 hd rfl rfl lo rfl (fits _) r2 rfl ?_
  cbv
  exact ⟨⟨rfl, by subst hΩ; exact Nat.le_refl _⟩, .of (congrArg (A.sl true 1) (takeAll hΩ _))⟩
/-- How many bytes lie at paths. -/
def bytF (l : List Fil) (ps : List (List UInt8)) : Int := ((ps.map fun p => (datF l p).length).sum : Nat)
theorem bytF_at {l : List Fil} {ps : List (List UInt8)} {i : Nat} {p : List UInt8} (h : ps[i]? = some p) : bytF l (ps.take (i + 1)) = bytF l (ps.take i) + ((datF l p).length : Int) := by
  unfold bytF
  rw [List.take_add_one, h, List.map_append, List.sum_append]
  simp
theorem bytF_le {l : List Fil} (h : ∀ f ∈ l, f.d.length ≤ 1048576) : ∀ ps : List (List UInt8), 0 ≤ bytF l ps ∧ bytF l ps ≤ (ps.length * 1048576 : Nat)
  | [] => by simp [bytF]
  | p :: ps => by
    have h1 := bytF_le h ps
    have h2 := datF_len h p
    have e : bytF l (p :: ps) = (datF l p).length + bytF l ps := by unfold bytF; simp
    rw [e, List.length_cons, Nat.add_mul]
    omega
theorem c_bytesAt (x : Dsk) (ps : List (List UInt8)) (hx : x.Fit) (ho : ordF x.f) (hp : ps.length ≤ 4194305) : PCtr PP n_impl_Disk_bytesAt [x.enc false false, .sl false 1 (ps.map str)] (i64 (bytF x.f ps)) := by
  obtain ⟨Ω, hΩ⟩ : ∃ Ω, Ω = std := ⟨_, rfl⟩
  have hcd := fun p => c_data x p hx.n ho
  obtain ⟨B, hB⟩ : ∃ B : Nat → Int, ∀ i, B i = bytF x.f (ps.take i) := ⟨_, fun _ => rfl⟩
  have hBs : ∀ i p, ps[i]? = some p → B i + Ω.int (Ω.len ((datF x.f p).map byteA)) = B (i + 1) := fun i p h => by rw [hB, hB]; refine Eq.trans ?_ (bytF_at h).symm; subst hΩ; show _ + (((datF x.f p).map byteA).length : Int) = _; rw [List.length_map]
  have hB0 : B 0 = 0 := by rw [hB]; rfl
  have hBn : bytF x.f ps = B ps.length := by rw [hB, List.take_length]
  have hBb : ∀ i, 0 ≤ B i ∧ B i ≤ 9223372036854775807 := fun i => by
    rw [hB]
    have := bytF_le hx.d (ps.take i)
    rw [List.length_take] at this
    omega
  rw [hBn]
  clear hB hBn
  obtain ⟨q, hq⟩ : ∃ q, q = ps.map str := ⟨_, rfl⟩
  have hql : q.length = ps.length := by rw [hq, List.length_map]
  rw [← hq]
  unfold Dsk.enc at *
  generalize x.f.map (Fil.enc false) = xs at *
  generalize datF x.f = D at *
  generalize hasF x.f = H at *
  generalize x.bg = v1 at *
  generalize x.wr = v2 at *
  generalize x.st = v3 at *
  generalize x.dn = v4 at *
  have htab := tab
  have hmo := hmo
  refine PCtr.walk tab hΩ fn_impl_Disk_bytesAt rfl ?_
  generalize PP = P at *
  cbv
  refine loopX htab hΩ (fun i : Nat => ⟨[(2, .rp [.sl false 2 xs, i64 v1, i64 v2, i64 v3, boo v4]), (5, i64 (B i)), (10, .sl false 1 q), (11, i64 (Ω.int (Ω.len q))), (12, i64 (Ω.int i))], 28, []⟩) (fun i => i ≤ ps.length) (fun i => ps.length - i) 0 (Nat.zero_le _)
    (((Sbs.unlk (r := 0) rfl rfl).trans (Sbs.thaw0 (r := 0) rfl rfl rfl)).trans ((Sbs.cut 0 rfl).trans (Sbs.mk rfl rfl ⟨rfl, congrArg i64 hB0.symm, rfl, rfl, zeroI hΩ, trivial⟩))) (fun i hi => ?_)
  cbv
  refine br (fun h => ?_) (fun h => ?_) <;> cbv
  · replace h := ltI hΩ h
    obtain ⟨p, hp'⟩ := at_of (cs := ps) (by omega : i < _)
    have hcd := hcd p
    have hs := hBs i p hp'
    have hb := hBb (i + 1)
    generalize H p = b at *
    generalize (D p).map byteA = ds at *
    refine ⟨⟨nnI hΩ⟩, _, rdI hΩ hq hp', ?_⟩
    cbv
    refine call_share hΩ 4 hcd rfl (fits _) rfl ?_
    cbv
    exact ⟨i + 1, by omega, by omega, (Sbs.cut 0 rfl).trans (Sbs.mk rfl rfl ⟨rfl, congrArg i64 (addT hΩ hs (by omega) hb.2), rfl, rfl, incI hΩ (by omega), trivial⟩)⟩
  · replace h := geI hΩ h
    obtain rfl : i = ps.length := by omega
    exact .same
theorem c_GainOf1 (r : List (List UInt8)) (s : List UInt8) (hr : r.length ≤ 4194304) : PCtr PP n_impl_GainOf_1 [str s, .rp [.sl false 1 (r.map str)]] (boo (r.any (· == s))) := by
  obtain ⟨Ω, hΩ⟩ : ∃ Ω, Ω = std := ⟨_, rfl⟩
  have hc := c_ContainsS r s (by omega)
  generalize r.map str = q at *
  generalize r.any (· == s) = b at *
  have htab := tab
  have hmo := hmo
  refine PCtr.walk tab hΩ fn_impl_GainOf_1 rfl ?_
  generalize PP = P at *
  cbv
  refine call_pure hΩ 4 hc rfl (fits _) rfl rfl ?_
  cbv
  exact .same
end Go.Proofs.YtidlnilcdmhkiaaGreatDoor

/- Walks: sizes of disks. Plain theorems. -/
set_option linter.unusedVariables false
set_option linter.unusedSimpArgs false
namespace Go.Proofs.YtidlnilcdmhkiaaGreatDoor
open Go Go.Fw
set_option maxRecDepth 100000
def szF (f : Fil) (l : Int) : Int := if szN f.p.length l < 0 then -1 else if szN f.d.length (szN f.p.length l) < 0 then -1 else szN f.d.length (szN f.p.length l)
def cF (f : Fil) : Nat := f.p.length + f.d.length
theorem szF_cost : Costs szF cF := fun o l => by
  unfold szF cF szN
  generalize o.p.length = a
  generalize o.d.length = b
  repeat' split
  all_goals omega
/-- What can stand in memory. -/
structure Fil.Fit (f : Fil) : Prop where
  p : f.p.length ≤ maxLen
  d : f.d.length ≤ maxLen
theorem c_szByteS (d : List UInt8) (l : Int) (h0 : 0 ≤ l) (h1 : l ≤ 1048576) (hm : d.length ≤ maxLen) : PCtr PP n_laws_szByteS [.sl false 1 (d.map byteA), i64 l] (i64 (szN d.length l)) := by
  obtain ⟨Ω, hΩ⟩ : ∃ Ω, Ω = std := ⟨_, rfl⟩
  obtain ⟨r, hr⟩ : ∃ r, r = szN d.length l := ⟨_, rfl⟩
  rw [← hr]
  unfold szN at hr
  have hw := szN_w h0 h1 hm
  obtain ⟨xs, hxs⟩ : ∃ xs, xs = d.map byteA := ⟨_, rfl⟩
  have hlen : xs.length = d.length := by rw [hxs, List.length_map]
  rw [← hxs]
  have hs : Ω.ar .sub .i64 l (Ω.int (Ω.len xs)) = l - d.length := by subst hΩ; rw [← hw]; show IntKind.i64.wrap (l - (xs.length : Int)) = _; rw [hlen]
  generalize (l - d.length : Int) = m at *
  have htab := tab
  refine PCtr.walk tab hΩ fn_laws_szByteS rfl ?_
  generalize PP = P at *
  cbv
  refine br (fun h => ?_) (fun h => ?_) <;> cbv
  · have h := ltI_t hΩ h
    have h : m < 0 := by rw [← hs]; exact h
    exact .of (congrArg i64 (by rw [hr, if_pos h]))
  · have h := ltI_f hΩ h
    have h : 0 ≤ m := by rw [← hs]; exact h
    exact .of (congrArg i64 (by rw [hr, if_neg (by omega)]; exact hs))
theorem c_szFile (o : Fil) (l : Int) (h0 : 0 ≤ l) (h1 : l ≤ 1048576) (hm : o.Fit) : PCtr PP n_laws_szFile [o.enc false, i64 l] (i64 (szF o l)) := by
  obtain ⟨Ω, hΩ⟩ : ∃ Ω, Ω = std := ⟨_, rfl⟩
  obtain ⟨r, hr⟩ : ∃ r, r = szF o l := ⟨_, rfl⟩
  rw [← hr]
  have hw := szN_w h0 h1 hm.p
  have k1 : ∀ l, 0 ≤ l → l ≤ 1048576 → PCtr PP n_laws_szByteS [.sl false 1 (o.d.map byteA), i64 l] (i64 (szN o.d.length l)) := fun l a b => c_szByteS o.d l a b hm.d
  unfold szF at hr
  unfold Fil.enc
  generalize o.d.map byteA = ds at *
  obtain ⟨nc, hnc⟩ : ∃ nc : Int, (o.p.length : Int) = nc := ⟨_, rfl⟩
  have hn0 : 0 ≤ nc := by omega
  rw [show szN o.p.length l = if l - o.p.length < 0 then -1 else l - o.p.length from rfl, hnc] at hr
  have hst : Ω.ar .sub .i64 l (Ω.int (Ω.lenS o.p)) = IntKind.i64.wrap (l - nc) := by subst hΩ; rw [← hnc]; rfl
  rw [hnc] at hw
  rw [hw] at hst
  generalize szN o.d.length = f1 at *
  have htab := tab
  refine PCtr.walk tab hΩ fn_laws_szFile rfl ?_
  generalize PP = P at *
  cbv
  refine br (fun h => ?_) (fun h => ?_) <;> cbv
  · refine .of (congrArg i64 ?_)
    have h : l - nc < 0 := by rw [← hst]; exact ltI_t hΩ h
    rw [hr, if_pos h]; rfl
  obtain ⟨l1, hl1, q0, q1, hr⟩ : ∃ l1, Ω.ar .sub .i64 l (Ω.int (Ω.lenS o.p)) = l1 ∧ 0 ≤ l1 ∧ l1 ≤ 1048576 ∧ r = if f1 l1 < 0 then -1 else f1 l1 := by
    have h : 0 ≤ l - nc := by rw [← hst]; exact ltI_f hΩ h
    have e : (if l - nc < 0 then -1 else l - nc) = l - nc := if_neg (by omega)
    refine ⟨l - nc, hst, h, by omega, ?_⟩
    rw [hr]
    simp only [e]
    rw [if_neg (by omega)]
  have k1' : PCtr P n_laws_szByteS [.sl false 1 ds, i64 (Ω.ar .sub .i64 l (Ω.int (Ω.lenS o.p)))] (i64 (f1 l1)) := by rw [hl1]; exact k1 l1 q0 q1
  generalize f1 l1 = a1 at *
  refine call_pure hΩ 3 k1' rfl (fits _) rfl rfl ?_
  cbv
  refine br (fun h => ?_) (fun h => ?_) <;> cbv
  · exact .of (congrArg i64 (by rw [hr, if_pos (ltI_t hΩ h)]))
  have h := ltI_f hΩ h
  rw [if_neg (by omega)] at hr
  exact .of (congrArg i64 hr.symm)
theorem c_szFileS (cs : List (Fil)) (l : Int) (h0 : 0 ≤ l) (h1 : l ≤ 1048576) (hm : cs.length ≤ maxLen) (hc : ∀ c ∈ cs, c.Fit) : PCtr PP n_laws_szFileS [.sl false 2 (cs.map (Fil.enc false)), i64 l] (i64 (szS szF cs l)) := by
  obtain ⟨Ω, hΩ⟩ : ∃ Ω, Ω = std := ⟨_, rfl⟩
  obtain ⟨r, hr⟩ : ∃ r, r = szS szF cs l := ⟨_, rfl⟩
  obtain ⟨xs, hxs⟩ : ∃ xs, xs = cs.map (Fil.enc false) := ⟨_, rfl⟩
  have hlen : xs.length = cs.length := by rw [hxs, List.length_map]
  rw [← hxs, ← hr]
  have hel : ∀ c ∈ cs, ∀ y, 0 ≤ y → y ≤ 1048576 → PCtr PP n_laws_szFile [Fil.enc false c, i64 y] (i64 (szF c y)) := fun c h y a b => c_szFile c y a b (hc c h)
  have hle : ∀ c y, 0 ≤ szF c y → szF c y ≤ y := fun c y h => by
    have h2 := szF_cost c y
    rw [h2] at h ⊢
    split at h
    · omega
    · rename_i h3; rw [if_neg h3]; omega
  have htab := tab
  refine PCtr.walk tab hΩ fn_laws_szFileS rfl ?_
  generalize PP = P at *
  cbv
  refine br (fun h => ?_) (fun h => ?_)
  · replace h : r = -1 := by
      subst hΩ
      have h : IntKind.i64.wrap (l - xs.length) < 0 := lt_t h
      rw [hlen, szw h0 h1 hm] at h
      rw [hr, szS, if_pos h]
    cbv
    exact .of (congrArg i64 h.symm)
  obtain ⟨l', hl', h, hr⟩ : ∃ l', IntKind.i64.wrap (l - xs.length) = l' ∧ (0 ≤ l' ∧ l' ≤ 1048576) ∧ r = szLoop szF cs l' := by
    subst hΩ
    have h : 0 ≤ IntKind.i64.wrap (l - xs.length) := lt_f h
    rw [hlen, szw h0 h1 hm] at h ⊢
    exact ⟨_, rfl, ⟨h, by omega⟩, by rw [hr, szS, if_neg (by omega)]⟩
  cbv
  refine loopX htab hΩ (fun i : Nat × Int => ⟨[(0, .sl false 2 xs), (1, .sc (.int .i64 i.2)), (5, .sc (.int .i64 (Ω.int i.1)))], 27, []⟩) (fun i => i.1 ≤ cs.length ∧ (0 ≤ i.2 ∧ i.2 ≤ 1048576) ∧ r = szLoop szF (cs.drop i.1) i.2)
    (fun i => cs.length - i.1) (0, l') ⟨Nat.zero_le _, h, hr⟩ (Sbs.mk rfl rfl ⟨rfl, by subst hΩ; exact congrArg i64 hl', zeroI hΩ, trivial⟩) ?_
  rintro ⟨i, y⟩ ⟨hi, hy, he⟩
  dsimp only at hi hy he
  cbv
  refine br (fun h => ?_) (fun h => ?_)
  · replace h := ltI hΩ h
    obtain ⟨c, hcc⟩ := at_of (cs := cs) (by omega : i < cs.length)
    have hcm := List.mem_of_getElem? hcc
    rw [szLoop_at _ hcc] at he
    cbv
    have hcc' := hel c hcm y hy.1 hy.2
    obtain ⟨ds, hen⟩ : ∃ ds, Fil.enc false c = .agg [str c.p, .sl false 1 ds] := ⟨_, rfl⟩
    rw [hen] at hcc'
    refine ⟨⟨nnI hΩ⟩, _, (rdI hΩ hxs hcc).trans (congrArg some hen), ?_⟩
    cbv
    have hley := hle c y
    generalize szF c y = y' at he hcc' hley
    refine call_pure hΩ 3 hcc' rfl (fits _) rfl rfl ?_
    cbv
    refine br (fun h => ?_) (fun h => ?_) <;> cbv
    · exact .of (congrArg i64 (by rw [he, if_pos (ltI_t hΩ h)]))
    · have h := ltI_f hΩ h
      exact ⟨(i + 1, y'), ⟨by dsimp only; omega, ⟨h, by have := hley h; dsimp only; omega⟩, by rw [he, if_neg (by omega)]⟩, by dsimp only; omega, Sbs.mk rfl rfl ⟨rfl, rfl, incI hΩ (by simp only [maxLen] at hm; omega), trivial⟩⟩
  · replace h := geI hΩ h
    cbv
    exact .of (congrArg i64 (by rw [he, List.drop_of_length_le (by omega)]; rfl))
def szD (x : Dsk) (l : Int) : Int := szS szF x.f l
theorem c_szDisk (x : Dsk) (l : Int) (h0 : 0 ≤ l) (h1 : l ≤ 1048576) (hm : x.f.length ≤ maxLen) (hc : ∀ f ∈ x.f, f.Fit) : PCtr PP n_laws_szDisk [x.enc false false, i64 l] (i64 (szD x l)) := by
  obtain ⟨Ω, hΩ⟩ : ∃ Ω, Ω = std := ⟨_, rfl⟩
  have hs := c_szFileS x.f l h0 h1 hm hc
  unfold szD
  have hneg : szS szF x.f l < 0 → szS szF x.f l = -1 := fun h => by
    rw [szS_cost szF_cost] at h ⊢
    split at h
    · rename_i h2; rw [if_pos h2]
    · omega
  unfold Dsk.enc
  generalize szS szF x.f l = r at *
  generalize x.f.map (Fil.enc false) = xs at *
  have htab := tab
  refine PCtr.walk tab hΩ fn_laws_szDisk rfl ?_
  generalize PP = P at *
  cbv
  refine call_pure hΩ 3 hs rfl (fits _) rfl rfl ?_
  cbv
  refine br (fun h => ?_) (fun h => ?_) <;> cbv
  · exact .of (congrArg i64 (hneg (ltI_t hΩ h)).symm)
  · exact .same
def cD (x : Dsk) : Nat := costS cF x.f
theorem szD_cost : Costs szD cD := fun x l => szS_cost szF_cost x.f l
theorem Dsk.fit_of {x : Dsk} (h : cD x ≤ 1048576) : x.Fit := by
  have h1 := len_cost cF x.f
  have h2 := mem_cost cF x.f
  unfold cD at h
  refine ⟨by omega, fun f hf => ?_, fun f hf => ?_, ?_⟩
  · have := h2 f hf; have e : cF f = f.p.length + f.d.length := rfl; omega
  · have := h2 f hf; have e : cF f = f.p.length + f.d.length := rfl; omega
  · have : totL x.f ≤ costS cF x.f := by
      unfold costS totL
      have : ∀ l : List Fil, (l.map fun f => f.d.length).sum ≤ (l.map cF).sum := fun l => by
        induction l with
        | nil => simp
        | cons f l ih => simp only [List.map_cons, List.sum_cons, cF] at *; omega
      have := this x.f
      omega
    omega
end Go.Proofs.YtidlnilcdmhkiaaGreatDoor

/- Walks: copies of disks. Plain theorems. -/
set_option linter.unusedVariables false
set_option linter.unusedSimpArgs false
namespace Go.Proofs.YtidlnilcdmhkiaaGreatDoor
open Go Go.Fw
set_option maxRecDepth 100000
theorem c_toByteS (cs : List (UInt8)) (hb : cs.length ≤ 1048576) : PCtr PP n_laws_toByteS [.sl false 1 (cs.map (byteA))] (.sl true 1 (cs.map (byteA))) := by
  obtain ⟨Ω, hΩ⟩ : ∃ Ω, Ω = std := ⟨_, rfl⟩
  obtain ⟨xs, hxs⟩ : ∃ xs, xs = cs.map (byteA) := ⟨_, rfl⟩
  obtain ⟨zs, hzs⟩ : ∃ zs, zs = cs.map (byteA) := ⟨_, rfl⟩
  obtain ⟨n, hn⟩ : ∃ n, n = cs.length := ⟨_, rfl⟩
  have hlen : xs.length = n := by rw [hxs, hn, List.length_map]
  obtain ⟨ys, hys⟩ : ∃ ys : Nat → List A, ys = fill (byteA) (.sc (.int .u8 0)) cs := ⟨_, rfl⟩
  have hyl : ∀ i, i ≤ n → (ys i).length = n := fun i hi => by rw [hys, hn]; exact fill_length (by omega)
  have hya : ∀ i, ∀ z ∈ ys i, vStore.isAggA z = false := fun i => by rw [hys]; exact fill_all (fun _ => rfl) rfl
  have hy0 : List.replicate n (.sc (.int .u8 0)) = ys 0 := by rw [hys, fill_zero, hn]
  have hyn : ys n = zs := by rw [hys, hn, fill_full, hzs]
  have hyset : ∀ i c, cs[i]? = some c → (ys i).set i ((byteA) c) = ys (i + 1) := fun i c h => by rw [hys]; exact fill_set h
  clear hys
  rw [← hxs]
  rw [show A.sl true 1 xs = .sl true 1 zs by rw [hzs, hxs]]
  refine PCtr.walk tab hΩ fn_laws_toByteS rfl ?_
  have htab := tab
  have hmo := hmo
  generalize PP = P at *
  cbv
  refine ⟨⟨by subst hΩ; show _ ∧ (0 : Int) ≤ xs.length ∧ 1 * ((xs.length : Int).toNat) ≤ _ ∧ (xs.length : Int).toNat ≤ 9223372036854775807; rw [hlen]; refine ⟨rfl, ?_, ?_, ?_⟩ <;> omega⟩,
    loopX htab hΩ (fun i : Nat => ⟨[(0, .sl false 1 xs), (3, .vw 0 0 n), (4, .sc (.int .i64 (Ω.int i)))], 22, [some ⟨1, ys i, false⟩]⟩) (fun i => i ≤ n) (fun i => n - i) 0 (Nat.zero_le _) (Sbs.mk rfl ?_ ?_) (fun i hi => ?_)⟩
  · rw [← hy0]; subst hΩ; subst hlen; rfl
  · subst hΩ; subst hlen; exact ⟨rfl, rfl, rfl, trivial⟩
  have hyli := hyl i hi
  have hyai := hya i
  cbv
  refine br (fun h => ?_) (fun h => ?_)
  · replace h : i < n := by have := ltI hΩ h; omega
    obtain ⟨c, hcc⟩ := at_of (cs := cs) (by omega : i < cs.length)
    have hset := hyset i c hcc
    cbv
    refine ⟨⟨nnI hΩ⟩, _, rdI hΩ hxs hcc, ?_⟩
    cbv
    refine ⟨⟨ixI hΩ h⟩, ⟨by subst hΩ; show 0 + i < _; rw [hyli]; omega, hyai⟩, i + 1, by omega, by omega, Sbs.mk rfl (by rw [← hset]; subst hΩ; show [some (Row.mk 1 ((ys i).set (0 + i) _) false)] = _; rw [Nat.zero_add]; rfl) ⟨rfl, rfl, incI hΩ (by omega), trivial⟩⟩
  · replace h : i = n := by have := geI hΩ h; omega
    subst h
    cbv
    refine ⟨⟨rfl, by show i ≤ (ys i).length; omega⟩, .of ?_⟩
    rw [← hyn]
    subst hΩ
    show A.sl true 1 ((ys i).take i) = _
    rw [List.take_of_length_le (by omega)]
theorem roF_B (l : List UInt8) : roFree (.sl true 1 (l.map byteA)) = true := roFAll fun x hx => by obtain ⟨c, _, rfl⟩ := List.mem_map.1 hx; rfl
theorem roFF (o : Fil) : roFree (o.enc true) = true := by
  show roFree (.agg _) = true
  rw [roFree_agg]
  have h1 := roF_B o.d
  simp only [List.all_cons, List.all_nil, h1]
  rfl
theorem roFFs (l : List Fil) : roFree (.sl true 2 (l.map (Fil.enc true))) = true := roFAll fun x hx => by obtain ⟨c, _, rfl⟩ := List.mem_map.1 hx; exact roFF c
theorem roFD (x : Dsk) : roFree (x.enc true true) = true := by
  show roFree (.agg _) = true
  rw [roFree_agg]
  have h1 := roFFs x.f
  simp only [List.all_cons, List.all_nil, h1]
  rfl
theorem c_toFile (o : Fil) (hs : o.d.length ≤ 1048576) : PCtr PP n_laws_toFile [o.enc false] (o.enc true) := by
  obtain ⟨Ω, hΩ⟩ : ∃ Ω, Ω = std := ⟨_, rfl⟩
  have h1 := c_toByteS o.d hs
  have r1 := roF_B o.d
  unfold Fil.enc
  generalize o.d.map byteA = ds at *
  refine PCtr.walk tab hΩ fn_laws_toFile rfl ?_
  have htab := tab
  have hmo := hmo
  generalize PP = P at *
  cbv
  refine call_pure hΩ 3 h1 rfl (fits _) r1 rfl ?_
  cbv
  refine ⟨⟨rfl, by subst hΩ; exact Nat.le_refl _⟩, .of ?_⟩
  subst hΩ
  show A.agg [str o.p, A.sl true 1 (ds.take ds.length)] = _
  rw [List.take_length]; rfl
theorem c_toFileS (cs : List (Fil)) (hb : cs.length ≤ 1048576) (hl : ∀ f ∈ cs, f.d.length ≤ 1048576) : PCtr PP n_laws_toFileS [.sl false 2 (cs.map (Fil.enc false))] (.sl true 2 (cs.map (Fil.enc true))) := by
  obtain ⟨Ω, hΩ⟩ : ∃ Ω, Ω = std := ⟨_, rfl⟩
  obtain ⟨xs, hxs⟩ : ∃ xs, xs = cs.map (Fil.enc false) := ⟨_, rfl⟩
  obtain ⟨zs, hzs⟩ : ∃ zs, zs = cs.map (Fil.enc true) := ⟨_, rfl⟩
  obtain ⟨n, hn⟩ : ∃ n, n = cs.length := ⟨_, rfl⟩
  have hlen : xs.length = n := by rw [hxs, hn, List.length_map]
  obtain ⟨ys, hys⟩ : ∃ ys : Nat → List A, ys = fill (Fil.enc true) (.agg [str [], .nil]) cs := ⟨_, rfl⟩
  have hyl : ∀ i, i ≤ n → (ys i).length = n := fun i hi => by rw [hys, hn]; exact fill_length (by omega)
  have hya : ∀ i, ∀ z ∈ ys i, isAggN 2 z = true := fun i => by rw [hys]; exact fill_all (fun _ => rfl) rfl
  have hy0 : List.replicate n (.agg [str [], .nil]) = ys 0 := by rw [hys, fill_zero, hn]
  have hyn : ys n = zs := by rw [hys, hn, fill_full, hzs]
  have hyset : ∀ i c, cs[i]? = some c → (ys i).set i ((Fil.enc true) c) = ys (i + 1) := fun i c h => by rw [hys]; exact fill_set h
  clear hys
  rw [← hxs, ← hzs]
  have hcl : ∀ c ∈ cs, PCtr PP n_laws_toFile [Fil.enc false c] (Fil.enc true c) := fun c h => c_toFile c (hl c h)
  refine PCtr.walk tab hΩ fn_laws_toFileS rfl ?_
  have htab := tab
  have hmo := hmo
  generalize PP = P at *
  cbv
  refine ⟨⟨by subst hΩ; show _ ∧ (0 : Int) ≤ xs.length ∧ 40 * ((xs.length : Int).toNat) ≤ _ ∧ (xs.length : Int).toNat ≤ 9223372036854775807; rw [hlen]; refine ⟨rfl, ?_, ?_, ?_⟩ <;> omega⟩,
    loopX htab hΩ (fun i : Nat => ⟨[(0, .sl false 2 xs), (3, .vw 0 0 n), (4, .sc (.int .i64 (Ω.int i)))], 23, [some ⟨2, ys i, false⟩]⟩) (fun i => i ≤ n) (fun i => n - i) 0 (Nat.zero_le _) (Sbs.mk rfl ?_ ?_) (fun i hi => ?_)⟩
  · rw [← hy0]; subst hΩ; subst hlen; rfl
  · subst hΩ; subst hlen; exact ⟨rfl, rfl, rfl, trivial⟩
  have hyli := hyl i hi
  have hyai := hya i
  cbv
  refine br (fun h => ?_) (fun h => ?_)
  · replace h : i < n := by have := ltI hΩ h; omega
    obtain ⟨c, hcc⟩ := at_of (cs := cs) (by omega : i < cs.length)
    have hset := hyset i c hcc
    cbv
    obtain ⟨ds, hen, hen2⟩ : ∃ ds, Fil.enc false c = .agg [str c.p, .sl false 1 ds] ∧ Fil.enc true c = .agg [str c.p, .sl true 1 ds] := ⟨_, rfl, rfl⟩
    have hcc' := hcl c (List.mem_of_getElem? hcc)
    have hrf := roFF c
    rw [hen2] at hrf hset
    rw [hen, hen2] at hcc'
    refine ⟨⟨nnI hΩ⟩, _, (rdI hΩ hxs hcc).trans (congrArg some hen), ?_⟩
    cbv
    refine call_pure hΩ 3 hcc' rfl (fits _) hrf rfl ?_
    cbv
    refine ⟨⟨ixI hΩ h⟩, ⟨rfl, by subst hΩ; exact Nat.le_refl _⟩, ⟨by subst hΩ; show 0 + i < _; rw [hyli]; omega, hyai⟩, i + 1, by omega, by omega,
      Sbs.trans (Sbs.lastN (rows := [_]) rfl) (Sbs.mk rfl ?_ ⟨rfl, rfl, incI hΩ (by omega), trivial⟩)⟩
    rw [← hset]
    subst hΩ
    show [some (Row.mk 2 ((ys i).set (0 + i) (A.agg [str c.p, A.sl true 1 (ds.take ds.length)])) false)] = _
    rw [List.take_length, Nat.zero_add]
  · replace h : i = n := by have := geI hΩ h; omega
    subst h
    cbv
    refine ⟨⟨rfl, by show i ≤ (ys i).length; omega⟩, .of ?_⟩
    rw [← hyn]
    subst hΩ
    show A.sl true 2 ((ys i).take i) = _
    rw [List.take_of_length_le (by omega)]
theorem c_toDisk (x : Dsk) (hx : x.Fit) : PCtr PP n_laws_toDisk [x.enc false false] (x.enc true true) := by
  obtain ⟨Ω, hΩ⟩ : ∃ Ω, Ω = std := ⟨_, rfl⟩
  have h1 := c_toFileS x.f hx.n hx.d
  have r1 := roFFs x.f
  unfold Dsk.enc
  generalize x.f.map (Fil.enc false) = xs at *
  generalize x.f.map (Fil.enc true) = ys at *
  refine PCtr.walk tab hΩ fn_laws_toDisk rfl ?_
  have htab := tab
  have hmo := hmo
  generalize PP = P at *
  cbv
  refine call_pure hΩ 3 h1 rfl (fits _) r1 rfl ?_
  cbv
  refine ⟨⟨rfl, by subst hΩ; exact Nat.le_refl _⟩, .of ?_⟩
  subst hΩ
  show A.agg [A.sl true 2 (ys.take ys.length), i64 x.bg, i64 x.wr, i64 x.st, boo x.dn] = _
  rw [List.take_length]; rfl
end Go.Proofs.YtidlnilcdmhkiaaGreatDoor

/- Walks: what is wrong with a disk. Plain theorems. -/
set_option linter.unusedVariables false
set_option linter.unusedSimpArgs false
namespace Go.Proofs.YtidlnilcdmhkiaaGreatDoor
open Go Go.Fw
set_option maxRecDepth 100000
/-- The step of filsF at place i, told by what the code asks. -/
structure FilStep (Ω : Opq) (l : List Fil) (r R : Int) (i : Nat) (c : Fil) : Prop where
  bad : ∀ q, pathF c.p = q → q ≠ 0 → r = q
  old : ∀ p, pathF c.p = 0 → 0 < i → l[i - 1]? = some p → Ω.cmpS .leq c.p p.p = true → r = 1
  big : pathF c.p = 0 → (i = 0 ∨ ∃ p, l[i - 1]? = some p ∧ Ω.cmpS .leq c.p p.p = false) → Ω.cmp .gtr (Ω.int (Ω.len (c.d.map byteA))) 4000 = true → r = 2
  next : pathF c.p = 0 → (i = 0 ∨ ∃ p, l[i - 1]? = some p ∧ Ω.cmpS .leq c.p p.p = false) → Ω.cmp .gtr (Ω.int (Ω.len (c.d.map byteA))) 4000 = false → r = if filsF (prevP l (i + 1)) (l.drop (i + 1)) ≠ 0 then filsF (prevP l (i + 1)) (l.drop (i + 1)) else R
theorem filStep {Ω : Opq} (hΩ : Ω = std) {l : List Fil} {r R : Int} {i : Nat} {c : Fil} (hc : l[i]? = some c) (hr : r = if filsF (prevP l i) (l.drop i) ≠ 0 then filsF (prevP l i) (l.drop i) else R) : FilStep Ω l r R i c := by
  subst hΩ
  rw [filsF_at hc] at hr
  have hpv : ∀ p, 0 < i → l[i - 1]? = some p → prevP l i = some p.p := fun p h0 hp => by unfold prevP; rw [if_neg (by omega), hp]; rfl
  have hle : ∀ a b : List UInt8, std.cmpS .leq a b = leB a b := fun a b => rfl
  have hbg : std.cmp .gtr (std.int (std.len (c.d.map byteA))) 4000 = decide (4000 < c.d.length) := by
    show decide ((4000 : Int) < ((c.d.map byteA).length : Int)) = _
    rw [List.length_map]
    exact decide_eq_decide.2 (by omega)
  have hno : (i = 0 ∨ ∃ p, l[i - 1]? = some p ∧ std.cmpS .leq c.p p.p = false) → (prevP l i).any (leB c.p) = false := fun h => by
    rcases Nat.eq_zero_or_pos i with h0 | h0
    · subst h0; rfl
    · obtain ⟨p, h1, h2⟩ := h.resolve_left (by omega)
      rw [hpv p h0 h1]; rw [hle] at h2; exact h2
  refine ⟨fun q h1 h2 => ?_, fun p h1 h2 h3 h4 => ?_, fun h1 h2 h3 => ?_, fun h1 h2 h3 => ?_⟩
  · rw [if_pos (by rw [if_pos (by rw [h1]; exact h2), h1]; exact h2), if_pos (by rw [h1]; exact h2), h1] at hr; exact hr
  · have e : (prevP l i).any (leB c.p) = true := by rw [hpv p h2 h3]; rw [hle] at h4; exact h4
    rw [if_neg (show ¬ pathF c.p ≠ 0 by rw [h1]; simp), if_pos e] at hr
    simpa using hr
  · rw [hbg, decide_eq_true_eq] at h3
    rw [if_neg (show ¬ pathF c.p ≠ 0 by rw [h1]; simp), hno h2, if_neg (show ¬ false = true by simp), if_pos h3] at hr
    simpa using hr
  · rw [hbg, decide_eq_false_iff_not] at h3
    rw [if_neg (show ¬ pathF c.p ≠ 0 by rw [h1]; simp), hno h2, if_neg (show ¬ false = true by simp), if_neg h3] at hr
    exact hr
/-- What a disk's fault is, told by what the code asks. -/
structure DskAsk (Ω : Opq) (F : Int → Int → Int → Bool) (x : Dsk) (n : Nat) (r : Int) : Prop where
  i1 : F x.bg 0 20000 = false → r = 3
  i2 : F x.wr 0 1000000000 = false → r = 3
  i3 : F x.st (-1) 1000000000 = false → r = 3
  i4 : F x.bg 0 20000 = true → F x.wr 0 1000000000 = true → F x.st (-1) 1000000000 = true → Ω.cmp .gtr (Ω.int n) 120 = true → r = 2
  i5 : F x.bg 0 20000 = true → F x.wr 0 1000000000 = true → F x.st (-1) 1000000000 = true → Ω.cmp .gtr (Ω.int n) 120 = false → n ≤ 120 ∧ r = if filsF (prevP x.f 0) (x.f.drop 0) ≠ 0 then filsF (prevP x.f 0) (x.f.drop 0) else if x.bg < (totL x.f : Int) then 8 else 0
theorem dskAsk {Ω : Opq} (hΩ : Ω = std) (x : Dsk) : DskAsk Ω inB x x.f.length (dskF x) := by
  subst hΩ
  unfold dskF
  refine ⟨fun h => ?_, fun h => ?_, fun h => ?_, fun h1 h2 h3 h => ?_, fun h1 h2 h3 h => ?_⟩
  · rw [h]; rfl
  · rw [h]; cases inB x.bg 0 20000 <;> rfl
  · rw [h]; cases inB x.bg 0 20000 <;> cases inB x.wr 0 1000000000 <;> rfl
  · rw [h1, h2, h3, if_neg (by simp), if_pos (by have h : (120 : Int) < x.f.length := gt_t h; omega)]
  · have h : (x.f.length : Int) ≤ 120 := gt_f h
    refine ⟨by omega, ?_⟩
    rw [h1, h2, h3, if_neg (by simp), if_neg (by omega)]; rfl
theorem c_specDiskFault (x : Dsk) (hl : x.f.length ≤ 1048576) (ht : totL x.f ≤ 1099511627776) : PCtr PP n_spec_DiskFault [x.enc false false] (i64 (dskF x)) := by
  obtain ⟨Ω, hΩ⟩ : ∃ Ω, Ω = std := ⟨_, rfl⟩
  have ha := dskAsk hΩ x
  obtain ⟨r, hr⟩ : ∃ r, r = dskF x := ⟨_, rfl⟩
  have htt := c_l7Total x hl ht
  have hin := c_l1In
  have hpa : ∀ s, ∃ q, pathF s = q ∧ PCtr PP n_spec_PathFault [str s] (i64 q) := fun s => ⟨_, rfl, c_specPathFault s⟩
  rw [← hr] at ha ⊢
  unfold Dsk.see at htt
  unfold Dsk.enc
  obtain ⟨l, v1, v2, v3, v4⟩ := x
  dsimp only at *
  have hst : ∀ i c, l[i]? = some c → r = (if filsF (prevP l i) (l.drop i) ≠ 0 then filsF (prevP l i) (l.drop i) else if v1 < (totL l : Int) then 8 else 0) → FilStep Ω l r (if v1 < (totL l : Int) then 8 else 0) i c := fun i c hc h => filStep hΩ hc h
  obtain ⟨n, hn⟩ : ∃ n, n = l.length := ⟨_, rfl⟩
  rw [← hn] at ha
  obtain ⟨xs, hxs⟩ : ∃ xs, xs = l.map (Fil.enc false) := ⟨_, rfl⟩
  rw [← hxs] at htt ⊢
  have hlen : Ω.int (Ω.len xs) = Ω.int n := by subst hΩ; show ((xs.length : Nat) : Int) = _; rw [hxs, List.length_map, hn]; rfl
  have hat : ∀ i c, l[i]? = some c → xs[(Ω.int i).toNat]? = some (.agg [str c.p, .sl false 1 (c.d.map byteA)]) := fun i c hc => (rdI hΩ hxs hc).trans rfl
  have hend : ∀ i, n ≤ i → l.drop i = [] := fun i hi => List.drop_of_length_le (by omega)
  have hnl : ∀ i, i < n → ∃ c, l[i]? = some c := fun i hi => at_of (by omega)
  generalize hT : (totL l : Int) = tt at *
  obtain ⟨i1, i2, i3, i4, i5⟩ := ha
  dsimp only at i1 i2 i3 i4 i5
  rw [hT] at i5
  have hin1 := hin v1 0 20000
  have hin2 := hin v2 0 1000000000
  have hin3 := hin v3 (-1) 1000000000
  generalize inB v1 0 20000 = b1 at *
  generalize inB v2 0 1000000000 = b2 at *
  generalize inB v3 (-1) 1000000000 = b3 at *
  have fin1 : v1 < tt → (if v1 < tt then (8 : Int) else 0) = 8 := fun h => if_pos h
  have fin2 : tt ≤ v1 → (if v1 < tt then (8 : Int) else 0) = 0 := fun h => if_neg (by omega)
  generalize (if v1 < tt then (8 : Int) else 0) = R at *
  have htab := tab
  have hmo := hmo
  refine PCtr.walk tab hΩ fn_spec_DiskFault rfl ?_
  generalize PP = P at *
  cbv
  refine call_pure hΩ 3 hin1 rfl (fits _) rfl rfl ?_
  cbv
  refine br (fun h1 => ?_) (fun h1 => ?_) <;> cbv
  · exact .of (congrArg i64 (i1 (notA hΩ h1)).symm)
  have h1 := notB hΩ h1
  refine call_pure hΩ 3 hin2 rfl (fits _) rfl rfl ?_
  cbv
  refine br (fun h2 => ?_) (fun h2 => ?_) <;> cbv
  · exact .of (congrArg i64 (i2 (notA hΩ (iteB hΩ h2))).symm)
  have h2 := notB hΩ (iteB hΩ h2)
  refine call_pure hΩ 3 hin3 rfl (fits _) rfl rfl ?_
  cbv
  refine br (fun h3 => ?_) (fun h3 => ?_) <;> cbv
  · exact .of (congrArg i64 (i3 (notA hΩ (iteB hΩ h3))).symm)
  have h3 := notB hΩ (iteB hΩ h3)
  refine br (fun h4 => ?_) (fun h4 => ?_) <;> cbv
  · exact .of (congrArg i64 (i4 h1 h2 h3 (by rw [← hlen]; exact h4)).symm)
  obtain ⟨hn120, he0⟩ := i5 h1 h2 h3 (by rw [← hlen]; exact h4)
  refine loopX htab hΩ (fun i : Nat => ⟨[(1, .rp [.sl false 2 xs, i64 v1, i64 v2, i64 v3, boo v4]), (3, i64 (Ω.int i))], 72, []⟩) (fun i => i ≤ n ∧ r = if filsF (prevP l i) (l.drop i) ≠ 0 then filsF (prevP l i) (l.drop i) else R) (fun i => n - i) 0 ⟨Nat.zero_le _, he0⟩
    (((Sbs.unlk (r := 0) rfl rfl).trans (Sbs.thaw0 (r := 0) rfl rfl rfl)).trans ((Sbs.cut 0 rfl).trans (Sbs.mk rfl rfl ⟨rfl, zeroI hΩ, trivial⟩))) ?_
  rintro i ⟨hi, he⟩
  cbv
  refine br (fun h => ?_) (fun h => ?_) <;> cbv
  · have h := ltZt hΩ h
    have h : i < n := by rw [hlen] at h; subst hΩ; have h : (i : Int) < (n : Int) := h; omega
    obtain ⟨c, hc⟩ := hnl i h
    have st := hst i c hc he
    obtain ⟨q, hq, hcq⟩ := hpa c.p
    have hac := hat i c hc
    obtain ⟨sb, so, sg, sn⟩ := st
    have hi1 : i + 1 ≤ n := by omega
    have hlt : n - (i + 1) < n - i := by omega
    have hinc : i64 (Ω.ar .add .i64 (Ω.int i) 1) = i64 (Ω.int (i + 1)) := incI hΩ (by omega)
    have hprev : 0 < i → ∃ p, l[i - 1]? = some p ∧ xs[(Ω.ar .sub .i64 (Ω.int i) 1).toNat]? = some (.agg [str p.p, .sl false 1 (p.d.map byteA)]) ∧ 0 ≤ Ω.ar .sub .i64 (Ω.int i) 1 := fun h0 => by
      obtain ⟨p, hp⟩ := hnl (i - 1) (by omega)
      obtain ⟨k1, k2⟩ := subI hΩ h0 (by omega)
      refine ⟨p, hp, ?_, k1⟩
      rw [k2, ← hat (i - 1) p hp]
      subst hΩ; rfl
    generalize c.d.map byteA = cd at *
    refine ⟨⟨nnI hΩ⟩, _, hac, ?_⟩
    cbv
    refine call_pure hΩ 3 hcq rfl (fits _) rfl rfl ?_
    cbv
    refine br (fun g => ?_) (fun g => ?_) <;> cbv
    · exact .of (congrArg i64 (sb q hq (neZt hΩ g)).symm)
    have g := neZf hΩ g
    have hq0 : pathF c.p = 0 := by rw [hq, g]
    refine ⟨VC_drawn htab hΩ hmo (by kernel_rfl) ?_⟩
    cbv
    have last : (i = 0 ∨ ∃ p, l[i - 1]? = some p ∧ Ω.cmpS .leq c.p p.p = false) → ∀ b, Ω.cmp .gtr (Ω.int (Ω.len cd)) 4000 = b → (b = true → r = 2) ∧ (b = false → (i + 1 ≤ n ∧ r = if filsF (prevP l (i + 1)) (l.drop (i + 1)) ≠ 0 then filsF (prevP l (i + 1)) (l.drop (i + 1)) else R)) :=
      fun h b hb => ⟨fun e => sg hq0 h (by rw [hb, e]), fun e => ⟨hi1, sn hq0 h (by rw [hb, e])⟩⟩
    refine br (fun k => ?_) (fun k => ?_) <;> cbv
    · have k := gtZt hΩ k
      have k : 0 < i := by subst hΩ; have k : (0 : Int) < (i : Int) := k; omega
      obtain ⟨p, hp, hpat, hp0⟩ := hprev k
      refine ⟨⟨nnI hΩ⟩, _, hac, ?_⟩
      cbv
      refine ⟨⟨hp0⟩, _, hpat, ?_⟩
      cbv
      refine br (fun m => ?_) (fun m => ?_) <;> cbv
      · exact .of (congrArg i64 (so p hq0 k hp (iteA hΩ m)).symm)
      have last := last (.inr ⟨p, hp, iteA hΩ m⟩)
      refine ⟨⟨nnI hΩ⟩, _, hac, ?_⟩
      cbv
      refine br (fun o => ?_) (fun o => ?_) <;> cbv
      · exact .of (congrArg i64 ((last _ o).1 rfl).symm)
      · exact ⟨i + 1, (last _ o).2 rfl, hlt, Sbs.mk rfl rfl ⟨rfl, hinc, trivial⟩⟩
    · have k := gtZf hΩ k
      have k : i = 0 := by subst hΩ; have k : (i : Int) ≤ 0 := k; omega
      have last := last (.inl k)
      refine ⟨⟨nnI hΩ⟩, _, hac, ?_⟩
      cbv
      refine br (fun o => ?_) (fun o => ?_) <;> cbv
      · exact .of (congrArg i64 ((last _ o).1 rfl).symm)
      · exact ⟨i + 1, (last _ o).2 rfl, hlt, Sbs.mk rfl rfl ⟨rfl, hinc, trivial⟩⟩
  · have h := ltZf hΩ h
    have h : i = n := by rw [hlen] at h; subst hΩ; have h : (n : Int) ≤ (i : Int) := h; omega
    have he : r = R := by rw [h, hend n (Nat.le_refl _)] at he; exact he.trans (if_neg (by simp [filsF]))
    refine ⟨VC_drawn htab hΩ hmo (by kernel_rfl) ?_⟩
    cbv
    refine QCall_pure (k := 3) htt rfl (fits _) rfl ?_
    cbv
    refine br (fun g => ?_) (fun g => ?_) <;> cbv
    · exact .of (congrArg i64 (by rw [he, fin1 (gtZt hΩ g)]))
    · exact .of (congrArg i64 (by rw [he, fin2 (gtZf hΩ g)]))
end Go.Proofs.YtidlnilcdmhkiaaGreatDoor

/- Walks: what is wrong with a disk, in the implementation. Plain theorems. -/
set_option linter.unusedVariables false
set_option linter.unusedSimpArgs false
namespace Go.Proofs.YtidlnilcdmhkiaaGreatDoor
open Go Go.Fw
set_option maxRecDepth 100000
theorem c_implDiskFault (x : Dsk) (hl : x.f.length ≤ 1048576) (ht : totL x.f ≤ 1099511627776) : PCtr PP n_impl_DiskFault [x.enc false false] (i64 (dskF x)) := by
  obtain ⟨Ω, hΩ⟩ : ∃ Ω, Ω = std := ⟨_, rfl⟩
  have ha := dskAsk hΩ x
  obtain ⟨r, hr⟩ : ∃ r, r = dskF x := ⟨_, rfl⟩
  have htt := c_total x hl ht
  have hin := c_within
  have hpa : ∀ s, ∃ q, pathF s = q ∧ PCtr PP n_impl_PathFault [str s] (i64 q) := fun s => ⟨_, rfl, c_implPathFault s⟩
  rw [← hr] at ha ⊢
  unfold Dsk.enc at htt ⊢
  obtain ⟨l, v1, v2, v3, v4⟩ := x
  dsimp only at *
  have hst : ∀ i c, l[i]? = some c → r = (if filsF (prevP l i) (l.drop i) ≠ 0 then filsF (prevP l i) (l.drop i) else if v1 < (totL l : Int) then 8 else 0) → FilStep Ω l r (if v1 < (totL l : Int) then 8 else 0) i c := fun i c hc h => filStep hΩ hc h
  obtain ⟨n, hn⟩ : ∃ n, n = l.length := ⟨_, rfl⟩
  rw [← hn] at ha
  obtain ⟨xs, hxs⟩ : ∃ xs, xs = l.map (Fil.enc false) := ⟨_, rfl⟩
  rw [← hxs] at htt ⊢
  have hlen : Ω.int (Ω.len xs) = Ω.int n := by subst hΩ; show ((xs.length : Nat) : Int) = _; rw [hxs, List.length_map, hn]; rfl
  have hat : ∀ i c, l[i]? = some c → xs[(Ω.int i).toNat]? = some (.agg [str c.p, .sl false 1 (c.d.map byteA)]) := fun i c hc => (rdI hΩ hxs hc).trans rfl
  have hend : ∀ i, n ≤ i → l.drop i = [] := fun i hi => List.drop_of_length_le (by omega)
  have hnl : ∀ i, i < n → ∃ c, l[i]? = some c := fun i hi => at_of (by omega)
  generalize hT : (totL l : Int) = tt at *
  obtain ⟨i1, i2, i3, i4, i5⟩ := ha
  dsimp only at i1 i2 i3 i4 i5
  rw [hT] at i5
  have hin1 := hin v1 0 20000
  have hin2 := hin v2 0 1000000000
  have hin3 := hin v3 (-1) 1000000000
  generalize inB v1 0 20000 = b1 at *
  generalize inB v2 0 1000000000 = b2 at *
  generalize inB v3 (-1) 1000000000 = b3 at *
  have fin1 : v1 < tt → (if v1 < tt then (8 : Int) else 0) = 8 := fun h => if_pos h
  have fin2 : tt ≤ v1 → (if v1 < tt then (8 : Int) else 0) = 0 := fun h => if_neg (by omega)
  generalize (if v1 < tt then (8 : Int) else 0) = R at *
  have htab := tab
  have hmo := hmo
  refine PCtr.walk tab hΩ fn_impl_DiskFault rfl ?_
  generalize PP = P at *
  cbv
  refine call_pure hΩ 3 hin1 rfl (fits _) rfl rfl ?_
  cbv
  refine br (fun h1 => ?_) (fun h1 => ?_) <;> cbv
  · exact .of (congrArg i64 (i1 (notA hΩ h1)).symm)
  have h1 := notB hΩ h1
  refine call_pure hΩ 3 hin2 rfl (fits _) rfl rfl ?_
  cbv
  refine br (fun h2 => ?_) (fun h2 => ?_) <;> cbv
  · exact .of (congrArg i64 (i2 (notA hΩ (iteB hΩ h2))).symm)
  have h2 := notB hΩ (iteB hΩ h2)
  refine call_pure hΩ 3 hin3 rfl (fits _) rfl rfl ?_
  cbv
  refine br (fun h3 => ?_) (fun h3 => ?_) <;> cbv
  · exact .of (congrArg i64 (i3 (notA hΩ (iteB hΩ h3))).symm)
  have h3 := notB hΩ (iteB hΩ h3)
  refine br (fun h4 => ?_) (fun h4 => ?_) <;> cbv
  · exact .of (congrArg i64 (i4 h1 h2 h3 (by rw [← hlen]; exact h4)).symm)
  obtain ⟨hn120, he0⟩ := i5 h1 h2 h3 (by rw [← hlen]; exact h4)
  refine loopX htab hΩ (fun i : Nat => ⟨[(1, .rp [.sl false 2 xs, i64 v1, i64 v2, i64 v3, boo v4]), (29, .sl false 2 xs), (30, i64 (Ω.int n)), (31, i64 (Ω.int i))], 68, []⟩) (fun i => i ≤ n ∧ r = if filsF (prevP l i) (l.drop i) ≠ 0 then filsF (prevP l i) (l.drop i) else R) (fun i => n - i) 0 ⟨Nat.zero_le _, he0⟩
    (((Sbs.unlk (r := 0) rfl rfl).trans (Sbs.thaw0 (r := 0) rfl rfl rfl)).trans ((Sbs.cut 0 rfl).trans (Sbs.mk rfl rfl ⟨rfl, rfl, congrArg i64 hlen, zeroI hΩ, trivial⟩))) ?_
  rintro i ⟨hi, he⟩
  cbv
  refine br (fun h => ?_) (fun h => ?_) <;> cbv
  · have h := ltZt hΩ h
    have h : i < n := by subst hΩ; have h : (i : Int) < (n : Int) := h; omega
    obtain ⟨c, hc⟩ := hnl i h
    have st := hst i c hc he
    obtain ⟨q, hq, hcq⟩ := hpa c.p
    have hac := hat i c hc
    obtain ⟨sb, so, sg, sn⟩ := st
    have hi1 : i + 1 ≤ n := by omega
    have hlt : n - (i + 1) < n - i := by omega
    have hinc : i64 (Ω.ar .add .i64 (Ω.int i) 1) = i64 (Ω.int (i + 1)) := incI hΩ (by omega)
    have hprev : 0 < i → ∃ p, l[i - 1]? = some p ∧ xs[(Ω.ar .sub .i64 (Ω.int i) 1).toNat]? = some (.agg [str p.p, .sl false 1 (p.d.map byteA)]) ∧ 0 ≤ Ω.ar .sub .i64 (Ω.int i) 1 := fun h0 => by
      obtain ⟨p, hp⟩ := hnl (i - 1) (by omega)
      obtain ⟨k1, k2⟩ := subI hΩ h0 (by omega)
      refine ⟨p, hp, ?_, k1⟩
      rw [k2, ← hat (i - 1) p hp]
      subst hΩ; rfl
    generalize c.d.map byteA = cd at *
    refine ⟨⟨nnI hΩ⟩, _, hac, ?_⟩
    cbv
    refine call_pure hΩ 3 hcq rfl (fits _) rfl rfl ?_
    cbv
    refine br (fun g => ?_) (fun g => ?_) <;> cbv
    · exact .of (congrArg i64 (sb q hq (neZt hΩ g)).symm)
    have g := neZf hΩ g
    have hq0 : pathF c.p = 0 := by rw [hq, g]
    refine ⟨VC.sub (VC_drawn htab hΩ hmo (by kernel_rfl) ?_) ((Sbs.unlk (r := 0) rfl rfl).trans (Sbs.thaw0 (r := 0) rfl rfl rfl))⟩
    cbv
    have last : (i = 0 ∨ ∃ p, l[i - 1]? = some p ∧ Ω.cmpS .leq c.p p.p = false) → ∀ b, Ω.cmp .gtr (Ω.int (Ω.len cd)) 4000 = b → (b = true → r = 2) ∧ (b = false → (i + 1 ≤ n ∧ r = if filsF (prevP l (i + 1)) (l.drop (i + 1)) ≠ 0 then filsF (prevP l (i + 1)) (l.drop (i + 1)) else R)) :=
      fun h b hb => ⟨fun e => sg hq0 h (by rw [hb, e]), fun e => ⟨hi1, sn hq0 h (by rw [hb, e])⟩⟩
    refine br (fun k => ?_) (fun k => ?_) <;> cbv
    · have k := gtZt hΩ k
      have k : 0 < i := by subst hΩ; have k : (0 : Int) < (i : Int) := k; omega
      obtain ⟨p, hp, hpat, hp0⟩ := hprev k
      refine ⟨⟨hp0⟩, _, hpat, ?_⟩
      cbv
      refine br (fun m => ?_) (fun m => ?_) <;> cbv
      · exact .of (congrArg i64 (so p hq0 k hp (iteA hΩ m)).symm)
      have last := last (.inr ⟨p, hp, iteA hΩ m⟩)
      refine br (fun o => ?_) (fun o => ?_) <;> cbv
      · exact .of (congrArg i64 ((last _ o).1 rfl).symm)
      · exact ⟨i + 1, (last _ o).2 rfl, hlt, (Sbs.cut 0 rfl).trans (Sbs.mk rfl rfl ⟨rfl, rfl, rfl, hinc, trivial⟩)⟩
    · have k := gtZf hΩ k
      have k : i = 0 := by subst hΩ; have k : (i : Int) ≤ 0 := k; omega
      have last := last (.inl k)
      refine br (fun o => ?_) (fun o => ?_) <;> cbv
      · exact .of (congrArg i64 ((last _ o).1 rfl).symm)
      · exact ⟨i + 1, (last _ o).2 rfl, hlt, (Sbs.cut 0 rfl).trans (Sbs.mk rfl rfl ⟨rfl, rfl, rfl, hinc, trivial⟩)⟩
  · have h := ltZf hΩ h
    have h : i = n := by subst hΩ; have h : (n : Int) ≤ (i : Int) := h; omega
    have he : r = R := by rw [h, hend n (Nat.le_refl _)] at he; exact he.trans (if_neg (by simp [filsF]))
    refine ⟨VC_drawn htab hΩ hmo (by kernel_rfl) ?_⟩
    cbv
    refine QCall_pure (k := 3) htt rfl (fits _) rfl ?_
    cbv
    refine br (fun g => ?_) (fun g => ?_) <;> cbv
    · exact .of (congrArg i64 (by rw [he, fin1 (gtZt hΩ g)]))
    · exact .of (congrArg i64 (by rw [he, fin2 (gtZf hΩ g)]))
end Go.Proofs.YtidlnilcdmhkiaaGreatDoor

/- Walks: codes of catalogs and disks; sets of numbers. Plain theorems. -/
set_option linter.unusedVariables false
set_option linter.unusedSimpArgs false
namespace Go.Proofs.YtidlnilcdmhkiaaGreatDoor
open Go Go.Fw
set_option maxRecDepth 100000
/-- The code of a catalog and a disk. -/
def bthC (c : List Pck) (x : Dsk) : Int := if catF c ≠ 0 then catF c else dskF x
theorem c_bothCode (c : List Pck) (x : Dsk) (hl : c.length ≤ 1048576) (ho : ∀ o ∈ c, o.Small) (hx : x.Fit) : PCtr PP n_impl_bothCode [encP c, x.enc false false] (i64 (bthC c x)) := by
  obtain ⟨Ω, hΩ⟩ : ∃ Ω, Ω = std := ⟨_, rfl⟩
  have h1 := c_implCatalogFault c hl ho
  have h2 := c_implDiskFault x hx.n hx.t
  have h3 := c_firstCode [catF c, dskF x] (by simp)
  rw [show orF [catF c, dskF x] = bthC c x by unfold bthC; simp only [orF]; by_cases e : dskF x = 0 <;> simp [e]] at h3
  generalize bthC c x = b at *
  generalize catF c = b1 at *
  generalize dskF x = b2 at *
  unfold encP Dsk.enc at *
  generalize x.f.map (Fil.enc false) = xs at *
  generalize c.map (Pck.enc false) = cs at *
  have htab := tab
  have hmo := hmo
  refine PCtr.walk tab hΩ fn_impl_bothCode rfl ?_
  generalize PP = P at *
  cbv
  refine ⟨VC.sub (VC_tail htab hΩ hmo 4 (by kernel_rfl) ?_) ((Sbs.unlk (r := 0) rfl rfl).trans (Sbs.thaw0 (r := 0) rfl rfl rfl))⟩
  cbv
  refine QCall_pure (k := 3) h1 rfl (fits _) rfl ?_
  cbv
  refine QCall_pure (k := 4) h2 rfl (fits _) rfl ?_
  cbv
  refine call_pure hΩ 3 h3 rfl (fits _) rfl rfl ?_
  cbv
  exact .same
theorem c_l8Asked (c : List Pck) (x : Dsk) (hl : c.length ≤ 1048576) (ho : ∀ o ∈ c, o.Small) (hx : x.Fit) : PCtr PP n_spec_l8Asked [encP c, x.enc false false] (i64 (bthC c x)) := by
  obtain ⟨Ω, hΩ⟩ : ∃ Ω, Ω = std := ⟨_, rfl⟩
  have h1 := c_specCatalogFault c hl ho
  have h2 := c_specDiskFault x hx.n hx.t
  have e1 : catF c ≠ 0 → bthC c x = catF c := fun h => if_pos h
  have e2 : catF c = 0 → bthC c x = dskF x := fun h => if_neg (by simp [h])
  generalize bthC c x = b at *
  generalize catF c = b1 at *
  generalize dskF x = b2 at *
  unfold encP Dsk.enc at *
  generalize x.f.map (Fil.enc false) = xs at *
  generalize c.map (Pck.enc false) = cs at *
  have htab := tab
  have hmo := hmo
  refine PCtr.walk tab hΩ fn_spec_l8Asked rfl ?_
  generalize PP = P at *
  cbv
  refine call_pure hΩ 3 h1 rfl (fits _) rfl rfl ?_
  cbv
  refine br (fun h => ?_) (fun h => ?_) <;> cbv
  · exact .of (congrArg i64 (e1 (neZt hΩ h)).symm)
  · refine call_pure hΩ 4 h2 rfl (fits _) rfl rfl ?_
    cbv
    exact .of (congrArg i64 (e2 (neZf hΩ h)).symm)
/-- A slice of numbers, held alone. -/
def ownI (s : List Int) : A := .sl true 1 (s.map i64)
theorem roF_II (l : List (List Int)) : roFree (.sl true 1 (l.map ownI)) = true := roFAll fun x hx => by obtain ⟨c, _, rfl⟩ := List.mem_map.1 hx; exact roF_I c
theorem frz_II (l : List (List Int)) : frz (.sl true 1 (l.map ownI)) = .sl false 1 (l.map fun s => .sl false 1 (s.map i64)) := by
  rw [frz_sl, List.map_map]
  congr 1
  exact List.map_congr_left fun s _ => by show frz (.sl true 1 (s.map i64)) = _; rw [frz_sl, frz_I]
/-- The sets of numbers. -/
def setsW (c : List Pck) (l : List Fil) (g : List Int) : List (List Int) := g.map fun n => (setW c l n).2
theorem c_l14Sets (c : List Pck) (x : Dsk) (hl : c.length ≤ 1048576) (hx : x.Ok) :
    PCtr PP n_spec_l14Sets [encP c, x.see] (.tup [.sl true 1 ((if pgsC c x.f (gensF x.f) = 0 then setsW c x.f (gensF x.f) else []).map ownI), i64 (pgsC c x.f (gensF x.f))]) := by
  obtain ⟨Ω, hΩ⟩ : ∃ Ω, Ω = std := ⟨_, rfl⟩
  obtain ⟨F, hF⟩ := grw hΩ ownI
  have hcg := c_l8Gens x hx.n hx.p
  have hgl := gensF_len x.f
  have hxn := hx.n
  have hset := fun n => c_l8Set c x n hl hx
  generalize gensF x.f = gs at *
  obtain ⟨Q, hQ⟩ : ∃ Q : Nat → List (List Int), ∀ i, Q i = setsW c x.f (gs.take i) := ⟨_, fun _ => rfl⟩
  have hQ0 : Q 0 = [] := by rw [hQ]; rfl
  have hQs : ∀ i n, gs[i]? = some n → Q (i + 1) = Q i ++ [(setW c x.f n).2] := fun i n h => by rw [hQ, hQ]; unfold setsW; rw [List.take_add_one, h, List.map_append]; rfl
  have hQn : setsW c x.f gs = Q gs.length := by rw [hQ, List.take_length]
  have hQl : ∀ i, (Q i).length ≤ i := fun i => by rw [hQ]; unfold setsW; rw [List.length_map, List.length_take]; omega
  have hca : ∀ i n, gs[i]? = some n → pgsC c x.f (gs.drop i) = if (setW c x.f n).1 ≠ 0 then (setW c x.f n).1 else pgsC c x.f (gs.drop (i + 1)) := fun i n h => pgsC_at h
  have hce : pgsC c x.f (gs.drop gs.length) = 0 := pgsC_end (Nat.le_refl _)
  have hc0 : pgsC c x.f gs = pgsC c x.f (gs.drop 0) := rfl
  rw [hQn, hc0]
  obtain ⟨R, hR⟩ : ∃ R, R = A.tup [.sl true 1 ((if pgsC c x.f (gs.drop 0) = 0 then Q gs.length else []).map ownI), i64 (pgsC c x.f (gs.drop 0))] := ⟨_, rfl⟩
  have hok : pgsC c x.f (gs.drop 0) = 0 → R = .tup [.sl true 1 (F (Q gs.length)), i64 0] := fun h => by rw [hR, if_pos h, hF.eq, h]
  have hbad : ∀ k, pgsC c x.f (gs.drop 0) = k → k ≠ 0 → FitX (.tup [.nil, i64 k]) R := fun k h h' => by rw [hR, h, if_neg h']; exact ⟨2, by simp [fitA, fitA.fitL, i64]⟩
  rw [← hR]
  clear hR hQn hc0 hQ
  generalize pgsC c x.f = G at *
  have htw : ∀ n, ∃ r s, setW c x.f n = (r, s) := fun n => ⟨_, _, rfl⟩
  generalize setW c x.f = W at *
  obtain ⟨gl, hgl'⟩ : ∃ gl, gl = gs.map i64 := ⟨_, rfl⟩
  have hglen : gl.length = gs.length := by rw [hgl', List.length_map]
  have hqf : roFree (.sl true 1 gl) = true := by rw [hgl']; exact roF_I gs
  have hqz : frz (.sl true 1 gl) = .sl false 1 gl := by rw [frz_sl, hgl', frz_I]
  rw [← hgl'] at hcg
  unfold encP Dsk.see at *
  generalize x.f.map (Fil.enc false) = xs at *
  generalize c.map (Pck.enc false) = cs at *
  generalize x.bg = v1 at *
  generalize x.wr = v2 at *
  generalize x.st = v3 at *
  generalize x.dn = v4 at *
  have htab := tab
  have hmo := hmo
  refine PCtr.walk tab hΩ fn_spec_l14Sets rfl ?_
  generalize PP = P at *
  cbv
  refine call_pf hΩ 4 hcg rfl (fits _) hqf hqz rfl ?_
  cbv
  refine loopX htab hΩ (fun i : Nat => ⟨[(0, .sl false 8 cs), (1, .rp [.sl false 2 xs, i64 v1, i64 v2, i64 v3, boo v4]), (6, .vw 0 0 (Ω.len (F (Q i)))), (7, .sl false 1 gl), (8, i64 (Ω.int i))], 37, [some ⟨1, F (Q i), false⟩]⟩) (fun i => i ≤ gs.length ∧ G (gs.drop 0) = G (gs.drop i)) (fun i => gs.length - i) 0 ⟨Nat.zero_le _, rfl⟩
    (Sbs.mk rfl (by dsimp only; rw [hQ0, hF.nil]) ⟨rfl, rfl, by dsimp only; rw [hQ0, hF.z]; rfl, rfl, zeroI hΩ, trivial⟩) ?_
  rintro i ⟨hi, hGi⟩
  have hfl := hF.len (Q i)
  have hlo := hF.lo (Q i)
  have hle := hF.le (Q i)
  have htk := hF.tk (Q i)
  have hQli := hQl i
  cbv
  refine br (fun h => ?_) (fun h => ?_) <;> cbv
  · replace h := ltI hΩ h
    obtain ⟨n, hn⟩ := at_of (cs := gs) (by omega : i < _)
    have hs1 := hset n
    obtain ⟨r, s, hrs⟩ := htw n
    have hca := hca i n hn
    have hQs := hQs i n hn
    rw [hrs] at hs1 hca hQs
    dsimp only at hs1 hca hQs
    have hap0 := hF.app (Q i) s
    have hpl0 := hF.plus (Q i) s
    rw [← hQs] at hap0 hpl0
    unfold ownI at hap0 hpl0
    have hr1 := roFI3 r 0 s
    unfold setR at hs1 hr1
    generalize s.map i64 = sa at *
    have hsl : Ω.len sa ≤ sa.length := by subst hΩ; exact Nat.le_refl _
    have htks : Ω.take (Ω.len sa) sa = sa := takeAll hΩ _
    refine ⟨⟨nnI hΩ⟩, _, rdI hΩ hgl' hn, ?_⟩
    cbv
    refine call_pure hΩ 4 hs1 rfl (fits _) hr1 rfl ?_
    cbv
    refine br (fun g => ?_) (fun g => ?_) <;> cbv
    · have g := neZt hΩ g
      rw [if_pos g] at hca
      refine ⟨VC_drawn htab hΩ hmo (by kernel_rfl) ?_⟩
      cbv
      exact hbad r (by rw [hGi, hca]) g
    have g := neZf hΩ g
    rw [if_neg (by omega)] at hca
    exact ⟨⟨rfl, hsl⟩, ⟨rfl, okAll rfl, by show (Ω.len (F (Q i)) + 1) * 24 ≤ 140737488355328; omega, by show Ω.len (F (Q i)) + 1 ≤ 9223372036854775807; omega⟩,
      i + 1, ⟨by omega, hGi.trans hca⟩, by omega, (Sbs.cut 1 rfl).trans (Sbs.mk rfl (by show [some (Row.mk 1 (Ω.app (Ω.take (Ω.len (F (Q i))) (F (Q i))) [A.sl true 1 (Ω.take (Ω.len sa) sa)]) false)] = _; rw [htks, hap0])
        ⟨rfl, rfl, congrArg (A.vw 0 0) (by show Ω.plus (Ω.len (F (Q i))) (Ω.len [A.sl true 1 (Ω.take (Ω.len sa) sa)]) = _; rw [htks]; exact hpl0), rfl, incI hΩ (by omega), trivial⟩)⟩
  · replace h := geI hΩ h
    obtain rfl : i = gs.length := by omega
    rw [hok (hGi.trans hce)]
    exact ⟨⟨rfl, hle⟩, .of (by show A.tup [.sl true 1 (Ω.take (Ω.len (F (Q gs.length))) (F (Q gs.length))), i64 0] = _; rw [htk])⟩
end Go.Proofs.YtidlnilcdmhkiaaGreatDoor

/- Regions that draw their order, taken by a plan, rows or none: operations that only read what may be read by all, calls, orders, guards. Plain theorems, no condition. -/
set_option linter.unusedVariables false
set_option linter.unusedSimpArgs false
namespace Go.Fw
section
variable {P : Program} {T : Nat → Option TI} {S : State} {Ω : Opq}
theorem VOR_extract {o : Oper} {rs : List Nat} {x : Operand} {i : Nat} {xs : List A} {z : A} (ho : o.op = .extract x i) (hx : okO x = true) (he : ev S x = .tup xs) (hz : xs[i]? = some z) : VOR P o S rs z := by
  refine fun E G gs a w hi => ?_
  have h1 := ev_rel hi x hx
  rw [he] at h1
  obtain ⟨cs, hv, hr⟩ := tup_inv h1
  obtain ⟨v, hv1, hv2⟩ := hr.get i z hz
  have hv1' : cs[i]? = some v := by simpa using hv1
  exact ⟨v, fun w' hw' => by simp [execOp, ho, hv, Instr.extract, hv1'], hv2⟩
theorem vExtractR_ok {o : Oper} {rs : List Nat} {k : A → Prop} {x : Operand} {i : Nat} (ho : o.op = .extract x i) (h : vExtract (ev S x) i k) : ∃ z, VOR P o S rs z ∧ k z := by
  have hk : okO x = true := by cases x <;> rfl
  unfold vExtract at h
  split at h <;> try exact h.elim
  rename_i xs he
  split at h <;> try exact h.elim
  rename_i z hz
  exact ⟨z, VOR_extract ho hk he hz, h⟩
def vEOp (Ω : Opq) (T : Nat → Option TI) (o : Oper) (S : State) (k : A → Prop) : Prop :=
  match o.op with
  | .extract x i => vExtract (ev S x) i k
  | _ => vROp Ω T [] o S k
theorem vEOp_ok (hT : TabOK P T) {o : Oper} {k : A → Prop} (h : vEOp std T o S k) : ∃ z, VOR P o S [] z ∧ k z := by
  unfold vEOp at h
  split at h
  · rename_i ho; exact vExtractR_ok ho h
  · exact vROp_ok hT h
def vPl (Ω : Opq) (P : Program) (T : Nat → Option TI) (ops : List Oper) : Pln → Option Nat → State → (State → Prop) → Prop
  | .fin, _, S, K => K S
  | .q n p, mv, S, K => (match ops[n]? with
    | some o => vGd ops o S (fun S => vEOp Ω T o S fun z => vPl Ω P T ops p mv (S.put o.dst z) K) (fun S => vPl Ω P T ops p mv (S.put o.dst (.tup [])) K)
    | none => False)
  | .s n p, mv, S, K => (match ops[n]? with
    | some o => vGd ops o S (fun S => vOp Ω P T mv o S fun S' => vPl Ω P T ops p (madeBy o) S' K) (fun S => vPl Ω P T ops p none (S.put o.dst (.tup [])) K)
    | none => False)
  | .two n p m r, mv, S, K => (match ops[n]?, ops[m]? with
    | some o, some o' => vGd ops o S (fun S => vOp Ω P T mv o S fun S' => vPl Ω P T ops p (madeBy o) S' K) (fun S => vPl Ω P T ops p none (S.put o.dst (.tup [])) K) ∧
        vGd ops o' S (fun S => vOp Ω P T mv o' S fun S' => vPl Ω P T ops r (madeBy o') S' K) (fun S => vPl Ω P T ops r none (S.put o'.dst (.tup [])) K)
    | _, _ => False)
theorem pl_ok (hT : TabOK P T) {ops : List Oper} {E0 : Env P} (hsel : Region.noSelect ops.toArray = true) {K : State → Prop} : ∀ (p : Pln) (l : Array Bool) (mv : Option Nat) (S : State) (a : Act) (w : World) (E : Env P) (Sc : World → Prop), planB ops.toArray p l = true →
    vPl std P T ops p mv S K → SInv E S a w → (∀ S a w, SInv E S a w → SInv E0 S a w) → (∀ S a w, SInv E S a w → Sc w) →
    wpAnyH P .any ops.toArray (fun e a' w' => e = .normal ∧ ∃ S', SInv E0 S' a' w' ∧ K S') Sc p.depth l a w
  | .fin, l, mv, S, a, w, E, Sc, hB, h, hs, hb, hSc => ⟨by simpa [planB] using hB, rfl, S, hb _ _ _ hs, h⟩
  | .q n p, l, mv, S, a, w, E, Sc, hB, h, hs, hb, hSc => by
    simp only [planB, Bool.and_eq_true] at hB
    unfold vPl at h
    split at h <;> try exact h.elim
    rename_i o ho
    obtain ⟨hd, G, gs, hi⟩ := hs
    obtain ⟨S', hrows, hi', hX⟩ := vGd_ok h hi
    have hag : ∀ S2 a2 w2, SInv (envAt E G gs S' w) S2 a2 w2 → Agree G w w2 := fun S2 a2 w2 ⟨_, G2, gs2, hi2⟩ => hi'.agree hi2
    have hback : ∀ S2 a2 w2, SInv (envAt E G gs S' w) S2 a2 w2 → SInv E S2 a2 w2 := fun S2 a2 w2 ⟨h1, G2, gs2, hi2⟩ => ⟨h1, G2, gs2, hi'.back hi2⟩
    refine wpAnyH_mono (Sc := fun w' => Sc w' ∧ Agree G w w') (fun _ h => h.1) _ _ _ _ ?_
    have hself : Sc w ∧ Agree G w w := ⟨hSc _ _ _ ⟨hd, G, gs, hi⟩, fun _ _ => rfl⟩
    have ho' : ops.toArray[n]? = some o := by simpa using ho
    rcases hX with ⟨hw, hv⟩ | ⟨hw, hv⟩
    · obtain ⟨z, h1, h2⟩ := vEOp_ok hT hv
      obtain ⟨v, h3, h4⟩ := h1 E G gs a w hi'
      refine wpAnyH_take (oi := o) (v := v) ho' hsel hB.1.2 hB.1.1 (fun c a w h => absurd h.1 (by simp)) (.inl ⟨hw, fun w' hw' => h3 w' fun b hb => hw'.2 b (hb.elim id fun ⟨r, hr, _⟩ => by cases hr)⟩) hself ?_
      exact pl_ok hT hsel p _ mv _ _ w (envAt E G gs S' w) _ hB.2 h2 ⟨by rw [put_defers]; exact hd, G, gs, envAt_put E G gs S' w o.dst z ▸ (hi'.put h4 o.dst).at⟩ (fun S a w h => hb _ _ _ (hback _ _ _ h)) (fun S a w h => ⟨hSc _ _ _ (hback _ _ _ h), hag _ _ _ h⟩)
    · refine wpAnyH_take (oi := o) (v := undef) ho' hsel hB.1.2 hB.1.1 (fun c a w h => absurd h.1 (by simp)) (.inr ⟨hw, rfl⟩) hself ?_
      exact pl_ok hT hsel p _ mv _ _ w (envAt E G gs S' w) _ hB.2 hv ⟨by rw [put_defers]; exact hd, G, gs, envAt_put E G gs S' w o.dst (.tup []) ▸ (hi'.put (tup_undef _ _ _) o.dst).at⟩ (fun S a w h => hb _ _ _ (hback _ _ _ h)) (fun S a w h => ⟨hSc _ _ _ (hback _ _ _ h), hag _ _ _ h⟩)
  | .s n p, l, mv, S, a, w, E, Sc, hB, h, hs, hb, hSc => by
    simp only [planB, Bool.and_eq_true, decide_eq_true_eq] at hB
    unfold vPl at h
    split at h <;> try exact h.elim
    rename_i o ho
    refine wpAnyH_all hB.1 (by simp) fun i hi => ?_
    obtain rfl : i = n := by simpa using hi
    exact plan_step hT (X := fun o S' => vPl std P T ops p (madeBy o) S' K) ho h hs (fun S' a' w' hK hs' => ⟨hSc _ _ _ hs', pl_ok hT hsel p _ _ S' a' w' E Sc hB.2 hK hs' hb hSc⟩)
      fun S' hK hs' => ⟨hSc _ _ _ hs', pl_ok hT hsel p _ _ _ _ w E Sc hB.2 hK (skip_put hs' o.dst) hb hSc⟩
  | .two n p m r, l, mv, S, a, w, E, Sc, hB, h, hs, hb, hSc => by
    simp only [planB, Bool.and_eq_true, decide_eq_true_eq] at hB
    unfold vPl at h
    split at h <;> try exact h.elim
    rename_i o o' ho ho'
    refine wpAnyH_all hB.1.1.1 (by simp) fun i hi => ?_
    have hin : i = n ∨ i = m := by simpa using hi
    rcases hin with rfl | rfl
    · exact plan_step hT (X := fun o S' => vPl std P T ops p (madeBy o) S' K) ho h.1 hs (fun S' a' w' hK hs' => ⟨hSc _ _ _ hs', pl_ok hT hsel p _ _ S' a' w' E Sc hB.1.2 hK hs' hb hSc⟩)
        fun S' hK hs' => ⟨hSc _ _ _ hs', pl_ok hT hsel p _ _ _ _ w E Sc hB.1.2 hK (skip_put hs' o.dst) hb hSc⟩
    · have := plan_step (Q := fun e a' w' => e = .normal ∧ ∃ S', SInv E0 S' a' w' ∧ K S') (K' := fun a' w' => Sc w' ∧ wpAnyH P .any ops.toArray (fun e a' w' => e = .normal ∧ ∃ S', SInv E0 S' a' w' ∧ K S') Sc r.depth (l.setIfInBounds i true) a' w') hT (X := fun o S' => vPl std P T ops r (madeBy o) S' K) ho' h.2 hs (fun S' a' w' hK hs' => ⟨hSc _ _ _ hs', pl_ok hT hsel r _ _ S' a' w' E Sc hB.2 hK hs' hb hSc⟩)
        fun S' hK hs' => ⟨hSc _ _ _ hs', pl_ok hT hsel r _ _ _ _ w E Sc hB.2 hK (skip_put hs' o'.dst) hb hSc⟩
      rw [← hB.1.1.2] at this
      exact this
/-- A region that draws its order, by a plan; there may be rows. -/
theorem VC_pl (hT : TabOK P T) (hΩ : Ω = std) (hm : P.follows .mixedOrders = true) (p : Pln) {id : Nat} {ops : Array Oper} {K : Exit → State → Prop} (hB : planOK ops p = true)
    (h : vPl Ω P T ops.toList p none S (K .normal)) : VC P (.region id ops true) S K := by
  subst hΩ
  intro E a w hs
  have hops : ops = ops.toList.toArray := by simp
  rw [hops] at hB ⊢
  obtain ⟨hd, G, gs, hi⟩ := hs
  simp only [planOK, Bool.and_eq_true, decide_eq_true_eq] at hB
  obtain ⟨⟨hsel, hsz⟩, hB⟩ := hB
  have hw1 : Go.RowKit.Below w.heap.size w { w with drawn := w.drawn + 1 } := ⟨rfl, rfl, rfl, Nat.le_refl _, fun _ _ => rfl⟩
  have hi1 : Inv E G gs S a.tmps { w with drawn := w.drawn + 1 } := hi.below hw1 (fun _ h => h) (fun _ h => .inl h) (fun b h => Nat.lt_of_lt_of_le (hi.glt b h) hw1.size)
  have hwp : (Code.region id ops.toList.toArray true).wp P (fun e a' w' => e = .normal ∧ ∃ S', SInv E S' a' w' ∧ K .normal S') a w := by
    refine wp_region_held (S := fun _ => True) hm ?_
    have := pl_ok (E0 := E) hT hsel p _ none S a _ E (fun _ => True) hB h ⟨hd, G, gs, hi1⟩ (fun _ _ _ h => h) (fun _ _ _ _ => trivial)
    rw [hsz] at this
    exact this
  refine wp_mono hwp ?_
  rintro e a' w' ⟨rfl, S', hs', hK'⟩
  exact ⟨S', hs', hK'⟩
end
end Go.Fw

/- Walks: what a number alone has, in the implementation. Plain theorems. -/
set_option linter.unusedVariables false
set_option linter.unusedSimpArgs false
namespace Go.Proofs.YtidlnilcdmhkiaaGreatDoor
open Go Go.Fw Go.Sort
set_option maxRecDepth 100000
theorem brT {p : Bool} {X Y : Prop} (h : p = true) (hx : X) : match (generalizing := false) p with | true => X | false => Y := br (fun _ => hx) fun g => by rw [h] at g; cases g
theorem brF {p : Bool} {X Y : Prop} (h : p = false) (hy : Y) : match (generalizing := false) p with | true => X | false => Y := br (fun g => by rw [h] at g; cases g) fun _ => hy
theorem eqT {Ω : Opq} (hΩ : Ω = std) {x y : Int} (h : x = y) : Ω.cmp .eql x y = true := by subst hΩ; subst h; show decide (x = x) = true; simp
theorem eqF {Ω : Opq} (hΩ : Ω = std) {x y : Int} (h : x ≠ y) : Ω.cmp .eql x y = false := by subst hΩ; exact decide_eq_false h
theorem neT {Ω : Opq} (hΩ : Ω = std) {x y : Int} (h : x ≠ y) : Ω.cmp .neq x y = true := by subst hΩ; show (!decide (x = y)) = true; simp [h]
theorem neF {Ω : Opq} (hΩ : Ω = std) {x y : Int} (h : x = y) : Ω.cmp .neq x y = false := by subst hΩ; subst h; show (!decide (x = x)) = false; simp
theorem itT {Ω : Opq} (hΩ : Ω = std) {x y c : Bool} (h : x = c) : Ω.ite true x y = c := by subst hΩ; exact h
theorem bthC_ok {c : List Pck} {x : Dsk} (hx : x.Fit) (h : bthC c x = 0) : catF c = 0 ∧ x.Ok := by
  unfold bthC at h
  split at h
  · rename_i h1; exact absurd h h1
  · rename_i h1; exact ⟨by simpa using h1, hx.ok h⟩
/-- How much a number alone has, as the implementation reckons it. -/
def gnIv (c : List Pck) (l : List Fil) (n : Int) : Int := bytF l (((pgs c l [n]).filter fun p => !(pgs c l (othF l n)).any (· == p)) ++ [genB n])
def gnI (c : List Pck) (x : Dsk) (n : Int) : Int × Int :=
  if bthC c x ≠ 0 then (bthC c x, 0) else if (gensF x.f).any (· == n) = false then (4, 0) else if curF x.f = n then (6, 0) else
  if pgsC c x.f (gensF x.f) ≠ 0 then (pgsC c x.f (gensF x.f), 0) else (0, gnIv c x.f n)
theorem pgs_len {c : List Pck} {l : List Fil} {g : List Int} (h : c.length ≤ 24) : (pgs c l g).length ≤ 24 * g.length := by
  unfold pgs
  split
  · refine Nat.le_trans (compS_len _) ?_
    rw [sortS_len]
    exact Nat.le_trans pgsP_len (Nat.mul_le_mul_right _ h)
  · exact Nat.zero_le _
theorem c_GainOfBad (c : List Pck) (x : Dsk) (n : Int) (hl : c.length ≤ 1048576) (ho : ∀ o ∈ c, o.Small) (hx : x.Fit) (hb : bthC c x ≠ 0) : PCtr PP n_impl_GainOf [encP c, x.enc false false, i64 n] (.agg [i64 (bthC c x), i64 0]) := by
  obtain ⟨Ω, hΩ⟩ : ∃ Ω, Ω = std := ⟨_, rfl⟩
  have h1 := c_bothCode c x hl ho hx
  have h2 := c_currentB x hx
  generalize curV (datB x.f curP) (hasB' x.f curP) (gensF x.f) = cv at *
  generalize (if curK (datB x.f curP) (hasB' x.f curP) (gensF x.f) then (0 : Int) else 4) = ck at *
  generalize bthC c x = b at *
  unfold encP Dsk.enc at *
  generalize x.f.map (Fil.enc false) = xs at *
  generalize c.map (Pck.enc false) = cs at *
  have htab := tab
  have hmo := hmo
  refine PCtr.walk tab hΩ fn_impl_GainOf rfl ?_
  generalize PP = P at *
  cbv
  refine call_pure hΩ 4 h1 rfl (fits _) rfl rfl ?_
  cbv
  refine br (fun g => absurd (eqZt hΩ g) hb) (fun _ => ?_)
  cbv
  refine call_pure hΩ 4 h2 rfl (fits _) rfl rfl ?_
  cbv
  refine br (fun g => absurd (eqZt hΩ g) hb) (fun _ => ?_)
  cbv
  refine br (fun g => absurd (eqZt hΩ g) hb) (fun _ => ?_)
  cbv
  refine br (fun _ => ?_) (fun g => absurd (neZf hΩ g) hb)
  cbv
  exact .same


set_option maxHeartbeats 2000000 in
theorem c_GainOfGood (c : List Pck) (x : Dsk) (n : Int) (hl : c.length ≤ 1048576) (ho : ∀ o ∈ c, o.Small) (hb : bthC c x = 0) (hc : catF c = 0) (hx : x.Ok) : PCtr PP n_impl_GainOf [encP c, x.enc false false, i64 n] (.agg [i64 (gnI c x n).1, i64 (gnI c x n).2]) := by
  obtain ⟨Ω, hΩ⟩ : ∃ Ω, Ω = std := ⟨_, rfl⟩
  have h1 := c_bothCode c x hl ho hx.toFit
  rw [hb] at h1
  have h2 := c_current x hx
  have h3 := c_gens x hx.n hx.p
  have hgl := gensF_len x.f
  have hxn := hx.n120
  have h4 := c_ContainsI (gensF x.f) n (by omega)
  have h5 := c_pathsOfGens c x (gensF x.f) hl ho hc hx (by omega)
  have h6 := c_pathsOfGens c x [n] hl ho hc hx (by simp)
  have h7 := c_others x n hx.toFit
  have hol : (othF x.f n).length ≤ 120 := by unfold othF; exact Nat.le_trans (List.length_filter_le _ _) (by omega)
  have h8 := c_pathsOfGens c x (othF x.f n) hl ho hc hx (by omega)
  have h24 := (cat_ok hc).1
  have pl1 := pgs_len (l := x.f) (g := [n]) h24
  have pl2 := pgs_len (l := x.f) (g := othF x.f n) h24
  have pl1 : (pgs c x.f [n]).length ≤ 24 := pl1
  have h9 := c_DeleteFuncS (pgs c x.f [n]) (by omega) n_impl_GainOf_1 [.rp [.sl false 1 ((pgs c x.f (othF x.f n)).map str)]] (fun p => (pgs c x.f (othF x.f n)).any (· == p)) ⟨fun S k => rfl, rfl, fun _ => rfl, fun p hp => c_GainOf1 _ p (by omega)⟩
  have n1 : (gensF x.f).any (· == n) = true → 1 ≤ n := fun h => by
    obtain ⟨m, hm, he⟩ := List.any_eq_true.1 h
    have := gensF_ge hm
    rw [beq_iff_eq.1 he] at this
    exact this.1
  have hgp : (gensF x.f).any (· == n) = true → PCtr PP n_impl_genPath [i64 n] (str (genB n)) := fun h => by
    obtain ⟨m, hm, he⟩ := List.any_eq_true.1 h
    have := gensF_ge hm
    rw [beq_iff_eq.1 he] at this
    exact c_genPath n this.1 this.2
  obtain ⟨M, hM⟩ : ∃ M, M = (pgs c x.f [n]).filter fun p => !(pgs c x.f (othF x.f n)).any (· == p) := ⟨_, rfl⟩
  have hMl : M.length ≤ 24 := by rw [hM]; exact Nat.le_trans (List.length_filter_le _ _) pl1
  have h10 := c_bytesAt x (M ++ [genB n]) hx.toFit hx.o (by simp; omega)
  have e : gnI c x n = if (gensF x.f).any (· == n) = false then (4, 0) else if curF x.f = n then (6, 0) else if pgsC c x.f (gensF x.f) ≠ 0 then (pgsC c x.f (gensF x.f), 0) else (0, bytF x.f (M ++ [genB n])) := by
    unfold gnI gnIv
    rw [if_neg (by simp [hb]), hM]
  have r3 := roF_I (gensF x.f)
  have z3 : frz (.sl true 1 ((gensF x.f).map i64)) = .sl false 1 ((gensF x.f).map i64) := by rw [frz_sl, frz_I]
  have r7 := roF_I (othF x.f n)
  have z7 : frz (.sl true 1 ((othF x.f n).map i64)) = .sl false 1 ((othF x.f n).map i64) := by rw [frz_sl, frz_I]
  have rS : ∀ (l : List (List UInt8)) k, roFree (.tup [.sl true 1 (l.map str), i64 k]) = true := fun l k => by
    have := roF_S l
    rw [roFree_tup]; simp only [List.all_cons, List.all_nil, this]; rfl
  have zS : ∀ (l : List (List UInt8)) k, frz (.tup [.sl true 1 (l.map str), i64 k]) = .tup [.sl false 1 (l.map str), i64 k] := fun l k => by
    rw [frz_tup]; simp only [List.map_cons, List.map_nil, frz_sl, frz_S]; rfl
  have r5 := rS (pgs c x.f (gensF x.f)) (pgsC c x.f (gensF x.f))
  have z5 := zS (pgs c x.f (gensF x.f)) (pgsC c x.f (gensF x.f))
  have r6 := rS (pgs c x.f [n]) (pgsC c x.f [n])
  have r8 := rS (pgs c x.f (othF x.f n)) (pgsC c x.f (othF x.f n))
  have z8 := zS (pgs c x.f (othF x.f n)) (pgsC c x.f (othF x.f n))
  rw [← hM] at h9
  have r9 := roF_S M
  clear hM pl1 pl2 hol hgl hxn rS zS
  generalize pgs c x.f [n] = p1 at *
  generalize pgsC c x.f [n] = k1 at *
  generalize pgs c x.f (othF x.f n) = p2 at *
  generalize pgsC c x.f (othF x.f n) = k2 at *
  generalize pgs c x.f (gensF x.f) = p3 at *
  generalize pgsC c x.f (gensF x.f) = k3 at *
  generalize bytF x.f (M ++ [genB n]) = v at *
  generalize othF x.f n = g2 at *
  generalize curF x.f = cv at *
  generalize (gensF x.f).any (· == n) = b at *
  generalize gensF x.f = g at *
  rw [e]
  clear e
  obtain ⟨F, hF⟩ := grw hΩ str
  simp only [hF.eq] at *
  have e6 : A.sl false 1 ([n].map i64) = .sl false 1 [i64 n] := rfl
  rw [e6] at h6
  clear e6
  generalize g.map i64 = gl at *
  generalize g2.map i64 = gl2 at *
  have hFl := hF.len M
  have hFo := hF.lo M
  have hFe := hF.le M
  have hFa := hF.app M (genB n)
  have hFp := hF.plus M (genB n)
  have hF2 := hF.len (M ++ [genB n])
  have hF3 := hF.lo (M ++ [genB n])
  have hFz : (F (M ++ [genB n])).map frz = F (M ++ [genB n]) := by rw [← hF.eq, frz_S]
  have hlo1 := hF.lo p1
  generalize F M = fM at *
  generalize F (M ++ [genB n]) = fN at *
  generalize F p1 = f1 at *
  generalize F p2 = f2 at *
  generalize F p3 = f3 at *
  generalize genB n = gb at *
  obtain ⟨R, hR⟩ : ∃ R : Int × Int, R = if b = false then (4, 0) else if cv = n then (6, 0) else if k3 ≠ 0 then (k3, 0) else (0, v) := ⟨_, rfl⟩
  rw [← hR]
  unfold encP Dsk.enc at *
  generalize x.f.map (Fil.enc false) = xs at *
  generalize c.map (Pck.enc false) = cs at *
  generalize x.bg = v1 at *
  generalize x.wr = v2 at *
  generalize x.st = v3 at *
  generalize x.dn = v4 at *
  obtain ⟨bad, hbad⟩ : ∃ bad : Int, bad = if cv = 0 then 4 else 0 := ⟨_, rfl⟩
  rw [← hbad] at h2
  have cur1 : cv = 0 → bad = 4 := fun h => by rw [hbad, if_pos h]
  have cur2 : cv ≠ 0 → bad = 0 := fun h => by rw [hbad, if_neg h]
  clear hbad
  have R4 : b = false → A.agg [i64 R.1, i64 R.2] = .agg [i64 4, i64 0] := fun h => by rw [hR, if_pos h]
  have R6 : b = true → cv = n → A.agg [i64 R.1, i64 R.2] = .agg [i64 6, i64 0] := fun h h' => by rw [hR, if_neg (by simp [h]), if_pos h']
  have Rk : b = true → cv ≠ n → k3 ≠ 0 → A.agg [i64 R.1, i64 R.2] = .agg [i64 k3, i64 0] := fun h h' h'' => by rw [hR, if_neg (by simp [h]), if_neg h', if_pos h'']
  have Rv : b = true → cv ≠ n → k3 = 0 → A.agg [i64 R.1, i64 R.2] = .agg [i64 0, i64 v] := fun h h' h'' => by rw [hR, if_neg (by simp [h]), if_neg h', if_neg (by simp [h''])]
  clear hR
  generalize A.agg [i64 R.1, i64 R.2] = RA at *
  have htab := tab
  have hmo := hmo
  refine PCtr.walk tab hΩ fn_impl_GainOf rfl ?_
  generalize PP = P at *
  cbv
  refine call_pure hΩ 4 h1 rfl (fits _) rfl rfl ?_
  cbv
  refine brT (eqT hΩ rfl) ?_
  cbv
  refine call_pf hΩ 4 h3 rfl (fits _) r3 z3 rfl ?_
  cbv
  refine call_pure hΩ 4 h4 rfl (fits _) rfl rfl ?_
  cbv
  refine br (fun q => ?_) (fun q => ?_) <;> cbv
  · have q := notA hΩ (iteA hΩ q)
    refine call_pure hΩ 4 h2 rfl (fits _) rfl rfl ?_
    cbv
    repeat' (first | (refine br (fun hh => ?_) (fun hh => ?_) <;> (repeat' (first | replace hh := iteA hΩ hh | replace hh := iteB hΩ hh)) <;> (first | replace hh := neZt hΩ hh | replace hh := neZf hΩ hh | replace hh := eqZt hΩ hh | replace hh := eqZf hΩ hh | replace hh := ltZt hΩ hh | replace hh := ltZf hΩ hh | replace hh := geZt hΩ hh | replace hh := geZf hΩ hh | replace hh := gtZt hΩ hh | replace hh := gtZf hΩ hh | replace hh := leZt hΩ hh | replace hh := leZf hΩ hh | replace hh := notA hΩ hh | replace hh := notB hΩ hh | skip) <;> (first | (exfalso; (first | omega | (cases hh; done) | (simp_all; done))) | cbv)))
    rw [R4 q]
    exact .same
  have q := notB hΩ (iteA hΩ q)
  refine call_pure hΩ 4 h2 rfl (fits _) rfl rfl ?_
  cbv
  have n1 := n1 q
  refine brT (eqT hΩ rfl) ?_
  cbv
  have k60 : Ω.cmp .eql 6 0 = false := by subst hΩ; rfl
  by_cases hcn : cv = n
  · have hb0 := cur2 (by omega)
    refine brT (itT hΩ (eqT hΩ hb0)) ?_
    cbv
    refine brT (itT hΩ (eqT hΩ hcn)) ?_
    cbv
    refine brF (eqF hΩ (by decide)) ?_
    cbv
    refine brT (neT hΩ (by decide)) ?_
    cbv
    rw [R6 q hcn]
    exact .same
  replace Rk := Rk q hcn
  replace Rv := Rv q hcn
  have hcc : (cv = 0 ∧ bad = 4) ∨ (cv ≠ 0 ∧ bad = 0) := by
    by_cases hc0 : cv = 0
    · exact .inl ⟨hc0, cur1 hc0⟩
    · exact .inr ⟨hc0, cur2 hc0⟩
  have hgp := hgp q
  have hrow : Ω.app (Ω.take (Ω.len fM) fM) [str gb] = fN := hFa
  have hlN : Ω.plus (Ω.len fM) (Ω.len [str gb]) = fN.length := by rw [hFp, hF3]
  rcases hcc with ⟨hc0, hb0⟩ | ⟨hc0, hb0⟩
  refine brF (itT hΩ (eqF hΩ (by omega))) ?_
  cbv
  rotate_left
  refine brT (itT hΩ (eqT hΩ hb0)) ?_
  cbv
  refine brF (itT hΩ (eqF hΩ hcn)) ?_
  cbv
  all_goals refine brT (eqT hΩ rfl) ?_
  all_goals cbv
  all_goals refine ⟨VC.sub (VC_pl htab hΩ hmo (.qs [0, 1, 2] (.s 3 (.s 4 (.qs [5, 6, 7, 8] .fin)))) (by kernel_rfl) ?_) ((Sbs.unlk (r := 0) rfl rfl).trans (Sbs.thaw0 (r := 0) rfl rfl rfl))⟩
  all_goals cbv
  all_goals refine call_pf hΩ 4 h3 rfl (fits _) r3 z3 rfl ?_
  all_goals cbv
  all_goals refine call_pf hΩ 4 h5 rfl (fits _) r5 z5 rfl ?_
  all_goals cbv
  all_goals refine br (fun g => ?_) (fun g => ?_)
  all_goals cbv
  all_goals try (rw [Rk (neZt hΩ g)]; exact .same)
  all_goals rw [Rv (neZf hΩ g)]
  all_goals refine call_pure hΩ 4 h6 (mapO3 rfl rfl (ro_vw rfl rfl rfl)) (fits _) r6 rfl ?_
  all_goals cbv
  all_goals refine ⟨VC_pl htab hΩ hmo (.qs [0, 1, 2, 3] (.two 4 (.two 5 (.qs [6, 7, 8] (.s 9 (.s 10 (.q 11 .fin)))) 9 (.s 5 (.qs [6, 7, 8] (.s 10 (.q 11 .fin))))) 9 (.s 4 (.s 5 (.qs [6, 7, 8] (.s 10 (.q 11 .fin))))))) (by kernel_rfl) ?_⟩
  all_goals cbv
  all_goals repeat' (first
    | (refine call_pf hΩ 4 h7 rfl (fits _) r7 z7 rfl ?_; cbv)
    | (refine call_pf hΩ 4 h8 rfl (fits _) r8 z8 rfl ?_; cbv)
    | (refine call_eat2 (row := ⟨1, f1, false⟩) hΩ 8 h9 rfl rfl hlo1 (ro_clo1 (mapOne (roPt rfl rfl))) (fits _) r9 rfl ?_; cbv)
    | (refine ⟨VC_pl htab hΩ hmo (.qs [0, 1, 2] (.s 3 (.s 4 (.s 5 (.s 6 (.s 7 (.s 8 .fin))))))) (by kernel_rfl) ?_⟩; cbv)
    | (refine call_pure hΩ 4 hgp rfl (fits _) rfl rfl ?_; cbv)
    | (refine call_pure hΩ 4 h10 (mapO2 rfl (ro_vw (ys := Ω.app (Ω.take (Ω.len fM) fM) [str gb]) (zs := fN) rfl (by rw [hrow]; exact hlN) (by rw [hrow]; exact hFz))) (fits _) rfl rfl ?_; cbv)
    | (refine And.intro ⟨rfl, okAll rfl, by show (Ω.len fM + 1) * 16 ≤ 140737488355328; omega, by show Ω.len fM + 1 ≤ 9223372036854775807; omega⟩ ?_; cbv)
    | exact ⟨rfl, hFe⟩
    | exact FitX.same
    | exact .of rfl
    | (refine And.intro ?_ ?_))
end Go.Proofs.YtidlnilcdmhkiaaGreatDoor

/- Walks: what a number alone has, in the spec. Plain theorems. -/
set_option linter.unusedVariables false
set_option linter.unusedSimpArgs false
namespace Go.Proofs.YtidlnilcdmhkiaaGreatDoor
open Go Go.Fw Go.Sort
set_option maxRecDepth 100000
/-- Is a package in the set of another number. -/
def shrG (c : List Pck) (l : List Fil) (n k : Int) (g : List Int) : Bool := g.any fun m => !decide (m = n) && (setW c l m).2.any (· == k)
def gnSt (c : List Pck) (l : List Fil) (n : Int) (s : List Int) : Int := ((datF l (genB n)).length : Int) + ((s.map fun k => if shrG c l n k (gensF l) then 0 else (datF l (pathK (pk c k))).length).sum : Nat)
def gnS (c : List Pck) (x : Dsk) (n : Int) : Int × Int :=
  if bthC c x ≠ 0 then (bthC c x, 0) else if (gensF x.f).any (· == n) = false then (4, 0) else if curF x.f = n then (6, 0) else
  if pgsC c x.f (gensF x.f) ≠ 0 then (pgsC c x.f (gensF x.f), 0) else (0, gnSt c x.f n (setW c x.f n).2)
theorem gnSt_at {c : List Pck} {l : List Fil} {n : Int} {s : List Int} {i : Nat} {k : Int} (h : s[i]? = some k) : gnSt c l n (s.take (i + 1)) = gnSt c l n (s.take i) + if shrG c l n k (gensF l) then 0 else ((datF l (pathK (pk c k))).length : Int) := by
  unfold gnSt
  rw [List.take_add_one, h, List.map_append, List.sum_append]
  by_cases hs : shrG c l n k (gensF l) = true
  · simp [hs]
  · simp [hs]; omega
theorem gnSt_b {c : List Pck} {l : List Fil} {n : Int} (h : ∀ f ∈ l, f.d.length ≤ 4000) : ∀ s : List Int, 0 ≤ gnSt c l n s ∧ gnSt c l n s ≤ (4000 * (s.length + 1) : Nat)
  | [] => by have := datF_len h (genB n); simp [gnSt]; omega
  | k :: s => by
    have h1 := gnSt_b (c := c) (n := n) h s
    have h2 := datF_len h (pathK (pk c k))
    have e : gnSt c l n (k :: s) = gnSt c l n s + ((if shrG c l n k (gensF l) then 0 else (datF l (pathK (pk c k))).length : Nat) : Int) := by unfold gnSt; simp; omega
    rw [e, List.length_cons]
    split <;> omega
theorem idx_at {l : List Int} {n : Int} (h : l.any (· == n) = true) : 0 ≤ idxFrom (fun c => decide (c = n)) 0 l ∧ l[(idxFrom (fun c => decide (c = n)) 0 l).toNat]? = some n := by
  have hn : 0 ≤ idxFrom (fun c => decide (c = n)) 0 l := by
    have := idx_any (fun c => decide (c = n)) l
    have h2 : (l.any fun c => decide (c = n)) = true := by
      obtain ⟨m, hm, he⟩ := List.any_eq_true.1 h
      exact List.any_eq_true.2 ⟨m, hm, by simpa using he⟩
    rw [h2] at this
    exact of_decide_eq_true this
  obtain ⟨j, o, h1, h2, h3⟩ := idxFrom_spec hn
  refine ⟨hn, ?_⟩
  rw [h3, Nat.zero_add, Int.toNat_natCast, h1]
  exact congrArg some (of_decide_eq_true h2)
theorem c_specGainBad (c : List Pck) (x : Dsk) (n : Int) (hl : c.length ≤ 1048576) (ho : ∀ o ∈ c, o.Small) (hx : x.Fit) (hb : bthC c x ≠ 0) : PCtr PP n_spec_GainOf [encP c, x.enc false false, i64 n] (.agg [i64 (bthC c x), i64 0]) := by
  obtain ⟨Ω, hΩ⟩ : ∃ Ω, Ω = std := ⟨_, rfl⟩
  have h1 := c_l8Asked c x hl ho hx
  generalize bthC c x = b at *
  unfold encP Dsk.enc at *
  generalize x.f.map (Fil.enc false) = xs at *
  generalize c.map (Pck.enc false) = cs at *
  have htab := tab
  have hmo := hmo
  refine PCtr.walk tab hΩ fn_spec_GainOf rfl ?_
  generalize PP = P at *
  cbv
  refine call_pure hΩ 4 h1 rfl (fits _) rfl rfl ?_
  cbv
  refine brT (neT hΩ hb) ?_
  cbv
  exact .same


set_option maxHeartbeats 2000000 in
theorem c_specGainGood (c : List Pck) (x : Dsk) (n : Int) (hl : c.length ≤ 1048576) (ho : ∀ o ∈ c, o.Small) (hb : bthC c x = 0) (hc : catF c = 0) (hx : x.Ok) : PCtr PP n_spec_GainOf [encP c, x.enc false false, i64 n] (.agg [i64 (gnS c x n).1, i64 (gnS c x n).2]) := by
  obtain ⟨Ω, hΩ⟩ : ∃ Ω, Ω = std := ⟨_, rfl⟩
  have h1 := c_l8Asked c x hl ho hx.toFit
  rw [hb] at h1
  have h2 := c_l8Current x hx.toFit hx.o
  have h3 := c_l8Gens x hx.n hx.p
  have hgl := gensF_len x.f
  have hxn := hx.n120
  have h4 := c_l1Has (gensF x.f) n (by omega)
  have h5 := c_l14Sets c x hl hx
  have h6 := c_l13Place (gensF x.f) n (by omega)
  have h7 : ∀ p, PCtr PP n_spec_l14Size [x.see, str p] (i64 ((datF x.f p).length : Int)) := fun p => c_l14Size x p hx.toFit hx.o
  have hdl := datF_len hx.d4
  obtain ⟨h24, hpf⟩ := cat_ok hc
  have hgp : (gensF x.f).any (· == n) = true → PCtr PP n_spec_GenPath [i64 n] (str (genB n)) := fun h => by
    obtain ⟨m, hm, he⟩ := List.any_eq_true.1 h
    have := gensF_ge hm
    rw [beq_iff_eq.1 he] at this
    exact c_GenPath n this.1 this.2
  have hcat : ∀ k, inB k 0 ((c.length : Int) - 1) = true → 0 ≤ k ∧ ∃ n v1 v2 v3 sz ps ds bs, (c.map (Pck.enc false))[k.toNat]? = some (.agg [str n, i64 v1, i64 v2, i64 v3, i64 sz, .sl false 1 ps, .sl false 1 ds, .sl false 7 bs]) ∧ PCtr PP n_spec_l8Path [.agg [str n, i64 v1, i64 v2, i64 v3, i64 sz, .sl false 1 ps, .sl false 1 ds, .sl false 7 bs]] (str (pathK (pk c k))) := fun k h => by
    obtain ⟨h0, h1, h2, h3⟩ := pk_at h
    obtain ⟨g1, g2, g3⟩ := packF_ok (hpf _ h3)
    have := nameF_len g1
    obtain ⟨ps, ds, bs, hen, hp, hd, hb⟩ := enc_raw (pk c k)
    have h4 := c_l8Path (pk c k) (by omega) g2
    have h5 : (c.map (Pck.enc false))[k.toNat]? = some ((pk c k).enc false) := by rw [List.getElem?_map, h2]; rfl
    rw [hen] at h4 h5
    exact ⟨h0, _, _, _, _, _, _, _, _, h5, h4⟩
  obtain ⟨ms, hms⟩ : ∃ ms, ms = (setW c x.f n).2 := ⟨_, rfl⟩
  have htold := setW_told c x.f n
  rw [← hms] at htold
  have hml := htold.len
  obtain ⟨Sm, hSm⟩ : ∃ Sm : Nat → Int, ∀ i, Sm i = gnSt c x.f n (ms.take i) := ⟨_, fun _ => rfl⟩
  have hS0 : Sm 0 = ((datF x.f (genB n)).length : Int) := by rw [hSm]; simp [gnSt]
  have hSs : ∀ i k, ms[i]? = some k → Sm (i + 1) = Sm i + if shrG c x.f n k (gensF x.f) then 0 else ((datF x.f (pathK (pk c k))).length : Int) := fun i k h => by rw [hSm, hSm]; exact gnSt_at h
  have hSb : ∀ i, 0 ≤ Sm i ∧ Sm i ≤ 100000 := fun i => by
    rw [hSm]
    have := gnSt_b (c := c) (n := n) hx.d4 (ms.take i)
    rw [List.length_take] at this
    omega
  have e : gnS c x n = if (gensF x.f).any (· == n) = false then (4, 0) else if curF x.f = n then (6, 0) else if pgsC c x.f (gensF x.f) ≠ 0 then (pgsC c x.f (gensF x.f), 0) else (0, Sm ms.length) := by
    unfold gnS
    rw [if_neg (by simp [hb]), hSm, List.take_length, hms]
  have hsh : ∀ k j m, (gensF x.f)[j]? = some m → shrG c x.f n k ((gensF x.f).take (j + 1)) = (shrG c x.f n k ((gensF x.f).take j) || (!decide (m = n) && (setW c x.f m).2.any (· == k))) := fun k j m h => by
    unfold shrG; rw [List.take_add_one, h, List.any_append]; simp
  have hsh0 : ∀ k, shrG c x.f n k ((gensF x.f).take 0) = false := fun _ => rfl
  have hshn : ∀ k, shrG c x.f n k (gensF x.f) = shrG c x.f n k ((gensF x.f).take (gensF x.f).length) := fun k => by rw [List.take_length]
  have hidx := fun h => idx_at (l := gensF x.f) (n := n) h
  obtain ⟨sa, hsa⟩ : ∃ sa : List A, sa = (setsW c x.f (gensF x.f)).map fun s => .sl false 1 (s.map i64) := ⟨_, rfl⟩
  have hsat : ∀ (j : Nat) m, (gensF x.f)[j]? = some m → sa[j]? = some (.sl false 1 ((setW c x.f m).2.map i64)) := fun j m h => by
    rw [hsa]; unfold setsW; rw [List.map_map, List.getElem?_map, h]; rfl
  have h5' : pgsC c x.f (gensF x.f) = 0 → frz (.tup [.sl true 1 ((if pgsC c x.f (gensF x.f) = 0 then setsW c x.f (gensF x.f) else []).map ownI), i64 (pgsC c x.f (gensF x.f))]) = .tup [.sl false 1 sa, i64 0] := fun h => by
    rw [if_pos h, frz_tup]; simp only [List.map_cons, List.map_nil, frz_II, hsa, h]; rfl
  have h5n : pgsC c x.f (gensF x.f) ≠ 0 → frz (.tup [.sl true 1 ((if pgsC c x.f (gensF x.f) = 0 then setsW c x.f (gensF x.f) else []).map ownI), i64 (pgsC c x.f (gensF x.f))]) = .tup [.sl false 1 [], i64 (pgsC c x.f (gensF x.f))] := fun h => by
    rw [if_neg h, frz_tup]; simp only [List.map_cons, List.map_nil, frz_sl]; rfl
  have r5 : roFree (.tup [.sl true 1 ((if pgsC c x.f (gensF x.f) = 0 then setsW c x.f (gensF x.f) else []).map ownI), i64 (pgsC c x.f (gensF x.f))]) = true := by
    have := roF_II (if pgsC c x.f (gensF x.f) = 0 then setsW c x.f (gensF x.f) else [])
    rw [roFree_tup]; simp only [List.all_cons, List.all_nil, this]; rfl
  generalize (A.tup [.sl true 1 ((if pgsC c x.f (gensF x.f) = 0 then setsW c x.f (gensF x.f) else []).map ownI), i64 (pgsC c x.f (gensF x.f))]) = a5 at *
  have r3 := roF_I (gensF x.f)
  have z3 : frz (.sl true 1 ((gensF x.f).map i64)) = .sl false 1 ((gensF x.f).map i64) := by rw [frz_sl, frz_I]
  have hhas : ∀ m k, PCtr PP n_spec_l1Has [.sl false 1 ((setW c x.f m).2.map i64), i64 k] (boo ((setW c x.f m).2.any (· == k))) := fun m k => c_l1Has _ k (by have := (setW_told c x.f m).len; omega)
  obtain ⟨R, hR⟩ : ∃ R : Int × Int, R = gnS c x n := ⟨_, rfl⟩
  rw [← hR]
  rw [← hR] at e
  have R4 : (gensF x.f).any (· == n) = false → A.agg [i64 R.1, i64 R.2] = .agg [i64 4, i64 0] := fun h => by rw [e, if_pos h]
  have R6 : (gensF x.f).any (· == n) = true → n = curF x.f → A.agg [i64 R.1, i64 R.2] = .agg [i64 6, i64 0] := fun h h' => by rw [e, if_neg (by simp [h]), if_pos h'.symm]
  have Rk : (gensF x.f).any (· == n) = true → n ≠ curF x.f → pgsC c x.f (gensF x.f) ≠ 0 → A.agg [i64 R.1, i64 R.2] = .agg [i64 (pgsC c x.f (gensF x.f)), i64 0] := fun h h' h'' => by rw [e, if_neg (by simp [h]), if_neg (fun g => h' g.symm), if_pos h'']
  have Rv : (gensF x.f).any (· == n) = true → n ≠ curF x.f → pgsC c x.f (gensF x.f) = 0 → A.agg [i64 R.1, i64 R.2] = .agg [i64 0, i64 (Sm ms.length)] := fun h h' h'' => by rw [e, if_neg (by simp [h]), if_neg (fun g => h' g.symm), if_neg (by simp [h''])]
  have hgb : (gensF x.f).length ≤ 120 := by omega
  clear e hSm hsa hgl hpf hR
  obtain ⟨L, hL⟩ : ∃ L : List UInt8 → Int, ∀ p, L p = ((datF x.f p).length : Int) := ⟨_, fun _ => rfl⟩
  have hLb : ∀ p, 0 ≤ L p := fun p => by rw [hL]; omega
  simp only [← hL] at h7 hS0 hSs
  have hms' : (setW c x.f n).2 = ms := hms.symm
  clear hms hL hdl
  have hmsa : (gensF x.f).any (· == n) = true → 0 ≤ idxFrom (fun c => decide (c = n)) 0 (gensF x.f) ∧ sa[(idxFrom (fun c => decide (c = n)) 0 (gensF x.f)).toNat]? = some (.sl false 1 (ms.map i64)) := fun h => by
    obtain ⟨q1, q2⟩ := hidx h
    exact ⟨q1, by rw [hsat _ _ q2, hms']⟩
  clear hidx hms'
  generalize A.agg [i64 R.1, i64 R.2] = RA at *
  generalize idxFrom (fun c => decide (c = n)) 0 (gensF x.f) = pl at *
  generalize curF x.f = cv at *
  generalize pgsC c x.f (gensF x.f) = k3 at *
  generalize (gensF x.f).any (· == n) = b at *
  obtain ⟨SH, hSH⟩ : ∃ SH : Int → Nat → Bool, ∀ k j, SH k j = shrG c x.f n k ((gensF x.f).take j) := ⟨_, fun _ _ => rfl⟩
  simp only [← hSH] at hsh hsh0 hshn
  simp only [hshn] at hSs
  clear hSH hshn
  have hWw : ∀ m, ∃ s, (setW c x.f m).2 = s := fun m => ⟨_, rfl⟩
  obtain ⟨WB, hWB⟩ : ∃ WB : Int → Int → Bool, ∀ m k, WB m k = (setW c x.f m).2.any (· == k) := ⟨_, fun _ _ => rfl⟩
  obtain ⟨WA, hWA⟩ : ∃ WA : Int → List A, ∀ m, WA m = (setW c x.f m).2.map i64 := ⟨_, fun _ => rfl⟩
  simp only [← hWB] at hsh hhas
  simp only [← hWA] at hsat hhas
  clear hWw hWB hWA
  generalize gensF x.f = g at *
  obtain ⟨gl, hglq⟩ : ∃ gl, gl = g.map i64 := ⟨_, rfl⟩
  have hgll : gl.length = g.length := by rw [hglq, List.length_map]
  rw [← hglq] at h3 h4 h6 r3 z3
  obtain ⟨ma, hma⟩ : ∃ ma, ma = ms.map i64 := ⟨_, rfl⟩
  have hmal : ma.length = ms.length := by rw [hma, List.length_map]
  rw [← hma] at hmsa
  generalize genB n = gb at *
  unfold encP Dsk.enc Dsk.see at *
  generalize x.f.map (Fil.enc false) = xs at *
  obtain ⟨cl, hcl⟩ : ∃ cl : Int, cl = (c.length : Int) - 1 := ⟨_, rfl⟩
  rw [← hcl] at hcat
  have hin : ∀ k ∈ ms, inB k 0 cl = true := fun k h => by rw [hcl]; exact htold.at_ k h
  clear hcl htold
  generalize c.map (Pck.enc false) = cs at *
  generalize x.bg = v1 at *
  generalize x.wr = v2 at *
  generalize x.st = v3 at *
  generalize x.dn = v4 at *
  have htab := tab
  have hmo := hmo
  refine PCtr.walk tab hΩ fn_spec_GainOf rfl ?_
  generalize PP = P at *
  cbv
  refine call_pure hΩ 4 h1 rfl (fits _) rfl rfl ?_
  cbv
  refine brF (neF hΩ rfl) ?_
  cbv
  refine call_pf hΩ 4 h3 (mapO1 (roPt rfl rfl)) (fits _) r3 z3 rfl ?_
  cbv
  refine call_pure hΩ 4 h4 rfl (fits _) rfl rfl ?_
  cbv
  refine br (fun q => ?_) (fun q => ?_) <;> cbv
  · rw [R4 (notA hΩ q)]
    exact .same
  have q := notB hΩ q
  obtain ⟨hpl0, hpl1⟩ := hmsa q
  replace hgp := hgp q
  refine call_pure hΩ 4 h2 (mapO1 (roPt rfl rfl)) (fits _) rfl rfl ?_
  cbv
  refine br (fun q2 => ?_) (fun q2 => ?_) <;> cbv
  · rw [R6 q (eqZt hΩ q2)]
    exact .same
  have q2 := eqZf hΩ q2
  by_cases hk : k3 = 0
  rotate_left
  · refine call_pf hΩ 4 h5 (mapO2 rfl (roPt rfl rfl)) (fits _) r5 (h5n hk) rfl ?_
    cbv
    refine brT (neT hΩ hk) ?_
    cbv
    rw [Rk q q2 hk]
    exact .same
  rw [Rv q q2 hk]
  refine call_pf hΩ 4 h5 (mapO2 rfl (roPt rfl rfl)) (fits _) r5 (h5' hk) rfl ?_
  cbv
  refine brF (neF hΩ rfl) ?_
  cbv
  refine call_pure hΩ 4 h6 rfl (fits _) rfl rfl ?_
  cbv
  refine ⟨⟨hpl0⟩, _, hpl1, ?_⟩
  cbv
  refine call_pure hΩ 4 hgp rfl (fits _) rfl rfl ?_
  cbv
  refine call_pure hΩ 4 (h7 gb) (mapO2 (roPt rfl rfl) rfl) (fits _) rfl rfl ?_
  cbv
  clear R4 R6 Rk Rv h1 h2 h3 h4 h5 h6 h5' h5n hmsa
  refine loopX htab hΩ (fun i : Nat => ⟨[(0, .sl false 8 cs), (2, i64 n), (4, .rp [.sl false 2 xs, i64 v1, i64 v2, i64 v3, boo v4]), (6, .pt 1 0 0), (8, .sl false 1 gl), (9, .sl false 1 sa), (11, .sl false 1 ma), (12, i64 (Sm i)), (13, i64 (Ω.int i))], 98,
    [none, some ⟨2, [.agg [i64 0, i64 0]], true⟩]⟩) (fun i => i ≤ ms.length) (fun i => ms.length - i) 0 (Nat.zero_le _)
    (((Sbs.unlk (r := 0) rfl rfl).trans (Sbs.thaw0 (r := 0) rfl rfl rfl)).trans (Sbs.mk rfl rfl ⟨rfl, rfl, rfl, rfl, rfl, rfl, rfl, congrArg i64 hS0.symm, zeroI hΩ, trivial⟩)) (fun i hi => ?_)
  have hSbi := hSb (i + 1)
  cbv
  refine br (fun h => ?_) (fun h => ?_) <;> cbv
  · replace h := ltI hΩ h
    obtain ⟨k, hk'⟩ := at_of (cs := ms) (by omega : i < _)
    have hst := hSs i k hk'
    have hmr := rdI hΩ hma hk'
    obtain ⟨hk0, nn, u1, u2, u3, sz, ps, ds, bs, hx', hcp⟩ := hcat k (hin k (List.mem_of_getElem? hk'))
    have hsh := hsh k
    have hsh0 := hsh0 k
    have hhas := fun m => hhas m k
    have h7 := h7 (pathK (pk c k))
    have hLb := hLb (pathK (pk c k))
    generalize L (pathK (pk c k)) = lp at *
    generalize pathK (pk c k) = pp at *
    generalize SH k = sh at *
    generalize Sm i = s0 at *
    refine loopX htab hΩ (fun j : Nat => ⟨[(0, .sl false 8 cs), (2, i64 n), (4, .rp [.sl false 2 xs, i64 v1, i64 v2, i64 v3, boo v4]), (6, .pt 1 0 0), (8, .sl false 1 gl), (9, .sl false 1 sa), (11, .sl false 1 ma), (12, i64 s0), (13, i64 (Ω.int i)), (14, boo (sh j)), (15, i64 (Ω.int j))], 98,
      [none, some ⟨2, [.agg [i64 0, i64 0]], true⟩]⟩) (fun j => j ≤ g.length) (fun j => g.length - j) 0 (Nat.zero_le _)
      (Sbs.mk rfl rfl ⟨rfl, rfl, rfl, rfl, rfl, rfl, rfl, rfl, rfl, congrArg boo hsh0.symm, zeroI hΩ, trivial⟩) (fun j hj => ?_)
    cbv
    refine br (fun h => ?_) (fun h => ?_) <;> cbv
    · replace h := ltI hΩ h
      obtain ⟨m, hm⟩ := at_of (cs := g) (by omega : j < _)
      have hsh := hsh j m hm
      have hsm := hsat j m hm
      have hhas := hhas m
      have hgr := rdI hΩ hglq hm
      have hsr := rdJ hΩ hsm
      generalize sh j = p0 at *
      generalize WB m k = wb at *
      generalize WA m = wa at *
      have j1 : j + 1 ≤ g.length := by omega
      have j2 : g.length - (j + 1) < g.length - j := by omega
      have j3 : i64 (Ω.ar .add .i64 (Ω.int j) 1) = i64 (Ω.int (j + 1)) := incI hΩ (by omega)
      refine ⟨VC_drawn htab hΩ hmo (by kernel_rfl) ?_⟩
      cbv
      refine br (fun a => ?_) (fun a => ?_) <;> cbv
      · exact ⟨j + 1, j1, j2, Sbs.mk rfl rfl ⟨rfl, rfl, rfl, rfl, rfl, rfl, rfl, rfl, rfl, congrArg boo (by rw [hsh, a]; rfl), j3, trivial⟩⟩
      · refine ⟨⟨nnI hΩ⟩, _, hgr, ?_⟩
        cbv
        refine br (fun e => ?_) (fun e => ?_) <;> cbv
        · have e := neZt hΩ e
          refine ⟨⟨nnI hΩ⟩, _, hsr, ?_⟩
          cbv
          refine ⟨⟨nnI hΩ⟩, _, hmr, ?_⟩
          cbv
          refine QCall_pure (k := 4) hhas rfl (fits _) rfl ?_
          cbv
          exact ⟨j + 1, j1, j2, Sbs.mk rfl rfl ⟨rfl, rfl, rfl, rfl, rfl, rfl, rfl, rfl, rfl, congrArg boo (by rw [hsh, a, decide_eq_false e]; subst hΩ; rfl), j3, trivial⟩⟩
        · have e := neZf hΩ e
          exact ⟨j + 1, j1, j2, Sbs.mk rfl rfl ⟨rfl, rfl, rfl, rfl, rfl, rfl, rfl, rfl, rfl, congrArg boo (by rw [hsh, a, decide_eq_true e]; subst hΩ; rfl), j3, trivial⟩⟩
    · replace h := geI hΩ h
      obtain rfl : j = g.length := by omega
      generalize sh g.length = p0 at *
      refine br (fun a => ?_) (fun a => ?_) <;> cbv
      · have a := notA hΩ a
        rw [a] at hst
        have hst : Sm (i + 1) = s0 + lp := hst
        refine ⟨⟨nnI hΩ⟩, _, hmr, ?_⟩
        cbv
        refine ⟨⟨hk0⟩, _, hx', ?_⟩
        cbv
        refine call_pure hΩ 4 hcp rfl (fits _) rfl rfl ?_
        cbv
        refine call_pure hΩ 4 h7 rfl (fits _) rfl rfl ?_
        cbv
        exact ⟨i + 1, by omega, by omega, Sbs.mk rfl rfl ⟨rfl, rfl, rfl, rfl, rfl, rfl, rfl, congrArg i64 (addT hΩ hst.symm (by omega) (by omega)), incI hΩ (by omega), trivial⟩⟩
      · have a := notB hΩ a
        rw [a] at hst
        have hst : Sm (i + 1) = s0 + 0 := hst
        exact ⟨i + 1, by omega, by omega, Sbs.mk rfl rfl ⟨rfl, rfl, rfl, rfl, rfl, rfl, rfl, congrArg i64 (by omega), incI hΩ (by omega), trivial⟩⟩
  · replace h := geI hΩ h
    obtain rfl : i = ms.length := by omega
    exact .same
end Go.Proofs.YtidlnilcdmhkiaaGreatDoor

/- What a number alone has: both sides agree. Plain law, no program. -/
set_option linter.unusedVariables false
set_option linter.unusedSimpArgs false
namespace Go.Proofs.YtidlnilcdmhkiaaGreatDoor
open Go Go.Fw Go.Sort
theorem cut_uniq {c : UInt8} : ∀ {a b x y : List UInt8}, c ∉ a → c ∉ b → a ++ c :: x = b ++ c :: y → a = b ∧ x = y
  | [], [], x, y, _, _, h => ⟨rfl, by simpa using h⟩
  | [], b :: bs, x, y, _, hb, h => by
    simp only [List.nil_append, List.cons_append, List.cons.injEq] at h
    exact absurd (by rw [h.1]; simp) hb
  | a :: as', [], x, y, ha, _, h => by
    simp only [List.nil_append, List.cons_append, List.cons.injEq] at h
    exact absurd (by rw [← h.1]; simp) ha
  | a :: as', b :: bs, x, y, ha, hb, h => by
    simp only [List.cons_append, List.cons.injEq] at h
    obtain ⟨h1, h2⟩ := cut_uniq (fun h' => ha (by simp [h'])) (fun h' => hb (by simp [h'])) h.2
    exact ⟨by rw [h.1, h1], h2⟩
/-- Packages' paths tell them. -/
theorem pathK_inj {c : List Pck} (hc : catF c = 0) {k j : Int} (hk : inB k 0 ((c.length : Int) - 1) = true) (hj : inB j 0 ((c.length : Int) - 1) = true) (h : pathK (pk c k) = pathK (pk c j)) : k = j := by
  obtain ⟨-, hp⟩ := cat_ok hc
  obtain ⟨a1, a2, -⟩ := packF_ok (hp _ (pk_at hk).2.2.2)
  obtain ⟨b1, b2, -⟩ := packF_ok (hp _ (pk_at hj).2.2.2)
  unfold pathK at h
  obtain ⟨h1, h2⟩ := cut_uniq (name_ne a1 (k := 45) (by decide)) (name_ne b1 (k := 45) (by decide)) (List.append_cancel_left h)
  have h3 : (pk c k).v = (pk c j).v := by
    have e1 := ver_read a2
    have e2 := ver_read b2
    rw [h2, e2] at e1
    exact (Prod.mk.inj e1).2.symm
  rw [← findF_self hc hk, ← findF_self hc hj, h1, h3]
theorem pthS_nodup {c : List Pck} (hc : catF c = 0) {s : List Int} (hs : Told c s) : (pthS c s).Nodup := by
  unfold pthS
  rw [List.nodup_iff_pairwise_ne, List.pairwise_map]
  refine (List.Pairwise.and_mem.1 hs.lt).imp fun {a b} h => ?_
  intro e
  have := pathK_inj hc (hs.at_ a h.1) (hs.at_ b h.2.1) e
  have := h.2.2
  omega
theorem pgsC_zero {c : List Pck} {l : List Fil} : ∀ {g : List Int}, pgsC c l g = 0 ↔ ∀ n ∈ g, (setW c l n).1 = 0
  | [] => by simp [pgsC]
  | n :: g => by
    rw [pgsC]
    split
    · rename_i h; constructor
      · intro h'; exact absurd h' h
      · intro h'; exact absurd (h' n (by simp)) h
    · rename_i h
      rw [pgsC_zero (g := g)]
      constructor
      · intro h' m hm
        rcases List.mem_cons.1 hm with rfl | hm
        · simpa using h
        · exact h' m hm
      · intro h' m hm; exact h' m (by simp [hm])
theorem pgs_mem {c : List Pck} {l : List Fil} {g : List Int} (h : pgsC c l g = 0) {p : List UInt8} : p ∈ pgs c l g ↔ ∃ n ∈ g, ∃ k ∈ (setW c l n).2, pathK (pk c k) = p := by
  unfold pgs
  rw [if_pos h, (sortS_spec _).2]
  unfold pgsP pthS
  simp only [List.mem_flatMap, List.mem_map]
theorem lt_nodup {l : List (List UInt8)} (h : l.Pairwise (· < ·)) : l.Nodup := h.imp fun h e => by subst e; exact List.lt_irrefl _ h
theorem gn_eq {c : List Pck} {x : Dsk} (hc : catF c = 0) {n : Int} : bthC c x = 0 → gnI c x n = gnS c x n := fun hb => by
  unfold gnI gnS
  have hb' : ¬ bthC c x ≠ 0 := by simp [hb]
  by_cases hn : (gensF x.f).any (· == n) = false
  · rw [if_neg hb', if_pos hn, if_neg hb', if_pos hn]
  by_cases hcn : curF x.f = n
  · rw [if_neg hb', if_neg hn, if_pos hcn, if_neg hb', if_neg hn, if_pos hcn]
  by_cases hk : pgsC c x.f (gensF x.f) ≠ 0
  · rw [if_neg hb', if_neg hn, if_neg hcn, if_pos hk, if_neg hb', if_neg hn, if_neg hcn, if_pos hk]
  · rw [if_neg hb', if_neg hn, if_neg hcn, if_neg hk, if_neg hb', if_neg hn, if_neg hcn, if_neg hk]
    refine Prod.ext rfl ?_
    show gnIv c x.f n = gnSt c x.f n (setW c x.f n).2
    generalize x.f = l at *
    have hk : pgsC c l (gensF l) = 0 := by simpa using hk
    have hall := pgsC_zero.1 hk
    have hng : n ∈ gensF l := by
      have h : (gensF l).any (· == n) = true := by simpa using hn
      obtain ⟨m, hm, he⟩ := List.any_eq_true.1 h
      rw [beq_iff_eq.1 he] at hm; exact hm
    have k1 : pgsC c l [n] = 0 := pgsC_zero.2 fun m hm => hall m (by rw [List.mem_singleton.1 hm]; exact hng)
    have k2 : pgsC c l (othF l n) = 0 := pgsC_zero.2 fun m hm => hall m ((List.mem_filter.1 hm).1)
    have ht := setW_told c l n
    have hp : (pgs c l [n]).Perm (pthS c (setW c l n).2) := by
      refine (List.perm_ext_iff_of_nodup ?_ (pthS_nodup hc ht)).2 fun p => ?_
      · unfold pgs; rw [if_pos k1]; exact lt_nodup (sortS_spec _).1
      · rw [pgs_mem k1]
        unfold pthS
        simp [List.mem_map]
    have hsh : ∀ k ∈ (setW c l n).2, (pgs c l (othF l n)).any (· == pathK (pk c k)) = shrG c l n k (gensF l) := fun k hk => by
      rw [Bool.eq_iff_iff, List.any_eq_true]
      unfold shrG
      rw [List.any_eq_true]
      constructor
      · rintro ⟨p, hp, he⟩
        obtain ⟨m, hm, j, hj, e⟩ := (pgs_mem k2).1 hp
        rw [beq_iff_eq.1 he] at e
        obtain ⟨hm1, hm2⟩ := List.mem_filter.1 hm
        have := pathK_inj hc ((setW_told c l m).at_ j hj) (ht.at_ k hk) e
        subst this
        refine ⟨m, hm1, ?_⟩
        rw [Bool.and_eq_true]
        exact ⟨hm2, List.any_eq_true.2 ⟨j, hj, by simp⟩⟩
      · rintro ⟨m, hm, h⟩
        rw [Bool.and_eq_true] at h
        obtain ⟨h1, h2⟩ := h
        obtain ⟨j, hj, he⟩ := List.any_eq_true.1 h2
        rw [beq_iff_eq.1 he] at hj
        exact ⟨_, (pgs_mem k2).2 ⟨m, List.mem_filter.2 ⟨hm, h1⟩, k, hj, rfl⟩, by simp⟩
    unfold gnIv bytF gnSt
    rw [List.map_append, List.sum_append]
    have e1 := ((hp.filter fun p => !(pgs c l (othF l n)).any (· == p)).map fun p => (datF l p).length).sum_nat
    rw [e1]
    have e2 : ∀ s : List Int, (∀ k ∈ s, k ∈ (setW c l n).2) → (((pthS c s).filter fun p => !(pgs c l (othF l n)).any (· == p)).map fun p => (datF l p).length).sum = (s.map fun k => if shrG c l n k (gensF l) then 0 else (datF l (pathK (pk c k))).length).sum := fun s => by
      induction s with
      | nil => intro _; rfl
      | cons k s ih =>
        intro hs
        have h1 := hsh k (hs k (by simp))
        have ih := ih fun j hj => hs j (by simp [hj])
        show (((pathK (pk c k) :: pthS c s).filter _).map _).sum = _
        rw [List.filter_cons, h1]
        cases hb : shrG c l n k (gensF l)
        · simp only [Bool.not_false, if_true, List.map_cons, List.sum_cons, hb, Bool.false_eq_true, if_false]
          rw [ih]
        · simp only [Bool.not_true, Bool.false_eq_true, if_false, List.map_cons, List.sum_cons, hb, if_true, Nat.zero_add]
          exact ih
    rw [e2 _ fun k h => h]
    simp; omega
end Go.Proofs.YtidlnilcdmhkiaaGreatDoor

/- Walks: equal disks are told so. Plain theorems. -/
set_option linter.unusedVariables false
set_option linter.unusedSimpArgs false
namespace Go.Proofs.YtidlnilcdmhkiaaGreatDoor
open Go Go.Fw
set_option maxRecDepth 100000
theorem bne_self {Ω : Opq} (hΩ : Ω = std) {b : Bool} (h : Ω.cmpB .neq b b = true) : False := by subst hΩ; cases b <;> cases h
theorem c_eqByteS (cs : List (UInt8)) (hb : cs.length ≤ 1048576) : PCtr PP n_laws_eqByteS [.sl false 1 (cs.map (byteA)), .sl false 1 (cs.map (byteA))] (boo true) := by
  obtain ⟨Ω, hΩ⟩ : ∃ Ω, Ω = std := ⟨_, rfl⟩
  obtain ⟨xs, hxs⟩ : ∃ xs, xs = cs.map (byteA) := ⟨_, rfl⟩
  have hlen : xs.length = cs.length := by rw [hxs, List.length_map]
  rw [← hxs]
  have htab := tab
  have hmo := hmo
  refine PCtr.walk tab hΩ fn_laws_eqByteS rfl ?_
  generalize PP = P at *
  cbv
  refine br (fun h => (ne_self hΩ h).elim) (fun h => ?_)
  cbv
  refine loopX htab hΩ (fun i : Nat => ⟨[(0, .sl false 1 xs), (1, .sl false 1 xs), (5, .sc (.int .i64 (Ω.int i)))], 26, []⟩) (fun i => i ≤ cs.length) (fun i => cs.length - i) 0 (Nat.zero_le _) (Sbs.mk rfl rfl ⟨rfl, rfl, zeroI hΩ, trivial⟩) (fun i hi => ?_)
  cbv
  refine br (fun h => ?_) (fun h => ?_)
  · replace h := ltI hΩ h
    obtain ⟨c, hcc⟩ := at_of (cs := cs) (by omega : i < _)
    have hcm := List.mem_of_getElem? hcc
    cbv
    repeat' (first | (refine br (fun h => (notT hΩ h).elim) (fun h => ?_); cbv) | (refine br (fun h => (ne_self hΩ h).elim) (fun h => ?_); cbv) | (refine br (fun h => (sne_self hΩ h).elim) (fun h => ?_); cbv) | (refine ⟨VC_drawn htab hΩ hmo (by kernel_rfl) ?_⟩; cbv) | (refine ⟨⟨nnI hΩ⟩, _, rdI hΩ hxs hcc, ?_⟩; cbv))
    exact ⟨i + 1, by omega, by omega, Sbs.mk rfl rfl ⟨rfl, rfl, incI hΩ (by omega), trivial⟩⟩
  · cbv
    exact .same
theorem c_eqFile (o : Fil) (hs : o.d.length ≤ 1048576) : PCtr PP n_laws_eqFile [o.enc false, o.enc false] (boo true) := by
  obtain ⟨Ω, hΩ⟩ : ∃ Ω, Ω = std := ⟨_, rfl⟩
  have h1 := c_eqByteS o.d hs
  unfold Fil.enc
  generalize o.d.map byteA = ds at *
  have htab := tab
  have hmo := hmo
  refine PCtr.walk tab hΩ fn_laws_eqFile rfl ?_
  generalize PP = P at *
  cbv
  repeat' (first | (refine br (fun h => (notT hΩ h).elim) (fun h => ?_); cbv) | (refine br (fun h => (ne_self hΩ h).elim) (fun h => ?_); cbv) | (refine br (fun h => (sne_self hΩ h).elim) (fun h => ?_); cbv) | (refine ⟨VC_drawn htab hΩ hmo (by kernel_rfl) ?_⟩; cbv) | (refine call_pure hΩ 3 h1 rfl (fits _) rfl rfl ?_; cbv) | (refine QCall_pure (k := 3) h1 rfl (fits _) rfl ?_; cbv))
  exact .same
theorem c_eqFileS (cs : List (Fil)) (hb : cs.length ≤ 1048576) (hl : ∀ f ∈ cs, f.d.length ≤ 1048576) : PCtr PP n_laws_eqFileS [.sl false 2 (cs.map (Fil.enc false)), .sl false 2 (cs.map (Fil.enc false))] (boo true) := by
  obtain ⟨Ω, hΩ⟩ : ∃ Ω, Ω = std := ⟨_, rfl⟩
  obtain ⟨xs, hxs⟩ : ∃ xs, xs = cs.map (Fil.enc false) := ⟨_, rfl⟩
  have hlen : xs.length = cs.length := by rw [hxs, List.length_map]
  rw [← hxs]
  have hc : ∀ c ∈ cs, PCtr PP n_laws_eqFile [Fil.enc false c, Fil.enc false c] (boo true) := fun c h => c_eqFile c (hl c h)
  have htab := tab
  have hmo := hmo
  refine PCtr.walk tab hΩ fn_laws_eqFileS rfl ?_
  generalize PP = P at *
  cbv
  refine br (fun h => (ne_self hΩ h).elim) (fun h => ?_)
  cbv
  refine loopX htab hΩ (fun i : Nat => ⟨[(0, .sl false 2 xs), (1, .sl false 2 xs), (5, .sc (.int .i64 (Ω.int i)))], 27, []⟩) (fun i => i ≤ cs.length) (fun i => cs.length - i) 0 (Nat.zero_le _) (Sbs.mk rfl rfl ⟨rfl, rfl, zeroI hΩ, trivial⟩) (fun i hi => ?_)
  cbv
  refine br (fun h => ?_) (fun h => ?_)
  · replace h := ltI hΩ h
    obtain ⟨c, hcc⟩ := at_of (cs := cs) (by omega : i < _)
    have hcm := List.mem_of_getElem? hcc
    obtain ⟨ds, hen⟩ : ∃ ds, Fil.enc false c = .agg [str c.p, .sl false 1 ds] := ⟨_, rfl⟩
    have hcc1 := hc c hcm
    rw [hen] at hcc1
    cbv
    repeat' (first | (refine br (fun h => (notT hΩ h).elim) (fun h => ?_); cbv) | (refine br (fun h => (ne_self hΩ h).elim) (fun h => ?_); cbv) | (refine br (fun h => (sne_self hΩ h).elim) (fun h => ?_); cbv) | (refine ⟨VC_drawn htab hΩ hmo (by kernel_rfl) ?_⟩; cbv) | (refine ⟨⟨nnI hΩ⟩, _, (rdI hΩ hxs hcc).trans (congrArg some hen), ?_⟩; cbv) | (refine call_pure hΩ 3 hcc1 rfl (fits _) rfl rfl ?_; cbv) | (refine QCall_pure (k := 3) hcc1 rfl (fits _) rfl ?_; cbv))
    exact ⟨i + 1, by omega, by omega, Sbs.mk rfl rfl ⟨rfl, rfl, incI hΩ (by omega), trivial⟩⟩
  · cbv
    exact .same
theorem c_eqDisk (x : Dsk) (hx : x.Fit) : PCtr PP n_laws_eqDisk [x.enc false false, x.enc false false] (boo true) := by
  obtain ⟨Ω, hΩ⟩ : ∃ Ω, Ω = std := ⟨_, rfl⟩
  have h1 := c_eqFileS x.f hx.n hx.d
  unfold Dsk.enc
  generalize x.f.map (Fil.enc false) = xs at *
  have htab := tab
  have hmo := hmo
  refine PCtr.walk tab hΩ fn_laws_eqDisk rfl ?_
  generalize PP = P at *
  cbv
  repeat' (first | (refine br (fun h => (bne_self hΩ h).elim) (fun h => ?_); cbv) | (refine br (fun h => (notT hΩ h).elim) (fun h => ?_); cbv) | (refine br (fun h => (ne_self hΩ h).elim) (fun h => ?_); cbv) | (refine br (fun h => (sne_self hΩ h).elim) (fun h => ?_); cbv) | (refine ⟨VC_drawn htab hΩ hmo (by kernel_rfl) ?_⟩; cbv) | (refine call_pure hΩ 3 h1 rfl (fits _) rfl rfl ?_; cbv) | (refine QCall_pure (k := 3) h1 rfl (fits _) rfl ?_; cbv))
  exact .same
theorem c_eqIntResult (k a : Int) : PCtr PP n_laws_eqIntResult [.agg [i64 k, i64 a], .agg [i64 k, i64 a]] (boo true) := by
  obtain ⟨Ω, hΩ⟩ : ∃ Ω, Ω = std := ⟨_, rfl⟩
  have htab := tab
  have hmo := hmo
  refine PCtr.walk tab hΩ fn_laws_eqIntResult rfl ?_
  generalize PP = P at *
  cbv
  repeat' (first | (refine br (fun h => (notT hΩ h).elim) (fun h => ?_); cbv) | (refine br (fun h => (ne_self hΩ h).elim) (fun h => ?_); cbv) | (refine br (fun h => (sne_self hΩ h).elim) (fun h => ?_); cbv) | (refine ⟨VC_drawn htab hΩ hmo (by kernel_rfl) ?_⟩; cbv))
  exact .same
end Go.Proofs.YtidlnilcdmhkiaaGreatDoor

/- The law of GainOf, walked. Plain theorems. -/
set_option linter.unusedVariables false
set_option linter.unusedSimpArgs false
namespace Go.Proofs.YtidlnilcdmhkiaaGreatDoor
open Go Go.Fw
set_option maxRecDepth 100000
theorem ro_agg5 {S : State} {k : Nat} {a a' b c d e : A} (ha : roO S (k + 1) a = some a') (hb : roO S (k + 1) b = some b) (hc : roO S (k + 1) c = some c) (hd : roO S (k + 1) d = some d) (he : roO S (k + 1) e = some e) : roO S (k + 2) (.agg [a, b, c, d, e]) = some (.agg [a', b, c, d, e]) := by
  show (mapO (roO S (k + 1)) [a, b, c, d, e]).map A.agg = _
  simp [mapO, ha, hb, hc, hd, he]
theorem c_specGainOf (c : List Pck) (x : Dsk) (n : Int) (hl : c.length ≤ 1048576) (ho : ∀ o ∈ c, o.Small) (hx : x.Fit) : PCtr PP n_spec_GainOf [encP c, x.enc false false, i64 n] (.agg [i64 (gnS c x n).1, i64 (gnS c x n).2]) := by
  by_cases hb : bthC c x = 0
  · obtain ⟨h1, h2⟩ := bthC_ok hx hb
    exact c_specGainGood c x n hl ho hb h1 h2
  · have := c_specGainBad c x n hl ho hx hb
    unfold gnS
    rw [if_pos hb]
    exact this
theorem c_implGainOf (c : List Pck) (x : Dsk) (n : Int) (hl : c.length ≤ 1048576) (ho : ∀ o ∈ c, o.Small) (hx : x.Fit) : PCtr PP n_impl_GainOf [encP c, x.enc false false, i64 n] (.agg [i64 (gnS c x n).1, i64 (gnS c x n).2]) := by
  by_cases hb : bthC c x = 0
  · obtain ⟨h1, h2⟩ := bthC_ok hx hb
    rw [← gn_eq h1 hb]
    exact c_GainOfGood c x n hl ho hb h1 h2
  · have := c_GainOfBad c x n hl ho hx hb
    unfold gnS
    rw [if_pos hb]
    exact this
theorem Sbs.thawE {S : State} {r : Nat} {row : Row} {ys : List A} (hr : Fw.rowAt S.rows r = some row) (hlk : row.lk = false) (hy : row.xs.map frz = ys) : Sbs S (S.thaw r row.n ys) := by subst hy; exact Sbs.thaw hr hlk
theorem szD_facts {x : Dsk} {l l2 : Int} (h : szD x l = l2) (h1 : l ≤ 1048576) (h2 : 0 ≤ l2) : x.Fit := by
  rw [szD_cost] at h
  refine Dsk.fit_of ?_
  split at h <;> omega
theorem c_lawGainOf (cs : List Pck) (x : Dsk) (n : Int) (hm : cs.length ≤ maxLen) (hf : ∀ o ∈ cs, o.Fit) (hxm : x.f.length ≤ maxLen) (hxf : ∀ f ∈ x.f, f.Fit) : PCtr PP n_laws_FnExactGainOf [.sl false 8 (cs.map (Pck.enc false)), x.enc false false, i64 n] (boo true) := by
  obtain ⟨Ω, hΩ⟩ : ∃ Ω, Ω = std := ⟨_, rfl⟩
  obtain ⟨xs, hxs⟩ : ∃ xs, xs = cs.map (Pck.enc false) := ⟨_, rfl⟩
  obtain ⟨os, hos⟩ : ∃ os, os = cs.map (Pck.enc true) := ⟨_, rfl⟩
  obtain ⟨fs, hfs⟩ : ∃ fs, fs = x.f.map (Fil.enc false) := ⟨_, rfl⟩
  obtain ⟨gs, hgs⟩ : ∃ gs, gs = x.f.map (Fil.enc true) := ⟨_, rfl⟩
  have hol : os.length = cs.length := by rw [hos, List.length_map]
  have hof : os.map frz = xs := by rw [hos, hxs]; exact frz_Pcks cs
  have hgf : gs.map frz = fs := by rw [hgs, hfs]; exact frz_Fils x.f
  have ro : roFree (.sl true 8 os) = true := by rw [hos]; exact roFPs cs
  have rd : roFree (x.enc true true) = true := roFD x
  have h1 := c_szPackS cs 1048576 (by omega) (by omega) hm hf
  obtain ⟨l, hl, hl2, hl3⟩ : ∃ l, szS szP cs 1048576 = l ∧ (0 ≤ l → cs.length ≤ 1048576 ∧ (∀ o ∈ cs, o.Small) ∧ psum Pck.cnt cs cs.length ≤ 12582912) ∧ (0 ≤ l → l ≤ 1048576) := ⟨_, rfl, sz_facts, fun h => szP_le _ h⟩
  obtain ⟨l2, hd1, hd2⟩ : ∃ l2, (0 ≤ l → PCtr PP n_laws_szDisk [x.enc false false, i64 l] (i64 l2)) ∧ (0 ≤ l → 0 ≤ l2 → x.Fit) := ⟨_, fun h0 => c_szDisk x l h0 (hl3 h0) hxm hxf, fun h0 h2 => szD_facts rfl (hl3 h0) h2⟩
  obtain ⟨g1, hg1⟩ : ∃ g1, g1 = (gnS cs x n).1 := ⟨_, rfl⟩
  obtain ⟨g2, hg2⟩ : ∃ g2, g2 = (gnS cs x n).2 := ⟨_, rfl⟩
  have H : 0 ≤ l → 0 ≤ l2 → (PCtr PP n_laws_toPackS [.sl false 8 xs] (.sl true 8 os) ∧ PCtr PP n_laws_toDisk [x.enc false false] (x.enc true true)) ∧
      (PCtr PP n_spec_GainOf [.sl false 8 xs, x.enc false false, i64 n] (.agg [i64 g1, i64 g2]) ∧ PCtr PP n_impl_GainOf [.sl false 8 xs, x.enc false false, i64 n] (.agg [i64 g1, i64 g2])) ∧
      (PCtr PP n_laws_eqIntResult [.agg [i64 g1, i64 g2], .agg [i64 g1, i64 g2]] (boo true) ∧ PCtr PP n_laws_eqPackS [.sl false 8 xs, .sl false 8 xs] (boo true) ∧ PCtr PP n_laws_eqDisk [x.enc false false, x.enc false false] (boo true)) := fun h h2 => by
    obtain ⟨k1, k2, k3⟩ := hl2 h
    have kx := hd2 h h2
    have a1 := c_toPackS cs k1 k2
    have a2 := c_toDisk x kx
    have a3 := c_specGainOf cs x n k1 k2 kx
    have a4 := c_implGainOf cs x n k1 k2 kx
    have a5 := c_eqIntResult g1 g2
    have a6 := c_eqPackS cs k1 k2
    have a7 := c_eqDisk x kx
    unfold encP at a3 a4
    rw [← hg1, ← hg2, ← hxs] at a3 a4
    rw [← hxs] at a1 a6
    rw [← hos] at a1
    exact ⟨⟨a1, a2⟩, ⟨a3, a4⟩, a5, a6, a7⟩
  rw [hl, ← hxs] at h1
  rw [← hxs]
  unfold Dsk.enc at *
  rw [← hfs] at hd1 H ⊢
  rw [← hgs] at rd H
  clear hl2 hl3 hd2 hxs hos hg1 hg2 hfs hgs hl
  generalize x.bg = v1 at *
  generalize x.wr = v2 at *
  generalize x.st = v3 at *
  generalize x.dn = v4 at *
  refine PCtr.walk tab hΩ fn_laws_FnExactGainOf rfl ?_
  have htab := tab
  have hmo := hmo
  generalize PP = P at *
  cbv
  refine call_pure hΩ 3 h1 rfl (fits _) rfl rfl ?_
  cbv
  refine br (fun h => ?_) (fun h => ?_)
  · cbv
    exact .same
  have hl0 := ltI_f hΩ h
  cbv
  refine call_pure hΩ 4 (hd1 hl0) rfl (fits _) rfl rfl ?_
  cbv
  refine br (fun h => ?_) (fun h => ?_)
  · cbv
    exact .same
  obtain ⟨⟨a1, a2⟩, ⟨a3, a4⟩, a5, a6, a7⟩ := H hl0 (ltI_f hΩ h)
  clear H
  have lo : Ω.len os = os.length := by subst hΩ; rfl
  have lg : Ω.len gs = gs.length := by subst hΩ; rfl
  cbv
  refine ⟨VC.sub (VC_pl htab hΩ hmo (.q 0 (.q 2 (.q 4 (.two 1 (.two 3 (.two 5 (.s 6 (.s 7 .fin)) 6 (.s 5 (.s 7 .fin))) 6 (.s 3 (.s 5 (.s 7 .fin)))) 6 (.s 1 (.s 3 (.s 5 (.s 7 .fin)))))))) (by kernel_rfl) ?_) ((Sbs.unlk (r := 0) rfl rfl).trans (Sbs.thaw0 (r := 0) rfl rfl rfl))⟩
  cbv
  have e3 : ∀ {S : State} {r q : Nat}, Fw.rowAt S.rows r = some ⟨8, os, false⟩ → Fw.rowAt S.rows q = some ⟨2, gs, false⟩ → mapO (roO S 5) [.vw r 0 (Ω.len os), .agg [.vw q 0 (Ω.len gs), i64 v1, i64 v2, i64 v3, boo v4], i64 n] = some [.sl false 8 xs, .agg [.sl false 2 fs, i64 v1, i64 v2, i64 v3, boo v4], i64 n] := fun h1 h2 => mapO3 (ro_vw h1 lo hof) (ro_agg5 (ro_vw h2 lg hgf) rfl rfl rfl rfl) rfl
  have e6 : ∀ {S : State} {r q : Nat}, Fw.rowAt S.rows r = some ⟨8, os, false⟩ → Fw.rowAt S.rows q = some ⟨8, os, false⟩ → mapO (roO S 5) [.vw r 0 (Ω.len os), .vw q 0 (Ω.len os)] = some [.sl false 8 xs, .sl false 8 xs] := fun h1 h2 => mapO2 (ro_vw h1 lo hof) (ro_vw h2 lo hof)
  have htk : fs.take (Ω.len gs) = fs := by rw [lg, ← List.length_map (f := frz), hgf, List.take_length]
  unfold List.take at htk
  repeat' (first
    | (refine call_pure hΩ 5 a1 rfl (fits _) ro rfl ?_; cbv)
    | (refine call_pure hΩ 5 a2 rfl (fits _) rd rfl ?_; cbv)
    | (refine call_pure hΩ 5 a3 (e3 rfl rfl) (fits _) rfl rfl ?_; cbv)
    | (refine call_pure hΩ 5 a4 (e3 rfl rfl) (fits _) rfl rfl ?_; cbv)
    | (refine call_pure hΩ 5 a5 rfl (fits _) rfl rfl ?_; cbv)
    | (refine call_pure hΩ 5 a6 (e6 rfl rfl) (fits _) rfl rfl ?_; cbv)
    | (refine br (fun h => (notT hΩ h).elim) (fun h => ?_); cbv)
    | (refine And.intro ?_ ?_))
  all_goals refine ⟨VC.sub (VC_pl htab hΩ hmo (.q 0 (.q 1 (.s 2 (.s 3 (.s 4 .fin))))) (by kernel_rfl) ?_) ((Sbs.thawE (r := 5) (ys := fs) rfl rfl hgf).trans ((Sbs.unlk (r := 6) rfl rfl).trans (Sbs.thaw0 (r := 6) rfl rfl rfl)))⟩
  all_goals cbv
  all_goals refine call_pure hΩ 5 a2 rfl (fits _) rd rfl ?_
  all_goals cbv
  all_goals refine call_pure hΩ 5 a7 (mapO2 rfl (ro_agg5 (ro_vw rfl lg hgf) rfl rfl rfl rfl)) (fitsE (congrArg (fun z => [A.agg [.sl false 2 z, i64 v1, i64 v2, i64 v3, boo v4], .agg [.sl false 2 fs, i64 v1, i64 v2, i64 v3, boo v4]]) htk)) rfl rfl ?_
  all_goals cbv
  all_goals refine br (fun h => (notT hΩ h).elim) (fun h => ?_)
  all_goals cbv
  all_goals exact FitX.same
end Go.Proofs.YtidlnilcdmhkiaaGreatDoor

/- What a reading of an argument says of it: it is read-only plain data. Plain theorems, no condition. -/
set_option linter.unusedVariables false
set_option linter.unusedSimpArgs false
namespace Go.Fw
/-- Types of plain data. -/
inductive Ty where
  | int (k : IntKind)
  | bool
  | str
  | sl (e : Ty)
  | st (fs : List Ty)
mutual
def Ty.n : Ty → Nat
  | .st fs => Ty.nL fs
  | .int _ => 1
  | .bool => 1
  | .str => 1
  | .sl _ => 1
def Ty.nL : List Ty → Nat
  | [] => 0
  | x :: xs => x.n + Ty.nL xs
end
def Ty.elem (e : Ty) (cs : List A) : A :=
  match e with
  | .st _ => .agg cs
  | _ => cs.headD .un
mutual
def TyOK (P : Program) : Ty → TypeId → Prop
  | .int k, t => P.underlying t = some (.int k)
  | .bool, t => P.underlying t = some .bool
  | .str, t => P.underlying t = some .string
  | .sl e, t => ∃ te, P.underlying t = some (.slice te) ∧ P.cellsOf te = e.n ∧ Nat.ble 1 e.n = true ∧ TyOK P e te
  | .st fs, t => ∃ f, P.underlying t = some (.struct f) ∧ P.cellsOf t = Ty.nL fs ∧ TysOK P 0 fs f.toList
def TysOK (P : Program) : Nat → List Ty → List Field → Prop
  | _, [], [] => True
  | o, x :: xs, f :: fs => f.offset = o ∧ P.cellsOf f.type = x.n ∧ TyOK P x f.type ∧ TysOK P (o + x.n) xs fs
  | _, _, _ => False
end
mutual
inductive Shp : Ty → List A → Prop
  | int {k : IntKind} {n : Int} (h : (Lit.int k n).wf = true) : Shp (.int k) [.sc (.int k n)]
  | bool {b : Bool} : Shp .bool [.sc (.bool b)]
  | str {s : List UInt8} (h : s.length ≤ maxLen) : Shp .str [.sc (.string (mkS s))]
  | sl {e : Ty} {ys : List A} (h : ∀ y ∈ ys, Shp e y.cells) (h2 : ∀ y ∈ ys, y = e.elem y.cells) (hl : ys.length ≤ maxLen) : Shp (.sl e) [.sl false e.n ys]
  | st {fs : List Ty} {xs : List A} (h : ShpL fs xs) : Shp (.st fs) xs
inductive ShpL : List Ty → List A → Prop
  | nil : ShpL [] []
  | cons {t : Ty} {ts : List Ty} {xs ys : List A} (h : Shp t xs) (hl : ShpL ts ys) : ShpL (t :: ts) (xs ++ ys)
end
mutual
theorem Shp.length : ∀ {t : Ty} {xs : List A}, Shp t xs → xs.length = t.n
  | _, _, .int _ => rfl
  | _, _, .bool => rfl
  | _, _, .str _ => rfl
  | _, _, .sl _ _ _ => rfl
  | _, _, .st h => by rw [Ty.n]; exact h.length
theorem ShpL.length : ∀ {ts : List Ty} {xs : List A}, ShpL ts xs → xs.length = Ty.nL ts
  | _, _, .nil => rfl
  | _, _, .cons h hl => by rw [List.length_append, h.length, hl.length, Ty.nL]
end
theorem elem_cells {e : Ty} {cs : List A} (h : Shp e cs) : (e.elem cs).cells = cs := by
  cases h <;> rfl
theorem cells_list {w : World} {base : Nat} {a : Addr} {n : Nat} {cs : List Value} (h : w.cells? base a n = some cs) (hn : 0 < n) :
    ∃ cur e fr, w.heap[a.block]? = some (.cells cur e fr) ∧ a.spot = none ∧ cs = (cur.toList.drop a.off).take n ∧ cs.length = n := by
  unfold World.cells? at h
  split at h <;> try simp at h
  have hget : ∀ (l : List Nat) (r : List Value), l.mapM (fun i => w.cell? (a.add i)) = some r → r.length = l.length ∧ ∀ (j i : Nat), l[j]? = some i → ∃ v, r[j]? = some v ∧ w.cell? (a.add i) = some v := by
    intro l
    induction l with
    | nil => intro r h; simp at h; subst h; simp
    | cons x l ih =>
      intro r h
      simp only [List.mapM_cons, Option.bind_eq_bind, Option.pure_def, Option.bind_eq_some_iff, Option.some.injEq] at h
      obtain ⟨v, hv, r', hr', rfl⟩ := h
      obtain ⟨h1, h2⟩ := ih r' hr'
      refine ⟨by simp [h1], fun j i hj => ?_⟩
      cases j with
      | zero => simp at hj; subst hj; exact ⟨v, rfl, hv⟩
      | succ j => simpa using h2 j i (by simpa using hj)
  obtain ⟨hl, hat⟩ := hget _ _ h
  rw [List.length_range] at hl
  obtain ⟨v0, _, hv0⟩ := hat 0 0 (by rw [List.getElem?_range hn])
  have hblk : ∀ i, (a.add i).block = a.block := fun i => by unfold Addr.add; split <;> rfl
  unfold World.cell? at hv0
  rw [hblk] at hv0
  split at hv0 <;> try simp at hv0
  rename_i cur e fr hh
  have hsp : a.spot = none := by
    cases hs : a.spot with
    | none => rfl
    | some s => simp [Addr.add, hs] at hv0
  refine ⟨cur, e, fr, hh, hsp, ?_, hl⟩
  have ha : a = ⟨a.block, a.off, none⟩ := by cases a; simp at hsp; subst hsp; rfl
  have hcell : ∀ i, w.cell? (a.add i) = cur[a.off + i]? := fun i => by rw [ha, add_none, cell_at hh]
  have hlen : a.off + n ≤ cur.size := by
    obtain ⟨v, _, hv⟩ := hat (n - 1) (n - 1) (by rw [List.getElem?_range (by omega)])
    rw [hcell] at hv
    have := (Array.getElem?_eq_some_iff.1 hv).1
    omega
  apply List.ext_getElem?
  intro j
  by_cases hj : j < n
  · obtain ⟨v, hv1, hv2⟩ := hat j j (by rw [List.getElem?_range hj])
    rw [hv1, List.getElem?_take_of_lt hj, List.getElem?_drop]
    rw [hcell] at hv2
    simpa using hv2.symm
  · rw [List.getElem?_eq_none (by omega), List.getElem?_eq_none (by simp; omega)]
theorem add_block (a : Addr) (i : Nat) : (a.add i).block = a.block := by unfold Addr.add; split <;> rfl
theorem rows_rel {w : World} {G : Nat → Prop} {n : Nat} {X : Nat → List A} {l : List Value} : ∀ len : Nat, (∀ i, i < len → RelL w G (X i) ((l.drop (i * n)).take n) []) → RelL w G ((List.range len).flatMap X) (l.take (len * n)) []
  | 0, _ => by simpa using RelL.nil
  | len + 1, h => by
    have h1 := rows_rel (X := X) len fun i hi => h i (by omega)
    have h2 := h1.append (h len (by omega))
    rw [List.range_succ, List.flatMap_append, Nat.succ_mul, List.take_add]
    simpa using h2
mutual
theorem trod_rel {H : Type} {enc : TypeId × Value → H} {P : Program} {w : World} {base : Nat} {sp : Nat → Bool} {held : Bool} (hsp : ∀ b, sp b = true) :
    ∀ (ty : Ty) (t : TypeId) (fuel : Nat) (cs : List Value) (x : DataW H × List MemPlace), TyOK P ty t → DataW.trod enc P w base sp held fuel t cs = some x → ∃ xs, RelL w (Old w) xs cs [] ∧ Shp ty xs
  | .int k, t, 0, cs, x, hu, h => by simp [DataW.trod] at h
  | .int k, t, fuel + 1, cs, x, hu, h => by
    have hu : P.underlying t = some (.int k) := hu
    unfold DataW.trod at h
    rw [hu] at h
    split at h <;> try simp_all
    obtain ⟨⟨rfl, hw⟩, _⟩ := h
    exact ⟨_, .cons (F := []) (Fs := []) (.sc rfl) .nil, .int hw⟩
  | .bool, t, 0, cs, x, hu, h => by simp [DataW.trod] at h
  | .bool, t, fuel + 1, cs, x, hu, h => by
    have hu : P.underlying t = some .bool := hu
    unfold DataW.trod at h
    rw [hu] at h
    split at h <;> try simp_all
    exact ⟨_, .cons (F := []) (Fs := []) (.sc rfl) .nil, .bool⟩
  | .str, t, 0, cs, x, hu, h => by simp [DataW.trod] at h
  | .str, t, fuel + 1, cs, x, hu, h => by
    have hu : P.underlying t = some .string := hu
    unfold DataW.trod at h
    rw [hu] at h
    split at h <;> try simp_all
    rename_i s
    refine ⟨[.sc (.string (mkS (bs s)))], .cons (F := []) (Fs := []) (.sc rfl) .nil, .str ?_⟩
    rw [bs_length]; exact h.1
  | .sl e, t, fuel, cs, x, hu, h => by
    obtain ⟨te, hu, hc, hpos, hte⟩ := hu
    have hpos := Nat.le_of_ble_eq_true hpos
    rcases Go.Deep.open_slice hu h with ⟨rfl, _⟩ | ⟨a, len, cap, m, n, D, Pl, rfl, _, hl, hm, hmm, _, hel⟩
    · exact ⟨[.sl false e.n []], .cons (F := []) (Fs := []) .nils .nil, .sl (by simp) (by simp) (by simp)⟩
    · rw [hsp, if_pos rfl] at hmm
      subst hmm
      rw [hc] at hel
      by_cases hm0 : m = 0
      · subst hm0
        have : len = 0 := by omega
        subst this
        exact ⟨[.sl false e.n []], .cons (F := []) (Fs := []) .roz .nil, .sl (by simp) (by simp) (by simp)⟩
      · obtain ⟨cs0, hc0, _⟩ := hel 0 (by omega)
        obtain ⟨cur, et, fr, hh, hspot, _, _⟩ := cells_list hc0 hpos
        rw [add_block] at hh
        have hspot' : a.spot = none := by
          cases hs : a.spot with
          | none => rfl
          | some s => simp [Addr.add, hs] at hspot
        have ha : a = ⟨a.block, a.off, none⟩ := by cases a; simp at hspot'; subst hspot'; rfl
        have hX : ∀ i, i < m → ∃ xs, RelL w (Old w) xs ((cur.toList.drop (a.off + i * e.n)).take e.n) [] ∧ Shp e xs := fun i hi => by
          obtain ⟨csi, hci, hti⟩ := hel i hi
          obtain ⟨cur', et', fr', hh', _, hcs, _⟩ := cells_list hci hpos
          rw [add_block, hh] at hh'
          simp only [Option.some.injEq, Obj.cells.injEq] at hh'
          obtain ⟨rfl, _, _⟩ := hh'
          obtain ⟨xs, h1, h2⟩ := trod_rel hsp e te n csi _ hte hti
          refine ⟨xs, ?_, h2⟩
          rw [hcs] at h1
          have : (a.add (i * e.n)).off = a.off + i * e.n := by rw [ha, add_none]
          rw [this] at h1
          exact h1
        let X : Nat → List A := fun i => if h : i < m then Classical.choose (hX i h) else []
        have hX1 : ∀ i, i < m → RelL w (Old w) (X i) ((cur.toList.drop (a.off + i * e.n)).take e.n) [] ∧ Shp e (X i) := fun i hi => by
          have : X i = Classical.choose (hX i hi) := by simp only [X]; rw [dif_pos hi]
          rw [this]; exact Classical.choose_spec (hX i hi)
        have hmem : ∀ y ∈ (List.range len).map fun i => e.elem (X i), Shp e y.cells ∧ y = e.elem y.cells := fun y hy => by
          obtain ⟨i, hi, rfl⟩ := List.mem_map.1 hy
          have hi := List.mem_range.1 hi
          have hs := (hX1 i (by omega)).2
          rw [elem_cells hs]
          exact ⟨hs, rfl⟩
        refine ⟨[.sl false e.n ((List.range len).map fun i => e.elem (X i))], .cons (F := []) (Fs := []) ?_ .nil, .sl (fun y hy => (hmem y hy).1) (fun y hy => (hmem y hy).2) (by simp; omega)⟩
        have hlt : a.block < w.heap.size := (Array.getElem?_eq_some_iff.1 hh).1
        rw [ha]
        refine .ro hh hlt (fun y hy => ?_) (by simp) rfl ?_ (by omega) (by omega)
        · have := (hmem y hy).1.length
          exact this
        · have hf : flat ((List.range len).map fun i => e.elem (X i)) = (List.range len).flatMap X := by
            unfold flat
            rw [List.flatMap_map]
            have : ∀ l : List Nat, (∀ i ∈ l, i < m) → l.flatMap (fun i => (e.elem (X i)).cells) = l.flatMap X := by
              intro l
              induction l with
              | nil => intro _; rfl
              | cons i l ih =>
                intro hl
                rw [List.flatMap_cons, List.flatMap_cons, ih fun j hj => hl j (by simp [hj]), elem_cells (hX1 i (hl i (by simp))).2]
            exact this _ fun i hi => by have := List.mem_range.1 hi; omega
          rw [hf]
          refine rows_rel len fun i hi => ?_
          have := (hX1 i (by omega)).1
          rw [← List.drop_drop] at this
          exact this
  | .st fs, t, 0, cs, x, hu, h => by simp [DataW.trod] at h
  | .st fs, t, fuel + 1, cs, x, hu, h => by
    obtain ⟨f, hu, hc, hfs⟩ := hu
    unfold DataW.trod at h
    rw [hu] at h
    simp only at h
    split at h <;> try simp at h
    rename_i hlen
    obtain ⟨ys, hys, _⟩ := h
    obtain ⟨xs, h1, h2⟩ := trod_rels hsp fs f.toList fuel 0 cs ys hfs (by rw [hlen, hc]; omega) hys
    exact ⟨xs, by simpa using h1, .st h2⟩
theorem trod_rels {H : Type} {enc : TypeId × Value → H} {P : Program} {w : World} {base : Nat} {sp : Nat → Bool} {held : Bool} (hsp : ∀ b, sp b = true) :
    ∀ (tys : List Ty) (fs : List Field) (fuel o : Nat) (cs : List Value) (ys : List (DataW H × List MemPlace)), TysOK P o tys fs → cs.length = o + Ty.nL tys →
      fs.mapM (fun f => DataW.trod enc P w base sp held fuel f.type ((cs.drop f.offset).take (P.cellsOf f.type))) = some ys → ∃ xs, RelL w (Old w) xs (cs.drop o) [] ∧ ShpL tys xs
  | [], [], fuel, o, cs, ys, _, hl, _ => ⟨[], by rw [List.drop_eq_nil_of_le (by rw [hl, Ty.nL]; omega)]; exact .nil, .nil⟩
  | [], _ :: _, fuel, o, cs, ys, hu, hl, h => hu.elim
  | _ :: _, [], fuel, o, cs, ys, hu, hl, h => hu.elim
  | ty :: tys, f :: fs, fuel, o, cs, ys, hu, hl, h => by
    obtain ⟨ho, hc, ht, hts⟩ := hu
    simp only [List.mapM_cons, Option.bind_eq_bind, Option.pure_def, Option.bind_eq_some_iff, Option.some.injEq] at h
    obtain ⟨y, hy, ys', hys', _⟩ := h
    rw [ho, hc] at hy
    obtain ⟨xs1, h1, h2⟩ := trod_rel hsp ty f.type fuel _ _ ht hy
    rw [Ty.nL] at hl
    obtain ⟨xs2, h3, h4⟩ := trod_rels hsp tys fs fuel (o + ty.n) cs ys' hts (by omega) hys'
    refine ⟨xs1 ++ xs2, ?_, .cons h2 h4⟩
    have := h1.append h3
    rw [← List.drop_drop, List.take_append_drop] at this
    simpa using this
end
end Go.Fw

/- The closing of a law's row. Plain theorems, no condition. -/
set_option linter.unusedVariables false
set_option linter.unusedSimpArgs false
namespace Go.Fw
open Go.ChangeShapes Go.WideShapes Go.ChangeAt Go.RowKit
def PlainT (P : Program) (t : TypeId) : Prop := ∃ ty, TyOK P ty t
theorem tys_fields {P : Program} : ∀ {tys : List Ty} {fs : List Field} {o : Nat}, TysOK P o tys fs → (∀ f ∈ fs, PlainT P f.type) ∧ Ty.nL tys = (fs.map fun f => P.cellsOf f.type).sum ∧
    ∀ (j : Nat) f, fs[j]? = some f → f.offset = o + ((fs.take j).map fun f => P.cellsOf f.type).sum
  | [], [], o, _ => ⟨by simp, rfl, by simp⟩
  | [], _ :: _, o, h => h.elim
  | _ :: _, [], o, h => h.elim
  | ty :: tys, f :: fs, o, h => by
    obtain ⟨h1, h2, h3, h4⟩ := h
    obtain ⟨g1, g2, g3⟩ := tys_fields h4
    refine ⟨fun f' hf => ?_, by rw [Ty.nL, g2, ← h2]; simp, fun j f' hj => ?_⟩
    · rcases List.mem_cons.1 hf with rfl | hf
      · exact ⟨ty, h3⟩
      · exact g1 f' hf
    · cases j with
      | zero => simp at hj; subst hj; simp [h1]
      | succ j =>
        have := g3 j f' (by simpa using hj)
        rw [this, ← h2]; simp; omega
theorem kids (P : Program) : Kids P (PlainT P) := by
  refine ⟨?_, ?_, ?_, ?_, ?_⟩
  · rintro t e ⟨ty, h⟩ hu
    cases ty with
    | sl _ => obtain ⟨te, h, _⟩ := h; rw [hu] at h; simp at h
    | st _ => obtain ⟨f, h, _⟩ := h; rw [hu] at h; simp at h
    | _ => rw [TyOK, hu] at h; simp at h
  · rintro t e ⟨ty, h⟩ hu
    cases ty with
    | sl e' => obtain ⟨te, h, _, _, h2⟩ := h; rw [hu] at h; simp at h; subst h; exact ⟨e', h2⟩
    | st _ => obtain ⟨f, h, _⟩ := h; rw [hu] at h; simp at h
    | _ => rw [TyOK, hu] at h; simp at h
  · rintro t e n ⟨ty, h⟩ hu
    cases ty with
    | sl _ => obtain ⟨te, h, _⟩ := h; rw [hu] at h; simp at h
    | st _ => obtain ⟨f, h, _⟩ := h; rw [hu] at h; simp at h
    | _ => rw [TyOK, hu] at h; simp at h
  · rintro t fs ⟨ty, h⟩ hu
    cases ty with
    | sl _ => obtain ⟨te, h, _⟩ := h; rw [hu] at h; simp at h
    | st tys =>
      obtain ⟨f, h, hc, hts⟩ := h
      rw [hu] at h
      simp at h
      subst h
      obtain ⟨g1, g2, g3⟩ := tys_fields hts
      exact ⟨g1, by rw [hc, g2], fun j f hj => by rw [g3 j f hj, Nat.zero_add]⟩
    | _ => rw [TyOK, hu] at h; simp at h
  · rintro t k e ⟨ty, h⟩ hu
    cases ty with
    | sl _ => obtain ⟨te, h, _⟩ := h; rw [hu] at h; simp at h
    | st _ => obtain ⟨f, h, _⟩ := h; rw [hu] at h; simp at h
    | _ => rw [TyOK, hu] at h; simp at h
theorem plain_sz {P : Program} {t e : TypeId} (h : PlainT P t) (hu : P.underlying t = some (.slice e)) : 0 < P.cellsOf e := by
  obtain ⟨ty, h⟩ := h
  cases ty with
  | sl _ => obtain ⟨te, h, hc, hb, _⟩ := h; rw [hu] at h; simp at h; subst h; rw [hc]; exact Nat.le_of_ble_eq_true hb
  | st _ => obtain ⟨f, h, _⟩ := h; rw [hu] at h; simp at h
  | _ => rw [TyOK, hu] at h; simp at h
section
variable {H : Type} {enc : TypeId × Value → H} {P : Program}
theorem stays_all {W W' : World} {sp' : Nat → Bool} : ∀ {ts : List TypeId} {vs : List Value} {ds : List (DataW H)} {ps : List MemPlace}, (∀ t ∈ ts, PlainT P t) → DataW.TrodAll enc P W 0 (fun _ => true) true ts vs ds ps →
    (∀ p ∈ ps, W.sameAt W' p) → (∀ p ∈ ps, sp' p.block = true) → DataW.TrodAll enc P W' 0 sp' true ts vs ds ps
  | [], [], [], ps, _, h, _, _ => h
  | t :: ts, v :: vs, d :: ds, ps, ht, h, hsame, hs => by
    obtain ⟨p, q, ⟨n, hn⟩, hl, rfl⟩ := h
    refine ⟨p, q, ⟨n, ?_⟩, stays_all (fun t h => ht t (by simp [h])) hl (fun x hx => hsame x (by simp [hx])) (fun x hx => hs x (by simp [hx])), rfl⟩
    exact DataW.trod_stays (kids P) plain_sz (by simp) (ht t (by simp)) hn (fun x hx => hsame x (by simp [hx])) (fun x hx => hs x (by simp [hx]))
theorem post_law {f : Func} {s : ChangeSpec} {apart fresh handsOn again : Bool} {W W' : World} {args : Array Value} {ds gs : List (DataW H)} {before : List MemPlace} {tb : TypeId} (hsv : s.vars = [])
    (hW : DataW.Whole enc P f.params.toList s.vars apart W args.toList ds gs before) (htys : ∀ t ∈ f.params.toList, PlainT P t) (hrt : f.resultTypes = #[tb]) (hub : P.underlying tb = some .bool)
    (hfn : s.fn H (ds ++ gs) = { results := [.lit (.bool true)], args := ds }) (hb : Below W.heap.size W W') : s.post enc P f apart fresh handsOn again W args (.bool true) W' := by
  have hW0 := hW
  obtain ⟨p, q, hA, hV, rfl, hfz, hnd⟩ := hW
  rw [hsv] at hV
  obtain ⟨rfl, rfl⟩ := trodVars_none hV
  rw [List.append_nil] at hfz hnd hW0
  have hlt := hW0.lt
  have hsame : ∀ x ∈ p, W.sameAt W' x := fun x hx => hb.same (hlt x hx)
  have hres : ∀ (b : Nat) (sp : Nat → Bool) (hd : Bool), DataW.TrodAll enc P W' b sp hd f.resultTypes.toList ((Value.bool true).resultList f.resultTypes.size) (s.fn H (ds ++ [])).results [] := fun b sp hd => by
    rw [hfn, hrt]
    exact trodAll_cons_mk (shut_bool hub _) trodAll_mk0
  have hargs : ∀ sp : Nat → Bool, (∀ x ∈ p, sp x.block = true) → DataW.TrodAll enc P W' 0 sp true f.params.toList args.toList (s.fn H (ds ++ [])).args p := fun sp hs => by
    rw [hfn]; exact stays_all htys hA hsame hs
  have hvars : ∀ sp : Nat → Bool, DataW.TrodVars enc P W' sp s.vars (s.fn H (ds ++ [])).vars [] := fun sp => by rw [hfn, hsv]; rfl
  have hold : ∀ x ∈ p, (fun b => decide (b < W.heap.size)) x.block = true := fun x hx => by simpa using hlt x hx
  refine ⟨ds, [], p, [], p, [], hW0, hres _ _ _, hargs _ hold, hvars _, World.keptBut_mono (fun x hx => ⟨hx, .inr (.inl hx)⟩) (hb.frame (· ∈ p)), fun _ => ?_⟩
  refine ⟨?_, _, _, ([] ++ p) ++ [], ⟨[] ++ p, [], trodAll_append (hargs _ (fun _ _ => rfl)) (hres 0 (fun _ => true) true), hvars _, rfl, ?_, ?_⟩, ?_⟩
  · intro j t r h1 h2
    exact ok_one (v := .bool true) hrt rfl (okWide_bool_mk hub true) j t r h1 h2
  · intro b off hp
    have hp' : MemPlace.cell b off ∈ p := by simpa using hp
    rw [hb.frozen (p := ⟨b, off, none⟩) (hlt _ hp')]
    exact hfz b off hp'
  · intro ha
    simpa using hnd ha
  · intro x hx _
    simpa using hx
end
mutual
def tyChk (P : Program) : Ty → TypeId → Bool
  | .int k, t => match P.underlying t with | some (.int k') => decide (k' = k) | _ => false
  | .bool, t => match P.underlying t with | some .bool => true | _ => false
  | .str, t => match P.underlying t with | some .string => true | _ => false
  | .sl e, t => match P.underlying t with | some (.slice te) => P.cellsOf te == e.n && (Nat.ble 1 e.n && tyChk P e te) | _ => false
  | .st fs, t => match P.underlying t with | some (.struct f) => P.cellsOf t == Ty.nL fs && tysChk P 0 fs f.toList | _ => false
def tysChk (P : Program) : Nat → List Ty → List Field → Bool
  | _, [], [] => true
  | o, x :: xs, f :: fs => f.offset == o && (P.cellsOf f.type == x.n && (tyChk P x f.type && tysChk P (o + x.n) xs fs))
  | _, _, _ => false
end
mutual
theorem tyChk_ok {P : Program} : ∀ (ty : Ty) (t : TypeId), tyChk P ty t = true → TyOK P ty t
  | .int k, t, h => by
    rw [tyChk] at h; split at h <;> try simp at h
    rename_i hu; subst h; rw [TyOK]; exact hu
  | .bool, t, h => by
    rw [tyChk] at h; split at h <;> try simp at h
    rename_i hu; rw [TyOK]; exact hu
  | .str, t, h => by
    rw [tyChk] at h; split at h <;> try simp at h
    rename_i hu; rw [TyOK]; exact hu
  | .sl e, t, h => by
    rw [tyChk] at h; split at h <;> try simp at h
    rename_i te hu; rw [TyOK]
    exact ⟨te, hu, h.1, by simpa using h.2.1, tyChk_ok e te h.2.2⟩
  | .st fs, t, h => by
    rw [tyChk] at h; split at h <;> try simp at h
    rename_i f hu; rw [TyOK]
    exact ⟨f, hu, h.1, tysChk_ok fs _ _ h.2⟩
theorem tysChk_ok {P : Program} : ∀ (tys : List Ty) (o : Nat) (fs : List Field), tysChk P o tys fs = true → TysOK P o tys fs
  | [], _, [], _ => by rw [TysOK]; trivial
  | [], _, _ :: _, h => by simp [tysChk] at h
  | _ :: _, _, [], h => by simp [tysChk] at h
  | x :: xs, o, f :: fs, h => by
    rw [tysChk] at h
    simp only [Bool.and_eq_true, beq_iff_eq] at h
    rw [TysOK]
    exact ⟨h.1, h.2.1, tyChk_ok x _ h.2.2.1, tysChk_ok xs _ fs h.2.2.2⟩
end
theorem slice_cells {P : Program} {W : World} {base : Nat} {t e : TypeId} {v : Value} (hu : P.underlying t = some (.slice e)) (h : Value.okWide P W .any base t v) : v.cells.toList = [v] := by
  unfold Value.okWide at h
  rw [hu] at h
  simp only at h
  unfold Cell.okWide at h
  rw [hu] at h
  cases v <;> first | rfl | (simp [Cell.ok, hu] at h)
end Go.Fw

/- Shapes of arguments. Plain theorems. -/
set_option linter.unusedVariables false
set_option linter.unusedSimpArgs false
namespace Go.Proofs.YtidlnilcdmhkiaaGreatDoor
open Go Go.Fw
open Go.ChangeShapes Go.WideShapes Go.ChangeAt Go.RowKit
def tyVer : Ty := .st [.int .i64, .int .i64, .int .i64]
def tyTrm : Ty := .st [.str, tyVer, tyVer]
def tyPck : Ty := .st [.str, tyVer, .int .i64, .sl .str, .sl (.sl tyTrm), .sl tyTrm]
theorem shp_i64 {xs : List A} (h : Shp (.int .i64) xs) : ∃ x, xs = [i64 x] := by cases h; exact ⟨_, rfl⟩
theorem shp_str {xs : List A} (h : Shp .str xs) : ∃ x, xs = [str x] ∧ x.length ≤ Go.maxLen := by cases h; exact ⟨_, rfl, by assumption⟩
theorem shp_Ver {xs : List A} (h : Shp tyVer xs) : ∃ v : Ver, xs = v.cells := by
  cases h with | st h =>
  cases h with | cons h1 h =>
  cases h with | cons h2 h =>
  cases h with | cons h3 h =>
  cases h
  obtain ⟨a, rfl⟩ := shp_i64 h1
  obtain ⟨b, rfl⟩ := shp_i64 h2
  obtain ⟨c, rfl⟩ := shp_i64 h3
  exact ⟨⟨a, b, c⟩, rfl⟩
theorem shp_Trm {xs : List A} (h : Shp tyTrm xs) : ∃ v : Trm, xs = v.cells ∧ v.n.length ≤ Go.maxLen := by
  cases h with | st h =>
  cases h with | cons h1 h =>
  cases h with | cons h2 h =>
  cases h with | cons h3 h =>
  cases h
  obtain ⟨n, rfl, hn⟩ := shp_str h1
  obtain ⟨o, rfl⟩ := shp_Ver h2
  obtain ⟨w, rfl⟩ := shp_Ver h3
  exact ⟨⟨n, o, w⟩, rfl, hn⟩
theorem maps_of {α : Type} {f : α → A} {p : α → Prop} : ∀ {ys : List A}, (∀ y ∈ ys, ∃ c, y = f c ∧ p c) → ∃ cs : List α, ys = cs.map f ∧ ∀ c ∈ cs, p c
  | [], _ => ⟨[], rfl, by simp⟩
  | y :: ys, h => by
    obtain ⟨c, rfl, hc⟩ := h y (by simp)
    obtain ⟨cs, rfl, hcs⟩ := maps_of (ys := ys) fun z hz => h z (by simp [hz])
    exact ⟨c :: cs, rfl, fun z hz => by exact (List.mem_cons.1 hz).elim (fun e => e ▸ hc) (hcs z)⟩
theorem shp_sl {e : Ty} {xs : List A} (h : Shp (.sl e) xs) {α : Type} {f : α → A} {p : α → Prop} (hf : ∀ y, Shp e y.cells → y = e.elem y.cells → ∃ c, y = f c ∧ p c) : ∃ cs : List α, xs = [.sl false e.n (cs.map f)] ∧ cs.length ≤ Go.maxLen ∧ ∀ c ∈ cs, p c := by
  cases h with | sl h1 h2 hl =>
  rename_i ys
  obtain ⟨cs, rfl, hp⟩ := maps_of (f := f) (p := p) (ys := ys) fun y hy => hf y (h1 y hy) (h2 y hy)
  exact ⟨cs, rfl, by simpa using hl, hp⟩
theorem shp_strS {xs : List A} (h : Shp (.sl .str) xs) : ∃ cs : List (List UInt8), xs = [.sl false 1 (cs.map str)] ∧ cs.length ≤ Go.maxLen ∧ ∀ c ∈ cs, c.length ≤ Go.maxLen :=
  shp_sl h fun y h1 h2 => by
    obtain ⟨v, hv, hp⟩ := shp_str h1
    exact ⟨v, by rw [h2, hv]; rfl, hp⟩
theorem shp_TrmS {xs : List A} (h : Shp (.sl tyTrm) xs) : ∃ cs : List Trm, xs = [.sl false 7 (cs.map Trm.enc)] ∧ cs.length ≤ Go.maxLen ∧ ∀ c ∈ cs, c.n.length ≤ Go.maxLen :=
  shp_sl h fun y h1 h2 => by
    obtain ⟨v, hv, hp⟩ := shp_Trm h1
    exact ⟨v, by rw [h2, hv]; rfl, hp⟩
theorem shp_TrmSS {xs : List A} (h : Shp (.sl (.sl tyTrm)) xs) : ∃ cs : List (List Trm), xs = [.sl false 1 (cs.map (encTs false))] ∧ cs.length ≤ Go.maxLen ∧ ∀ c ∈ cs, c.length ≤ Go.maxLen ∧ ∀ t ∈ c, t.n.length ≤ Go.maxLen :=
  shp_sl h fun y h1 h2 => by
    obtain ⟨v, hv, hp⟩ := shp_TrmS h1
    exact ⟨v, by rw [h2, hv]; rfl, hp⟩
theorem shp_Pck {xs : List A} (h : Shp tyPck xs) : ∃ v : Pck, xs = v.cells false ∧ v.Fit := by
  cases h with | st h =>
  cases h with | cons h1 h =>
  cases h with | cons h2 h =>
  cases h with | cons h3 h =>
  cases h with | cons h4 h =>
  cases h with | cons h5 h =>
  cases h with | cons h6 h =>
  cases h
  obtain ⟨n, rfl, hn⟩ := shp_str h1
  obtain ⟨v, rfl⟩ := shp_Ver h2
  obtain ⟨s, rfl⟩ := shp_i64 h3
  obtain ⟨p, rfl, hp⟩ := shp_strS h4
  obtain ⟨d, rfl, hd⟩ := shp_TrmSS h5
  obtain ⟨b, rfl, hb⟩ := shp_TrmS h6
  exact ⟨⟨n, v, s, p, d, b⟩, rfl, ⟨hn, hp, hd, hb⟩⟩
theorem shp_PckS {xs : List A} (h : Shp (.sl tyPck) xs) : ∃ cs : List Pck, xs = [.sl false 8 (cs.map (Pck.enc false))] ∧ cs.length ≤ Go.maxLen ∧ ∀ c ∈ cs, c.Fit :=
  shp_sl h fun y h1 h2 => by
    obtain ⟨v, hv, hp⟩ := shp_Pck h1
    exact ⟨v, by rw [h2, hv]; rfl, hp⟩
/-- Bytes. -/
theorem shp_bytes {xs : List A} (h : Shp (.sl (.int .u8)) xs) : ∃ bs : List A, xs = [.sl false 1 bs] ∧ bs.length ≤ Go.maxLen ∧ ∀ i, i < bs.length → ∃ c : UInt8, bs[i]? = some (.sc (.int .u8 (c.toNat : Int))) := by
  cases h with | sl h1 h2 hl =>
  rename_i ys
  refine ⟨ys, rfl, hl, fun i hi => ?_⟩
  obtain ⟨y, hy⟩ : ∃ y, ys[i]? = some y := ⟨_, List.getElem?_eq_getElem hi⟩
  have hm := List.mem_of_getElem? hy
  have e := h2 y hm
  have s := h1 y hm
  generalize y.cells = cs at *
  cases s with
  | int hwf =>
    rename_i n
    have hb : 0 ≤ n ∧ n < 256 := by
      simp only [Lit.wf, Bool.and_eq_true, decide_eq_true_eq] at hwf
      have h3 : IntKind.u8.min = 0 := by decide
      have h4 : IntKind.u8.max = 255 := by decide
      omega
    refine ⟨UInt8.ofNat n.toNat, ?_⟩
    rw [hy, e]
    show some (A.sc (.int .u8 n)) = _
    have : ((UInt8.ofNat n.toNat).toNat : Int) = n := by simp; omega
    rw [this]
theorem int_cells {P : Program} {W : World} {base : Nat} {t : TypeId} {k : IntKind} {v : Value} (hu : P.underlying t = some (.int k)) (h : Value.okWide P W .any base t v) : v.cells.toList = [v] := by
  unfold Value.okWide at h
  rw [hu] at h
  simp only at h
  unfold Cell.okWide at h
  rw [hu] at h
  cases v <;> first | rfl | (simp [Cell.ok, hu] at h)
end Go.Proofs.YtidlnilcdmhkiaaGreatDoor

/- Shapes of disks. Plain theorems. -/
set_option linter.unusedVariables false
set_option linter.unusedSimpArgs false
namespace Go.Proofs.YtidlnilcdmhkiaaGreatDoor
open Go Go.Fw
open Go.ChangeShapes Go.WideShapes Go.ChangeAt Go.RowKit
def tyFil : Ty := .st [.str, .sl (.int .u8)]
def tyDsk : Ty := .st [.sl tyFil, .int .i64, .int .i64, .int .i64, .bool]
def isSt : Option TypeDesc → Bool
  | some (.struct _) => true
  | _ => false
theorem agg_cells {P : Program} {W : World} {base : Nat} {t : TypeId} {v : Value} (hu : isSt (P.underlying t) = true) (h : Value.okWide P W .any base t v) : ∃ c, v = .agg c ∧ v.cells.toList = c.toList := by
  unfold Value.okWide at h
  cases hp : P.underlying t with
  | none => rw [hp] at hu; cases hu
  | some q =>
    rw [hp] at hu h
    cases q <;> first | (cases hu; done) | skip
    obtain ⟨c, rfl, -⟩ := h
    exact ⟨c, rfl, rfl⟩
theorem agg_one {w : World} {G : Nat → Prop} {xs : List A} {c : Array Value} (h : RelL w G xs c.toList []) : RelL w G [.agg xs] [.agg c] [] := by
  have := RelL.cons (F := []) (Fs := []) (Rel.agg h) .nil
  simpa using this
theorem shp_bytesU {xs : List A} (h : Shp (.sl (.int .u8)) xs) : ∃ d : List UInt8, xs = [.sl false 1 (d.map byteA)] ∧ d.length ≤ Go.maxLen := by
  obtain ⟨bs, rfl, hl, hb⟩ := shp_bytes h
  suffices hs : ∃ d : List UInt8, bs = d.map byteA by
    obtain ⟨d, rfl⟩ := hs
    exact ⟨d, rfl, by simpa using hl⟩
  clear h hl
  induction bs with
  | nil => exact ⟨[], rfl⟩
  | cons b bs ih =>
    obtain ⟨c, hc⟩ := hb 0 (by simp)
    obtain ⟨d, hd⟩ := ih fun i hi => by
      have := hb (i + 1) (by simpa using hi)
      simpa using this
    exact ⟨c :: d, by rw [List.map_cons, ← hd]; simp at hc; rw [hc]; rfl⟩
theorem shp_bool {xs : List A} (h : Shp .bool xs) : ∃ b : Bool, xs = [boo b] := by cases h; exact ⟨_, rfl⟩
theorem shp_Fil {xs : List A} (h : Shp tyFil xs) : ∃ f : Fil, xs = [str f.p, .sl false 1 (f.d.map byteA)] ∧ f.Fit := by
  cases h with | st h =>
  cases h with | cons h1 h =>
  cases h with | cons h2 h =>
  cases h
  obtain ⟨n, rfl, hn⟩ := shp_str h1
  obtain ⟨d, rfl, hd⟩ := shp_bytesU h2
  exact ⟨⟨n, d⟩, rfl, ⟨hn, hd⟩⟩
theorem shp_Dsk {xs : List A} (h : Shp tyDsk xs) : ∃ x : Dsk, xs = [.sl false 2 (x.f.map (Fil.enc false)), i64 x.bg, i64 x.wr, i64 x.st, boo x.dn] ∧ x.f.length ≤ Go.maxLen ∧ ∀ f ∈ x.f, f.Fit := by
  cases h with | st h =>
  cases h with | cons h1 h =>
  cases h with | cons h2 h =>
  cases h with | cons h3 h =>
  cases h with | cons h4 h =>
  cases h with | cons h5 h =>
  cases h
  obtain ⟨fs, rfl, hl, hf⟩ := shp_sl (f := Fil.enc false) (p := Fil.Fit) h1 fun y h1 h2 => by
    obtain ⟨v, hv, hp⟩ := shp_Fil h1
    exact ⟨v, by rw [h2, hv]; rfl, hp⟩
  obtain ⟨a, rfl⟩ := shp_i64 h2
  obtain ⟨b, rfl⟩ := shp_i64 h3
  obtain ⟨c, rfl⟩ := shp_i64 h4
  obtain ⟨d, rfl⟩ := shp_bool h5
  exact ⟨⟨fs, a, b, c, d⟩, rfl, hl, hf⟩
end Go.Proofs.YtidlnilcdmhkiaaGreatDoor

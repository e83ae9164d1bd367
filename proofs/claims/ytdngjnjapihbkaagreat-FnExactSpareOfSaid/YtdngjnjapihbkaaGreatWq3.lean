/- Walks: faults of a set. Plain theorems. -/
import Derived.Test.YtdngjnjapihbkaaGreatW4
set_option linter.unusedVariables false
set_option linter.unusedSimpArgs false
namespace Go.Proofs.YtdngjnjapihbkaaGreat
open Go Go.Fw
set_option maxRecDepth 100000
structure Flt where
  k : Int
  p : Int
  a : Int
def Flt.enc (f : Flt) : A := .agg [i64 f.k, i64 f.p, i64 f.a]
def twB (c : List Pck) (s : List Int) (i : Nat) (n : List UInt8) : Bool := (s.take i).any fun j => (pk c j).n == n
def metB (c : List Pck) (s : List Int) (l : List Trm) : Bool := s.any fun o => l.any (givesB (pk c o))
def givB (c : List Pck) (s : List Int) (k : Int) (t : Trm) : Bool := s.any fun o => !decide (o = k) && givesB (pk c o) t
def nF (c : List Pck) (s : List Int) (k : Int) : Nat → List (List Trm) → List Flt
  | _, [] => []
  | j, l :: ls => (if metB c s l then [] else [⟨2, k, (j : Int)⟩]) ++ nF c s k (j + 1) ls
def bF (c : List Pck) (s : List Int) (k : Int) : Nat → List Trm → List Flt
  | _, [] => []
  | j, t :: ts => (if givB c s k t then [⟨3, k, (j : Int)⟩] else []) ++ bF c s k (j + 1) ts
def tF (c : List Pck) (s : List Int) (i : Nat) (k : Int) : List Flt := if twB c s i (pk c k).n then [⟨1, k, 0⟩] else []
def aF (c : List Pck) (s : List Int) : Nat → List Int → List Flt
  | _, [] => []
  | i, k :: ks => tF c s i k ++ (nF c s k 0 (pk c k).d ++ (bF c s k 0 (pk c k).b ++ aF c s (i + 1) ks))
/-- All faults of a set. -/
def fltS (c : List Pck) (s : List Int) : List Flt := aF c s 0 s
theorem nF_at {c : List Pck} {s : List Int} {k : Int} {d : List (List Trm)} {j : Nat} {l : List Trm} (h : d[j]? = some l) : nF c s k j (d.drop j) = (if metB c s l then [] else [⟨2, k, (j : Int)⟩]) ++ nF c s k (j + 1) (d.drop (j + 1)) := by
  obtain ⟨h1, h2⟩ := List.getElem?_eq_some_iff.1 h
  rw [List.drop_eq_getElem_cons h1, h2, nF]
theorem bF_at {c : List Pck} {s : List Int} {k : Int} {d : List Trm} {j : Nat} {l : Trm} (h : d[j]? = some l) : bF c s k j (d.drop j) = (if givB c s k l then [⟨3, k, (j : Int)⟩] else []) ++ bF c s k (j + 1) (d.drop (j + 1)) := by
  obtain ⟨h1, h2⟩ := List.getElem?_eq_some_iff.1 h
  rw [List.drop_eq_getElem_cons h1, h2, bF]
theorem aF_at {c : List Pck} {s l : List Int} {i : Nat} {k : Int} (h : l[i]? = some k) : aF c s i (l.drop i) = tF c s i k ++ (nF c s k 0 (pk c k).d ++ (bF c s k 0 (pk c k).b ++ aF c s (i + 1) (l.drop (i + 1)))) := by
  obtain ⟨h1, h2⟩ := List.getElem?_eq_some_iff.1 h
  rw [List.drop_eq_getElem_cons h1, h2, aF]
theorem nF_len (c : List Pck) (s : List Int) (k : Int) : ∀ (d : List (List Trm)) (j : Nat), (nF c s k j d).length ≤ d.length
  | [], _ => by simp [nF]
  | l :: d, j => by
    have := nF_len c s k d (j + 1)
    rw [nF, List.length_append, List.length_cons]
    split <;> simp <;> omega
theorem bF_len (c : List Pck) (s : List Int) (k : Int) : ∀ (d : List Trm) (j : Nat), (bF c s k j d).length ≤ d.length
  | [], _ => by simp [bF]
  | l :: d, j => by
    have := bF_len c s k d (j + 1)
    rw [bF, List.length_append, List.length_cons]
    split <;> simp <;> omega
theorem aF_len (c : List Pck) (s : List Int) : ∀ (l : List Int) (i : Nat), (∀ k ∈ l, (pk c k).d.length ≤ 1048576 ∧ (pk c k).b.length ≤ 1048576) → (aF c s i l).length ≤ l.length * 2097153
  | [], _, _ => by simp [aF]
  | k :: l, i, h => by
    have h1 := aF_len c s l (i + 1) fun x hx => h x (by simp [hx])
    have h2 := nF_len c s k (pk c k).d 0
    have h3 := bF_len c s k (pk c k).b 0
    have h4 := h k (by simp)
    have h5 : (tF c s i k).length ≤ 1 := by unfold tF; split <;> simp
    rw [aF, List.length_append, List.length_append, List.length_append, List.length_cons]
    omega
theorem fltS_len {c : List Pck} {s : List Int} (h : ∀ k ∈ s, (pk c k).d.length ≤ 1048576 ∧ (pk c k).b.length ≤ 1048576) (hs : s.length ≤ 1048576) : (fltS c s).length ≤ 2199024304128 := by
  have := aF_len c s s 0 h
  unfold fltS
  omega
theorem metB_eq {c : List Pck} {s : List Int} (h : ∀ k ∈ s, 0 ≤ k) (l : List Trm) : metB c s l = l.any (givB c s (-1)) := by
  unfold metB givB
  rw [Bool.eq_iff_iff]
  simp only [List.any_eq_true, Bool.and_eq_true, Bool.not_eq_true', decide_eq_false_iff_not]
  constructor
  · rintro ⟨o, ho, t, ht, hg⟩
    exact ⟨t, ht, o, ho, by have := h o ho; omega, hg⟩
  · rintro ⟨t, ht, o, ho, _, hg⟩
    exact ⟨o, ho, t, ht, hg⟩
theorem c_l3Given (l : List Pck) (s : List Int) (t : Trm) (but : Int) (hl : l.length ≤ 1048576) (hs : s.length ≤ 1048576) (ho : ∀ o ∈ l, o.Small) (hk : ∀ k ∈ s, inB k 0 ((l.length : Int) - 1) = true) : PCtr PP n_spec_l3Given [encP l, .sl false 1 (s.map i64), t.enc, i64 but] (boo (givB l s but t)) := by
  obtain ⟨Ω, hΩ⟩ : ∃ Ω, Ω = std := ⟨_, rfl⟩
  obtain ⟨r, hr⟩ : ∃ r, r = givB l s but t := ⟨_, rfl⟩
  rw [← hr]
  unfold givB at hr
  obtain ⟨xs, hxs⟩ : ∃ xs, xs = l.map (Pck.enc false) := ⟨_, rfl⟩
  have hlen : xs.length = l.length := by rw [hxs, List.length_map]
  obtain ⟨ys, hys⟩ : ∃ ys, ys = s.map i64 := ⟨_, rfl⟩
  have hylen : ys.length = s.length := by rw [hys, List.length_map]
  unfold encP at *
  rw [← hxs, ← hys]
  have hat : ∀ k ∈ s, 0 ≤ k ∧ ∃ n v1 v2 v3 sz ps ds bs, xs[k.toNat]? = some (.agg [str n, i64 v1, i64 v2, i64 v3, i64 sz, .sl false 1 ps, .sl false 1 ds, .sl false 7 bs]) ∧ PCtr PP n_spec_l2Gives [.agg [str n, i64 v1, i64 v2, i64 v3, i64 sz, .sl false 1 ps, .sl false 1 ds, .sl false 7 bs], t.enc] (boo (givesB (pk l k) t)) := fun k h => by
    obtain ⟨h0, h1, h2, h3⟩ := pk_at (hk k h)
    obtain ⟨ps, ds, bs, hen, -, -, -⟩ := enc_raw (pk l k)
    have := c_l2Gives (pk l k) t (by have := (ho _ h3).p; omega)
    rw [hen] at this
    exact ⟨h0, _, _, _, _, _, ps, ds, bs, by rw [hxs, List.getElem?_map, h2]; exact congrArg some hen, this⟩
  clear hk ho hxs
  have htab := tab
  have hmo := hmo
  refine PCtr.walk tab hΩ fn_spec_l3Given rfl ?_
  generalize PP = P at *
  cbv
  refine loopX htab hΩ (fun i : Nat => ⟨[(0, .sl false 8 xs), (1, .sl false 1 ys), (3, .sc (.int .i64 but)), (6, .pt 0 0 0), (9, .sc (.int .i64 (Ω.int i)))], 33, [some ⟨7, [t.enc], true⟩]⟩) (fun i => i ≤ s.length ∧ r = (s.drop i).any fun o => !decide (o = but) && givesB (pk l o) t) (fun i => s.length - i) 0
    ⟨Nat.zero_le _, hr⟩ (Sbs.mk rfl rfl ⟨rfl, rfl, rfl, rfl, zeroI hΩ, trivial⟩) ?_
  rintro i ⟨hi, he⟩
  cbv
  refine br (fun h => ?_) (fun h => ?_) <;> cbv
  · replace h := ltI hΩ h
    obtain ⟨c, hcc⟩ := at_of (cs := s) (by omega : i < s.length)
    rw [any_at _ hcc] at he
    obtain ⟨hc0, n, v1, v2, v3, sz, ps, ds, bs, hx, hg⟩ := hat c (List.mem_of_getElem? hcc)
    generalize givesB (pk l c) t = gb at hg he
    refine ⟨VC_drawn htab hΩ hmo (by kernel_rfl) ?_⟩
    cbv
    refine ⟨⟨nnI hΩ⟩, _, rdI hΩ hys hcc, ?_⟩
    cbv
    refine br (fun g => ?_) (fun g => ?_) <;> cbv
    · have g := neI_t hΩ g
      refine ⟨⟨nnI hΩ⟩, _, rdI hΩ hys hcc, ?_⟩
      cbv
      refine ⟨⟨hc0⟩, _, hx, ?_⟩
      cbv
      refine QCall_pure (k := 3) hg rfl (fits _) rfl ?_
      cbv
      refine br (fun h => ?_) (fun h => ?_) <;> cbv
      · have h : gb = true := by subst hΩ; exact h
        exact .of (congrArg boo (by rw [he, h, decide_eq_false g]; rfl))
      · have h : gb = false := by subst hΩ; exact h
        rw [h, Bool.and_false, Bool.false_or] at he
        exact ⟨i + 1, ⟨by omega, he⟩, by omega, Sbs.mk rfl rfl ⟨rfl, rfl, rfl, rfl, incI hΩ (by omega), trivial⟩⟩
    · have g := neI_f hΩ g
      rw [decide_eq_true g, Bool.not_true, Bool.false_and, Bool.false_or] at he
      exact ⟨i + 1, ⟨by omega, he⟩, by omega, Sbs.mk rfl rfl ⟨rfl, rfl, rfl, rfl, incI hΩ (by omega), trivial⟩⟩
  · replace h := geI hΩ h
    exact .of (congrArg boo (by rw [he, List.drop_of_length_le (by omega)]; rfl))
theorem c_l3Met (l : List Pck) (s : List Int) (d : List Trm) (hl : l.length ≤ 1048576) (hs : s.length ≤ 1048576) (hd : d.length ≤ 1048576) (ho : ∀ o ∈ l, o.Small) (hk : ∀ k ∈ s, inB k 0 ((l.length : Int) - 1) = true) : PCtr PP n_spec_l3Met [encP l, .sl false 1 (s.map i64), .sl false 7 (d.map Trm.enc)] (boo (metB l s d)) := by
  obtain ⟨Ω, hΩ⟩ : ∃ Ω, Ω = std := ⟨_, rfl⟩
  obtain ⟨r, hr⟩ : ∃ r, r = metB l s d := ⟨_, rfl⟩
  rw [← hr]
  rw [metB_eq (fun k h => (pk_at (hk k h)).1)] at hr
  obtain ⟨zs, hzs⟩ : ∃ zs, zs = d.map Trm.enc := ⟨_, rfl⟩
  have hlen : zs.length = d.length := by rw [hzs, List.length_map]
  rw [← hzs]
  have hg := fun t => c_l3Given l s t (-1) hl hs ho hk
  unfold encP at *
  generalize givB l s (-1) = G at *
  generalize l.map (Pck.enc false) = xs at *
  generalize s.map i64 = ys at *
  have htab := tab
  have hmo := hmo
  refine PCtr.walk tab hΩ fn_spec_l3Met rfl ?_
  generalize PP = P at *
  cbv
  refine loopX htab hΩ (fun i : Nat => ⟨[(0, .sl false 8 xs), (1, .sl false 1 ys), (2, .sl false 7 zs), (7, .sc (.int .i64 (Ω.int i)))], 21, []⟩) (fun i => i ≤ d.length ∧ r = (d.drop i).any G) (fun i => d.length - i) 0
    ⟨Nat.zero_le _, hr⟩ (Sbs.mk rfl rfl ⟨rfl, rfl, rfl, zeroI hΩ, trivial⟩) ?_
  rintro i ⟨hi, he⟩
  cbv
  refine br (fun h => ?_) (fun h => ?_) <;> cbv
  · replace h := ltI hΩ h
    obtain ⟨c, hcc⟩ := at_of (cs := d) (by omega : i < d.length)
    rw [any_at _ hcc] at he
    refine ⟨⟨nnI hΩ⟩, _, rdI hΩ hzs hcc, ?_⟩
    cbv
    refine call_pure hΩ 3 (hg c) rfl (fits _) rfl rfl ?_
    cbv
    refine br (fun g => ?_) (fun g => ?_) <;> cbv
    · exact .of (congrArg boo (by rw [he, show G c = true from g]; rfl))
    · rw [show G c = false from g, Bool.false_or] at he
      exact ⟨i + 1, ⟨by omega, he⟩, by omega, Sbs.mk rfl rfl ⟨rfl, rfl, rfl, incI hΩ (by omega), trivial⟩⟩
  · replace h := geI hΩ h
    exact .of (congrArg boo (by rw [he, List.drop_of_length_le (by omega)]; rfl))
/-- The place of the package of a name. -/
def nmF (c : List Pck) (n : List UInt8) : List Int → Int
  | [] => -1
  | k :: ks => if (pk c k).n == n then k else nmF c n ks
theorem nmF_at {c : List Pck} {n : List UInt8} {l : List Int} {i : Nat} {k : Int} (h : l[i]? = some k) : nmF c n (l.drop i) = if (pk c k).n == n then k else nmF c n (l.drop (i + 1)) := by
  obtain ⟨h1, h2⟩ := List.getElem?_eq_some_iff.1 h
  rw [List.drop_eq_getElem_cons h1, h2, nmF]
theorem nmF_any {c : List Pck} {n : List UInt8} : ∀ {l : List Int}, (∀ k ∈ l, 0 ≤ k) → (decide (0 ≤ nmF c n l)) = l.any fun j => (pk c j).n == n
  | [], _ => rfl
  | k :: l, h => by
    have ih := nmF_any (c := c) (n := n) (l := l) fun x hx => h x (by simp [hx])
    rw [nmF, List.any_cons]
    by_cases hb : ((pk c k).n == n) = true
    · rw [if_pos hb, hb, Bool.true_or]; exact decide_eq_true (h k (by simp))
    · rw [if_neg hb, ih, Bool.eq_false_iff.2 hb, Bool.false_or]
theorem c_named (l : List Pck) (s : List Int) (n : List UInt8) (hl : l.length ≤ 1048576) (hs : s.length ≤ 1048576) (hk : ∀ k ∈ s, inB k 0 ((l.length : Int) - 1) = true) : PCtr PP n_impl_named [encP l, .sl false 1 (s.map i64), str n] (i64 (nmF l n s)) := by
  obtain ⟨Ω, hΩ⟩ : ∃ Ω, Ω = std := ⟨_, rfl⟩
  obtain ⟨r, hr⟩ : ∃ r, r = nmF l n s := ⟨_, rfl⟩
  rw [← hr]
  have hat : ∀ k, inB k 0 ((l.length : Int) - 1) = true → 0 ≤ k ∧ ∃ v1 v2 v3 sz ps ds bs, (l.map (Pck.enc false))[k.toNat]? = some (.agg [str (pk l k).n, i64 v1, i64 v2, i64 v3, i64 sz, .sl false 1 ps, .sl false 1 ds, .sl false 7 bs]) ∧ pk l k ∈ l ∧
      Pck.enc false (pk l k) = .agg [str (pk l k).n, i64 v1, i64 v2, i64 v3, i64 sz, .sl false 1 ps, .sl false 1 ds, .sl false 7 bs] ∧ ds = (pk l k).d.map (encTs false) ∧ bs = (pk l k).b.map Trm.enc := fun k h => by
    obtain ⟨h0, h1, h2, h3⟩ := pk_at h
    obtain ⟨ps, ds, bs, hen, hp, hd, hb⟩ := enc_raw (pk l k)
    exact ⟨h0, _, _, _, _, ps, ds, bs, by rw [List.getElem?_map, h2]; exact congrArg some hen, h3, hen, hd, hb⟩
  obtain ⟨ys, hys⟩ : ∃ ys, ys = s.map i64 := ⟨_, rfl⟩
  have hylen : ys.length = s.length := by rw [hys, List.length_map]
  unfold encP at *
  rw [← hys]
  generalize l.map (Pck.enc false) = xs at *
  have htab := tab
  have hmo := hmo
  refine PCtr.walk tab hΩ fn_impl_named rfl ?_
  generalize PP = P at *
  cbv
  refine loopX htab hΩ (fun i : Nat => ⟨[(0, .sl false 8 xs), (2, .sc (.string (mkS n))), (9, .sl false 1 ys), (10, .sc (.int .i64 (Ω.int (Ω.len ys)))), (11, .sc (.int .i64 (Ω.int i)))], 24, []⟩) (fun i => i ≤ s.length ∧ r = nmF l n (s.drop i)) (fun i => s.length - i) 0
    ⟨Nat.zero_le _, hr⟩ (Sbs.mk rfl rfl ⟨rfl, rfl, rfl, rfl, zeroI hΩ, trivial⟩) ?_
  rintro i ⟨hi, he⟩
  cbv
  refine br (fun h => ?_) (fun h => ?_) <;> cbv
  · replace h := ltI hΩ h
    obtain ⟨c, hcc⟩ := at_of (cs := s) (by omega : i < s.length)
    rw [nmF_at hcc] at he
    obtain ⟨hc0, v1, v2, v3, sz, ps, ds, bs, hx, -, -, -⟩ := hat c (hk c (List.mem_of_getElem? hcc))
    generalize (pk l c).n = nn at hx he
    refine ⟨⟨nnI hΩ⟩, _, rdI hΩ hys hcc, ?_⟩
    cbv
    refine ⟨⟨hc0⟩, _, hx, ?_⟩
    cbv
    refine br (fun g => ?_) (fun g => ?_) <;> cbv
    · exact .of (congrArg i64 (by rw [he, if_pos (by subst hΩ; exact g)]))
    · rw [if_neg (by subst hΩ; rw [show (nn == n) = false from g]; simp)] at he
      exact ⟨i + 1, ⟨by omega, he⟩, by omega, Sbs.mk rfl rfl ⟨rfl, rfl, rfl, rfl, incI hΩ (by omega), trivial⟩⟩
  · replace h := geI hΩ h
    exact .of (congrArg i64 (by rw [he, List.drop_of_length_le (by omega)]; rfl))
theorem c_faults1 (l : List Pck) (k : Int) (d : List Trm) (hl : l.length ≤ 1048576) (hd : d.length ≤ 1048576) (ho : ∀ o ∈ l, o.Small) (hk : inB k 0 ((l.length : Int) - 1) = true) : PCtr PP n_impl_faults_1 [i64 k, .rp [encP l], .rp [.sl false 7 (d.map Trm.enc)]] (boo (d.any (givesB (pk l k)))) := by
  obtain ⟨Ω, hΩ⟩ : ∃ Ω, Ω = std := ⟨_, rfl⟩
  have hat : ∀ k, inB k 0 ((l.length : Int) - 1) = true → 0 ≤ k ∧ ∃ v1 v2 v3 sz ps ds bs, (l.map (Pck.enc false))[k.toNat]? = some (.agg [str (pk l k).n, i64 v1, i64 v2, i64 v3, i64 sz, .sl false 1 ps, .sl false 1 ds, .sl false 7 bs]) ∧ pk l k ∈ l ∧
      Pck.enc false (pk l k) = .agg [str (pk l k).n, i64 v1, i64 v2, i64 v3, i64 sz, .sl false 1 ps, .sl false 1 ds, .sl false 7 bs] ∧ ds = (pk l k).d.map (encTs false) ∧ bs = (pk l k).b.map Trm.enc := fun k h => by
    obtain ⟨h0, h1, h2, h3⟩ := pk_at h
    obtain ⟨ps, ds, bs, hen, hp, hd, hb⟩ := enc_raw (pk l k)
    exact ⟨h0, _, _, _, _, ps, ds, bs, by rw [List.getElem?_map, h2]; exact congrArg some hen, h3, hen, hd, hb⟩
  obtain ⟨hc0, v1, v2, v3, sz, ps, ds, bs, hx, hm, hen, -, -⟩ := hat k hk
  have hg := c_givesOne (pk l k) d (ho _ hm).p hd
  rw [hen] at hg
  clear hat
  unfold encP
  generalize d.any (givesB (pk l k)) = r at *
  generalize (pk l k).n = nn at *
  generalize l.map (Pck.enc false) = xs at *
  generalize d.map Trm.enc = zs at *
  have htab := tab
  have hmo := hmo
  refine PCtr.walk tab hΩ fn_impl_faults_1 rfl ?_
  generalize PP = P at *
  cbv
  refine ⟨VC_drawn htab hΩ hmo (by kernel_rfl) ?_⟩
  cbv
  refine ⟨⟨hc0⟩, _, hx, ?_⟩
  cbv
  refine QCall_pure (k := 3) hg rfl (fits _) rfl ?_
  cbv
  exact .same
theorem c_faults2 (l : List Pck) (k q : Int) (t : Trm) (hl : l.length ≤ 1048576) (ho : ∀ o ∈ l, o.Small) (hk : inB k 0 ((l.length : Int) - 1) = true) : PCtr PP n_impl_faults_2 [i64 k, .rp [i64 q], .rp [encP l], .rp t.cells] (boo (!decide (k = q) && givesB (pk l k) t)) := by
  obtain ⟨Ω, hΩ⟩ : ∃ Ω, Ω = std := ⟨_, rfl⟩
  have hat : ∀ k, inB k 0 ((l.length : Int) - 1) = true → 0 ≤ k ∧ ∃ v1 v2 v3 sz ps ds bs, (l.map (Pck.enc false))[k.toNat]? = some (.agg [str (pk l k).n, i64 v1, i64 v2, i64 v3, i64 sz, .sl false 1 ps, .sl false 1 ds, .sl false 7 bs]) ∧ pk l k ∈ l ∧
      Pck.enc false (pk l k) = .agg [str (pk l k).n, i64 v1, i64 v2, i64 v3, i64 sz, .sl false 1 ps, .sl false 1 ds, .sl false 7 bs] ∧ ds = (pk l k).d.map (encTs false) ∧ bs = (pk l k).b.map Trm.enc := fun k h => by
    obtain ⟨h0, h1, h2, h3⟩ := pk_at h
    obtain ⟨ps, ds, bs, hen, hp, hd, hb⟩ := enc_raw (pk l k)
    exact ⟨h0, _, _, _, _, ps, ds, bs, by rw [List.getElem?_map, h2]; exact congrArg some hen, h3, hen, hd, hb⟩
  obtain ⟨hc0, v1, v2, v3, sz, ps, ds, bs, hx, hm, hen, -, -⟩ := hat k hk
  have hg := c_gives (pk l k) t (ho _ hm).p
  rw [hen] at hg
  clear hat
  unfold encP
  generalize givesB (pk l k) t = gb at *
  generalize (pk l k).n = nn at *
  generalize l.map (Pck.enc false) = xs at *
  obtain ⟨r, hr⟩ : ∃ r, r = (!decide (k = q) && gb) := ⟨_, rfl⟩
  rw [← hr]
  have htab := tab
  have hmo := hmo
  refine PCtr.walk tab hΩ fn_impl_faults_2 rfl ?_
  generalize PP = P at *
  cbv
  refine ⟨VC_drawn htab hΩ hmo (by kernel_rfl) ?_⟩
  cbv
  repeat' (first | (refine br (fun h => ?_) (fun h => ?_) <;> cbv) | (refine ⟨⟨hc0⟩, _, hx, ?_⟩; cbv) | (refine QCall_pure (k := 3) hg rfl (fits _) rfl ?_; cbv))
  all_goals (refine .of (congrArg boo ?_); subst hΩ; subst hr; clear hg hx htab hmo; simp_all)
theorem c_faults (l : List Pck) (s : List Int) (hl : l.length ≤ 1048576) (hs : s.length ≤ 1048576) (ho : ∀ o ∈ l, o.Small) (hk : ∀ k ∈ s, inB k 0 ((l.length : Int) - 1) = true) : PCtr PP n_impl_faults [encP l, .sl false 1 (s.map i64)] (.sl true 3 ((fltS l s).map Flt.enc)) := by
  obtain ⟨Ω, hΩ⟩ : ∃ Ω, Ω = std := ⟨_, rfl⟩
  have hat : ∀ k, inB k 0 ((l.length : Int) - 1) = true → 0 ≤ k ∧ ∃ v1 v2 v3 sz ps ds bs, (l.map (Pck.enc false))[k.toNat]? = some (.agg [str (pk l k).n, i64 v1, i64 v2, i64 v3, i64 sz, .sl false 1 ps, .sl false 1 ds, .sl false 7 bs]) ∧ pk l k ∈ l ∧
      Pck.enc false (pk l k) = .agg [str (pk l k).n, i64 v1, i64 v2, i64 v3, i64 sz, .sl false 1 ps, .sl false 1 ds, .sl false 7 bs] ∧ ds = (pk l k).d.map (encTs false) ∧ bs = (pk l k).b.map Trm.enc := fun k h => by
    obtain ⟨h0, h1, h2, h3⟩ := pk_at h
    obtain ⟨ps, ds, bs, hen, hp, hd, hb⟩ := enc_raw (pk l k)
    exact ⟨h0, _, _, _, _, ps, ds, bs, by rw [List.getElem?_map, h2]; exact congrArg some hen, h3, hen, hd, hb⟩
  obtain ⟨tot, htot⟩ : ∃ tot, tot = fltS l s := ⟨_, rfl⟩
  have hb : tot.length ≤ 2199024304128 := by rw [htot]; exact fltS_len (fun k h => ⟨(ho _ (pk_at (hk k h)).2.2.2).d, (ho _ (pk_at (hk k h)).2.2.2).b⟩) hs
  rw [← htot]
  obtain ⟨e, he⟩ : ∃ e : List Flt → List A, e = List.map Flt.enc := ⟨_, rfl⟩
  have hel : ∀ o, (e o).length = o.length := fun o => by rw [he, List.length_map]
  have hea : ∀ o f, e (o ++ [f]) = e o ++ [f.enc] := fun o f => by rw [he, List.map_append]; rfl
  have he0 : e [] = [] := by rw [he]; rfl
  have hap : ∀ o f m, o.length = m → Ω.app (Ω.take m (e o)) [f.enc] = e (o ++ [f]) := fun o f m h => by
    rw [hea]
    subst hΩ
    show (e o).take m ++ [f.enc] = _
    rw [List.take_of_length_le (by rw [hel]; omega)]
  have hlp : ∀ (o : List Flt) (f : Flt) (x : A) m, o.length = m → Ω.plus m (Ω.len [x]) = (o ++ [f]).length := fun o f x m h => by
    rw [List.length_append, h]; subst hΩ; rfl
  rw [show List.map Flt.enc = e from he.symm]
  clear he
  obtain ⟨cs, hcs⟩ : ∃ cs, cs = l.map (Pck.enc false) := ⟨_, rfl⟩
  obtain ⟨xs, hxs⟩ : ∃ xs, xs = s.map i64 := ⟨_, rfl⟩
  have hxl : xs.length = s.length := by rw [hxs, List.length_map]
  have hnm : ∀ i n, PCtr PP n_impl_named [encP l, .sl false 1 (xs.take i), str n] (i64 (nmF l n (s.take i))) := fun i n => by
    rw [hxs, ← List.map_take]
    exact c_named l (s.take i) n hl (by simp; omega) fun k h => hk k (List.mem_of_mem_take h)
  have htw : ∀ i n, decide (0 ≤ nmF l n (s.take i)) = twB l s i n := fun i n => nmF_any fun k h => (pk_at (hk k (List.mem_of_mem_take h))).1
  have hmet : ∀ d : List Trm, d.length ≤ 1048576 → PCtr PP n_slices_ContainsFunc_L_int64_int64 [.sl false 1 xs, .clo n_impl_faults_1 [.rp [encP l], .rp [.sl false 7 (d.map Trm.enc)]]] (boo (metB l s d)) := fun d hd => by
    rw [hxs]
    exact c_ContainsFuncI s (by omega) _ _ _ ⟨fun _ _ => rfl, rfl, fun _ => rfl, fun k h => c_faults1 l k d hl hd ho (hk k h)⟩
  have hgiv : ∀ q t, PCtr PP n_slices_ContainsFunc_L_int64_int64 [.sl false 1 xs, .clo n_impl_faults_2 [.rp [i64 q], .rp [encP l], .rp t.cells]] (boo (givB l s q t)) := fun q t => by
    rw [hxs]
    exact c_ContainsFuncI s (by omega) _ _ _ ⟨fun _ _ => rfl, rfl, fun _ => rfl, fun k h => c_faults2 l k q t hl ho (hk k h)⟩
  unfold encP at *
  unfold fltS at htot
  rw [← hcs] at hat hnm hmet hgiv ⊢
  rw [← hxs]
  have htab := tab
  have hmo := hmo
  refine PCtr.walk tab hΩ fn_impl_faults rfl ?_
  generalize PP = P at *
  cbv
  refine loopX htab hΩ (fun i : Nat × List Flt => ⟨[(1, .sl false 1 xs), (2, .pt 0 0 0), (5, .vw 1 0 i.2.length), (14, .sl false 1 xs), (15, .sc (.int .i64 (Ω.int (Ω.len xs)))), (16, .sc (.int .i64 (Ω.int i.1)))], 77,
      [some ⟨1, [.sl false 8 cs], true⟩, some ⟨3, e i.2, false⟩]⟩) (fun i => i.1 ≤ s.length ∧ i.2 ++ aF l s i.1 (s.drop i.1) = tot) (fun i => s.length - i.1) (0, []) ⟨Nat.zero_le _, htot.symm⟩
    (Sbs.mk rfl (by dsimp only; rw [he0]) ⟨rfl, rfl, rfl, rfl, rfl, zeroI hΩ, trivial⟩) ?_
  rintro ⟨i, out⟩ ⟨hi, hout⟩
  dsimp only at hi hout
  dsimp only
  obtain ⟨m, hm⟩ : ∃ m, out.length = m := ⟨_, rfl⟩
  rw [hm]
  cbv
  refine br (fun h => ?_) (fun h => ?_) <;> cbv
  · replace h := ltI hΩ h
    obtain ⟨c, hcc⟩ := at_of (cs := s) (by omega : i < s.length)
    rw [aF_at hcc] at hout
    have hcin := hk c (List.mem_of_getElem? hcc)
    obtain ⟨hc0, v1, v2, v3, sz, ps, ds, bs, hx, hm2, hen, hds, hbs⟩ := hat c hcin
    have hdl : ds.length = (pk l c).d.length := by rw [hds, List.length_map]
    have hbl : bs.length = (pk l c).b.length := by rw [hbs, List.length_map]
    have hsm := ho _ hm2
    have hn1 := hnm i (pk l c).n
    have htwi : decide (0 ≤ nmF l (pk l c).n (s.take i)) = twB l s i (pk l c).n := htw i (pk l c).n
    unfold tF at hout
    generalize nmF l (pk l c).n (s.take i) = nm at *
    generalize twB l s i (pk l c).n = tw at *
    have hd1 := hsm.d
    have hd2 := hsm.e
    have hb1 := hsm.b
    generalize (pk l c).d = d at *
    generalize (pk l c).b = b at *
    generalize (pk l c).n = nn at *
    refine ⟨⟨nnI hΩ⟩, _, rdI hΩ hxs hcc, ?_⟩
    cbv
    refine ⟨⟨hc0⟩, _, hx, ?_⟩
    cbv
    refine ⟨VC_drawn htab hΩ hmo (by kernel_rfl) ?_⟩
    cbv
    have hn2 : PCtr P n_impl_named [.sl false 8 cs, .sl false 1 (Ω.seg 0 (Ω.nat (Ω.int i)) xs), str nn] (i64 nm) := by subst hΩ; exact hn1
    refine ⟨⟨⟨trivial, (nnI hΩ), Nat.zero_le _, by subst hΩ; show ((i : Int)).toNat ≤ xs.length; omega⟩⟩, ?_⟩
    refine QCall_pure (k := 3) hn2 rfl (fits _) rfl ?_
    cbv
    obtain ⟨rest, hrest⟩ : ∃ rest, rest = nF l s c 0 d ++ (bF l s c 0 b ++ aF l s (i + 1) (s.drop (i + 1))) := ⟨_, rfl⟩
    rw [← hrest] at hout
    have hml : m + 1 ≤ 2199024304129 := by
      have := congrArg List.length hout
      simp only [List.length_append] at this
      omega
    refine br (fun g => ?_) (fun g => ?_) <;> cbv
    · have g : tw = true := by rw [← htwi]; exact decide_eq_true (geI_t hΩ g)
      rw [g, if_pos rfl, ← List.append_assoc] at hout
      refine ⟨⟨rfl, okAll rfl, by show (m + 1) * 24 ≤ 140737488355328; omega, by show m + 1 ≤ 9223372036854775807; omega⟩, ?_⟩
      refine loopX htab hΩ (fun j : Nat × List Flt => ⟨[(1, .sl false 1 xs), (2, .pt 0 0 0), (5, .vw 1 0 j.2.length), (14, .sl false 1 xs), (15, .sc (.int .i64 (Ω.int (Ω.len xs)))), (16, .sc (.int .i64 (Ω.int i))), (7, .pt 2 0 0), (8, .pt 3 0 0), (39, .sl false 1 ds), (40, .sc (.int .i64 (Ω.int (Ω.len ds)))), (41, .sc (.int .i64 (Ω.int j.1)))], 77, [some ⟨1, [.sl false 8 cs], true⟩, some ⟨3, e j.2, false⟩, some ⟨1, [i64 c], true⟩, some ⟨8, [.agg [str nn, i64 v1, i64 v2, i64 v3, i64 sz, .sl false 1 ps, .sl false 1 ds, .sl false 7 bs]], true⟩]⟩) (fun j => j.1 ≤ d.length ∧ j.2 ++ (nF l s c j.1 (d.drop j.1) ++ (bF l s c 0 b ++ aF l s (i + 1) (s.drop (i + 1)))) = tot) (fun j => d.length - j.1) (0, out ++ [(⟨1, c, 0⟩ : Flt)]) ⟨Nat.zero_le _, by rw [hrest] at hout; exact hout⟩
        (Sbs.trans (Sbs.lastN (rows := [_, _, _, _]) rfl) (Sbs.mk rfl (by dsimp only; rw [← hap out ⟨1, c, 0⟩ m hm]; subst hΩ; rfl) ⟨rfl, rfl, congrArg (A.vw 1 0) (hlp out ⟨1, c, 0⟩ _ m hm), rfl, rfl, rfl, rfl, rfl, rfl, rfl, zeroI hΩ, trivial⟩)) ?_
      rintro ⟨j, o2⟩ ⟨hj, hj2⟩
      dsimp only at hj hj2
      dsimp only
      obtain ⟨m2, hm2⟩ : ∃ m2, o2.length = m2 := ⟨_, rfl⟩
      rw [hm2]
      cbv
      have hml2 : m2 ≤ 2199024304128 := by
        have := congrArg List.length hj2
        rw [List.length_append, hm2] at this
        omega
      refine br (fun h => ?_) (fun h => ?_) <;> cbv
      · replace h := ltI hΩ h
        obtain ⟨u, huu⟩ := at_of (cs := d) (by omega : j < d.length)
        rw [nF_at huu, List.append_assoc] at hj2
        have hc := hmet u (hd2 u (List.mem_of_getElem? huu))
        obtain ⟨us, hus⟩ : ∃ us, us = u.map Trm.enc := ⟨_, rfl⟩
        rw [← hus] at hc
        have hrd : ds[(Ω.int j).toNat]? = some (.sl false 7 us) := (rdI hΩ hds huu).trans (by rw [hus]; rfl)
        generalize metB l s u = gu at hc hj2
        refine ⟨⟨nnI hΩ⟩, _, hrd, ?_⟩
        cbv
        refine call_pure hΩ 5 hc (ro_clo2 rfl rfl) (fits _) rfl rfl ?_
        cbv
        refine br (fun g => ?_) (fun g => ?_) <;> cbv
        · have g : gu = false := notT' hΩ g
          rw [g, if_neg (by simp), ← List.append_assoc] at hj2
          refine ⟨⟨rfl, okAll rfl, by show (m2 + 1) * 24 ≤ 140737488355328; omega, by show m2 + 1 ≤ 9223372036854775807; omega⟩, (j + 1, o2 ++ [⟨2, c, j⟩]), ⟨by dsimp only; omega, hj2⟩, by dsimp only; omega, ?_⟩
          exact Sbs.trans (Sbs.lastN (rows := [_, _, _, _, _]) rfl) (Sbs.mkL (rows := [_, _, _, _]) rfl rfl (by dsimp only; rw [← hap o2 ⟨2, c, j⟩ m2 hm2]; subst hΩ; rfl) ⟨rfl, rfl, congrArg (A.vw 1 0) (hlp o2 ⟨2, c, j⟩ _ m2 hm2), rfl, rfl, rfl, rfl, rfl, rfl, rfl, incI hΩ (by omega), trivial⟩)
        · have g : gu = true := notF' hΩ g
          rw [g] at hj2
          exact ⟨(j + 1, o2), ⟨by dsimp only; omega, hj2⟩, by dsimp only; omega, Sbs.mkL (rows := [_, _, _, _]) rfl rfl rfl ⟨rfl, rfl, congrArg (A.vw 1 0) hm2.symm, rfl, rfl, rfl, rfl, rfl, rfl, rfl, incI hΩ (by omega), trivial⟩⟩
      · replace h := geI hΩ h
        rw [List.drop_of_length_le (by omega : d.length ≤ j), nF, List.nil_append] at hj2
        obtain ⟨o1, m1, hm1, rfl⟩ : ∃ o1 m1, o1.length = m1 ∧ o1 = o2 := ⟨_, _, rfl, rfl⟩
        obtain rfl : m2 = m1 := hm2.symm.trans hm1
        clear hm2
        refine loopX htab hΩ (fun j : Nat × List Flt => ⟨[(1, .sl false 1 xs), (2, .pt 0 0 0), (5, .vw 1 0 j.2.length), (14, .sl false 1 xs), (15, .sc (.int .i64 (Ω.int (Ω.len xs)))), (16, .sc (.int .i64 (Ω.int i))), (7, .pt 2 0 0), (8, .pt 3 0 0), (58, .sl false 7 bs), (59, .sc (.int .i64 (Ω.int (Ω.len bs)))), (60, .sc (.int .i64 (Ω.int j.1)))], 77, [some ⟨1, [.sl false 8 cs], true⟩, some ⟨3, e j.2, false⟩, some ⟨1, [i64 c], true⟩, some ⟨8, [.agg [str nn, i64 v1, i64 v2, i64 v3, i64 sz, .sl false 1 ps, .sl false 1 ds, .sl false 7 bs]], true⟩]⟩) (fun j => j.1 ≤ b.length ∧ j.2 ++ (bF l s c j.1 (b.drop j.1) ++ aF l s (i + 1) (s.drop (i + 1))) = tot) (fun j => b.length - j.1) (0, o1) ⟨Nat.zero_le _, hj2⟩
          (Sbs.mk rfl rfl ⟨rfl, rfl, congrArg (A.vw 1 0) hm1.symm, rfl, rfl, rfl, rfl, rfl, rfl, rfl, zeroI hΩ, trivial⟩) ?_
        rintro ⟨j, o2⟩ ⟨hj, hj2⟩
        dsimp only at hj hj2
        dsimp only
        obtain ⟨m2, hm2⟩ : ∃ m2, o2.length = m2 := ⟨_, rfl⟩
        rw [hm2]
        cbv
        have hml2 : m2 ≤ 2199024304128 := by
          have := congrArg List.length hj2
          rw [List.length_append, hm2] at this
          omega
        refine br (fun h => ?_) (fun h => ?_) <;> cbv
        · replace h := ltI hΩ h
          obtain ⟨u, huu⟩ := at_of (cs := b) (by omega : j < b.length)
          rw [bF_at huu, List.append_assoc] at hj2
          have hc := hgiv c u
          generalize givB l s c u = gu at hc hj2
          refine ⟨⟨nnI hΩ⟩, _, rdI hΩ hbs huu, ?_⟩
          cbv
          refine call_pure hΩ 5 hc (ro_clo2 rfl rfl) (fits _) rfl rfl ?_
          cbv
          refine br (fun g => ?_) (fun g => ?_) <;> cbv
          · have g : gu = true := g
            rw [g, if_pos rfl, ← List.append_assoc] at hj2
            refine ⟨⟨rfl, okAll rfl, by show (m2 + 1) * 24 ≤ 140737488355328; omega, by show m2 + 1 ≤ 9223372036854775807; omega⟩, (j + 1, o2 ++ [⟨3, c, j⟩]), ⟨by dsimp only; omega, hj2⟩, by dsimp only; omega, ?_⟩
            exact Sbs.trans (Sbs.lastN (rows := [_, _, _, _, _]) rfl) (Sbs.mkL (rows := [_, _, _, _]) rfl rfl (by dsimp only; rw [← hap o2 ⟨3, c, j⟩ m2 hm2]; subst hΩ; rfl) ⟨rfl, rfl, congrArg (A.vw 1 0) (hlp o2 ⟨3, c, j⟩ _ m2 hm2), rfl, rfl, rfl, rfl, rfl, rfl, rfl, incI hΩ (by omega), trivial⟩)
          · have g : gu = false := g
            rw [g] at hj2
            exact ⟨(j + 1, o2), ⟨by dsimp only; omega, hj2⟩, by dsimp only; omega, Sbs.mkL (rows := [_, _, _, _]) rfl rfl rfl ⟨rfl, rfl, congrArg (A.vw 1 0) hm2.symm, rfl, rfl, rfl, rfl, rfl, rfl, rfl, incI hΩ (by omega), trivial⟩⟩
        · replace h := geI hΩ h
          rw [List.drop_of_length_le (by omega : b.length ≤ j), bF, List.nil_append] at hj2
          exact ⟨(i + 1, o2), ⟨by dsimp only; omega, hj2⟩, by dsimp only; omega, Sbs.trans (Sbs.last (rows := [_, _, _]) rfl) (Sbs.mkL (rows := [_, _]) rfl rfl rfl ⟨rfl, rfl, congrArg (A.vw 1 0) hm2.symm, rfl, rfl, incI hΩ (by omega), trivial⟩)⟩
    · have g : tw = false := by rw [← htwi]; exact decide_eq_false (by have := geI_f hΩ g; omega)
      rw [g] at hout
      refine loopX htab hΩ (fun j : Nat × List Flt => ⟨[(1, .sl false 1 xs), (2, .pt 0 0 0), (5, .vw 1 0 j.2.length), (14, .sl false 1 xs), (15, .sc (.int .i64 (Ω.int (Ω.len xs)))), (16, .sc (.int .i64 (Ω.int i))), (7, .pt 2 0 0), (8, .pt 3 0 0), (39, .sl false 1 ds), (40, .sc (.int .i64 (Ω.int (Ω.len ds)))), (41, .sc (.int .i64 (Ω.int j.1)))], 77, [some ⟨1, [.sl false 8 cs], true⟩, some ⟨3, e j.2, false⟩, some ⟨1, [i64 c], true⟩, some ⟨8, [.agg [str nn, i64 v1, i64 v2, i64 v3, i64 sz, .sl false 1 ps, .sl false 1 ds, .sl false 7 bs]], true⟩]⟩) (fun j => j.1 ≤ d.length ∧ j.2 ++ (nF l s c j.1 (d.drop j.1) ++ (bF l s c 0 b ++ aF l s (i + 1) (s.drop (i + 1)))) = tot) (fun j => d.length - j.1) (0, out) ⟨Nat.zero_le _, by rw [hrest] at hout; exact hout⟩
        (Sbs.mk rfl rfl ⟨rfl, rfl, congrArg (A.vw 1 0) hm.symm, rfl, rfl, rfl, rfl, rfl, rfl, rfl, zeroI hΩ, trivial⟩) ?_
      rintro ⟨j, o2⟩ ⟨hj, hj2⟩
      dsimp only at hj hj2
      dsimp only
      obtain ⟨m2, hm2⟩ : ∃ m2, o2.length = m2 := ⟨_, rfl⟩
      rw [hm2]
      cbv
      have hml2 : m2 ≤ 2199024304128 := by
        have := congrArg List.length hj2
        rw [List.length_append, hm2] at this
        omega
      refine br (fun h => ?_) (fun h => ?_) <;> cbv
      · replace h := ltI hΩ h
        obtain ⟨u, huu⟩ := at_of (cs := d) (by omega : j < d.length)
        rw [nF_at huu, List.append_assoc] at hj2
        have hc := hmet u (hd2 u (List.mem_of_getElem? huu))
        obtain ⟨us, hus⟩ : ∃ us, us = u.map Trm.enc := ⟨_, rfl⟩
        rw [← hus] at hc
        have hrd : ds[(Ω.int j).toNat]? = some (.sl false 7 us) := (rdI hΩ hds huu).trans (by rw [hus]; rfl)
        generalize metB l s u = gu at hc hj2
        refine ⟨⟨nnI hΩ⟩, _, hrd, ?_⟩
        cbv
        refine call_pure hΩ 5 hc (ro_clo2 rfl rfl) (fits _) rfl rfl ?_
        cbv
        refine br (fun g => ?_) (fun g => ?_) <;> cbv
        · have g : gu = false := notT' hΩ g
          rw [g, if_neg (by simp), ← List.append_assoc] at hj2
          refine ⟨⟨rfl, okAll rfl, by show (m2 + 1) * 24 ≤ 140737488355328; omega, by show m2 + 1 ≤ 9223372036854775807; omega⟩, (j + 1, o2 ++ [⟨2, c, j⟩]), ⟨by dsimp only; omega, hj2⟩, by dsimp only; omega, ?_⟩
          exact Sbs.trans (Sbs.lastN (rows := [_, _, _, _, _]) rfl) (Sbs.mkL (rows := [_, _, _, _]) rfl rfl (by dsimp only; rw [← hap o2 ⟨2, c, j⟩ m2 hm2]; subst hΩ; rfl) ⟨rfl, rfl, congrArg (A.vw 1 0) (hlp o2 ⟨2, c, j⟩ _ m2 hm2), rfl, rfl, rfl, rfl, rfl, rfl, rfl, incI hΩ (by omega), trivial⟩)
        · have g : gu = true := notF' hΩ g
          rw [g] at hj2
          exact ⟨(j + 1, o2), ⟨by dsimp only; omega, hj2⟩, by dsimp only; omega, Sbs.mkL (rows := [_, _, _, _]) rfl rfl rfl ⟨rfl, rfl, congrArg (A.vw 1 0) hm2.symm, rfl, rfl, rfl, rfl, rfl, rfl, rfl, incI hΩ (by omega), trivial⟩⟩
      · replace h := geI hΩ h
        rw [List.drop_of_length_le (by omega : d.length ≤ j), nF, List.nil_append] at hj2
        obtain ⟨o1, m1, hm1, rfl⟩ : ∃ o1 m1, o1.length = m1 ∧ o1 = o2 := ⟨_, _, rfl, rfl⟩
        obtain rfl : m2 = m1 := hm2.symm.trans hm1
        clear hm2
        refine loopX htab hΩ (fun j : Nat × List Flt => ⟨[(1, .sl false 1 xs), (2, .pt 0 0 0), (5, .vw 1 0 j.2.length), (14, .sl false 1 xs), (15, .sc (.int .i64 (Ω.int (Ω.len xs)))), (16, .sc (.int .i64 (Ω.int i))), (7, .pt 2 0 0), (8, .pt 3 0 0), (58, .sl false 7 bs), (59, .sc (.int .i64 (Ω.int (Ω.len bs)))), (60, .sc (.int .i64 (Ω.int j.1)))], 77, [some ⟨1, [.sl false 8 cs], true⟩, some ⟨3, e j.2, false⟩, some ⟨1, [i64 c], true⟩, some ⟨8, [.agg [str nn, i64 v1, i64 v2, i64 v3, i64 sz, .sl false 1 ps, .sl false 1 ds, .sl false 7 bs]], true⟩]⟩) (fun j => j.1 ≤ b.length ∧ j.2 ++ (bF l s c j.1 (b.drop j.1) ++ aF l s (i + 1) (s.drop (i + 1))) = tot) (fun j => b.length - j.1) (0, o1) ⟨Nat.zero_le _, hj2⟩
          (Sbs.mk rfl rfl ⟨rfl, rfl, congrArg (A.vw 1 0) hm1.symm, rfl, rfl, rfl, rfl, rfl, rfl, rfl, zeroI hΩ, trivial⟩) ?_
        rintro ⟨j, o2⟩ ⟨hj, hj2⟩
        dsimp only at hj hj2
        dsimp only
        obtain ⟨m2, hm2⟩ : ∃ m2, o2.length = m2 := ⟨_, rfl⟩
        rw [hm2]
        cbv
        have hml2 : m2 ≤ 2199024304128 := by
          have := congrArg List.length hj2
          rw [List.length_append, hm2] at this
          omega
        refine br (fun h => ?_) (fun h => ?_) <;> cbv
        · replace h := ltI hΩ h
          obtain ⟨u, huu⟩ := at_of (cs := b) (by omega : j < b.length)
          rw [bF_at huu, List.append_assoc] at hj2
          have hc := hgiv c u
          generalize givB l s c u = gu at hc hj2
          refine ⟨⟨nnI hΩ⟩, _, rdI hΩ hbs huu, ?_⟩
          cbv
          refine call_pure hΩ 5 hc (ro_clo2 rfl rfl) (fits _) rfl rfl ?_
          cbv
          refine br (fun g => ?_) (fun g => ?_) <;> cbv
          · have g : gu = true := g
            rw [g, if_pos rfl, ← List.append_assoc] at hj2
            refine ⟨⟨rfl, okAll rfl, by show (m2 + 1) * 24 ≤ 140737488355328; omega, by show m2 + 1 ≤ 9223372036854775807; omega⟩, (j + 1, o2 ++ [⟨3, c, j⟩]), ⟨by dsimp only; omega, hj2⟩, by dsimp only; omega, ?_⟩
            exact Sbs.trans (Sbs.lastN (rows := [_, _, _, _, _]) rfl) (Sbs.mkL (rows := [_, _, _, _]) rfl rfl (by dsimp only; rw [← hap o2 ⟨3, c, j⟩ m2 hm2]; subst hΩ; rfl) ⟨rfl, rfl, congrArg (A.vw 1 0) (hlp o2 ⟨3, c, j⟩ _ m2 hm2), rfl, rfl, rfl, rfl, rfl, rfl, rfl, incI hΩ (by omega), trivial⟩)
          · have g : gu = false := g
            rw [g] at hj2
            exact ⟨(j + 1, o2), ⟨by dsimp only; omega, hj2⟩, by dsimp only; omega, Sbs.mkL (rows := [_, _, _, _]) rfl rfl rfl ⟨rfl, rfl, congrArg (A.vw 1 0) hm2.symm, rfl, rfl, rfl, rfl, rfl, rfl, rfl, incI hΩ (by omega), trivial⟩⟩
        · replace h := geI hΩ h
          rw [List.drop_of_length_le (by omega : b.length ≤ j), bF, List.nil_append] at hj2
          exact ⟨(i + 1, o2), ⟨by dsimp only; omega, hj2⟩, by dsimp only; omega, Sbs.trans (Sbs.last (rows := [_, _, _]) rfl) (Sbs.mkL (rows := [_, _]) rfl rfl rfl ⟨rfl, rfl, congrArg (A.vw 1 0) hm2.symm, rfl, rfl, incI hΩ (by omega), trivial⟩)⟩
  · have hil : i = s.length := by have := geI hΩ h; omega
    rw [hil, List.drop_length, aF, List.append_nil] at hout
    refine ⟨⟨rfl, by show m ≤ (e out).length; rw [hel, hm]; exact Nat.le_refl _⟩, .of ?_⟩
    rw [← hout]
    subst hΩ
    show A.sl true 3 ((e out).take m) = _
    rw [List.take_of_length_le (by rw [hel]; omega)]
theorem c_l3Faults (l : List Pck) (s : List Int) (hl : l.length ≤ 1048576) (hs : s.length ≤ 1048576) (ho : ∀ o ∈ l, o.Small) (hk : ∀ k ∈ s, inB k 0 ((l.length : Int) - 1) = true) : PCtr PP n_spec_l3Faults [encP l, .sl false 1 (s.map i64)] (.sl true 3 ((fltS l s).map Flt.enc)) := by
  obtain ⟨Ω, hΩ⟩ : ∃ Ω, Ω = std := ⟨_, rfl⟩
  have hat : ∀ k, inB k 0 ((l.length : Int) - 1) = true → 0 ≤ k ∧ ∃ v1 v2 v3 sz ps ds bs, (l.map (Pck.enc false))[k.toNat]? = some (.agg [str (pk l k).n, i64 v1, i64 v2, i64 v3, i64 sz, .sl false 1 ps, .sl false 1 ds, .sl false 7 bs]) ∧ pk l k ∈ l ∧
      Pck.enc false (pk l k) = .agg [str (pk l k).n, i64 v1, i64 v2, i64 v3, i64 sz, .sl false 1 ps, .sl false 1 ds, .sl false 7 bs] ∧ ds = (pk l k).d.map (encTs false) ∧ bs = (pk l k).b.map Trm.enc := fun k h => by
    obtain ⟨h0, h1, h2, h3⟩ := pk_at h
    obtain ⟨ps, ds, bs, hen, hp, hd, hb⟩ := enc_raw (pk l k)
    exact ⟨h0, _, _, _, _, ps, ds, bs, by rw [List.getElem?_map, h2]; exact congrArg some hen, h3, hen, hd, hb⟩
  obtain ⟨tot, htot⟩ : ∃ tot, tot = fltS l s := ⟨_, rfl⟩
  have hb : tot.length ≤ 2199024304128 := by rw [htot]; exact fltS_len (fun k h => ⟨(ho _ (pk_at (hk k h)).2.2.2).d, (ho _ (pk_at (hk k h)).2.2.2).b⟩) hs
  rw [← htot]
  obtain ⟨e, he⟩ : ∃ e : List Flt → List A, e = List.map Flt.enc := ⟨_, rfl⟩
  have hel : ∀ o, (e o).length = o.length := fun o => by rw [he, List.length_map]
  have hea : ∀ o f, e (o ++ [f]) = e o ++ [f.enc] := fun o f => by rw [he, List.map_append]; rfl
  have he0 : e [] = [] := by rw [he]; rfl
  have hap : ∀ o f m, o.length = m → Ω.app (Ω.take m (e o)) [f.enc] = e (o ++ [f]) := fun o f m h => by
    rw [hea]
    subst hΩ
    show (e o).take m ++ [f.enc] = _
    rw [List.take_of_length_le (by rw [hel]; omega)]
  have hlp : ∀ (o : List Flt) (f : Flt) (x : A) m, o.length = m → Ω.plus m (Ω.len [x]) = (o ++ [f]).length := fun o f x m h => by
    rw [List.length_append, h]; subst hΩ; rfl
  rw [show List.map Flt.enc = e from he.symm]
  clear he
  obtain ⟨cs, hcs⟩ : ∃ cs, cs = l.map (Pck.enc false) := ⟨_, rfl⟩
  obtain ⟨xs, hxs⟩ : ∃ xs, xs = s.map i64 := ⟨_, rfl⟩
  have hxl : xs.length = s.length := by rw [hxs, List.length_map]
  have hmet : ∀ d : List Trm, d.length ≤ 1048576 → PCtr PP n_spec_l3Met [encP l, .sl false 1 xs, .sl false 7 (d.map Trm.enc)] (boo (metB l s d)) := fun d hd => by
    rw [hxs]
    exact c_l3Met l s d hl hs hd ho hk
  have hgiv : ∀ q t, PCtr PP n_spec_l3Given [encP l, .sl false 1 xs, t.enc, i64 q] (boo (givB l s q t)) := fun q t => by
    rw [hxs]
    exact c_l3Given l s t q hl hs ho hk
  unfold encP at *
  unfold fltS at htot
  rw [← hcs] at hat hmet hgiv ⊢
  rw [← hxs]
  have htab := tab
  have hmo := hmo
  refine PCtr.walk tab hΩ fn_spec_l3Faults rfl ?_
  generalize PP = P at *
  cbv
  refine loopX htab hΩ (fun i : Nat × List Flt => ⟨[(0, .sl false 8 cs), (1, .sl false 1 xs), (5, .vw 0 0 i.2.length), (6, .sc (.int .i64 (Ω.int i.1)))], 103,
      [some ⟨3, e i.2, false⟩]⟩) (fun i => i.1 ≤ s.length ∧ i.2 ++ aF l s i.1 (s.drop i.1) = tot) (fun i => s.length - i.1) (0, []) ⟨Nat.zero_le _, htot.symm⟩
    (Sbs.mk rfl (by dsimp only; rw [he0]) ⟨rfl, rfl, rfl, zeroI hΩ, trivial⟩) ?_
  rintro ⟨i, out⟩ ⟨hi, hout⟩
  dsimp only at hi hout
  dsimp only
  obtain ⟨m, hm⟩ : ∃ m, out.length = m := ⟨_, rfl⟩
  rw [hm]
  cbv
  refine br (fun h => ?_) (fun h => ?_) <;> cbv
  · replace h := ltI hΩ h
    obtain ⟨c, hcc⟩ := at_of (cs := s) (by omega : i < s.length)
    rw [aF_at hcc] at hout
    have hcin := hk c (List.mem_of_getElem? hcc)
    obtain ⟨hc0, v1, v2, v3, sz, ps, ds, bs, hx, hm2, hen, hds, hbs⟩ := hat c hcin
    have hdl : ds.length = (pk l c).d.length := by rw [hds, List.length_map]
    have hbl : bs.length = (pk l c).b.length := by rw [hbs, List.length_map]
    have hsm := ho _ hm2
    unfold tF at hout
    have hd1 := hsm.d
    have hd2 := hsm.e
    have hb1 := hsm.b
    generalize (pk l c).d = d at *
    generalize (pk l c).b = b at *
    generalize (pk l c).n = nn at *
    obtain ⟨tw, htw⟩ : ∃ tw, tw = twB l s i nn := ⟨_, rfl⟩
    rw [← htw] at hout
    unfold twB at htw
    refine ⟨⟨nnI hΩ⟩, _, rdI hΩ hxs hcc, ?_⟩
    cbv
    refine ⟨⟨hc0⟩, _, hx, ?_⟩
    cbv
    obtain ⟨rest, hrest⟩ : ∃ rest, rest = nF l s c 0 d ++ (bF l s c 0 b ++ aF l s (i + 1) (s.drop (i + 1))) := ⟨_, rfl⟩
    rw [← hrest] at hout
    have hml : tw = true → m + 1 ≤ 2199024304129 := fun _ => by
      have := congrArg List.length hout
      simp only [List.length_append] at this
      omega
    refine loopX htab hΩ (fun q : Nat => ⟨[(0, .sl false 8 cs), (1, .sl false 1 xs), (5, .vw 0 0 m), (6, .sc (.int .i64 (Ω.int i))), (7, .pt 1 0 0), (8, .sc (.int .i64 (Ω.int q)))], 103,
        [some ⟨3, e out, false⟩, some ⟨8, [.agg [str nn, i64 v1, i64 v2, i64 v3, i64 sz, .sl false 1 ps, .sl false 1 ds, .sl false 7 bs]], true⟩]⟩)
      (fun q => q ≤ i ∧ tw = ((s.take i).drop q).any fun j => (pk l j).n == nn) (fun q => i - q) 0 ⟨Nat.zero_le _, htw⟩ (Sbs.mk rfl rfl ⟨rfl, rfl, rfl, rfl, rfl, zeroI hΩ, trivial⟩) ?_
    rintro q ⟨hq, hqa⟩
    cbv
    refine br (fun g => ?_) (fun g => ?_) <;> cbv
    · replace g := ltN hΩ g
      obtain ⟨p, hpp⟩ := at_of (cs := s) (by omega : q < s.length)
      rw [any_at _ (show (s.take i)[q]? = some p by rw [List.getElem?_take_of_lt g]; exact hpp)] at hqa
      obtain ⟨hp0, w1, w2, w3, wz, ps', ds', bs', hx', -, -, -, -⟩ := hat p (hk p (List.mem_of_getElem? hpp))
      generalize (pk l p).n = n2 at hqa hx'
      refine ⟨VC_drawn htab hΩ hmo (by kernel_rfl) ?_⟩
      cbv
      refine ⟨⟨nnI hΩ⟩, _, rdI hΩ hxs hpp, ?_⟩
      cbv
      refine ⟨⟨hp0⟩, _, hx', ?_⟩
      cbv
      refine br (fun g2 => ?_) (fun g2 => ?_) <;> cbv
      · have g2 : tw = true := by rw [hqa, show (n2 == nn) = true by subst hΩ; exact g2]; rfl
        have hml := hml g2
        rw [g2, if_pos rfl, ← List.append_assoc] at hout
        refine ⟨⟨nnI hΩ⟩, _, rdI hΩ hxs hcc, ?_⟩
        cbv
        refine ⟨⟨rfl, okAll rfl, by show (m + 1) * 24 ≤ 140737488355328; omega, by show m + 1 ≤ 9223372036854775807; omega⟩, ?_⟩
        refine loopX htab hΩ (fun j : Nat × List Flt => ⟨[(0, .sl false 8 cs), (1, .sl false 1 xs), (5, .vw 0 0 j.2.length), (6, .sc (.int .i64 (Ω.int i))), (7, .pt 1 0 0), (9, .sc (.int .i64 (Ω.int j.1)))], 103, [some ⟨3, e j.2, false⟩, some ⟨8, [.agg [str nn, i64 v1, i64 v2, i64 v3, i64 sz, .sl false 1 ps, .sl false 1 ds, .sl false 7 bs]], true⟩]⟩) (fun j => j.1 ≤ d.length ∧ j.2 ++ (nF l s c j.1 (d.drop j.1) ++ (bF l s c 0 b ++ aF l s (i + 1) (s.drop (i + 1)))) = tot) (fun j => d.length - j.1) (0, out ++ [(⟨1, c, 0⟩ : Flt)]) ⟨Nat.zero_le _, by rw [hrest] at hout; exact hout⟩
          (Sbs.trans (Sbs.lastN (rows := [_, _]) rfl) (Sbs.mk rfl (by dsimp only; rw [← hap out ⟨1, c, 0⟩ m hm]; subst hΩ; rfl) ⟨rfl, rfl, congrArg (A.vw 0 0) (hlp out ⟨1, c, 0⟩ _ m hm), rfl, rfl, zeroI hΩ, trivial⟩)) ?_
        rintro ⟨j, o2⟩ ⟨hj, hj2⟩
        dsimp only at hj hj2
        dsimp only
        obtain ⟨m2, hm2⟩ : ∃ m2, o2.length = m2 := ⟨_, rfl⟩
        rw [hm2]
        cbv
        have hml2 : m2 ≤ 2199024304128 := by
          have := congrArg List.length hj2
          rw [List.length_append, hm2] at this
          omega
        refine br (fun h => ?_) (fun h => ?_) <;> cbv
        · replace h := ltI hΩ h
          obtain ⟨u, huu⟩ := at_of (cs := d) (by omega : j < d.length)
          rw [nF_at huu, List.append_assoc] at hj2
          have hc := hmet u (hd2 u (List.mem_of_getElem? huu))
          obtain ⟨us, hus⟩ : ∃ us, us = u.map Trm.enc := ⟨_, rfl⟩
          rw [← hus] at hc
          have hrd : ds[(Ω.int j).toNat]? = some (.sl false 7 us) := (rdI hΩ hds huu).trans (by rw [hus]; rfl)
          generalize metB l s u = gu at hc hj2
          refine ⟨⟨nnI hΩ⟩, _, hrd, ?_⟩
          cbv
          refine call_pure hΩ 3 hc rfl (fits _) rfl rfl ?_
          cbv
          refine br (fun g => ?_) (fun g => ?_) <;> cbv
          · have g : gu = false := notT' hΩ g
            rw [g, if_neg (by simp), ← List.append_assoc] at hj2
            refine ⟨⟨nnI hΩ⟩, _, rdI hΩ hxs hcc, ?_⟩
            cbv
            refine ⟨⟨rfl, okAll rfl, by show (m2 + 1) * 24 ≤ 140737488355328; omega, by show m2 + 1 ≤ 9223372036854775807; omega⟩, (j + 1, o2 ++ [⟨2, c, j⟩]), ⟨by dsimp only; omega, hj2⟩, by dsimp only; omega, ?_⟩
            exact Sbs.trans (Sbs.lastN (rows := [_, _]) rfl) (Sbs.mk rfl (by dsimp only; rw [← hap o2 ⟨2, c, j⟩ m2 hm2]; subst hΩ; rfl) ⟨rfl, rfl, congrArg (A.vw 0 0) (hlp o2 ⟨2, c, j⟩ _ m2 hm2), rfl, rfl, incI hΩ (by omega), trivial⟩)
          · have g : gu = true := notF' hΩ g
            rw [g] at hj2
            exact ⟨(j + 1, o2), ⟨by dsimp only; omega, hj2⟩, by dsimp only; omega, Sbs.mk rfl rfl ⟨rfl, rfl, congrArg (A.vw 0 0) hm2.symm, rfl, rfl, incI hΩ (by omega), trivial⟩⟩
        · replace h := geI hΩ h
          rw [List.drop_of_length_le (by omega : d.length ≤ j), nF, List.nil_append] at hj2
          obtain ⟨o1, m1, hm1, rfl⟩ : ∃ o1 m1, o1.length = m1 ∧ o1 = o2 := ⟨_, _, rfl, rfl⟩
          obtain rfl : m2 = m1 := hm2.symm.trans hm1
          clear hm2
          refine loopX htab hΩ (fun j : Nat × List Flt => ⟨[(0, .sl false 8 cs), (1, .sl false 1 xs), (5, .vw 0 0 j.2.length), (6, .sc (.int .i64 (Ω.int i))), (7, .pt 1 0 0), (10, .sc (.int .i64 (Ω.int j.1)))], 103, [some ⟨3, e j.2, false⟩, some ⟨8, [.agg [str nn, i64 v1, i64 v2, i64 v3, i64 sz, .sl false 1 ps, .sl false 1 ds, .sl false 7 bs]], true⟩]⟩) (fun j => j.1 ≤ b.length ∧ j.2 ++ (bF l s c j.1 (b.drop j.1) ++ aF l s (i + 1) (s.drop (i + 1))) = tot) (fun j => b.length - j.1) (0, o1) ⟨Nat.zero_le _, hj2⟩
            (Sbs.mk rfl rfl ⟨rfl, rfl, congrArg (A.vw 0 0) hm1.symm, rfl, rfl, zeroI hΩ, trivial⟩) ?_
          rintro ⟨j, o2⟩ ⟨hj, hj2⟩
          dsimp only at hj hj2
          dsimp only
          obtain ⟨m2, hm2⟩ : ∃ m2, o2.length = m2 := ⟨_, rfl⟩
          rw [hm2]
          cbv
          have hml2 : m2 ≤ 2199024304128 := by
            have := congrArg List.length hj2
            rw [List.length_append, hm2] at this
            omega
          refine br (fun h => ?_) (fun h => ?_) <;> cbv
          · replace h := ltI hΩ h
            obtain ⟨u, huu⟩ := at_of (cs := b) (by omega : j < b.length)
            rw [bF_at huu, List.append_assoc] at hj2
            have hc := hgiv c u
            generalize givB l s c u = gu at hc hj2
            refine ⟨VC_drawn htab hΩ hmo (by kernel_rfl) ?_⟩
            cbv
            refine ⟨⟨nnI hΩ⟩, _, rdI hΩ hbs huu, ?_⟩
            cbv
            refine ⟨⟨nnI hΩ⟩, _, rdI hΩ hxs hcc, ?_⟩
            cbv
            refine QCall_pure (k := 3) hc rfl (fits _) rfl ?_
            cbv
            refine br (fun g => ?_) (fun g => ?_) <;> cbv
            · have g : gu = true := g
              rw [g, if_pos rfl, ← List.append_assoc] at hj2
              refine ⟨⟨nnI hΩ⟩, _, rdI hΩ hxs hcc, ?_⟩
              cbv
              refine ⟨⟨rfl, okAll rfl, by show (m2 + 1) * 24 ≤ 140737488355328; omega, by show m2 + 1 ≤ 9223372036854775807; omega⟩, (j + 1, o2 ++ [⟨3, c, j⟩]), ⟨by dsimp only; omega, hj2⟩, by dsimp only; omega, ?_⟩
              exact Sbs.trans (Sbs.lastN (rows := [_, _]) rfl) (Sbs.mk rfl (by dsimp only; rw [← hap o2 ⟨3, c, j⟩ m2 hm2]; subst hΩ; rfl) ⟨rfl, rfl, congrArg (A.vw 0 0) (hlp o2 ⟨3, c, j⟩ _ m2 hm2), rfl, rfl, incI hΩ (by omega), trivial⟩)
            · have g : gu = false := g
              rw [g] at hj2
              exact ⟨(j + 1, o2), ⟨by dsimp only; omega, hj2⟩, by dsimp only; omega, Sbs.mk rfl rfl ⟨rfl, rfl, congrArg (A.vw 0 0) hm2.symm, rfl, rfl, incI hΩ (by omega), trivial⟩⟩
          · replace h := geI hΩ h
            rw [List.drop_of_length_le (by omega : b.length ≤ j), bF, List.nil_append] at hj2
            exact ⟨(i + 1, o2), ⟨by dsimp only; omega, hj2⟩, by dsimp only; omega, Sbs.mkL (rows := [_]) rfl rfl rfl ⟨rfl, rfl, congrArg (A.vw 0 0) hm2.symm, incI hΩ (by omega), trivial⟩⟩

      · rw [show (n2 == nn) = false by subst hΩ; exact g2, Bool.false_or] at hqa
        exact ⟨q + 1, ⟨by omega, hqa⟩, by omega, Sbs.mk rfl rfl ⟨rfl, rfl, rfl, rfl, rfl, incI hΩ (by omega), trivial⟩⟩
    · replace g := geN hΩ g
      rw [List.drop_of_length_le (by simp; omega), List.any_nil] at hqa
      rw [hqa] at hout
      refine loopX htab hΩ (fun j : Nat × List Flt => ⟨[(0, .sl false 8 cs), (1, .sl false 1 xs), (5, .vw 0 0 j.2.length), (6, .sc (.int .i64 (Ω.int i))), (7, .pt 1 0 0), (9, .sc (.int .i64 (Ω.int j.1)))], 103, [some ⟨3, e j.2, false⟩, some ⟨8, [.agg [str nn, i64 v1, i64 v2, i64 v3, i64 sz, .sl false 1 ps, .sl false 1 ds, .sl false 7 bs]], true⟩]⟩) (fun j => j.1 ≤ d.length ∧ j.2 ++ (nF l s c j.1 (d.drop j.1) ++ (bF l s c 0 b ++ aF l s (i + 1) (s.drop (i + 1)))) = tot) (fun j => d.length - j.1) (0, out) ⟨Nat.zero_le _, by rw [hrest] at hout; exact hout⟩
        (Sbs.mk rfl rfl ⟨rfl, rfl, congrArg (A.vw 0 0) hm.symm, rfl, rfl, zeroI hΩ, trivial⟩) ?_
      rintro ⟨j, o2⟩ ⟨hj, hj2⟩
      dsimp only at hj hj2
      dsimp only
      obtain ⟨m2, hm2⟩ : ∃ m2, o2.length = m2 := ⟨_, rfl⟩
      rw [hm2]
      cbv
      have hml2 : m2 ≤ 2199024304128 := by
        have := congrArg List.length hj2
        rw [List.length_append, hm2] at this
        omega
      refine br (fun h => ?_) (fun h => ?_) <;> cbv
      · replace h := ltI hΩ h
        obtain ⟨u, huu⟩ := at_of (cs := d) (by omega : j < d.length)
        rw [nF_at huu, List.append_assoc] at hj2
        have hc := hmet u (hd2 u (List.mem_of_getElem? huu))
        obtain ⟨us, hus⟩ : ∃ us, us = u.map Trm.enc := ⟨_, rfl⟩
        rw [← hus] at hc
        have hrd : ds[(Ω.int j).toNat]? = some (.sl false 7 us) := (rdI hΩ hds huu).trans (by rw [hus]; rfl)
        generalize metB l s u = gu at hc hj2
        refine ⟨⟨nnI hΩ⟩, _, hrd, ?_⟩
        cbv
        refine call_pure hΩ 3 hc rfl (fits _) rfl rfl ?_
        cbv
        refine br (fun g => ?_) (fun g => ?_) <;> cbv
        · have g : gu = false := notT' hΩ g
          rw [g, if_neg (by simp), ← List.append_assoc] at hj2
          refine ⟨⟨nnI hΩ⟩, _, rdI hΩ hxs hcc, ?_⟩
          cbv
          refine ⟨⟨rfl, okAll rfl, by show (m2 + 1) * 24 ≤ 140737488355328; omega, by show m2 + 1 ≤ 9223372036854775807; omega⟩, (j + 1, o2 ++ [⟨2, c, j⟩]), ⟨by dsimp only; omega, hj2⟩, by dsimp only; omega, ?_⟩
          exact Sbs.trans (Sbs.lastN (rows := [_, _]) rfl) (Sbs.mk rfl (by dsimp only; rw [← hap o2 ⟨2, c, j⟩ m2 hm2]; subst hΩ; rfl) ⟨rfl, rfl, congrArg (A.vw 0 0) (hlp o2 ⟨2, c, j⟩ _ m2 hm2), rfl, rfl, incI hΩ (by omega), trivial⟩)
        · have g : gu = true := notF' hΩ g
          rw [g] at hj2
          exact ⟨(j + 1, o2), ⟨by dsimp only; omega, hj2⟩, by dsimp only; omega, Sbs.mk rfl rfl ⟨rfl, rfl, congrArg (A.vw 0 0) hm2.symm, rfl, rfl, incI hΩ (by omega), trivial⟩⟩
      · replace h := geI hΩ h
        rw [List.drop_of_length_le (by omega : d.length ≤ j), nF, List.nil_append] at hj2
        obtain ⟨o1, m1, hm1, rfl⟩ : ∃ o1 m1, o1.length = m1 ∧ o1 = o2 := ⟨_, _, rfl, rfl⟩
        obtain rfl : m2 = m1 := hm2.symm.trans hm1
        clear hm2
        refine loopX htab hΩ (fun j : Nat × List Flt => ⟨[(0, .sl false 8 cs), (1, .sl false 1 xs), (5, .vw 0 0 j.2.length), (6, .sc (.int .i64 (Ω.int i))), (7, .pt 1 0 0), (10, .sc (.int .i64 (Ω.int j.1)))], 103, [some ⟨3, e j.2, false⟩, some ⟨8, [.agg [str nn, i64 v1, i64 v2, i64 v3, i64 sz, .sl false 1 ps, .sl false 1 ds, .sl false 7 bs]], true⟩]⟩) (fun j => j.1 ≤ b.length ∧ j.2 ++ (bF l s c j.1 (b.drop j.1) ++ aF l s (i + 1) (s.drop (i + 1))) = tot) (fun j => b.length - j.1) (0, o1) ⟨Nat.zero_le _, hj2⟩
          (Sbs.mk rfl rfl ⟨rfl, rfl, congrArg (A.vw 0 0) hm1.symm, rfl, rfl, zeroI hΩ, trivial⟩) ?_
        rintro ⟨j, o2⟩ ⟨hj, hj2⟩
        dsimp only at hj hj2
        dsimp only
        obtain ⟨m2, hm2⟩ : ∃ m2, o2.length = m2 := ⟨_, rfl⟩
        rw [hm2]
        cbv
        have hml2 : m2 ≤ 2199024304128 := by
          have := congrArg List.length hj2
          rw [List.length_append, hm2] at this
          omega
        refine br (fun h => ?_) (fun h => ?_) <;> cbv
        · replace h := ltI hΩ h
          obtain ⟨u, huu⟩ := at_of (cs := b) (by omega : j < b.length)
          rw [bF_at huu, List.append_assoc] at hj2
          have hc := hgiv c u
          generalize givB l s c u = gu at hc hj2
          refine ⟨VC_drawn htab hΩ hmo (by kernel_rfl) ?_⟩
          cbv
          refine ⟨⟨nnI hΩ⟩, _, rdI hΩ hbs huu, ?_⟩
          cbv
          refine ⟨⟨nnI hΩ⟩, _, rdI hΩ hxs hcc, ?_⟩
          cbv
          refine QCall_pure (k := 3) hc rfl (fits _) rfl ?_
          cbv
          refine br (fun g => ?_) (fun g => ?_) <;> cbv
          · have g : gu = true := g
            rw [g, if_pos rfl, ← List.append_assoc] at hj2
            refine ⟨⟨nnI hΩ⟩, _, rdI hΩ hxs hcc, ?_⟩
            cbv
            refine ⟨⟨rfl, okAll rfl, by show (m2 + 1) * 24 ≤ 140737488355328; omega, by show m2 + 1 ≤ 9223372036854775807; omega⟩, (j + 1, o2 ++ [⟨3, c, j⟩]), ⟨by dsimp only; omega, hj2⟩, by dsimp only; omega, ?_⟩
            exact Sbs.trans (Sbs.lastN (rows := [_, _]) rfl) (Sbs.mk rfl (by dsimp only; rw [← hap o2 ⟨3, c, j⟩ m2 hm2]; subst hΩ; rfl) ⟨rfl, rfl, congrArg (A.vw 0 0) (hlp o2 ⟨3, c, j⟩ _ m2 hm2), rfl, rfl, incI hΩ (by omega), trivial⟩)
          · have g : gu = false := g
            rw [g] at hj2
            exact ⟨(j + 1, o2), ⟨by dsimp only; omega, hj2⟩, by dsimp only; omega, Sbs.mk rfl rfl ⟨rfl, rfl, congrArg (A.vw 0 0) hm2.symm, rfl, rfl, incI hΩ (by omega), trivial⟩⟩
        · replace h := geI hΩ h
          rw [List.drop_of_length_le (by omega : b.length ≤ j), bF, List.nil_append] at hj2
          exact ⟨(i + 1, o2), ⟨by dsimp only; omega, hj2⟩, by dsimp only; omega, Sbs.mkL (rows := [_]) rfl rfl rfl ⟨rfl, rfl, congrArg (A.vw 0 0) hm2.symm, incI hΩ (by omega), trivial⟩⟩

  · have hil : i = s.length := by have := geI hΩ h; omega
    rw [hil, List.drop_length, aF, List.append_nil] at hout
    refine ⟨⟨rfl, by show m ≤ (e out).length; rw [hel, hm]; exact Nat.le_refl _⟩, .of ?_⟩
    rw [← hout]
    subst hΩ
    show A.sl true 3 ((e out).take m) = _
    rw [List.take_of_length_le (by rw [hel]; omega)]
end Go.Proofs.YtdngjnjapihbkaaGreat

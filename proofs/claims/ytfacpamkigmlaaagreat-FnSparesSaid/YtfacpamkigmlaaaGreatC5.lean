/- Walks: faults of a set. Plain theorems. -/
import Derived.Test.YtfacpamkigmlaaaGreatC4
set_option linter.unusedVariables false
set_option linter.unusedSimpArgs false
namespace Go.Proofs.YtfacpamkigmlaaaGreat
open Go Go.Fw
set_option maxRecDepth 100000
structure Flt where
  k : Int
  p : Int
  a : Int
def Flt.enc (f : Flt) : A := .agg [i64 f.k, i64 f.p, i64 f.a]
def twB (c : List Pck) (s : List Int) (i : Nat) (n : List UInt8) : Bool := (s.take i).any fun j => (pk c j).n == n
def metB (c : List Pck) (s : List Int) (l : List Trm) : Bool := s.any fun o => l.any (givesB (pk c o))
def givB (c : List Pck) (s : List Int) (k : Int) (t : Trm) : Bool := s.any fun o => !decide (o = k) && givesB (pk c o) t
def nF (c : List Pck) (s : List Int) (k : Int) : Nat → List (List Trm) → List Flt
  | _, [] => []
  | j, l :: ls => (if metB c s l then [] else [⟨2, k, (j : Int)⟩]) ++ nF c s k (j + 1) ls
def bF (c : List Pck) (s : List Int) (k : Int) : Nat → List Trm → List Flt
  | _, [] => []
  | j, t :: ts => (if givB c s k t then [⟨3, k, (j : Int)⟩] else []) ++ bF c s k (j + 1) ts
def tF (c : List Pck) (s : List Int) (i : Nat) (k : Int) : List Flt := if twB c s i (pk c k).n then [⟨1, k, 0⟩] else []
def aF (c : List Pck) (s : List Int) : Nat → List Int → List Flt
  | _, [] => []
  | i, k :: ks => tF c s i k ++ (nF c s k 0 (pk c k).d ++ (bF c s k 0 (pk c k).b ++ aF c s (i + 1) ks))
/-- All faults of a set. -/
def fltS (c : List Pck) (s : List Int) : List Flt := aF c s 0 s
theorem nF_at {c : List Pck} {s : List Int} {k : Int} {d : List (List Trm)} {j : Nat} {l : List Trm} (h : d[j]? = some l) : nF c s k j (d.drop j) = (if metB c s l then [] else [⟨2, k, (j : Int)⟩]) ++ nF c s k (j + 1) (d.drop (j + 1)) := by
  obtain ⟨h1, h2⟩ := List.getElem?_eq_some_iff.1 h
  rw [List.drop_eq_getElem_cons h1, h2, nF]
theorem bF_at {c : List Pck} {s : List Int} {k : Int} {d : List Trm} {j : Nat} {l : Trm} (h : d[j]? = some l) : bF c s k j (d.drop j) = (if givB c s k l then [⟨3, k, (j : Int)⟩] else []) ++ bF c s k (j + 1) (d.drop (j + 1)) := by
  obtain ⟨h1, h2⟩ := List.getElem?_eq_some_iff.1 h
  rw [List.drop_eq_getElem_cons h1, h2, bF]
theorem aF_at {c : List Pck} {s l : List Int} {i : Nat} {k : Int} (h : l[i]? = some k) : aF c s i (l.drop i) = tF c s i k ++ (nF c s k 0 (pk c k).d ++ (bF c s k 0 (pk c k).b ++ aF c s (i + 1) (l.drop (i + 1)))) := by
  obtain ⟨h1, h2⟩ := List.getElem?_eq_some_iff.1 h
  rw [List.drop_eq_getElem_cons h1, h2, aF]
theorem nF_len (c : List Pck) (s : List Int) (k : Int) : ∀ (d : List (List Trm)) (j : Nat), (nF c s k j d).length ≤ d.length
  | [], _ => by simp [nF]
  | l :: d, j => by
    have := nF_len c s k d (j + 1)
    rw [nF, List.length_append, List.length_cons]
    split <;> simp <;> omega
theorem bF_len (c : List Pck) (s : List Int) (k : Int) : ∀ (d : List Trm) (j : Nat), (bF c s k j d).length ≤ d.length
  | [], _ => by simp [bF]
  | l :: d, j => by
    have := bF_len c s k d (j + 1)
    rw [bF, List.length_append, List.length_cons]
    split <;> simp <;> omega
theorem aF_len (c : List Pck) (s : List Int) : ∀ (l : List Int) (i : Nat), (∀ k ∈ l, (pk c k).d.length ≤ 1048576 ∧ (pk c k).b.length ≤ 1048576) → (aF c s i l).length ≤ l.length * 2097153
  | [], _, _ => by simp [aF]
  | k :: l, i, h => by
    have h1 := aF_len c s l (i + 1) fun x hx => h x (by simp [hx])
    have h2 := nF_len c s k (pk c k).d 0
    have h3 := bF_len c s k (pk c k).b 0
    have h4 := h k (by simp)
    have h5 : (tF c s i k).length ≤ 1 := by unfold tF; split <;> simp
    rw [aF, List.length_append, List.length_append, List.length_append, List.length_cons]
    omega
theorem fltS_len {c : List Pck} {s : List Int} (h : ∀ k ∈ s, (pk c k).d.length ≤ 1048576 ∧ (pk c k).b.length ≤ 1048576) (hs : s.length ≤ 1048576) : (fltS c s).length ≤ 2199024304128 := by
  have := aF_len c s s 0 h
  unfold fltS
  omega
theorem metB_eq {c : List Pck} {s : List Int} (h : ∀ k ∈ s, 0 ≤ k) (l : List Trm) : metB c s l = l.any (givB c s (-1)) := by
  unfold metB givB
  rw [Bool.eq_iff_iff]
  simp only [List.any_eq_true, Bool.and_eq_true, Bool.not_eq_true', decide_eq_false_iff_not]
  constructor
  · rintro ⟨o, ho, t, ht, hg⟩
    exact ⟨t, ht, o, ho, by have := h o ho; omega, hg⟩
  · rintro ⟨t, ht, o, ho, _, hg⟩
    exact ⟨o, ho, t, ht, hg⟩
theorem c_l3Given (l : List Pck) (s : List Int) (t : Trm) (but : Int) (hl : l.length ≤ 1048576) (hs : s.length ≤ 1048576) (ho : ∀ o ∈ l, o.Small) (hk : ∀ k ∈ s, inB k 0 ((l.length : Int) - 1) = true) : PCtr PP n_spec_l3Given [encP l, .sl false 1 (s.map i64), t.enc, i64 but] (boo (givB l s but t)) := by
  obtain ⟨Ω, hΩ⟩ : ∃ Ω, Ω = std := ⟨_, rfl⟩
  obtain ⟨r, hr⟩ : ∃ r, r = givB l s but t := ⟨_, rfl⟩
  rw [← hr]
  unfold givB at hr
  obtain ⟨xs, hxs⟩ : ∃ xs, xs = l.map (Pck.enc false) := ⟨_, rfl⟩
  have hlen : xs.length = l.length := by rw [hxs, List.length_map]
  obtain ⟨ys, hys⟩ : ∃ ys, ys = s.map i64 := ⟨_, rfl⟩
  have hylen : ys.length = s.length := by rw [hys, List.length_map]
  unfold encP at *
  rw [← hxs, ← hys]
  have hat : ∀ k ∈ s, 0 ≤ k ∧ ∃ n v1 v2 v3 sz ps ds bs, xs[k.toNat]? = some (.agg [str n, i64 v1, i64 v2, i64 v3, i64 sz, .sl false 1 ps, .sl false 1 ds, .sl false 7 bs]) ∧ PCtr PP n_spec_l2Gives [.agg [str n, i64 v1, i64 v2, i64 v3, i64 sz, .sl false 1 ps, .sl false 1 ds, .sl false 7 bs], t.enc] (boo (givesB (pk l k) t)) := fun k h => by
    obtain ⟨h0, h1, h2, h3⟩ := pk_at (hk k h)
    obtain ⟨ps, ds, bs, hen, -, -, -⟩ := enc_raw (pk l k)
    have := c_l2Gives (pk l k) t (by have := (ho _ h3).p; omega)
    rw [hen] at this
    exact ⟨h0, _, _, _, _, _, ps, ds, bs, by rw [hxs, List.getElem?_map, h2]; exact congrArg some hen, this⟩
  clear hk ho hxs
  have htab := tab
  have hmo := hmo
  refine PCtr.walk tab hΩ fn_spec_l3Given rfl ?_
  generalize PP = P at *
  cbv
  refine loopX htab hΩ (fun i : Nat => ⟨[(0, .sl false 8 xs), (1, .sl false 1 ys), (3, .sc (.int .i64 but)), (6, .pt 0 0 0), (9, .sc (.int .i64 (Ω.int i)))], 33, [some ⟨7, [t.enc], true⟩]⟩) (fun i => i ≤ s.length ∧ r = (s.drop i).any fun o => !decide (o = but) && givesB (pk l o) t) (fun i => s.length - i) 0
    ⟨Nat.zero_le _, hr⟩ (Sbs.mk rfl rfl ⟨rfl, rfl, rfl, rfl, zeroI hΩ, trivial⟩) ?_
  rintro i ⟨hi, he⟩
  cbv
  refine br (fun h => ?_) (fun h => ?_) <;> cbv
  · replace h := ltI hΩ h
    obtain ⟨c, hcc⟩ := at_of (cs := s) (by omega : i < s.length)
    rw [any_at _ hcc] at he
    obtain ⟨hc0, n, v1, v2, v3, sz, ps, ds, bs, hx, hg⟩ := hat c (List.mem_of_getElem? hcc)
    generalize givesB (pk l c) t = gb at hg he
    refine ⟨VC_drawn htab hΩ hmo (by kernel_rfl) ?_⟩
    cbv
    refine ⟨⟨nnI hΩ⟩, _, rdI hΩ hys hcc, ?_⟩
    cbv
    refine br (fun g => ?_) (fun g => ?_) <;> cbv
    · have g := neI_t hΩ g
      refine ⟨⟨nnI hΩ⟩, _, rdI hΩ hys hcc, ?_⟩
      cbv
      refine ⟨⟨hc0⟩, _, hx, ?_⟩
      cbv
      refine QCall_pure (k := 3) hg rfl (fits _) rfl ?_
      cbv
      refine br (fun h => ?_) (fun h => ?_) <;> cbv
      · have h : gb = true := by subst hΩ; exact h
        exact .of (congrArg boo (by rw [he, h, decide_eq_false g]; rfl))
      · have h : gb = false := by subst hΩ; exact h
        rw [h, Bool.and_false, Bool.false_or] at he
        exact ⟨i + 1, ⟨by omega, he⟩, by omega, Sbs.mk rfl rfl ⟨rfl, rfl, rfl, rfl, incI hΩ (by omega), trivial⟩⟩
    · have g := neI_f hΩ g
      rw [decide_eq_true g, Bool.not_true, Bool.false_and, Bool.false_or] at he
      exact ⟨i + 1, ⟨by omega, he⟩, by omega, Sbs.mk rfl rfl ⟨rfl, rfl, rfl, rfl, incI hΩ (by omega), trivial⟩⟩
  · replace h := geI hΩ h
    exact .of (congrArg boo (by rw [he, List.drop_of_length_le (by omega)]; rfl))
theorem c_l3Met (l : List Pck) (s : List Int) (d : List Trm) (hl : l.length ≤ 1048576) (hs : s.length ≤ 1048576) (hd : d.length ≤ 1048576) (ho : ∀ o ∈ l, o.Small) (hk : ∀ k ∈ s, inB k 0 ((l.length : Int) - 1) = true) : PCtr PP n_spec_l3Met [encP l, .sl false 1 (s.map i64), .sl false 7 (d.map Trm.enc)] (boo (metB l s d)) := by
  obtain ⟨Ω, hΩ⟩ : ∃ Ω, Ω = std := ⟨_, rfl⟩
  obtain ⟨r, hr⟩ : ∃ r, r = metB l s d := ⟨_, rfl⟩
  rw [← hr]
  rw [metB_eq (fun k h => (pk_at (hk k h)).1)] at hr
  obtain ⟨zs, hzs⟩ : ∃ zs, zs = d.map Trm.enc := ⟨_, rfl⟩
  have hlen : zs.length = d.length := by rw [hzs, List.length_map]
  rw [← hzs]
  have hg := fun t => c_l3Given l s t (-1) hl hs ho hk
  unfold encP at *
  generalize givB l s (-1) = G at *
  generalize l.map (Pck.enc false) = xs at *
  generalize s.map i64 = ys at *
  have htab := tab
  have hmo := hmo
  refine PCtr.walk tab hΩ fn_spec_l3Met rfl ?_
  generalize PP = P at *
  cbv
  refine loopX htab hΩ (fun i : Nat => ⟨[(0, .sl false 8 xs), (1, .sl false 1 ys), (2, .sl false 7 zs), (7, .sc (.int .i64 (Ω.int i)))], 21, []⟩) (fun i => i ≤ d.length ∧ r = (d.drop i).any G) (fun i => d.length - i) 0
    ⟨Nat.zero_le _, hr⟩ (Sbs.mk rfl rfl ⟨rfl, rfl, rfl, zeroI hΩ, trivial⟩) ?_
  rintro i ⟨hi, he⟩
  cbv
  refine br (fun h => ?_) (fun h => ?_) <;> cbv
  · replace h := ltI hΩ h
    obtain ⟨c, hcc⟩ := at_of (cs := d) (by omega : i < d.length)
    rw [any_at _ hcc] at he
    refine ⟨⟨nnI hΩ⟩, _, rdI hΩ hzs hcc, ?_⟩
    cbv
    refine call_pure hΩ 3 (hg c) rfl (fits _) rfl rfl ?_
    cbv
    refine br (fun g => ?_) (fun g => ?_) <;> cbv
    · exact .of (congrArg boo (by rw [he, show G c = true from g]; rfl))
    · rw [show G c = false from g, Bool.false_or] at he
      exact ⟨i + 1, ⟨by omega, he⟩, by omega, Sbs.mk rfl rfl ⟨rfl, rfl, rfl, incI hΩ (by omega), trivial⟩⟩
  · replace h := geI hΩ h
    exact .of (congrArg boo (by rw [he, List.drop_of_length_le (by omega)]; rfl))
/-- The place of the package of a name. -/
def nmF (c : List Pck) (n : List UInt8) : List Int → Int
  | [] => -1
  | k :: ks => if (pk c k).n == n then k else nmF c n ks
theorem nmF_at {c : List Pck} {n : List UInt8} {l : List Int} {i : Nat} {k : Int} (h : l[i]? = some k) : nmF c n (l.drop i) = if (pk c k).n == n then k else nmF c n (l.drop (i + 1)) := by
  obtain ⟨h1, h2⟩ := List.getElem?_eq_some_iff.1 h
  rw [List.drop_eq_getElem_cons h1, h2, nmF]
theorem nmF_any {c : List Pck} {n : List UInt8} : ∀ {l : List Int}, (∀ k ∈ l, 0 ≤ k) → (decide (0 ≤ nmF c n l)) = l.any fun j => (pk c j).n == n
  | [], _ => rfl
  | k :: l, h => by
    have ih := nmF_any (c := c) (n := n) (l := l) fun x hx => h x (by simp [hx])
    rw [nmF, List.any_cons]
    by_cases hb : ((pk c k).n == n) = true
    · rw [if_pos hb, hb, Bool.true_or]; exact decide_eq_true (h k (by simp))
    · rw [if_neg hb, ih, Bool.eq_false_iff.2 hb, Bool.false_or]
theorem c_named (l : List Pck) (s : List Int) (n : List UInt8) (hl : l.length ≤ 1048576) (hs : s.length ≤ 1048576) (hk : ∀ k ∈ s, inB k 0 ((l.length : Int) - 1) = true) : PCtr PP n_impl_named [encP l, .sl false 1 (s.map i64), str n] (i64 (nmF l n s)) := by
  obtain ⟨Ω, hΩ⟩ : ∃ Ω, Ω = std := ⟨_, rfl⟩
  obtain ⟨r, hr⟩ : ∃ r, r = nmF l n s := ⟨_, rfl⟩
  rw [← hr]
  have hat : ∀ k, inB k 0 ((l.length : Int) - 1) = true → 0 ≤ k ∧ ∃ v1 v2 v3 sz ps ds bs, (l.map (Pck.enc false))[k.toNat]? = some (.agg [str (pk l k).n, i64 v1, i64 v2, i64 v3, i64 sz, .sl false 1 ps, .sl false 1 ds, .sl false 7 bs]) ∧ pk l k ∈ l ∧
      Pck.enc false (pk l k) = .agg [str (pk l k).n, i64 v1, i64 v2, i64 v3, i64 sz, .sl false 1 ps, .sl false 1 ds, .sl false 7 bs] ∧ ds = (pk l k).d.map (encTs false) ∧ bs = (pk l k).b.map Trm.enc := fun k h => by
    obtain ⟨h0, h1, h2, h3⟩ := pk_at h
    obtain ⟨ps, ds, bs, hen, hp, hd, hb⟩ := enc_raw (pk l k)
    exact ⟨h0, _, _, _, _, ps, ds, bs, by rw [List.getElem?_map, h2]; exact congrArg some hen, h3, hen, hd, hb⟩
  obtain ⟨ys, hys⟩ : ∃ ys, ys = s.map i64 := ⟨_, rfl⟩
  have hylen : ys.length = s.length := by rw [hys, List.length_map]
  unfold encP at *
  rw [← hys]
  generalize l.map (Pck.enc false) = xs at *
  have htab := tab
  have hmo := hmo
  refine PCtr.walk tab hΩ fn_impl_named rfl ?_
  generalize PP = P at *
  cbv
  refine loopX htab hΩ (fun i : Nat => ⟨[(0, .sl false 8 xs), (2, .sc (.string (mkS n))), (9, .sl false 1 ys), (10, .sc (.int .i64 (Ω.int (Ω.len ys)))), (11, .sc (.int .i64 (Ω.int i)))], 24, []⟩) (fun i => i ≤ s.length ∧ r = nmF l n (s.drop i)) (fun i => s.length - i) 0
    ⟨Nat.zero_le _, hr⟩ (Sbs.mk rfl rfl ⟨rfl, rfl, rfl, rfl, zeroI hΩ, trivial⟩) ?_
  rintro i ⟨hi, he⟩
  cbv
  refine br (fun h => ?_) (fun h => ?_) <;> cbv
  · replace h := ltI hΩ h
    obtain ⟨c, hcc⟩ := at_of (cs := s) (by omega : i < s.length)
    rw [nmF_at hcc] at he
    obtain ⟨hc0, v1, v2, v3, sz, ps, ds, bs, hx, -, -, -⟩ := hat c (hk c (List.mem_of_getElem? hcc))
    generalize (pk l c).n = nn at hx he
    refine ⟨⟨nnI hΩ⟩, _, rdI hΩ hys hcc, ?_⟩
    cbv
    refine ⟨⟨hc0⟩, _, hx, ?_⟩
    cbv
    refine br (fun g => ?_) (fun g => ?_) <;> cbv
    · exact .of (congrArg i64 (by rw [he, if_pos (by subst hΩ; exact g)]))
    · rw [if_neg (by subst hΩ; rw [show (nn == n) = false from g]; simp)] at he
      exact ⟨i + 1, ⟨by omega, he⟩, by omega, Sbs.mk rfl rfl ⟨rfl, rfl, rfl, rfl, incI hΩ (by omega), trivial⟩⟩
  · replace h := geI hΩ h
    exact .of (congrArg i64 (by rw [he, List.drop_of_length_le (by omega)]; rfl))
theorem c_faults1 (l : List Pck) (k : Int) (d : List Trm) (hl : l.length ≤ 1048576) (hd : d.length ≤ 1048576) (ho : ∀ o ∈ l, o.Small) (hk : inB k 0 ((l.length : Int) - 1) = true) : PCtr PP n_impl_faults_1 [i64 k, .rp [encP l], .rp [.sl false 7 (d.map Trm.enc)]] (boo (d.any (givesB (pk l k)))) := by
  obtain ⟨Ω, hΩ⟩ : ∃ Ω, Ω = std := ⟨_, rfl⟩
  have hat : ∀ k, inB k 0 ((l.length : Int) - 1) = true → 0 ≤ k ∧ ∃ v1 v2 v3 sz ps ds bs, (l.map (Pck.enc false))[k.toNat]? = some (.agg [str (pk l k).n, i64 v1, i64 v2, i64 v3, i64 sz, .sl false 1 ps, .sl false 1 ds, .sl false 7 bs]) ∧ pk l k ∈ l ∧
      Pck.enc false (pk l k) = .agg [str (pk l k).n, i64 v1, i64 v2, i64 v3, i64 sz, .sl false 1 ps, .sl false 1 ds, .sl false 7 bs] ∧ ds = (pk l k).d.map (encTs false) ∧ bs = (pk l k).b.map Trm.enc := fun k h => by
    obtain ⟨h0, h1, h2, h3⟩ := pk_at h
    obtain ⟨ps, ds, bs, hen, hp, hd, hb⟩ := enc_raw (pk l k)
    exact ⟨h0, _, _, _, _, ps, ds, bs, by rw [List.getElem?_map, h2]; exact congrArg some hen, h3, hen, hd, hb⟩
  obtain ⟨hc0, v1, v2, v3, sz, ps, ds, bs, hx, hm, hen, -, -⟩ := hat k hk
  have hg := c_givesOne (pk l k) d (ho _ hm).p hd
  rw [hen] at hg
  clear hat
  unfold encP
  generalize d.any (givesB (pk l k)) = r at *
  generalize (pk l k).n = nn at *
  generalize l.map (Pck.enc false) = xs at *
  generalize d.map Trm.enc = zs at *
  have htab := tab
  have hmo := hmo
  refine PCtr.walk tab hΩ fn_impl_faults_1 rfl ?_
  generalize PP = P at *
  cbv
  refine ⟨VC_drawn htab hΩ hmo (by kernel_rfl) ?_⟩
  cbv
  refine ⟨⟨hc0⟩, _, hx, ?_⟩
  cbv
  refine QCall_pure (k := 3) hg rfl (fits _) rfl ?_
  cbv
  exact .same
theorem c_faults2 (l : List Pck) (k q : Int) (t : Trm) (hl : l.length ≤ 1048576) (ho : ∀ o ∈ l, o.Small) (hk : inB k 0 ((l.length : Int) - 1) = true) : PCtr PP n_impl_faults_2 [i64 k, .rp [i64 q], .rp [encP l], .rp t.cells] (boo (!decide (k = q) && givesB (pk l k) t)) := by
  obtain ⟨Ω, hΩ⟩ : ∃ Ω, Ω = std := ⟨_, rfl⟩
  have hat : ∀ k, inB k 0 ((l.length : Int) - 1) = true → 0 ≤ k ∧ ∃ v1 v2 v3 sz ps ds bs, (l.map (Pck.enc false))[k.toNat]? = some (.agg [str (pk l k).n, i64 v1, i64 v2, i64 v3, i64 sz, .sl false 1 ps, .sl false 1 ds, .sl false 7 bs]) ∧ pk l k ∈ l ∧
      Pck.enc false (pk l k) = .agg [str (pk l k).n, i64 v1, i64 v2, i64 v3, i64 sz, .sl false 1 ps, .sl false 1 ds, .sl false 7 bs] ∧ ds = (pk l k).d.map (encTs false) ∧ bs = (pk l k).b.map Trm.enc := fun k h => by
    obtain ⟨h0, h1, h2, h3⟩ := pk_at h
    obtain ⟨ps, ds, bs, hen, hp, hd, hb⟩ := enc_raw (pk l k)
    exact ⟨h0, _, _, _, _, ps, ds, bs, by rw [List.getElem?_map, h2]; exact congrArg some hen, h3, hen, hd, hb⟩
  obtain ⟨hc0, v1, v2, v3, sz, ps, ds, bs, hx, hm, hen, -, -⟩ := hat k hk
  have hg := c_gives (pk l k) t (ho _ hm).p
  rw [hen] at hg
  clear hat
  unfold encP
  generalize givesB (pk l k) t = gb at *
  generalize (pk l k).n = nn at *
  generalize l.map (Pck.enc false) = xs at *
  obtain ⟨r, hr⟩ : ∃ r, r = (!decide (k = q) && gb) := ⟨_, rfl⟩
  rw [← hr]
  have htab := tab
  have hmo := hmo
  refine PCtr.walk tab hΩ fn_impl_faults_2 rfl ?_
  generalize PP = P at *
  cbv
  refine ⟨VC_drawn htab hΩ hmo (by kernel_rfl) ?_⟩
  cbv
  repeat' (first | (refine br (fun h => ?_) (fun h => ?_) <;> cbv) | (refine ⟨⟨hc0⟩, _, hx, ?_⟩; cbv) | (refine QCall_pure (k := 3) hg rfl (fits _) rfl ?_; cbv))
  all_goals (refine .of (congrArg boo ?_); subst hΩ; subst hr; clear hg hx htab hmo; simp_all)
theorem c_faults (l : List Pck) (s : List Int) (hl : l.length ≤ 1048576) (hs : s.length ≤ 1048576) (ho : ∀ o ∈ l, o.Small) (hk : ∀ k ∈ s, inB k 0 ((l.length : Int) - 1) = true) : PCtr PP n_impl_faults [encP l, .sl false 1 (s.map i64)] (.sl true 3 ((fltS l s).map Flt.enc)) := by
  obtain ⟨Ω, hΩ⟩ : ∃ Ω, Ω = std := ⟨_, rfl⟩
  have hat : ∀ k, inB k 0 ((l.length : Int) - 1) = true → 0 ≤ k ∧ ∃ v1 v2 v3 sz ps ds bs, (l.map (Pck.enc false))[k.toNat]? = some (.agg [str (pk l k).n, i64 v1, i64 v2, i64 v3, i64 sz, .sl false 1 ps, .sl false 1 ds, .sl false 7 bs]) ∧ pk l k ∈ l ∧
      Pck.enc false (pk l k) = .agg [str (pk l k).n, i64 v1, i64 v2, i64 v3, i64 sz, .sl false 1 ps, .sl false 1 ds, .sl false 7 bs] ∧ ds = (pk l k).d.map (encTs false) ∧ bs = (pk l k).b.map Trm.enc := fun k h => by
    obtain ⟨h0, h1, h2, h3⟩ := pk_at h
    obtain ⟨ps, ds, bs, hen, hp, hd, hb⟩ := enc_raw (pk l k)
    exact ⟨h0, _, _, _, _, ps, ds, bs, by rw [List.getElem?_map, h2]; exact congrArg some hen, h3, hen, hd, hb⟩
  obtain ⟨tot, htot⟩ : ∃ tot, tot = fltS l s := ⟨_, rfl⟩
  have hb : tot.length ≤ 2199024304128 := by rw [htot]; exact fltS_len (fun k h => ⟨(ho _ (pk_at (hk k h)).2.2.2).d, (ho _ (pk_at (hk k h)).2.2.2).b⟩) hs
  rw [← htot]
  obtain ⟨e, he⟩ : ∃ e : List Flt → List A, e = List.map Flt.enc := ⟨_, rfl⟩
  have hel : ∀ o, (e o).length = o.length := fun o => by rw [he, List.length_map]
  have hea : ∀ o f, e (o ++ [f]) = e o ++ [f.enc] := fun o f => by rw [he, List.map_append]; rfl
  have he0 : e [] = [] := by rw [he]; rfl
  have hap : ∀ o f m, o.length = m → Ω.app (Ω.take m (e o)) [f.enc] = e (o ++ [f]) := fun o f m h => by
    rw [hea]
    subst hΩ
    show (e o).take m ++ [f.enc] = _
    rw [List.take_of_length_le (by rw [hel]; omega)]
  have hlp : ∀ (o : List Flt) (f : Flt) (x : A) m, o.length = m → Ω.plus m (Ω.len [x]) = (o ++ [f]).length := fun o f x m h => by
    rw [List.length_append, h]; subst hΩ; rfl
  rw [show List.map Flt.enc = e from he.symm]
  clear he
  obtain ⟨cs, hcs⟩ : ∃ cs, cs = l.map (Pck.enc false) := ⟨_, rfl⟩
  obtain ⟨xs, hxs⟩ : ∃ xs, xs = s.map i64 := ⟨_, rfl⟩
  have hxl : xs.length = s.length := by rw [hxs, List.length_map]
  have hnm : ∀ i n, PCtr PP n_impl_named [encP l, .sl false 1 (xs.take i), str n] (i64 (nmF l n (s.take i))) := fun i n => by
    rw [hxs, ← List.map_take]
    exact c_named l (s.take i) n hl (by simp; omega) fun k h => hk k (List.mem_of_mem_take h)
  have htw : ∀ i n, decide (0 ≤ nmF l n (s.take i)) = twB l s i n := fun i n => nmF_any fun k h => (pk_at (hk k (List.mem_of_mem_take h))).1
  have hmet : ∀ d : List Trm, d.length ≤ 1048576 → PCtr PP n_slices_ContainsFunc_L_int64_int64 [.sl false 1 xs, .clo n_impl_faults_1 [.rp [encP l], .rp [.sl false 7 (d.map Trm.enc)]]] (boo (metB l s d)) := fun d hd => by
    rw [hxs]
    exact c_ContainsFuncI s (by omega) _ _ _ ⟨fun _ _ => rfl, rfl, fun _ => rfl, fun k h => c_faults1 l k d hl hd ho (hk k h)⟩
  have hgiv : ∀ q t, PCtr PP n_slices_ContainsFunc_L_int64_int64 [.sl false 1 xs, .clo n_impl_faults_2 [.rp [i64 q], .rp [encP l], .rp t.cells]] (boo (givB l s q t)) := fun q t => by
    rw [hxs]
    exact c_ContainsFuncI s (by omega) _ _ _ ⟨fun _ _ => rfl, rfl, fun _ => rfl, fun k h => c_faults2 l k q t hl ho (hk k h)⟩
  unfold encP at *
  unfold fltS at htot
  rw [← hcs] at hat hnm hmet hgiv ⊢
  rw [← hxs]
  have htab := tab
  have hmo := hmo
  refine PCtr.walk tab hΩ fn_impl_faults rfl ?_
  generalize PP = P at *
  cbv
  refine loopX htab hΩ (fun i : Nat × List Flt => ⟨[(1, .sl false 1 xs), (2, .pt 0 0 0), (5, .vw 1 0 i.2.length), (14, .sl false 1 xs), (15, .sc (.int .i64 (Ω.int (Ω.len xs)))), (16, .sc (.int .i64 (Ω.int i.1)))], 77,
      [some ⟨1, [.sl false 8 cs], true⟩, some ⟨3, e i.2, false⟩]⟩) (fun i => i.1 ≤ s.length ∧ i.2 ++ aF l s i.1 (s.drop i.1) = tot) (fun i => s.length - i.1) (0, []) ⟨Nat.zero_le _, htot.symm⟩
    (Sbs.mk rfl (by dsimp only; rw [he0]) ⟨rfl, rfl, rfl, rfl, rfl, zeroI hΩ, trivial⟩) ?_
  rintro ⟨i, out⟩ ⟨hi, hout⟩
  dsimp only at hi hout
  dsimp only
  obtain ⟨m, hm⟩ : ∃ m, out.length = m := ⟨_, rfl⟩
  rw [hm]
  cbv
  refine br (fun h => ?_) (fun h => ?_) <;> cbv
  · replace h := ltI hΩ h
    obtain ⟨c, hcc⟩ := at_of (cs := s) (by omega : i < s.length)
    rw [aF_at hcc] at hout
    have hcin := hk c (List.mem_of_getElem? hcc)
    obtain ⟨hc0, v1, v2, v3, sz, ps, ds, bs, hx, hm2, hen, hds, hbs⟩ := hat c hcin
    have hdl : ds.length = (pk l c).d.length := by rw [hds, List.length_map]
    have hbl : bs.length = (pk l c).b.length := by rw [hbs, List.length_map]
    have hsm := ho _ hm2
    have hn1 := hnm i (pk l c).n
    have htwi : decide (0 ≤ nmF l (pk l c).n (s.take i)) = twB l s i (pk l c).n := htw i (pk l c).n
    unfold tF at hout
    generalize nmF l (pk l c).n (s.take i) = nm at *
    generalize twB l s i (pk l c).n = tw at *
    have hd1 := hsm.d
    have hd2 := hsm.e
    have hb1 := hsm.b
    generalize (pk l c).d = d at *
    generalize (pk l c).b = b at *
    generalize (pk l c).n = nn at *
    refine ⟨⟨nnI hΩ⟩, _, rdI hΩ hxs hcc, ?_⟩
    cbv
    refine ⟨⟨hc0⟩, _, hx, ?_⟩
    cbv
    refine ⟨VC_drawn htab hΩ hmo (by kernel_rfl) ?_⟩
    cbv
    have hn2 : PCtr P n_impl_named [.sl false 8 cs, .sl false 1 (Ω.seg 0 (Ω.nat (Ω.int i)) xs), str nn] (i64 nm) := by subst hΩ; exact hn1
    refine ⟨⟨⟨trivial, (nnI hΩ), Nat.zero_le _, by subst hΩ; show ((i : Int)).toNat ≤ xs.length; omega⟩⟩, ?_⟩
    refine QCall_pure (k := 3) hn2 rfl (fits _) rfl ?_
    cbv
    obtain ⟨rest, hrest⟩ : ∃ rest, rest = nF l s c 0 d ++ (bF l s c 0 b ++ aF l s (i + 1) (s.drop (i + 1))) := ⟨_, rfl⟩
    rw [← hrest] at hout
    have hml : m + 1 ≤ 2199024304129 := by
      have := congrArg List.length hout
      simp only [List.length_append] at this
      omega
    refine br (fun g => ?_) (fun g => ?_) <;> cbv
    · have g : tw = true := by rw [← htwi]; exact decide_eq_true (geI_t hΩ g)
      rw [g, if_pos rfl, ← List.append_assoc] at hout
      refine ⟨⟨rfl, okAll rfl, by show (m + 1) * 24 ≤ 140737488355328; omega, by show m + 1 ≤ 9223372036854775807; omega⟩, ?_⟩
      refine loopX htab hΩ (fun j : Nat × List Flt => ⟨[(1, .sl false 1 xs), (2, .pt 0 0 0), (5, .vw 1 0 j.2.length), (14, .sl false 1 xs), (15, .sc (.int .i64 (Ω.int (Ω.len xs)))), (16, .sc (.int .i64 (Ω.int i))), (7, .pt 2 0 0), (8, .pt 3 0 0), (39, .sl false 1 ds), (40, .sc (.int .i64 (Ω.int (Ω.len ds)))), (41, .sc (.int .i64 (Ω.int j.1)))], 77, [some ⟨1, [.sl false 8 cs], true⟩, some ⟨3, e j.2, false⟩, some ⟨1, [i64 c], true⟩, some ⟨8, [.agg [str nn, i64 v1, i64 v2, i64 v3, i64 sz, .sl false 1 ps, .sl false 1 ds, .sl false 7 bs]], true⟩]⟩) (fun j => j.1 ≤ d.length ∧ j.2 ++ (nF l s c j.1 (d.drop j.1) ++ (bF l s c 0 b ++ aF l s (i + 1) (s.drop (i + 1)))) = tot) (fun j => d.length - j.1) (0, out ++ [(⟨1, c, 0⟩ : Flt)]) ⟨Nat.zero_le _, by rw [hrest] at hout; exact hout⟩
        (Sbs.trans (Sbs.lastN (rows := [_, _, _, _]) rfl) (Sbs.mk rfl (by dsimp only; rw [← hap out ⟨1, c, 0⟩ m hm]; subst hΩ; rfl) ⟨rfl, rfl, congrArg (A.vw 1 0) (hlp out ⟨1, c, 0⟩ _ m hm), rfl, rfl, rfl, rfl, rfl, rfl, rfl, zeroI hΩ, trivial⟩)) ?_
      rintro ⟨j, o2⟩ ⟨hj, hj2⟩
      dsimp only at hj hj2
      dsimp only
      obtain ⟨m2, hm2⟩ : ∃ m2, o2.length = m2 := ⟨_, rfl⟩
      rw [hm2]
      cbv
      have hml2 : m2 ≤ 2199024304128 := by
        have := congrArg List.length hj2
        rw [List.length_append, hm2] at this
        omega
      refine br (fun h => ?_) (fun h => ?_) <;> cbv
      · replace h := ltI hΩ h
        obtain ⟨u, huu⟩ := at_of (cs := d) (by omega : j < d.length)
        rw [nF_at huu, List.append_assoc] at hj2
        have hc := hmet u (hd2 u (List.mem_of_getElem? huu))
        obtain ⟨us, hus⟩ : ∃ us, us = u.map Trm.enc := ⟨_, rfl⟩
        rw [← hus] at hc
        have hrd : ds[(Ω.int j).toNat]? = some (.sl false 7 us) := (rdI hΩ hds huu).trans (by rw [hus]; rfl)
        generalize metB l s u = gu at hc hj2
        refine ⟨⟨nnI hΩ⟩, _, hrd, ?_⟩
        cbv
        refine call_pure hΩ 5 hc (ro_clo2 rfl rfl) (fits _) rfl rfl ?_
        cbv
        refine br (fun g => ?_) (fun g => ?_) <;> cbv
        · have g : gu = false := notT' hΩ g
          rw [g, if_neg (by simp), ← List.append_assoc] at hj2
          refine ⟨⟨rfl, okAll rfl, by show (m2 + 1) * 24 ≤ 140737488355328; omega, by show m2 + 1 ≤ 9223372036854775807; omega⟩, (j + 1, o2 ++ [⟨2, c, j⟩]), ⟨by dsimp only; omega, hj2⟩, by dsimp only; omega, ?_⟩
          exact Sbs.trans (Sbs.lastN (rows := [_, _, _, _, _]) rfl) (Sbs.mkL (rows := [_, _, _, _]) rfl rfl (by dsimp only; rw [← hap o2 ⟨2, c, j⟩ m2 hm2]; subst hΩ; rfl) ⟨rfl, rfl, congrArg (A.vw 1 0) (hlp o2 ⟨2, c, j⟩ _ m2 hm2), rfl, rfl, rfl, rfl, rfl, rfl, rfl, incI hΩ (by omega), trivial⟩)
        · have g : gu = true := notF' hΩ g
          rw [g] at hj2
          exact ⟨(j + 1, o2), ⟨by dsimp only; omega, hj2⟩, by dsimp only; omega, Sbs.mkL (rows := [_, _, _, _]) rfl rfl rfl ⟨rfl, rfl, congrArg (A.vw 1 0) hm2.symm, rfl, rfl, rfl, rfl, rfl, rfl, rfl, incI hΩ (by omega), trivial⟩⟩
      · replace h := geI hΩ h
        rw [List.drop_of_length_le (by omega : d.length ≤ j), nF, List.nil_append] at hj2
        obtain ⟨o1, m1, hm1, rfl⟩ : ∃ o1 m1, o1.length = m1 ∧ o1 = o2 := ⟨_, _, rfl, rfl⟩
        obtain rfl : m2 = m1 := hm2.symm.trans hm1
        clear hm2
        refine loopX htab hΩ (fun j : Nat × List Flt => ⟨[(1, .sl false 1 xs), (2, .pt 0 0 0), (5, .vw 1 0 j.2.length), (14, .sl false 1 xs), (15, .sc (.int .i64 (Ω.int (Ω.len xs)))), (16, .sc (.int .i64 (Ω.int i))), (7, .pt 2 0 0), (8, .pt 3 0 0), (58, .sl false 7 bs), (59, .sc (.int .i64 (Ω.int (Ω.len bs)))), (60, .sc (.int .i64 (Ω.int j.1)))], 77, [some ⟨1, [.sl false 8 cs], true⟩, some ⟨3, e j.2, false⟩, some ⟨1, [i64 c], true⟩, some ⟨8, [.agg [str nn, i64 v1, i64 v2, i64 v3, i64 sz, .sl false 1 ps, .sl false 1 ds, .sl false 7 bs]], true⟩]⟩) (fun j => j.1 ≤ b.length ∧ j.2 ++ (bF l s c j.1 (b.drop j.1) ++ aF l s (i + 1) (s.drop (i + 1))) = tot) (fun j => b.length - j.1) (0, o1) ⟨Nat.zero_le _, hj2⟩
          (Sbs.mk rfl rfl ⟨rfl, rfl, congrArg (A.vw 1 0) hm1.symm, rfl, rfl, rfl, rfl, rfl, rfl, rfl, zeroI hΩ, trivial⟩) ?_
        rintro ⟨j, o2⟩ ⟨hj, hj2⟩
        dsimp only at hj hj2
        dsimp only
        obtain ⟨m2, hm2⟩ : ∃ m2, o2.length = m2 := ⟨_, rfl⟩
        rw [hm2]
        cbv
        have hml2 : m2 ≤ 2199024304128 := by
          have := congrArg List.length hj2
          rw [List.length_append, hm2] at this
          omega
        refine br (fun h => ?_) (fun h => ?_) <;> cbv
        · replace h := ltI hΩ h
          obtain ⟨u, huu⟩ := at_of (cs := b) (by omega : j < b.length)
          rw [bF_at huu, List.append_assoc] at hj2
          have hc := hgiv c u
          generalize givB l s c u = gu at hc hj2
          refine ⟨⟨nnI hΩ⟩, _, rdI hΩ hbs huu, ?_⟩
          cbv
          refine call_pure hΩ 5 hc (ro_clo2 rfl rfl) (fits _) rfl rfl ?_
          cbv
          refine br (fun g => ?_) (fun g => ?_) <;> cbv
          · have g : gu = true := g
            rw [g, if_pos rfl, ← List.append_assoc] at hj2
            refine ⟨⟨rfl, okAll rfl, by show (m2 + 1) * 24 ≤ 140737488355328; omega, by show m2 + 1 ≤ 9223372036854775807; omega⟩, (j + 1, o2 ++ [⟨3, c, j⟩]), ⟨by dsimp only; omega, hj2⟩, by dsimp only; omega, ?_⟩
            exact Sbs.trans (Sbs.lastN (rows := [_, _, _, _, _]) rfl) (Sbs.mkL (rows := [_, _, _, _]) rfl rfl (by dsimp only; rw [← hap o2 ⟨3, c, j⟩ m2 hm2]; subst hΩ; rfl) ⟨rfl, rfl, congrArg (A.vw 1 0) (hlp o2 ⟨3, c, j⟩ _ m2 hm2), rfl, rfl, rfl, rfl, rfl, rfl, rfl, incI hΩ (by omega), trivial⟩)
          · have g : gu = false := g
            rw [g] at hj2
            exact ⟨(j + 1, o2), ⟨by dsimp only; omega, hj2⟩, by dsimp only; omega, Sbs.mkL (rows := [_, _, _, _]) rfl rfl rfl ⟨rfl, rfl, congrArg (A.vw 1 0) hm2.symm, rfl, rfl, rfl, rfl, rfl, rfl, rfl, incI hΩ (by omega), trivial⟩⟩
        · replace h := geI hΩ h
          rw [List.drop_of_length_le (by omega : b.length ≤ j), bF, List.nil_append] at hj2
          exact ⟨(i + 1, o2), ⟨by dsimp only; omega, hj2⟩, by dsimp only; omega, Sbs.trans (Sbs.last (rows := [_, _, _]) rfl) (Sbs.mkL (rows := [_, _]) rfl rfl rfl ⟨rfl, rfl, congrArg (A.vw 1 0) hm2.symm, rfl, rfl, incI hΩ (by omega), trivial⟩)⟩
    · have g : tw = false := by rw [← htwi]; exact decide_eq_false (by have := geI_f hΩ g; omega)
      rw [g] at hout
      refine loopX htab hΩ (fun j : Nat × List Flt => ⟨[(1, .sl false 1 xs), (2, .pt 0 0 0), (5, .vw 1 0 j.2.length), (14, .sl false 1 xs), (15, .sc (.int .i64 (Ω.int (Ω.len xs)))), (16, .sc (.int .i64 (Ω.int i))), (7, .pt 2 0 0), (8, .pt 3 0 0), (39, .sl false 1 ds), (40, .sc (.int .i64 (Ω.int (Ω.len ds)))), (41, .sc (.int .i64 (Ω.int j.1)))], 77, [some ⟨1, [.sl false 8 cs], true⟩, some ⟨3, e j.2, false⟩, some ⟨1, [i64 c], true⟩, some ⟨8, [.agg [str nn, i64 v1, i64 v2, i64 v3, i64 sz, .sl false 1 ps, .sl false 1 ds, .sl false 7 bs]], true⟩]⟩) (fun j => j.1 ≤ d.length ∧ j.2 ++ (nF l s c j.1 (d.drop j.1) ++ (bF l s c 0 b ++ aF l s (i + 1) (s.drop (i + 1)))) = tot) (fun j => d.length - j.1) (0, out) ⟨Nat.zero_le _, by rw [hrest] at hout; exact hout⟩
        (Sbs.mk rfl rfl ⟨rfl, rfl, congrArg (A.vw 1 0) hm.symm, rfl, rfl, rfl, rfl, rfl, rfl, rfl, zeroI hΩ, trivial⟩) ?_
      rintro ⟨j, o2⟩ ⟨hj, hj2⟩
      dsimp only at hj hj2
      dsimp only
      obtain ⟨m2, hm2⟩ : ∃ m2, o2.length = m2 := ⟨_, rfl⟩
      rw [hm2]
      cbv
      have hml2 : m2 ≤ 2199024304128 := by
        have := congrArg List.length hj2
        rw [List.length_append, hm2] at this
        omega
      refine br (fun h => ?_) (fun h => ?_) <;> cbv
      · replace h := ltI hΩ h
        obtain ⟨u, huu⟩ := at_of (cs := d) (by omega : j < d.length)
        rw [nF_at huu, List.append_assoc] at hj2
        have hc := hmet u (hd2 u (List.mem_of_getElem? huu))
        obtain ⟨us, hus⟩ : ∃ us, us = u.map Trm.enc := ⟨_, rfl⟩
        rw [← hus] at hc
        have hrd : ds[(Ω.int j).toNat]? = some (.sl false 7 us) := (rdI hΩ hds huu).trans (by rw [hus]; rfl)
        generalize metB l s u = gu at hc hj2
        refine ⟨⟨nnI hΩ⟩, _, hrd, ?_⟩
        cbv
        refine call_pure hΩ 5 hc (ro_clo2 rfl rfl) (fits _) rfl rfl ?_
        cbv
        refine br (fun g => ?_) (fun g => ?_) <;> cbv
        · have g : gu = false := notT' hΩ g
          rw [g, if_neg (by simp), ← List.append_assoc] at hj2
          refine ⟨⟨rfl, okAll rfl, by show (m2 + 1) * 24 ≤ 140737488355328; omega, by show m2 + 1 ≤ 9223372036854775807; omega⟩, (j + 1, o2 ++ [⟨2, c, j⟩]), ⟨by dsimp only; omega, hj2⟩, by dsimp only; omega, ?_⟩
          exact Sbs.trans (Sbs.lastN (rows := [_, _, _, _, _]) rfl) (Sbs.mkL (rows := [_, _, _, _]) rfl rfl (by dsimp only; rw [← hap o2 ⟨2, c, j⟩ m2 hm2]; subst hΩ; rfl) ⟨rfl, rfl, congrArg (A.vw 1 0) (hlp o2 ⟨2, c, j⟩ _ m2 hm2), rfl, rfl, rfl, rfl, rfl, rfl, rfl, incI hΩ (by omega), trivial⟩)
        · have g : gu = true := notF' hΩ g
          rw [g] at hj2
          exact ⟨(j + 1, o2), ⟨by dsimp only; omega, hj2⟩, by dsimp only; omega, Sbs.mkL (rows := [_, _, _, _]) rfl rfl rfl ⟨rfl, rfl, congrArg (A.vw 1 0) hm2.symm, rfl, rfl, rfl, rfl, rfl, rfl, rfl, incI hΩ (by omega), trivial⟩⟩
      · replace h := geI hΩ h
        rw [List.drop_of_length_le (by omega : d.length ≤ j), nF, List.nil_append] at hj2
        obtain ⟨o1, m1, hm1, rfl⟩ : ∃ o1 m1, o1.length = m1 ∧ o1 = o2 := ⟨_, _, rfl, rfl⟩
        obtain rfl : m2 = m1 := hm2.symm.trans hm1
        clear hm2
        refine loopX htab hΩ (fun j : Nat × List Flt => ⟨[(1, .sl false 1 xs), (2, .pt 0 0 0), (5, .vw 1 0 j.2.length), (14, .sl false 1 xs), (15, .sc (.int .i64 (Ω.int (Ω.len xs)))), (16, .sc (.int .i64 (Ω.int i))), (7, .pt 2 0 0), (8, .pt 3 0 0), (58, .sl false 7 bs), (59, .sc (.int .i64 (Ω.int (Ω.len bs)))), (60, .sc (.int .i64 (Ω.int j.1)))], 77, [some ⟨1, [.sl false 8 cs], true⟩, some ⟨3, e j.2, false⟩, some ⟨1, [i64 c], true⟩, some ⟨8, [.agg [str nn, i64 v1, i64 v2, i64 v3, i64 sz, .sl false 1 ps, .sl false 1 ds, .sl false 7 bs]], true⟩]⟩) (fun j => j.1 ≤ b.length ∧ j.2 ++ (bF l s c j.1 (b.drop j.1) ++ aF l s (i + 1) (s.drop (i + 1))) = tot) (fun j => b.length - j.1) (0, o1) ⟨Nat.zero_le _, hj2⟩
          (Sbs.mk rfl rfl ⟨rfl, rfl, congrArg (A.vw 1 0) hm1.symm, rfl, rfl, rfl, rfl, rfl, rfl, rfl, zeroI hΩ, trivial⟩) ?_
        rintro ⟨j, o2⟩ ⟨hj, hj2⟩
        dsimp only at hj hj2
        dsimp only
        obtain ⟨m2, hm2⟩ : ∃ m2, o2.length = m2 := ⟨_, rfl⟩
        rw [hm2]
        cbv
        have hml2 : m2 ≤ 2199024304128 := by
          have := congrArg List.length hj2
          rw [List.length_append, hm2] at this
          omega
        refine br (fun h => ?_) (fun h => ?_) <;> cbv
        · replace h := ltI hΩ h
          obtain ⟨u, huu⟩ := at_of (cs := b) (by omega : j < b.length)
          rw [bF_at huu, List.append_assoc] at hj2
          have hc := hgiv c u
          generalize givB l s c u = gu at hc hj2
          refine ⟨⟨nnI hΩ⟩, _, rdI hΩ hbs huu, ?_⟩
          cbv
          refine call_pure hΩ 5 hc (ro_clo2 rfl rfl) (fits _) rfl rfl ?_
          cbv
          refine br (fun g => ?_) (fun g => ?_) <;> cbv
          · have g : gu = true := g
            rw [g, if_pos rfl, ← List.append_assoc] at hj2
            refine ⟨⟨rfl, okAll rfl, by show (m2 + 1) * 24 ≤ 140737488355328; omega, by show m2 + 1 ≤ 9223372036854775807; omega⟩, (j + 1, o2 ++ [⟨3, c, j⟩]), ⟨by dsimp only; omega, hj2⟩, by dsimp only; omega, ?_⟩
            exact Sbs.trans (Sbs.lastN (rows := [_, _, _, _, _]) rfl) (Sbs.mkL (rows := [_, _, _, _]) rfl rfl (by dsimp only; rw [← hap o2 ⟨3, c, j⟩ m2 hm2]; subst hΩ; rfl) ⟨rfl, rfl, congrArg (A.vw 1 0) (hlp o2 ⟨3, c, j⟩ _ m2 hm2), rfl, rfl, rfl, rfl, rfl, rfl, rfl, incI hΩ (by omega), trivial⟩)
          · have g : gu = false := g
            rw [g] at hj2
            exact ⟨(j + 1, o2), ⟨by dsimp only; omega, hj2⟩, by dsimp only; omega, Sbs.mkL (rows := [_, _, _, _]) rfl rfl rfl ⟨rfl, rfl, congrArg (A.vw 1 0) hm2.symm, rfl, rfl, rfl, rfl, rfl, rfl, rfl, incI hΩ (by omega), trivial⟩⟩
        · replace h := geI hΩ h
          rw [List.drop_of_length_le (by omega : b.length ≤ j), bF, List.nil_append] at hj2
          exact ⟨(i + 1, o2), ⟨by dsimp only; omega, hj2⟩, by dsimp only; omega, Sbs.trans (Sbs.last (rows := [_, _, _]) rfl) (Sbs.mkL (rows := [_, _]) rfl rfl rfl ⟨rfl, rfl, congrArg (A.vw 1 0) hm2.symm, rfl, rfl, incI hΩ (by omega), trivial⟩)⟩
  · have hil : i = s.length := by have := geI hΩ h; omega
    rw [hil, List.drop_length, aF, List.append_nil] at hout
    refine ⟨⟨rfl, by show m ≤ (e out).length; rw [hel, hm]; exact Nat.le_refl _⟩, .of ?_⟩
    rw [← hout]
    subst hΩ
    show A.sl true 3 ((e out).take m) = _
    rw [List.take_of_length_le (by rw [hel]; omega)]
theorem c_l3Faults (l : List Pck) (s : List Int) (hl : l.length ≤ 1048576) (hs : s.length ≤ 1048576) (ho : ∀ o ∈ l, o.Small) (hk : ∀ k ∈ s, inB k 0 ((l.length : Int) - 1) = true) : PCtr PP n_spec_l3Faults [encP l, .sl false 1 (s.map i64)] (.sl true 3 ((fltS l s).map Flt.enc)) := by
  obtain ⟨Ω, hΩ⟩ : ∃ Ω, Ω = std := ⟨_, rfl⟩
  have hat : ∀ k, inB k 0 ((l.length : Int) - 1) = true → 0 ≤ k ∧ ∃ v1 v2 v3 sz ps ds bs, (l.map (Pck.enc false))[k.toNat]? = some (.agg [str (pk l k).n, i64 v1, i64 v2, i64 v3, i64 sz, .sl false 1 ps, .sl false 1 ds, .sl false 7 bs]) ∧ pk l k ∈ l ∧
      Pck.enc false (pk l k) = .agg [str (pk l k).n, i64 v1, i64 v2, i64 v3, i64 sz, .sl false 1 ps, .sl false 1 ds, .sl false 7 bs] ∧ ds = (pk l k).d.map (encTs false) ∧ bs = (pk l k).b.map Trm.enc := fun k h => by
    obtain ⟨h0, h1, h2, h3⟩ := pk_at h
    obtain ⟨ps, ds, bs, hen, hp, hd, hb⟩ := enc_raw (pk l k)
    exact ⟨h0, _, _, _, _, ps, ds, bs, by rw [List.getElem?_map, h2]; exact congrArg some hen, h3, hen, hd, hb⟩
  obtain ⟨tot, htot⟩ : ∃ tot, tot = fltS l s := ⟨_, rfl⟩
  have hb : tot.length ≤ 2199024304128 := by rw [htot]; exact fltS_len (fun k h => ⟨(ho _ (pk_at (hk k h)).2.2.2).d, (ho _ (pk_at (hk k h)).2.2.2).b⟩) hs
  rw [← htot]
  obtain ⟨e, he⟩ : ∃ e : List Flt → List A, e = List.map Flt.enc := ⟨_, rfl⟩
  have hel : ∀ o, (e o).length = o.length := fun o => by rw [he, List.length_map]
  have hea : ∀ o f, e (o ++ [f]) = e o ++ [f.enc] := fun o f => by rw [he, List.map_append]; rfl
  have he0 : e [] = [] := by rw [he]; rfl
  have hap : ∀ o f m, o.length = m → Ω.app (Ω.take m (e o)) [f.enc] = e (o ++ [f]) := fun o f m h => by
    rw [hea]
    subst hΩ
    show (e o).take m ++ [f.enc] = _
    rw [List.take_of_length_le (by rw [hel]; omega)]
  have hlp : ∀ (o : List Flt) (f : Flt) (x : A) m, o.length = m → Ω.plus m (Ω.len [x]) = (o ++ [f]).length := fun o f x m h => by
    rw [List.length_append, h]; subst hΩ; rfl
  rw [show List.map Flt.enc = e from he.symm]
  clear he
  obtain ⟨cs, hcs⟩ : ∃ cs, cs = l.map (Pck.enc false) := ⟨_, rfl⟩
  obtain ⟨xs, hxs⟩ : ∃ xs, xs = s.map i64 := ⟨_, rfl⟩
  have hxl : xs.length = s.length := by rw [hxs, List.length_map]
  have hmet : ∀ d : List Trm, d.length ≤ 1048576 → PCtr PP n_spec_l3Met [encP l, .sl false 1 xs, .sl false 7 (d.map Trm.enc)] (boo (metB l s d)) := fun d hd => by
    rw [hxs]
    exact c_l3Met l s d hl hs hd ho hk
  have hgiv : ∀ q t, PCtr PP n_spec_l3Given [encP l, .sl false 1 xs, t.enc, i64 q] (boo (givB l s q t)) := fun q t => by
    rw [hxs]
    exact c_l3Given l s t q hl hs ho hk
  unfold encP at *
  unfold fltS at htot
  rw [← hcs] at hat hmet hgiv ⊢
  rw [← hxs]
  have htab := tab
  have hmo := hmo
  refine PCtr.walk tab hΩ fn_spec_l3Faults rfl ?_
  generalize PP = P at *
  cbv
  refine loopX htab hΩ (fun i : Nat × List Flt => ⟨[(0, .sl false 8 cs), (1, .sl false 1 xs), (5, .vw 0 0 i.2.length), (6, .sc (.int .i64 (Ω.int i.1)))], 103,
      [some ⟨3, e i.2, false⟩]⟩) (fun i => i.1 ≤ s.length ∧ i.2 ++ aF l s i.1 (s.drop i.1) = tot) (fun i => s.length - i.1) (0, []) ⟨Nat.zero_le _, htot.symm⟩
    (Sbs.mk rfl (by dsimp only; rw [he0]) ⟨rfl, rfl, rfl, zeroI hΩ, trivial⟩) ?_
  rintro ⟨i, out⟩ ⟨hi, hout⟩
  dsimp only at hi hout
  dsimp only
  obtain ⟨m, hm⟩ : ∃ m, out.length = m := ⟨_, rfl⟩
  rw [hm]
  cbv
  refine br (fun h => ?_) (fun h => ?_) <;> cbv
  · replace h := ltI hΩ h
    obtain ⟨c, hcc⟩ := at_of (cs := s) (by omega : i < s.length)
    rw [aF_at hcc] at hout
    have hcin := hk c (List.mem_of_getElem? hcc)
    obtain ⟨hc0, v1, v2, v3, sz, ps, ds, bs, hx, hm2, hen, hds, hbs⟩ := hat c hcin
    have hdl : ds.length = (pk l c).d.length := by rw [hds, List.length_map]
    have hbl : bs.length = (pk l c).b.length := by rw [hbs, List.length_map]
    have hsm := ho _ hm2
    unfold tF at hout
    have hd1 := hsm.d
    have hd2 := hsm.e
    have hb1 := hsm.b
    generalize (pk l c).d = d at *
    generalize (pk l c).b = b at *
    generalize (pk l c).n = nn at *
    obtain ⟨tw, htw⟩ : ∃ tw, tw = twB l s i nn := ⟨_, rfl⟩
    rw [← htw] at hout
    unfold twB at htw
    refine ⟨⟨nnI hΩ⟩, _, rdI hΩ hxs hcc, ?_⟩
    cbv
    refine ⟨⟨hc0⟩, _, hx, ?_⟩
    cbv
    obtain ⟨rest, hrest⟩ : ∃ rest, rest = nF l s c 0 d ++ (bF l s c 0 b ++ aF l s (i + 1) (s.drop (i + 1))) := ⟨_, rfl⟩
    rw [← hrest] at hout
    have hml : tw = true → m + 1 ≤ 2199024304129 := fun _ => by
      have := congrArg List.length hout
      simp only [List.length_append] at this
      omega
    refine loopX htab hΩ (fun q : Nat => ⟨[(0, .sl false 8 cs), (1, .sl false 1 xs), (5, .vw 0 0 m), (6, .sc (.int .i64 (Ω.int i))), (7, .pt 1 0 0), (8, .sc (.int .i64 (Ω.int q)))], 103,
        [some ⟨3, e out, false⟩, some ⟨8, [.agg [str nn, i64 v1, i64 v2, i64 v3, i64 sz, .sl false 1 ps, .sl false 1 ds, .sl false 7 bs]], true⟩]⟩)
      (fun q => q ≤ i ∧ tw = ((s.take i).drop q).any fun j => (pk l j).n == nn) (fun q => i - q) 0 ⟨Nat.zero_le _, htw⟩ (Sbs.mk rfl rfl ⟨rfl, rfl, rfl, rfl, rfl, zeroI hΩ, trivial⟩) ?_
    rintro q ⟨hq, hqa⟩
    cbv
    refine br (fun g => ?_) (fun g => ?_) <;> cbv
    · replace g := ltN hΩ g
      obtain ⟨p, hpp⟩ := at_of (cs := s) (by omega : q < s.length)
      rw [any_at _ (show (s.take i)[q]? = some p by rw [List.getElem?_take_of_lt g]; exact hpp)] at hqa
      obtain ⟨hp0, w1, w2, w3, wz, ps', ds', bs', hx', -, -, -, -⟩ := hat p (hk p (List.mem_of_getElem? hpp))
      generalize (pk l p).n = n2 at hqa hx'
      refine ⟨VC_drawn htab hΩ hmo (by kernel_rfl) ?_⟩
      cbv
      refine ⟨⟨nnI hΩ⟩, _, rdI hΩ hxs hpp, ?_⟩
      cbv
      refine ⟨⟨hp0⟩, _, hx', ?_⟩
      cbv
      refine br (fun g2 => ?_) (fun g2 => ?_) <;> cbv
      · have g2 : tw = true := by rw [hqa, show (n2 == nn) = true by subst hΩ; exact g2]; rfl
        have hml := hml g2
        rw [g2, if_pos rfl, ← List.append_assoc] at hout
        refine ⟨⟨nnI hΩ⟩, _, rdI hΩ hxs hcc, ?_⟩
        cbv
        refine ⟨⟨rfl, okAll rfl, by show (m + 1) * 24 ≤ 140737488355328; omega, by show m + 1 ≤ 9223372036854775807; omega⟩, ?_⟩
        refine loopX htab hΩ (fun j : Nat × List Flt => ⟨[(0, .sl false 8 cs), (1, .sl false 1 xs), (5, .vw 0 0 j.2.length), (6, .sc (.int .i64 (Ω.int i))), (7, .pt 1 0 0), (9, .sc (.int .i64 (Ω.int j.1)))], 103, [some ⟨3, e j.2, false⟩, some ⟨8, [.agg [str nn, i64 v1, i64 v2, i64 v3, i64 sz, .sl false 1 ps, .sl false 1 ds, .sl false 7 bs]], true⟩]⟩) (fun j => j.1 ≤ d.length ∧ j.2 ++ (nF l s c j.1 (d.drop j.1) ++ (bF l s c 0 b ++ aF l s (i + 1) (s.drop (i + 1)))) = tot) (fun j => d.length - j.1) (0, out ++ [(⟨1, c, 0⟩ : Flt)]) ⟨Nat.zero_le _, by rw [hrest] at hout; exact hout⟩
          (Sbs.trans (Sbs.lastN (rows := [_, _]) rfl) (Sbs.mk rfl (by dsimp only; rw [← hap out ⟨1, c, 0⟩ m hm]; subst hΩ; rfl) ⟨rfl, rfl, congrArg (A.vw 0 0) (hlp out ⟨1, c, 0⟩ _ m hm), rfl, rfl, zeroI hΩ, trivial⟩)) ?_
        rintro ⟨j, o2⟩ ⟨hj, hj2⟩
        dsimp only at hj hj2
        dsimp only
        obtain ⟨m2, hm2⟩ : ∃ m2, o2.length = m2 := ⟨_, rfl⟩
        rw [hm2]
        cbv
        have hml2 : m2 ≤ 2199024304128 := by
          have := congrArg List.length hj2
          rw [List.length_append, hm2] at this
          omega
        refine br (fun h => ?_) (fun h => ?_) <;> cbv
        · replace h := ltI hΩ h
          obtain ⟨u, huu⟩ := at_of (cs := d) (by omega : j < d.length)
          rw [nF_at huu, List.append_assoc] at hj2
          have hc := hmet u (hd2 u (List.mem_of_getElem? huu))
          obtain ⟨us, hus⟩ : ∃ us, us = u.map Trm.enc := ⟨_, rfl⟩
          rw [← hus] at hc
          have hrd : ds[(Ω.int j).toNat]? = some (.sl false 7 us) := (rdI hΩ hds huu).trans (by rw [hus]; rfl)
          generalize metB l s u = gu at hc hj2
          refine ⟨⟨nnI hΩ⟩, _, hrd, ?_⟩
          cbv
          refine call_pure hΩ 3 hc rfl (fits _) rfl rfl ?_
          cbv
          refine br (fun g => ?_) (fun g => ?_) <;> cbv
          · have g : gu = false := notT' hΩ g
            rw [g, if_neg (by simp), ← List.append_assoc] at hj2
            refine ⟨⟨nnI hΩ⟩, _, rdI hΩ hxs hcc, ?_⟩
            cbv
            refine ⟨⟨rfl, okAll rfl, by show (m2 + 1) * 24 ≤ 140737488355328; omega, by show m2 + 1 ≤ 9223372036854775807; omega⟩, (j + 1, o2 ++ [⟨2, c, j⟩]), ⟨by dsimp only; omega, hj2⟩, by dsimp only; omega, ?_⟩
            exact Sbs.trans (Sbs.lastN (rows := [_, _]) rfl) (Sbs.mk rfl (by dsimp only; rw [← hap o2 ⟨2, c, j⟩ m2 hm2]; subst hΩ; rfl) ⟨rfl, rfl, congrArg (A.vw 0 0) (hlp o2 ⟨2, c, j⟩ _ m2 hm2), rfl, rfl, incI hΩ (by omega), trivial⟩)
          · have g : gu = true := notF' hΩ g
            rw [g] at hj2
            exact ⟨(j + 1, o2), ⟨by dsimp only; omega, hj2⟩, by dsimp only; omega, Sbs.mk rfl rfl ⟨rfl, rfl, congrArg (A.vw 0 0) hm2.symm, rfl, rfl, incI hΩ (by omega), trivial⟩⟩
        · replace h := geI hΩ h
          rw [List.drop_of_length_le (by omega : d.length ≤ j), nF, List.nil_append] at hj2
          obtain ⟨o1, m1, hm1, rfl⟩ : ∃ o1 m1, o1.length = m1 ∧ o1 = o2 := ⟨_, _, rfl, rfl⟩
          obtain rfl : m2 = m1 := hm2.symm.trans hm1
          clear hm2
          refine loopX htab hΩ (fun j : Nat × List Flt => ⟨[(0, .sl false 8 cs), (1, .sl false 1 xs), (5, .vw 0 0 j.2.length), (6, .sc (.int .i64 (Ω.int i))), (7, .pt 1 0 0), (10, .sc (.int .i64 (Ω.int j.1)))], 103, [some ⟨3, e j.2, false⟩, some ⟨8, [.agg [str nn, i64 v1, i64 v2, i64 v3, i64 sz, .sl false 1 ps, .sl false 1 ds, .sl false 7 bs]], true⟩]⟩) (fun j => j.1 ≤ b.length ∧ j.2 ++ (bF l s c j.1 (b.drop j.1) ++ aF l s (i + 1) (s.drop (i + 1))) = tot) (fun j => b.length - j.1) (0, o1) ⟨Nat.zero_le _, hj2⟩
            (Sbs.mk rfl rfl ⟨rfl, rfl, congrArg (A.vw 0 0) hm1.symm, rfl, rfl, zeroI hΩ, trivial⟩) ?_
          rintro ⟨j, o2⟩ ⟨hj, hj2⟩
          dsimp only at hj hj2
          dsimp only
          obtain ⟨m2, hm2⟩ : ∃ m2, o2.length = m2 := ⟨_, rfl⟩
          rw [hm2]
          cbv
          have hml2 : m2 ≤ 2199024304128 := by
            have := congrArg List.length hj2
            rw [List.length_append, hm2] at this
            omega
          refine br (fun h => ?_) (fun h => ?_) <;> cbv
          · replace h := ltI hΩ h
            obtain ⟨u, huu⟩ := at_of (cs := b) (by omega : j < b.length)
            rw [bF_at huu, List.append_assoc] at hj2
            have hc := hgiv c u
            generalize givB l s c u = gu at hc hj2
            refine ⟨VC_drawn htab hΩ hmo (by kernel_rfl) ?_⟩
            cbv
            refine ⟨⟨nnI hΩ⟩, _, rdI hΩ hbs huu, ?_⟩
            cbv
            refine ⟨⟨nnI hΩ⟩, _, rdI hΩ hxs hcc, ?_⟩
            cbv
            refine QCall_pure (k := 3) hc rfl (fits _) rfl ?_
            cbv
            refine br (fun g => ?_) (fun g => ?_) <;> cbv
            · have g : gu = true := g
              rw [g, if_pos rfl, ← List.append_assoc] at hj2
              refine ⟨⟨nnI hΩ⟩, _, rdI hΩ hxs hcc, ?_⟩
              cbv
              refine ⟨⟨rfl, okAll rfl, by show (m2 + 1) * 24 ≤ 140737488355328; omega, by show m2 + 1 ≤ 9223372036854775807; omega⟩, (j + 1, o2 ++ [⟨3, c, j⟩]), ⟨by dsimp only; omega, hj2⟩, by dsimp only; omega, ?_⟩
              exact Sbs.trans (Sbs.lastN (rows := [_, _]) rfl) (Sbs.mk rfl (by dsimp only; rw [← hap o2 ⟨3, c, j⟩ m2 hm2]; subst hΩ; rfl) ⟨rfl, rfl, congrArg (A.vw 0 0) (hlp o2 ⟨3, c, j⟩ _ m2 hm2), rfl, rfl, incI hΩ (by omega), trivial⟩)
            · have g : gu = false := g
              rw [g] at hj2
              exact ⟨(j + 1, o2), ⟨by dsimp only; omega, hj2⟩, by dsimp only; omega, Sbs.mk rfl rfl ⟨rfl, rfl, congrArg (A.vw 0 0) hm2.symm, rfl, rfl, incI hΩ (by omega), trivial⟩⟩
          · replace h := geI hΩ h
            rw [List.drop_of_length_le (by omega : b.length ≤ j), bF, List.nil_append] at hj2
            exact ⟨(i + 1, o2), ⟨by dsimp only; omega, hj2⟩, by dsimp only; omega, Sbs.mkL (rows := [_]) rfl rfl rfl ⟨rfl, rfl, congrArg (A.vw 0 0) hm2.symm, incI hΩ (by omega), trivial⟩⟩

      · rw [show (n2 == nn) = false by subst hΩ; exact g2, Bool.false_or] at hqa
        exact ⟨q + 1, ⟨by omega, hqa⟩, by omega, Sbs.mk rfl rfl ⟨rfl, rfl, rfl, rfl, rfl, incI hΩ (by omega), trivial⟩⟩
    · replace g := geN hΩ g
      rw [List.drop_of_length_le (by simp; omega), List.any_nil] at hqa
      rw [hqa] at hout
      refine loopX htab hΩ (fun j : Nat × List Flt => ⟨[(0, .sl false 8 cs), (1, .sl false 1 xs), (5, .vw 0 0 j.2.length), (6, .sc (.int .i64 (Ω.int i))), (7, .pt 1 0 0), (9, .sc (.int .i64 (Ω.int j.1)))], 103, [some ⟨3, e j.2, false⟩, some ⟨8, [.agg [str nn, i64 v1, i64 v2, i64 v3, i64 sz, .sl false 1 ps, .sl false 1 ds, .sl false 7 bs]], true⟩]⟩) (fun j => j.1 ≤ d.length ∧ j.2 ++ (nF l s c j.1 (d.drop j.1) ++ (bF l s c 0 b ++ aF l s (i + 1) (s.drop (i + 1)))) = tot) (fun j => d.length - j.1) (0, out) ⟨Nat.zero_le _, by rw [hrest] at hout; exact hout⟩
        (Sbs.mk rfl rfl ⟨rfl, rfl, congrArg (A.vw 0 0) hm.symm, rfl, rfl, zeroI hΩ, trivial⟩) ?_
      rintro ⟨j, o2⟩ ⟨hj, hj2⟩
      dsimp only at hj hj2
      dsimp only
      obtain ⟨m2, hm2⟩ : ∃ m2, o2.length = m2 := ⟨_, rfl⟩
      rw [hm2]
      cbv
      have hml2 : m2 ≤ 2199024304128 := by
        have := congrArg List.length hj2
        rw [List.length_append, hm2] at this
        omega
      refine br (fun h => ?_) (fun h => ?_) <;> cbv
      · replace h := ltI hΩ h
        obtain ⟨u, huu⟩ := at_of (cs := d) (by omega : j < d.length)
        rw [nF_at huu, List.append_assoc] at hj2
        have hc := hmet u (hd2 u (List.mem_of_getElem? huu))
        obtain ⟨us, hus⟩ : ∃ us, us = u.map Trm.enc := ⟨_, rfl⟩
        rw [← hus] at hc
        have hrd : ds[(Ω.int j).toNat]? = some (.sl false 7 us) := (rdI hΩ hds huu).trans (by rw [hus]; rfl)
        generalize metB l s u = gu at hc hj2
        refine ⟨⟨nnI hΩ⟩, _, hrd, ?_⟩
        cbv
        refine call_pure hΩ 3 hc rfl (fits _) rfl rfl ?_
        cbv
        refine br (fun g => ?_) (fun g => ?_) <;> cbv
        · have g : gu = false := notT' hΩ g
          rw [g, if_neg (by simp), ← List.append_assoc] at hj2
          refine ⟨⟨nnI hΩ⟩, _, rdI hΩ hxs hcc, ?_⟩
          cbv
          refine ⟨⟨rfl, okAll rfl, by show (m2 + 1) * 24 ≤ 140737488355328; omega, by show m2 + 1 ≤ 9223372036854775807; omega⟩, (j + 1, o2 ++ [⟨2, c, j⟩]), ⟨by dsimp only; omega, hj2⟩, by dsimp only; omega, ?_⟩
          exact Sbs.trans (Sbs.lastN (rows := [_, _]) rfl) (Sbs.mk rfl (by dsimp only; rw [← hap o2 ⟨2, c, j⟩ m2 hm2]; subst hΩ; rfl) ⟨rfl, rfl, congrArg (A.vw 0 0) (hlp o2 ⟨2, c, j⟩ _ m2 hm2), rfl, rfl, incI hΩ (by omega), trivial⟩)
        · have g : gu = true := notF' hΩ g
          rw [g] at hj2
          exact ⟨(j + 1, o2), ⟨by dsimp only; omega, hj2⟩, by dsimp only; omega, Sbs.mk rfl rfl ⟨rfl, rfl, congrArg (A.vw 0 0) hm2.symm, rfl, rfl, incI hΩ (by omega), trivial⟩⟩
      · replace h := geI hΩ h
        rw [List.drop_of_length_le (by omega : d.length ≤ j), nF, List.nil_append] at hj2
        obtain ⟨o1, m1, hm1, rfl⟩ : ∃ o1 m1, o1.length = m1 ∧ o1 = o2 := ⟨_, _, rfl, rfl⟩
        obtain rfl : m2 = m1 := hm2.symm.trans hm1
        clear hm2
        refine loopX htab hΩ (fun j : Nat × List Flt => ⟨[(0, .sl false 8 cs), (1, .sl false 1 xs), (5, .vw 0 0 j.2.length), (6, .sc (.int .i64 (Ω.int i))), (7, .pt 1 0 0), (10, .sc (.int .i64 (Ω.int j.1)))], 103, [some ⟨3, e j.2, false⟩, some ⟨8, [.agg [str nn, i64 v1, i64 v2, i64 v3, i64 sz, .sl false 1 ps, .sl false 1 ds, .sl false 7 bs]], true⟩]⟩) (fun j => j.1 ≤ b.length ∧ j.2 ++ (bF l s c j.1 (b.drop j.1) ++ aF l s (i + 1) (s.drop (i + 1))) = tot) (fun j => b.length - j.1) (0, o1) ⟨Nat.zero_le _, hj2⟩
          (Sbs.mk rfl rfl ⟨rfl, rfl, congrArg (A.vw 0 0) hm1.symm, rfl, rfl, zeroI hΩ, trivial⟩) ?_
        rintro ⟨j, o2⟩ ⟨hj, hj2⟩
        dsimp only at hj hj2
        dsimp only
        obtain ⟨m2, hm2⟩ : ∃ m2, o2.length = m2 := ⟨_, rfl⟩
        rw [hm2]
        cbv
        have hml2 : m2 ≤ 2199024304128 := by
          have := congrArg List.length hj2
          rw [List.length_append, hm2] at this
          omega
        refine br (fun h => ?_) (fun h => ?_) <;> cbv
        · replace h := ltI hΩ h
          obtain ⟨u, huu⟩ := at_of (cs := b) (by omega : j < b.length)
          rw [bF_at huu, List.append_assoc] at hj2
          have hc := hgiv c u
          generalize givB l s c u = gu at hc hj2
          refine ⟨VC_drawn htab hΩ hmo (by kernel_rfl) ?_⟩
          cbv
          refine ⟨⟨nnI hΩ⟩, _, rdI hΩ hbs huu, ?_⟩
          cbv
          refine ⟨⟨nnI hΩ⟩, _, rdI hΩ hxs hcc, ?_⟩
          cbv
          refine QCall_pure (k := 3) hc rfl (fits _) rfl ?_
          cbv
          refine br (fun g => ?_) (fun g => ?_) <;> cbv
          · have g : gu = true := g
            rw [g, if_pos rfl, ← List.append_assoc] at hj2
            refine ⟨⟨nnI hΩ⟩, _, rdI hΩ hxs hcc, ?_⟩
            cbv
            refine ⟨⟨rfl, okAll rfl, by show (m2 + 1) * 24 ≤ 140737488355328; omega, by show m2 + 1 ≤ 9223372036854775807; omega⟩, (j + 1, o2 ++ [⟨3, c, j⟩]), ⟨by dsimp only; omega, hj2⟩, by dsimp only; omega, ?_⟩
            exact Sbs.trans (Sbs.lastN (rows := [_, _]) rfl) (Sbs.mk rfl (by dsimp only; rw [← hap o2 ⟨3, c, j⟩ m2 hm2]; subst hΩ; rfl) ⟨rfl, rfl, congrArg (A.vw 0 0) (hlp o2 ⟨3, c, j⟩ _ m2 hm2), rfl, rfl, incI hΩ (by omega), trivial⟩)
          · have g : gu = false := g
            rw [g] at hj2
            exact ⟨(j + 1, o2), ⟨by dsimp only; omega, hj2⟩, by dsimp only; omega, Sbs.mk rfl rfl ⟨rfl, rfl, congrArg (A.vw 0 0) hm2.symm, rfl, rfl, incI hΩ (by omega), trivial⟩⟩
        · replace h := geI hΩ h
          rw [List.drop_of_length_le (by omega : b.length ≤ j), bF, List.nil_append] at hj2
          exact ⟨(i + 1, o2), ⟨by dsimp only; omega, hj2⟩, by dsimp only; omega, Sbs.mkL (rows := [_]) rfl rfl rfl ⟨rfl, rfl, congrArg (A.vw 0 0) hm2.symm, incI hΩ (by omega), trivial⟩⟩

  · have hil : i = s.length := by have := geI hΩ h; omega
    rw [hil, List.drop_length, aF, List.append_nil] at hout
    refine ⟨⟨rfl, by show m ≤ (e out).length; rw [hel, hm]; exact Nat.le_refl _⟩, .of ?_⟩
    rw [← hout]
    subst hΩ
    show A.sl true 3 ((e out).take m) = _
    rw [List.take_of_length_le (by rw [hel]; omega)]
end Go.Proofs.YtfacpamkigmlaaaGreat

/- Walks: draws of sets. Plain theorems. -/
set_option linter.unusedVariables false
set_option linter.unusedSimpArgs false
namespace Go.Proofs.YtfacpamkigmlaaaGreat
open Go Go.Fw
set_option maxRecDepth 100000
theorem nF_mem {c : List Pck} {s : List Int} {k : Int} : ∀ {d : List (List Trm)} {j : Nat} {f : Flt}, f ∈ nF c s k j d → f.p = k
  | [], _, _, h => by simp [nF] at h
  | l :: d, j, f, h => by
    rw [nF, List.mem_append] at h
    rcases h with h | h
    · split at h
      · cases h
      · simp at h; rw [h]
    · exact nF_mem h
theorem bF_mem {c : List Pck} {s : List Int} {k : Int} : ∀ {d : List Trm} {j : Nat} {f : Flt}, f ∈ bF c s k j d → f.p = k
  | [], _, _, h => by simp [bF] at h
  | l :: d, j, f, h => by
    rw [bF, List.mem_append] at h
    rcases h with h | h
    · split at h
      · simp at h; rw [h]
      · cases h
    · exact bF_mem h
theorem aF_mem {c : List Pck} {s : List Int} : ∀ {l : List Int} {i : Nat} {f : Flt}, f ∈ aF c s i l → f.p ∈ l
  | [], _, _, h => by simp [aF] at h
  | k :: l, i, f, h => by
    rw [aF, List.mem_append, List.mem_append, List.mem_append] at h
    rcases h with h | h | h | h
    · unfold tF at h
      split at h
      · simp at h; rw [h]; simp
      · cases h
    · rw [nF_mem h]; simp
    · rw [bF_mem h]; simp
    · exact List.mem_cons_of_mem _ (aF_mem h)
theorem fltS_mem {c : List Pck} {s : List Int} {f : Flt} (h : f ∈ fltS c s) : f.p ∈ s := aF_mem h
theorem d_l3DrawSet {bs : List A} (hb : Src bs) (l : List Pck) (hl : l.length ≤ 40) (ho : ∀ o ∈ l, o.Small) (p : Int) (h0 : 0 ≤ p) (h1 : p + 50 ≤ 1099511627776) :
    XCtr PP n_spec_l3DrawSet [src bs p, encP l] (DR bs p 50 [encP l] fun x => ∃ s : List Int, x = .sl true 1 (s.map i64) ∧ s.length ≤ 41) := by
  obtain ⟨Ω, hΩ⟩ : ∃ Ω, Ω = std := ⟨_, rfl⟩
  have hC := fun p n a b c => d_l1Chance hb p n a b c
  have hP := fun p ns a b c d => d_l1Pick hb p ns a b c d
  have hcat := c_specCatalogFault l (by omega) ho
  have hflt : ∀ s : List Int, s.length ≤ 40 → (∀ k ∈ s, 0 ≤ k ∧ k < (l.length : Int)) → PCtr PP n_spec_l3Faults [encP l, .sl false 1 (s.map i64)] (.sl true 3 ((fltS l s).map Flt.enc)) := fun s hs hk =>
    c_l3Faults l s (by omega) (by omega) ho fun k h => by
      have := hk k h
      simp only [inB, Bool.and_eq_true, decide_eq_true_eq]; omega
  generalize catF l = cf at *
  obtain ⟨F, hF⟩ : ∃ F : List Int → List A, F = fun s => s.map i64 := ⟨_, rfl⟩
  have hF0 : F [] = [] := by rw [hF]; rfl
  have hFl : ∀ s, (F s).length = s.length := fun s => by rw [hF]; exact List.length_map _
  have hFz : ∀ s, (F s).map frz = F s := fun s => by rw [hF]; exact frz_I s
  have hFs : ∀ (s : List Int) (n : Int), Ω.app (Ω.take s.length (F s)) [i64 n] = F (s ++ [n]) := fun s n => by
    subst hΩ; rw [hF]; show List.take s.length (List.map i64 s) ++ _ = List.map i64 (s ++ [n])
    rw [List.map_append, List.take_of_length_le (by simp)]; rfl
  have hFt : ∀ s, A.sl true 1 (Ω.take s.length (F s)) = .sl true 1 (s.map i64) := fun s => by
    subst hΩ; rw [hF]; exact congrArg _ (List.take_of_length_le (by simp))
  have hFt0 : ∀ s m, s.length = m → A.sl true 1 (Ω.take m (F s)) = .sl true 1 (s.map i64) := fun s m h => by rw [← h, hFt]
  have hFt1 : ∀ s n m, s.length = m → A.sl true 1 (Ω.take (Ω.plus m (Ω.len [i64 n])) (Ω.app (Ω.take m (F s)) [i64 n])) = .sl true 1 ((s ++ [n]).map i64) := fun s n m h => by
    rw [← h, hFs, ← hFt]; congr 2; subst hΩ; rw [List.length_append]; rfl
  have hFle0 : ∀ s {m}, s.length = m → m ≤ (F s).length := fun s {m} h => by rw [hFl]; omega
  have hFle : ∀ s {m} {X : A}, s.length = m → Ω.plus m (Ω.len [X]) ≤ (Ω.app (Ω.take m (F s)) [X]).length := fun s {m X} h => by
    subst hΩ; show m + 1 ≤ (List.take m (F s) ++ [X]).length
    rw [List.take_of_length_le (by rw [hFl]; omega), List.length_append, hFl]; show m + 1 ≤ s.length + 1; omega
  have hFat : ∀ (s : List Int) (j : Nat) (c : Int), s[j]? = some c → (F s)[Ω.plus 0 (Ω.nat (Ω.int j))]? = some (i64 c) := fun s j c h => by
    subst hΩ; show (F s)[0 + j]? = _; rw [Nat.zero_add, hF]; simp [h]
  replace hflt : ∀ s : List Int, s.length ≤ 40 → (∀ k ∈ s, 0 ≤ k ∧ k < (l.length : Int)) → PCtr PP n_spec_l3Faults [encP l, .sl false 1 (F s)] (.sl true 3 ((fltS l s).map Flt.enc)) := fun s a b => by rw [hF]; exact hflt s a b
  clear hF
  obtain ⟨xs, hxs⟩ : ∃ xs, xs = l.map (Pck.enc false) := ⟨_, rfl⟩
  have hxl : xs.length = l.length := by rw [hxs, List.length_map]
  obtain ⟨L, hL⟩ : ∃ L, L = l.length := ⟨_, rfl⟩
  have hlx : Ω.int (Ω.len xs) = (L : Int) := by subst hΩ; rw [hL, ← hxl]; rfl
  unfold encP at *
  rw [← hxs] at hcat hflt ⊢
  rw [← hL] at hflt hl hxl
  have htab := tab
  have hmo := hmo
  refine XCtr.walkO tab hΩ 3 fn_spec_l3DrawSet rfl rfl ?_
  generalize PP = P at *
  cbv
  refine loopX htab hΩ (fun i : Nat × Int × List Int => ⟨[(0, .pt 0 0 0), (1, .sl false 8 xs), (5, .vw 1 0 i.2.2.length), (6, i64 (Ω.int i.1)), (73, .pt 0 0 0), (74, .sl false 8 xs)], 73, [some ⟨2, [.agg [.sl false 1 bs, i64 i.2.1]], true⟩, some ⟨1, F i.2.2, false⟩]⟩)
    (fun i => i.1 ≤ L ∧ p ≤ i.2.1 ∧ i.2.1 ≤ p + (i.1 : Int) ∧ i.2.2.length ≤ i.1 ∧ ∀ k ∈ i.2.2, 0 ≤ k ∧ k < (i.1 : Int)) (fun i => L - i.1) (0, p, [])
    ⟨Nat.zero_le _, by dsimp only; omega, by dsimp only; omega, Nat.le_refl _, by simp⟩ (Sbs.mk rfl (by show _ = [_, some (Row.mk 1 (F []) false)]; rw [hF0]; rfl) ⟨rfl, rfl, rfl, zeroI hΩ, rfl, rfl, trivial⟩) ?_
  rintro ⟨i, q, s⟩ ⟨i1, i2, i3, i4, i5⟩
  dsimp only at i1 i2 i3 i4 i5
  have hFli := hFl s
  obtain ⟨m, hm⟩ : ∃ m, s.length = m := ⟨_, rfl⟩
  have hrows : ∀ {R0 : Option Row} {n : Int}, [R0, some (Row.mk 1 (Ω.app (Ω.take m (F s)) [i64 n]) false)] = [R0, some (Row.mk 1 (F (s ++ [n])) false)] := fun {R0 n} => by rw [← hm, hFs]
  have hvw : ∀ {X : A} {n : Int}, A.vw 1 0 (Ω.plus m (Ω.len [X])) = .vw 1 0 (s ++ [n]).length := fun {X n} => by subst hΩ; rw [List.length_append, hm]; rfl
  have hall : ∀ k ∈ s ++ [Ω.int i], 0 ≤ k ∧ k < ((i + 1 : Nat) : Int) := fun k hk => by
    rcases List.mem_append.1 hk with h | h
    · have := i5 k h; omega
    · rw [List.mem_singleton.1 h]; subst hΩ; show 0 ≤ (i : Int) ∧ (i : Int) < _; omega
  have hall2 : ∀ k ∈ s, 0 ≤ k ∧ k < ((i + 1 : Nat) : Int) := fun k hk => by have := i5 k hk; omega
  have hqb : q + 10 ≤ p + 50 := by omega
  have hq3 : ∀ q' : Int, q' ≤ q + 1 → q' ≤ p + ((i + 1 : Nat) : Int) := fun q' h => by omega
  have hsl : (s ++ [Ω.int i]).length ≤ i + 1 := by rw [List.length_append, hm, List.length_singleton]; omega
  have hlt : Ω.cmp .lss (Ω.int i) (Ω.int (Ω.len xs)) = true → i < L := fun h => by have := ltI hΩ h; omega
  have hsF : ∀ k ∈ s, 0 ≤ k ∧ k < (L : Int) := fun k hk => by have := i5 k hk; omega
  rw [hm] at hFli i4 ⊢
  cbv
  refine br (fun hk => ?_) (fun hk => ?_) <;> cbv
  · have hk := hlt hk
    refine call_dr false hΩ 3 (hC _ _ (by omega) (by omega) (by omega)) rfl rfl rfl (fun q2 x q2a q2b ⟨c1, hx⟩ => ?_)
    subst hx
    cbv
    refine br (fun hc => ?_) (fun hc => ?_) <;> cbv
    · exact ⟨⟨rfl, okAll rfl, by show (m + 1) * 8 ≤ 140737488355328; omega, by show m + 1 ≤ 9223372036854775807; omega⟩, (i + 1, q2, s ++ [Ω.int i]), ⟨by dsimp only; omega, by dsimp only; omega, hq3 q2 q2b, hsl, hall⟩, by dsimp only; omega, (Sbs.cut 2 rfl).trans (Sbs.mk rfl hrows ⟨rfl, rfl, hvw, incI hΩ (by omega), rfl, rfl, trivial⟩)⟩
    · exact ⟨(i + 1, q2, s), ⟨by dsimp only; omega, by dsimp only; omega, hq3 q2 q2b, by dsimp only; omega, hall2⟩, by dsimp only; omega, (Sbs.cut 2 rfl).trans (Sbs.mk rfl rfl ⟨rfl, rfl, congrArg (A.vw 1 0) hm.symm, incI hΩ (by omega), rfl, rfl, trivial⟩)⟩
  · refine call_dr false hΩ 3 (hC _ _ (by omega) (by omega) (by omega)) rfl rfl rfl (fun q4 x q4a q4b ⟨c2, hx⟩ => ?_)
    subst hx
    cbv
    refine br (fun hc2 => ?_) (fun hc2 => ?_) <;> cbv
    · refine call_pure hΩ 3 hcat rfl (fits _) rfl rfl ?_
      cbv
      refine br (fun hc4 => ?_) (fun hc4 => ?_) <;> cbv
      · refine loopX htab hΩ (fun t : List Int => ⟨[(0, .pt 0 0 0), (1, .sl false 8 xs), (5, .vw 1 0 t.length), (73, .pt 0 0 0), (74, .sl false 8 xs)], 73, [some ⟨2, [.agg [.sl false 1 bs, i64 q4]], true⟩, some ⟨1, F t, false⟩]⟩)
          (fun t => t.length ≤ 40 ∧ ∀ k ∈ t, 0 ≤ k ∧ k < (L : Int)) (fun t => t.length) s ⟨by omega, hsF⟩ (Sbs.mk rfl rfl ⟨rfl, rfl, congrArg (A.vw 1 0) hm.symm, rfl, rfl, trivial⟩) ?_
        rintro t ⟨t1, t2⟩
        have hft := hflt t t1 t2
        have hFlt := hFl t
        have hFzt := hFz t
        obtain ⟨es, hes⟩ : ∃ es, es = (fltS l t).map Flt.enc := ⟨_, rfl⟩
        have hro : roFree (.sl true 3 es) = true := by rw [hes]; exact roFAll fun x hx => by obtain ⟨c, _, rfl⟩ := List.mem_map.1 hx; rfl
        have hesl : es.length = (fltS l t).length := by rw [hes, List.length_map]
        have hfirst : 0 < es.length → ∃ f : Flt, es[0]? = some f.enc ∧ f.p ∈ t := fun h => by
          obtain ⟨f, hf⟩ := at_of (cs := fltS l t) (i := 0) (by omega)
          exact ⟨f, by rw [hes, List.getElem?_map, hf]; rfl, fltS_mem (List.mem_of_getElem? hf)⟩
        have hgt : Ω.cmp .gtr (Ω.int (Ω.len es)) 0 = true → 0 < es.length := fun h => by have := gtI_t hΩ h; subst hΩ; have this : (0 : Int) < (es.length : Int) := this; omega
        rw [← hes] at hft
        obtain ⟨M, hM⟩ : ∃ M, t.length = M := ⟨_, rfl⟩
        rw [hM] at hFlt t1 ⊢
        clear hes hesl hflt
        cbv
        refine call_pure hΩ 3 hft (mapO2 rfl (ro_vw rfl hFlt.symm hFzt)) (fits _) hro rfl ?_
        cbv
        refine br (fun hg => ?_) (fun hg => ?_) <;> cbv
        · obtain ⟨f, hf, hfp⟩ := hfirst (hgt hg)
          refine call_pure hΩ 3 hft (mapO2 rfl (ro_vw rfl hFlt.symm hFzt)) (fits _) hro rfl ?_
          cbv
          refine ⟨⟨by subst hΩ; exact ⟨Int.le_refl _, Int.ofNat_lt.2 (hgt hg)⟩⟩, _, (show es[Ω.plus 0 (Ω.nat 0)]? = some (.agg [i64 f.k, i64 f.p, i64 f.a]) by subst hΩ; exact hf), ?_⟩
          cbv
          obtain ⟨fp, hfp2⟩ : ∃ x, x = f.p := ⟨_, rfl⟩
          have hflt1 : (t.filter fun k => !decide (k = fp)).length < M := by
            rw [← hM, hfp2]
            refine List.length_filter_lt_length_iff_exists.2 ⟨f.p, hfp, by simp⟩
          refine loopX htab hΩ (fun i : Nat × List Int => ⟨[(0, .pt 0 0 0), (1, .sl false 8 xs), (5, .vw 1 0 M), (7, .pt 4 0 0), (8, .vw 5 0 i.2.length), (9, i64 (Ω.int i.1)), (73, .pt 0 0 0), (74, .sl false 8 xs)], 73,
              [some ⟨2, [.agg [.sl false 1 bs, i64 q4]], true⟩, some ⟨1, F t, false⟩, none, none, some ⟨3, [.agg [i64 f.k, i64 fp, i64 f.a]], true⟩, some ⟨1, F i.2, false⟩]⟩)
            (fun i => i.1 ≤ M ∧ i.2 = (t.take i.1).filter fun k => !decide (k = fp)) (fun i => M - i.1) (0, []) ⟨Nat.zero_le _, rfl⟩
            ((Sbs.drop (r := 2) rfl).trans ((Sbs.drop (r := 3) rfl).trans (Sbs.mk rfl (by show _ = [_, _, none, none, some (Row.mk 3 [.agg [i64 f.k, i64 fp, i64 f.a]] true), some (Row.mk 1 (F []) false)]; rw [hF0, hfp2]; rfl) ⟨rfl, rfl, rfl, rfl, rfl, zeroI hΩ, rfl, rfl, trivial⟩))) ?_
          rintro ⟨j, r⟩ ⟨j1, j2⟩
          dsimp only at j1 j2
          have hrl : r.length ≤ j := by rw [j2]; exact Nat.le_trans (List.length_filter_le _ _) (by simp; omega)
          have hFr := hFs r
          obtain ⟨R, hR⟩ : ∃ R, r.length = R := ⟨_, rfl⟩
          have hvr : ∀ {X : A} {n : Int}, A.vw 5 0 (Ω.plus R (Ω.len [X])) = .vw 5 0 (r ++ [n]).length := fun {X n} => by subst hΩ; rw [List.length_append, hR]; rfl
          have hstep : ∀ c, t[j]? = some c → (t.take (j + 1)).filter (fun k => !decide (k = fp)) = r ++ (if c = fp then [] else [c]) := fun c hc => by
            rw [List.take_add_one, hc, List.filter_append, ← j2]
            congr 1
            by_cases h : c = fp <;> simp [h]
          have hend : j = M → r.length < M ∧ r.length ≤ 40 ∧ ∀ k ∈ r, 0 ≤ k ∧ k < (L : Int) := fun h => by
            have e : r = t.filter fun k => !decide (k = fp) := by rw [j2, h, ← hM, List.take_length]
            refine ⟨by rw [e]; exact hflt1, by rw [e]; omega, fun k hk => t2 k ?_⟩
            rw [e] at hk; exact (List.mem_filter.1 hk).1
          rw [hR] at hrl hFr ⊢
          have hat : ∀ c, t[j]? = some c → (F t)[Ω.plus 0 (Ω.nat (Ω.int j))]? = some (i64 c) := hFat t j
          cbv
          refine br (fun hj => ?_) (fun hj => ?_) <;> cbv
          · have hj := ltN hΩ hj
            obtain ⟨c, hc⟩ := at_of (cs := t) (i := j) (by omega)
            refine ⟨VC_drawn htab hΩ hmo (by kernel_rfl) ?_⟩
            cbv
            refine ⟨⟨ixI hΩ hj⟩, _, hat c hc, ?_⟩
            cbv
            refine br (fun hn => ?_) (fun hn => ?_) <;> cbv
            · have hn := neI_t hΩ hn
              have e := hstep c hc
              rw [if_neg hn] at e
              refine ⟨⟨ixI hΩ hj⟩, _, hat c hc, ?_⟩
              cbv
              exact ⟨⟨rfl, okAll rfl, by show (R + 1) * 8 ≤ 140737488355328; omega, by show R + 1 ≤ 9223372036854775807; omega⟩, (j + 1, r ++ [c]), ⟨by dsimp only; omega, e.symm⟩, by dsimp only; omega, (Sbs.cut 6 rfl).trans (Sbs.mk rfl (by rw [show some (Row.mk 1 (F (r ++ [c])) false) = some (Row.mk 1 (Ω.app (Ω.take R (F r)) [i64 c]) false) by rw [hFr]]; rfl) ⟨rfl, rfl, rfl, rfl, hvr, incI hΩ (by omega), rfl, rfl, trivial⟩)⟩
            · have hn := neI_f hΩ hn
              have e := hstep c hc
              rw [if_pos hn, List.append_nil] at e
              exact ⟨(j + 1, r), ⟨by dsimp only; omega, e.symm⟩, by dsimp only; omega, (Sbs.cut 6 rfl).trans (Sbs.mk rfl rfl ⟨rfl, rfl, rfl, rfl, congrArg (A.vw 5 0) hR.symm, incI hΩ (by omega), rfl, rfl, trivial⟩)⟩
          · have hj := geN hΩ hj
            obtain ⟨e1, e2, e3⟩ := hend (by omega)
            exact ⟨r, ⟨e2, e3⟩, by omega, (Sbs.drop (r := 1) rfl).trans ((Sbs.mv (a := 5) (b := 1) rfl rfl (Nat.le_of_ble_eq_true rfl)).trans ((Sbs.cut 2 rfl).trans (Sbs.mk rfl rfl ⟨rfl, rfl, congrArg (A.vw 1 0) hR.symm, rfl, rfl, trivial⟩)))⟩
        · clear hfirst hgt
          refine call_dr false hΩ 3 (hC _ _ (by omega) (by omega) (by omega)) rfl rfl rfl (fun q8 x q8a q8b ⟨c3, hx⟩ => ?_)
          subst hx
          cbv
          refine br (fun hc3 => ?_) (fun hc3 => ?_) <;> cbv
          · refine call_pick (ns := [_, -1, 0]) hΩ (hP _ _ (by omega) (by omega) (Nat.zero_lt_succ _) (Nat.le_of_ble_eq_true rfl)) rfl rfl rfl rfl (by decide) (fun q9 n q9a q9b hn => ?_)
            cbv
            exact ⟨⟨rfl, okAll rfl, by show (M + 1) * 8 ≤ 140737488355328; omega, by show M + 1 ≤ 9223372036854775807; omega⟩, ⟨rfl, hFle _ hM⟩, _, _, .of (hFt1 t n M hM), .same, ⟨q9, by omega, by omega, rfl, t ++ [n], rfl, by rw [List.length_append, List.length_singleton, hM]; omega⟩, rfl⟩
          · exact ⟨⟨rfl, hFle0 _ hM⟩, _, _, .of (hFt0 t M hM), .same, ⟨q8, by omega, by omega, rfl, t, rfl, by rw [hM]; omega⟩, rfl⟩
      · refine call_dr false hΩ 3 (hC _ _ (by omega) (by omega) (by omega)) rfl rfl rfl (fun q8 x q8a q8b ⟨c3, hx⟩ => ?_)
        subst hx
        cbv
        refine br (fun hc3 => ?_) (fun hc3 => ?_) <;> cbv
        · refine call_pick (ns := [_, -1, 0]) hΩ (hP _ _ (by omega) (by omega) (Nat.zero_lt_succ _) (Nat.le_of_ble_eq_true rfl)) rfl rfl rfl rfl (by decide) (fun q9 n q9a q9b hn => ?_)
          cbv
          exact ⟨⟨rfl, okAll rfl, by show (m + 1) * 8 ≤ 140737488355328; omega, by show m + 1 ≤ 9223372036854775807; omega⟩, ⟨rfl, hFle _ hm⟩, _, _, .of (hFt1 s n m hm), .same, ⟨q9, by omega, by omega, rfl, s ++ [n], rfl, by rw [List.length_append, List.length_singleton, hm]; omega⟩, rfl⟩
        · exact ⟨⟨rfl, hFle0 _ hm⟩, _, _, .of (hFt0 s m hm), .same, ⟨q8, by omega, by omega, rfl, s, rfl, by rw [hm]; omega⟩, rfl⟩
    · refine call_dr false hΩ 3 (hC _ _ (by omega) (by omega) (by omega)) rfl rfl rfl (fun q8 x q8a q8b ⟨c3, hx⟩ => ?_)
      subst hx
      cbv
      refine br (fun hc3 => ?_) (fun hc3 => ?_) <;> cbv
      · refine call_pick (ns := [_, -1, 0]) hΩ (hP _ _ (by omega) (by omega) (Nat.zero_lt_succ _) (Nat.le_of_ble_eq_true rfl)) rfl rfl rfl rfl (by decide) (fun q9 n q9a q9b hn => ?_)
        cbv
        exact ⟨⟨rfl, okAll rfl, by show (m + 1) * 8 ≤ 140737488355328; omega, by show m + 1 ≤ 9223372036854775807; omega⟩, ⟨rfl, hFle _ hm⟩, _, _, .of (hFt1 s n m hm), .same, ⟨q9, by omega, by omega, rfl, s ++ [n], rfl, by rw [List.length_append, List.length_singleton, hm]; omega⟩, rfl⟩
      · exact ⟨⟨rfl, hFle0 _ hm⟩, _, _, .of (hFt0 s m hm), .same, ⟨q8, by omega, by omega, rfl, s, rfl, by rw [hm]; omega⟩, rfl⟩
end Go.Proofs.YtfacpamkigmlaaaGreat

/- Contracts of a result of which a relation speaks, for what is only read; results frozen. Plain theorems, no condition. -/
set_option linter.unusedVariables false
set_option linter.unusedSimpArgs false
namespace Go.Fw
/-- A contract that tells some result of which R speaks. -/
structure RCtr (P : Program) (g : Nat) (args : List A) (R : A → Prop) : Prop where
  enter : Enter P g
  run : ∀ (w : World) (G : Nat → Prop) (vs : List Value), (∀ b, G b → b < w.heap.size) → RelL w G args vs [] → Calls P g vs.toArray w (fun e w' => ∃ v F x, R x ∧ e = .returned v ∧ Go.RowKit.Below w.heap.size w w' ∧
    F.Nodup ∧ (∀ b ∈ F, w.heap.size ≤ b) ∧ Rel w' (fun b => (G b ∨ (w.heap.size ≤ b ∧ b < w'.heap.size)) ∧ b ∉ F) x v F)
section
variable {P : Program} {T : Nat → Option TI} {S : State} {Ω : Opq}
theorem PCtr.r {g : Nat} {args : List A} {x : A} (h : PCtr P g args x) {R : A → Prop} (hR : R x) : RCtr P g args R :=
  ⟨h.enter, fun w G vs h1 h2 => Calls.mono (h.run w G vs h1 h2) (by rintro e w' ⟨v, F, rfl, h⟩; exact ⟨v, F, x, hR, rfl, h⟩)⟩
theorem RCtr.p {g : Nat} {args : List A} {x : A} (h : RCtr P g args fun y => y = x) : PCtr P g args x :=
  ⟨h.enter, fun w G vs h1 h2 => Calls.mono (h.run w G vs h1 h2) (by rintro e w' ⟨v, F, y, rfl, rfl, h⟩; exact ⟨v, F, rfl, h⟩)⟩
theorem RCtr.mono {g : Nat} {args : List A} {R R' : A → Prop} (h : RCtr P g args R) (hR : ∀ x, R x → R' x) : RCtr P g args R' :=
  ⟨h.enter, fun w G vs h1 h2 => Calls.mono (h.run w G vs h1 h2) (by rintro e w' ⟨v, F, x, h1, rfl, h⟩; exact ⟨v, F, x, hR _ h1, rfl, h⟩)⟩
theorem RCtr.frz {g : Nat} {args : List A} {R : A → Prop} (h : RCtr P g args R) : RCtr P g args fun x => ∃ y, R y ∧ x = frz y :=
  ⟨h.enter, fun w G vs h1 h2 => Calls.mono (h.run w G vs h1 h2) (by
    rintro e w' ⟨v, F, x, h3, rfl, h4, h5, h6, h7⟩
    exact ⟨v, [], _, ⟨x, h3, rfl⟩, rfl, h4, List.nodup_nil, by simp, h7.frz (fun b hb => ⟨hb.1, by simp⟩) fun b hb => ⟨.inr ⟨h6 b hb, h7.lt b hb⟩, by simp⟩⟩)⟩
theorem PCtr.frz {g : Nat} {args : List A} {x : A} (h : PCtr P g args x) : PCtr P g args (frz x) :=
  ((h.r (R := fun y => y = x) rfl).frz.mono (by rintro x ⟨y, rfl, rfl⟩; rfl)).p
theorem XCtr.r {g : Nat} {args : List A} {R : A → List A → Prop} (h : XCtr P g args R) (hn : args.all noOwn = true) : RCtr P g args fun x => ∃ o, R x o :=
  ⟨h.enter, fun w G vs h1 h2 => Calls.mono (h.run w G vs [] h1 List.nodup_nil (by simp) h2) (by
    rintro e w' ⟨v, Fx, Fo, x, o, h3, rfl, ⟨m1, m2, m3, m4, m5⟩, h5, h6, h7, h8⟩
    have h5' := List.nodup_append.1 h5
    exact ⟨v, Fx, x, ⟨o, h3⟩, rfl, ⟨m1, m2, m3, m4, fun b hb => m5 b hb (by simp)⟩, h5'.1, fun b hb => by simpa using h6 b (by simp [hb]), h7.move_ (fun b hb => ⟨⟨by simpa using hb.1, fun q => hb.2 (by simp [q])⟩, rfl⟩) fun _ _ => rfl⟩)⟩
theorem CallOK_r {g k : Nat} {args ys : List A} {R : A → Prop} {K : A → State → Prop} (hc : RCtr P g ys R) (h1 : args.all isData = true) (h2 : fitA.fitL k args ys)
    (h : ∀ x, R x → noOwn (rootA k S x).1 = true ∧ K (rootA k S x).1 (rootA k S x).2) : CallOK P g args S K := by
  refine ⟨hc.enter, fun E G gs tmps w vs hi hl => ?_⟩
  have hys := fitL_rel (fun x y v F => fitA_rel k x y v F) args ys vs [] h2 (hl.data h1)
  refine Calls.mono (hc.run w G vs hi.glt hys) ?_
  rintro e w' ⟨v, F, x, hx, rfl, hb, hnd, hnew, hr⟩
  have hGF : ∀ b, G b → b ∉ F := fun b h hF => by have := hi.glt b h; have := hnew b hF; omega
  obtain ⟨gs', g1, g2⟩ := adopt_new hi hb hnd hnew (fun b h => ⟨.inl h, hGF b h⟩) (fun b h => ⟨h.1.imp id And.left, h.2⟩)
    (fun b h => h.1.elim (fun h => Nat.lt_of_lt_of_le (hi.glt b h) hb.size) And.right) hr k (h x hx).1
  exact ⟨v, _, _, _, gs', rfl, (h x hx).2, g1, g2⟩
theorem call_r (hΩ : Ω = std) (k : Nat) {g : Nat} {args ys : List A} {R : A → Prop} {K : A → State → Prop} (hc : RCtr P g ys R) (h1 : args.all isData = true) (h2 : fitA.fitL k args ys)
    (h : ∀ x, R x → noOwn (rootO Ω k S x).1 = true ∧ K (rootO Ω k S x).1 (rootO Ω k S x).2) : CallX P g args S K := by
  subst hΩ
  exact ⟨CallOK_r (k := k) hc h1 h2 fun x hx => by simp only [← rootO_std]; exact h x hx⟩
theorem CallOK_rf {g k : Nat} {args ys0 ys : List A} {R : A → Prop} {K : A → State → Prop} (hc : RCtr P g ys R) (h1 : mapO (roO S k) args = some ys0) (h2 : fitA.fitL k ys0 ys)
    (h : ∀ x, R x → roFree x = true ∧ noOwn (rootA k S (Fw.frz x)).1 = true ∧ K (rootA k S (Fw.frz x)).1 (rootA k S (Fw.frz x)).2) : CallOK P g args S K := by
  refine ⟨hc.enter, fun E G gs tmps w vs hi hl => ?_⟩
  have hys := fitL_rel (fun x y v F => fitA_rel k x y v F) ys0 ys vs [] h2 (mapO_rel (fun x v F y h hy => roO_rel hi k x v F y h hy) hl h1)
  refine Calls.mono (hc.run w (Old w) vs (fun b h => h) hys) ?_
  rintro e w' ⟨v, F, x, hx, rfl, hb, hnd, hnew, hr⟩
  obtain ⟨hx, hno, hK⟩ := h x hx
  have hr' : Rel w' (fun b => G b ∧ b ∉ F) x v F := hr.anyG hx _
  have hr2 : Rel w' (fun b => (G b ∨ b ∈ F) ∧ b ∉ ([] : List Nat)) (Fw.frz x) v [] := hr'.frz (fun b hb => ⟨.inl hb.1, by simp⟩) fun b hb => ⟨.inr hb, by simp⟩
  obtain ⟨gs', g1, g2⟩ := adopt_new hi hb List.nodup_nil (by simp) (fun b h => ⟨.inl h, by simp⟩) (fun b h => ⟨h.1.imp id (hnew b), h.2⟩)
    (fun b h => h.1.elim (fun h => Nat.lt_of_lt_of_le (hi.glt b h) hb.size) (hr.lt b)) hr2 k hno
  exact ⟨v, _, _, _, gs', rfl, hK, g1, g2⟩
/-- The result is frozen. -/
theorem call_rf (hΩ : Ω = std) (k : Nat) {g : Nat} {args ys0 ys : List A} {R : A → Prop} {K : A → State → Prop} (hc : RCtr P g ys R) (h1 : mapO (roO S k) args = some ys0) (h2 : fitA.fitL k ys0 ys)
    (h : ∀ x, R x → roFree x = true ∧ noOwn (rootO Ω k S (Fw.frz x)).1 = true ∧ K (rootO Ω k S (Fw.frz x)).1 (rootO Ω k S (Fw.frz x)).2) : CallX P g args S K := by
  subst hΩ
  exact ⟨CallOK_rf (k := k) hc h1 h2 fun x hx => by simp only [← rootO_std]; exact h x hx⟩
theorem call_pf (hΩ : Ω = std) (k : Nat) {g : Nat} {args ys0 ys : List A} {x y : A} {K : A → State → Prop} (hc : PCtr P g ys x) (h1 : mapO (roO S k) args = some ys0) (h2 : fitA.fitL k ys0 ys) (hx : roFree x = true) (hy : Fw.frz x = y)
    (hno : noOwn (rootO Ω k S y).1 = true) (hK : K (rootO Ω k S y).1 (rootO Ω k S y).2) : CallX P g args S K :=
  call_rf hΩ k (hc.r (R := fun z => z = x) rfl) h1 h2 fun z hz => by subst hz; subst hy; exact ⟨hx, hno, hK⟩
/-- A walk of the body gives the contract. -/
theorem RCtr.of {g : Nat} {c : Code} {N : Nat} {rs : List ResultVar} {xs : List A} {R : A → Prop} (hf : FnAt P g c N rs) (hN : xs.length ≤ N) (h : VC P c (entryS N xs) (fun e S => ∃ x, R x ∧ outK P rs x e S)) : RCtr P g xs R := by
  obtain ⟨hen, fn, h1, h2, h3, h4⟩ := hf
  refine ⟨hen, fun w G vs hG hl => ?_⟩
  have hlen := hl.length
  refine calls_of_wp h1 h2 ?_
  have hinv : Inv ⟨w, G, fun _ => False, fun _ => undef⟩ G (fun _ => (none, [])) (entryS N xs) (vs.toArray ++ Array.replicate (fn.ntmps - vs.toArray.size) undef) w := by
    refine ⟨fun _ _ _ => rfl, rfl, rfl, rfl, Nat.le_refl _, ?_, fun _ h => h, fun _ h => .inl h, hG, ?_, ?_, ?_, ?_, fun i => ?_⟩
    · simp [entryS, h3]; omega
    · intro r row hr; simp [entryS, rowAt] at hr
    · intro r row hr; simp [entryS, rowAt] at hr
    · intro r row hr; simp [entryS, rowAt] at hr
    · intro r r' row row' hr; simp [entryS, rowAt] at hr
    · show TRel w G [] _ (lk (entryT 0 xs) i) _ []
      rw [lk_entryT, if_pos (Nat.zero_le _), Nat.sub_zero]
      unfold vat
      by_cases hi : i < xs.length
      · obtain ⟨v, hv, hr⟩ := hl.get i xs[i] (List.getElem?_eq_getElem hi)
        rw [List.getD_eq_getElem?_getD, List.getElem?_eq_getElem hi]
        have : (vs.toArray ++ Array.replicate (fn.ntmps - vs.toArray.size) undef).getD i undef = v := by
          rw [Array.getD_eq_getD_getElem?, Array.getElem?_append_left (by simp; omega)]
          simp [hv]
        rw [if_pos (by simp; omega), this]; exact .of hr
      · rw [List.getD_eq_getElem?_getD, List.getElem?_eq_none (by omega)]
        exact .un
  refine wp_mono (h _ { tmps := vs.toArray ++ Array.replicate (fn.ntmps - vs.toArray.size) undef, defers := [] } w ⟨rfl, G, _, hinv⟩) ?_
  rintro e a' w' ⟨S', ⟨hd, G', gs', hi'⟩, x, hR, hK⟩
  have fin : Outs P rs x S' → a'.defers = [] ∧ ∃ v, (results fn a'.tmps).run P w' = .ok v w' ∧ (∃ v_1 F y, R y ∧ Ending.returned v = .returned v_1 ∧ Go.RowKit.Below w.heap.size w w' ∧
      F.Nodup ∧ (∀ b ∈ F, w.heap.size ≤ b) ∧ Rel w' (fun b => (G b ∨ (w.heap.size ≤ b ∧ b < w'.heap.size)) ∧ b ∉ F) y v_1 F) := by
    intro ho
    refine ⟨hd, ?_⟩
    obtain ⟨vs', zs, F, k, g1, g2, g3, g4, g5⟩ := ho _ _ _ _ _ hi'
    have hres := fitA_rel k _ _ _ _ g5 (oneA_rel g2)
    refine ⟨oneV vs', h4 _ _ _ g1, _, F, x, hR, rfl, ⟨hi'.os, hi'.tape, hi'.output, hi'.size, fun b hb => hi'.keep b hb id⟩, g3, fun b hb => ?_, ?_⟩
    · rcases (g4 b hb).2 with h | h
      · exact h.elim
      · exact h
    · refine hres.move_ (fun b hb => ⟨⟨?_, fun hF => (g4 b hF).1 hb⟩, rfl⟩) (fun b hb => rfl)
      rcases hi'.gnew b hb with h | h | h
      · exact .inl h
      · exact h.elim
      · exact .inr ⟨h, hi'.glt b hb⟩
  cases e with
  | normal => exact fin hK
  | ret => exact fin hK
  | _ => exact hK.elim
theorem RCtr.walk (hT : TabOK P T) (hΩ : Ω = std) {g : Nat} {c : Code} {N : Nat} {rs : List ResultVar} {xs : List A} {R : A → Prop} (hf : FnAt P g c N rs) (hN : Nat.ble xs.length N = true)
    (h : vC Ω P T c (entryS N xs) (fun e S => ∃ x, R x ∧ outV Ω T rs x e S)) : RCtr P g xs R :=
  RCtr.of hf (Nat.le_of_ble_eq_true hN) (VC.mono (vstart hT hΩ h) fun e S' ⟨x, hR, h⟩ => ⟨x, hR, outV_ok hT (hΩ ▸ h)⟩)
end
end Go.Fw

/- Regions that draw their order, of which the operations that do something may stand in a few orders. Plain theorems, no condition. -/
set_option linter.unusedVariables false
set_option linter.unusedSimpArgs false
namespace Go.Fw
/-- The orders that may come. -/
inductive Ord where
  | fin
  | step (n : Nat) (o : Ord)
  | two (n : Nat) (o : Ord) (m : Nat) (p : Ord)
def Ord.depth : Ord → Nat
  | .fin => 0
  | .step _ o => o.depth + 1
  | .two _ o _ _ => o.depth + 1
section
variable {P : Program} {T : Nat → Option TI} {S : State} {Ω : Opq}
def vOne (Ω : Opq) (P : Program) (T : Nat → Option TI) (ops : List Oper) (mv : Option Nat) (n : Nat) (S : State) (k : Option Nat → State → Prop) : Prop :=
  match ops[n]? with
    | some o => (match o.guard with
      | none => vOp Ω P T mv o S fun S' => k (madeBy o) S'
      | some _ => False)
    | none => False
def vOrd (Ω : Opq) (P : Program) (T : Nat → Option TI) (ops : List Oper) : Ord → Option Nat → State → (State → Prop) → Prop
  | .fin, _, S, K => K S
  | .step n o, mv, S, K => vOne Ω P T ops mv n S fun mv' S' => vOrd Ω P T ops o mv' S' K
  | .two n o m p, mv, S, K => (vOne Ω P T ops mv n S fun mv' S' => vOrd Ω P T ops o mv' S' K) ∧ (vOne Ω P T ops mv m S fun mv' S' => vOrd Ω P T ops p mv' S' K)
def heldO (ops : Array Oper) : Ord → Array Bool → Bool
  | .fin, l => (Region.ready .any ops l).isEmpty
  | .step n o, l => decide (Region.ready .any ops l = [n]) && heldO ops o (l.setIfInBounds n true)
  | .two n o m p, l => decide (Region.ready .any ops l = [n, m]) && decide (o.depth = p.depth) && heldO ops o (l.setIfInBounds n true) && heldO ops p (l.setIfInBounds m true)
def heldQO (ops : Array Oper) (o : Ord) : List Nat → Array Bool → Bool
  | [], l => heldO ops o l
  | q :: qs, l => (Region.ready .any ops l).contains q && Region.free .any ops l q && heldQO ops o qs (l.setIfInBounds q true)
def heldOB (ops : Array Oper) (qs : List Nat) (o : Ord) : Bool :=
  Region.noSelect ops && decide (qs.length + o.depth = ops.size) && heldQO ops o qs (Array.replicate ops.size false)
theorem vOne_ok (hT : TabOK P T) {ops : List Oper} {E : Env} {mv : Option Nat} {n : Nat} {S : State} {k : Option Nat → State → Prop} (h : vOne std P T ops mv n S k) {a : Act} {w : World} (hs : SInv E S a w)
    {K' : Act → World → Prop} {Q : Exit → Act → World → Prop} (hk : ∀ mv' S' a' w', k mv' S' → SInv E S' a' w' → K' a' w') : wpOp P ops.toArray Q n K' a w := by
  unfold vOne at h
  split at h <;> try exact h.elim
  rename_i o ho
  split at h <;> try exact h.elim
  rename_i hg
  unfold wpOp
  rw [show ops.toArray[n]? = some o by simpa using ho]
  simp only
  rw [if_pos (by simp [Region.wanted, hg])]
  exact .inl (vOp_ok hT h E a w _ _ hs fun S' a' w' hK hs' => hk _ S' a' w' hK hs')
theorem heldO_ok (hT : TabOK P T) {ops : List Oper} {E : Env} {Sc : World → Prop} (hSc : ∀ S a w, SInv E S a w → Sc w) {K : State → Prop} : ∀ (o : Ord) (listed : Array Bool) (mv : Option Nat) (S : State) (a : Act) (w : World), heldO ops.toArray o listed = true →
    vOrd std P T ops o mv S K → SInv E S a w → wpAnyH P .any ops.toArray (fun e a' w' => e = .normal ∧ ∃ S', SInv E S' a' w' ∧ K S') Sc o.depth listed a w
  | .fin, listed, mv, S, a, w, hB, h, hs => ⟨by simpa [heldO] using hB, rfl, S, hs, h⟩
  | .step n o, listed, mv, S, a, w, hB, h, hs => by
    simp only [heldO, Bool.and_eq_true, decide_eq_true_eq] at hB
    unfold vOrd at h
    refine wpAnyH_all hB.1 (by simp) fun i hi => ?_
    have hin : i = n := by simpa using hi
    subst hin
    exact vOne_ok hT h hs fun mv' S' a' w' hK hs' => ⟨hSc _ _ _ hs', heldO_ok hT hSc o _ _ S' a' w' hB.2 hK hs'⟩
  | .two n o m p, listed, mv, S, a, w, hB, h, hs => by
    simp only [heldO, Bool.and_eq_true, decide_eq_true_eq] at hB
    unfold vOrd at h
    refine wpAnyH_all hB.1.1.1 (by simp) fun i hi => ?_
    have hin : i = n ∨ i = m := by simpa using hi
    rcases hin with rfl | rfl
    · exact vOne_ok hT h.1 hs fun mv' S' a' w' hK hs' => ⟨hSc _ _ _ hs', heldO_ok hT hSc o _ _ S' a' w' hB.1.2 hK hs'⟩
    · exact vOne_ok hT h.2 hs fun mv' S' a' w' hK hs' => ⟨hSc _ _ _ hs', by rw [hB.1.1.2]; exact heldO_ok hT hSc p _ _ S' a' w' hB.2 hK hs'⟩
theorem heldQO_ok (hT : TabOK P T) {ops : List Oper} {E : Env} {G : Nat → Prop} {gs : Gh} {w : World} {Q : Exit → Act → World → Prop} (hQ : ∀ c a w, ¬ Q (.panic c) a w) (hsel : Region.noSelect ops.toArray = true) {o : Ord} {K : State → Prop}
    (hK : ∀ S a listed, heldO ops.toArray o listed = true → K S → a.defers = [] → Inv E G gs S a.tmps w → wpAnyH P .any ops.toArray Q (Agree G w) o.depth listed a w) : ∀ (qs : List Nat) (listed : Array Bool) (S : State) (a : Act), heldQO ops.toArray o qs listed = true →
    vGs std T ops qs S K → a.defers = [] → Inv E G gs S a.tmps w → wpAnyH P .any ops.toArray Q (Agree G w) (qs.length + o.depth) listed a w
  | [], listed, S, a, hB, h, hd, hi => by rw [List.length_nil, Nat.zero_add]; exact hK S a listed hB h hd hi
  | q :: qs, listed, S, a, hB, h, hd, hi => by
    simp only [heldQO, Bool.and_eq_true] at hB
    unfold vGs at h
    split at h <;> try exact h.elim
    rename_i u ho
    split at h <;> try exact h.elim
    rename_i hg
    obtain ⟨z, h1, h2⟩ := vGOp_ok hT h
    obtain ⟨v, h3, h4⟩ := h1 E G gs a w hi
    rw [List.length_cons, show qs.length + 1 + o.depth = (qs.length + o.depth) + 1 by omega]
    refine wpAnyH_take (oi := u) (v := v) (by simpa using ho) hsel hB.1.2 hB.1.1 (fun c a w h => (hQ _ _ _ h).elim) (.inl ⟨by simp [Region.wanted, hg], h3⟩) (fun _ _ => rfl) ?_
    exact heldQO_ok hT hQ hsel hK qs _ _ _ hB.2 h2 (by rw [put_defers]; exact hd) (hi.put h4 u.dst)
/-- A region that draws its order: the operations qs only read what nobody in it writes; the others stand in the orders o. -/
theorem VC_order (hT : TabOK P T) (hΩ : Ω = std) (hm : P.follows .mixedOrders = true) (qs : List Nat) (o : Ord) {id : Nat} {ops : Array Oper} {K : Exit → State → Prop} (hB : heldOB ops qs o = true)
    (h : vGs Ω T ops.toList qs S fun S' => vOrd Ω P T ops.toList o none S' (K .normal)) : VC P (.region id ops true) S K := by
  subst hΩ
  intro E a w hs
  have hops : ops = ops.toList.toArray := by simp
  rw [hops] at hB ⊢
  obtain ⟨hd, G, gs, hi⟩ := hs
  simp only [heldOB, Bool.and_eq_true, decide_eq_true_eq] at hB
  obtain ⟨⟨hsel, hsz⟩, hB⟩ := hB
  have hw1 : Go.RowKit.Below w.heap.size w { w with drawn := w.drawn + 1 } := ⟨rfl, rfl, rfl, Nat.le_refl _, fun _ _ => rfl⟩
  have hi1 : Inv E G gs S a.tmps { w with drawn := w.drawn + 1 } := hi.below hw1 (fun _ h => h) (fun _ h => .inl h) (fun b h => Nat.lt_of_lt_of_le (hi.glt b h) hw1.size)
  have hwp : (Code.region id ops.toList.toArray true).wp P (fun e a' w' => e = .normal ∧ ∃ S', SInv (envAt E G gs S { w with drawn := w.drawn + 1 }) S' a' w' ∧ K .normal S') a w := by
    refine wp_region_held (S := Agree G { w with drawn := w.drawn + 1 }) hm ?_
    rw [show ops.toList.toArray.size = qs.length + o.depth from hsz.symm]
    rw [show ops.toList.toArray.size = qs.length + o.depth from hsz.symm] at hB
    refine heldQO_ok hT (fun c a w h => by cases h.1) hsel (fun S2 a2 listed hB2 hK2 hd2 hi2 => ?_) qs _ S a hB h hd hi1.at
    refine heldO_ok hT (fun S3 a3 w3 hs3 => ?_) o listed none S2 a2 _ hB2 hK2 ⟨hd2, G, gs, hi2⟩
    obtain ⟨_, G3, gs3, hi3⟩ := hs3
    exact hi1.agree hi3
  refine wp_mono hwp ?_
  rintro e a' w' ⟨rfl, S', ⟨hd', G', gs', hi'⟩, hK'⟩
  exact ⟨S', ⟨hd', G', gs', hi1.back hi'⟩, hK'⟩
theorem ord_ok (hT : TabOK P T) {ops : List Oper} {Q : Exit → Act → World → Prop} {kp : Nat → Bool} {Sc : World → Prop} {E : Env} (hSc : ∀ S a w, SInv E S a w → Sc w) {K : State → Prop} (hK : ∀ S a w, K S → SInv E S a w → Q .normal a w) : ∀ (o : Ord) (l : Array Bool) (mv : Option Nat) (S : State) (a : Act) (w : World), heldO ops.toArray o l = true →
    vOrd std P T ops o mv S K → SInv E S a w → anyK P .any ops.toArray Q kp Sc o.depth l a w
  | .fin, l, mv, S, a, w, hB, h, hs => ⟨by simpa [heldO] using hB, hK S a w h hs⟩
  | .step n o, l, mv, S, a, w, hB, h, hs => by
    simp only [heldO, Bool.and_eq_true, decide_eq_true_eq] at hB
    unfold vOrd at h
    refine ⟨fun h0 => (by rw [hB.1] at h0; cases h0), fun i hi => ?_⟩
    rw [hB.1] at hi
    have hin : i = n := by simpa using hi
    subst hin
    exact vOne_ok hT h hs fun mv' S' a' w' hK' hs' => ⟨fun _ => hSc _ _ _ hs', ord_ok hT hSc hK o _ _ S' a' w' hB.2 hK' hs'⟩
  | .two n o m p, l, mv, S, a, w, hB, h, hs => by
    simp only [heldO, Bool.and_eq_true, decide_eq_true_eq] at hB
    unfold vOrd at h
    refine ⟨fun h0 => (by rw [hB.1.1.1] at h0; cases h0), fun i hi => ?_⟩
    rw [hB.1.1.1] at hi
    have hin : i = n ∨ i = m := by simpa using hi
    rcases hin with rfl | rfl
    · exact vOne_ok hT h.1 hs fun mv' S' a' w' hK' hs' => ⟨fun _ => hSc _ _ _ hs', ord_ok hT hSc hK o _ _ S' a' w' hB.1.2 hK' hs'⟩
    · exact vOne_ok hT h.2 hs fun mv' S' a' w' hK' hs' => ⟨fun _ => hSc _ _ _ hs', by rw [hB.1.1.2]; exact ord_ok hT hSc hK p _ _ S' a' w' hB.2 hK' hs'⟩
def lordB (ops : Array Oper) (qs : List Nat) (o : Ord) : Bool :=
  Region.noSelect ops && (decide (qs.length + o.depth = ops.size) && (quietB ops (fun _ => true) qs (Array.replicate ops.size false) && heldO ops o (listAll qs (Array.replicate ops.size false))))
/-- A region that draws its order: qs read rows rs; the others, in the orders o, leave these alone. -/
theorem VC_lord (hT : TabOK P T) (hΩ : Ω = std) (hm : P.follows .mixedOrders = true) (qs : List Nat) (o : Ord) (rs hs : List Nat) {id : Nat} {ops : Array Oper} {K : Exit → State → Prop} (hB : lordB ops qs o = true)
    (h : vRs Ω T rs ops.toList qs S fun S1 => lendB S1 rs hs = true ∧ ∀ vs : Nat → Value, vOrd Ω P T ops.toList o none (S1.lend rs hs vs) fun S2 => keptA S2 vs hs ∧ backB S2 rs = true ∧
      K .normal (S2.unlend S1 rs hs)) : VC P (.region id ops true) S K := by
  subst hΩ
  intro E a w hs0
  have hops : ops = ops.toList.toArray := by simp
  rw [hops] at hB ⊢
  obtain ⟨hd, G, gs, hi⟩ := hs0
  simp only [lordB, Bool.and_eq_true, decide_eq_true_eq] at hB
  obtain ⟨hsel, hsz, hq, hc1⟩ := hB
  have hw1 : Go.RowKit.Below w.heap.size w { w with drawn := w.drawn + 1 } := ⟨rfl, rfl, rfl, Nat.le_refl _, fun _ _ => rfl⟩
  have hi1 : Inv E G gs S a.tmps { w with drawn := w.drawn + 1 } := hi.below hw1 (fun _ h => h) (fun _ h => .inl h) (fun b h => Nat.lt_of_lt_of_le (hi.glt b h) hw1.size)
  generalize hw1e : { w with drawn := w.drawn + 1 } = w1 at *
  have hwp : wpAny P .any ops.toList.toArray (fun e a' w' => e = .normal ∧ ∃ S', (∃ S1, S1.rows = S.rows ∧ SInv (envAt E G gs S1 w1) S' a' w') ∧ K .normal S') ops.toList.toArray.size (Array.replicate ops.toList.toArray.size false) a w1 := by
    refine any_of_K (kp := fun _ => true) (Sc := AgreeR G gs rs w1) _ _ _ _ ?_
    refine Eq.mp (congrArg (fun n => anyK P .any ops.toList.toArray _ _ _ n (Array.replicate ops.toList.toArray.size false) a w1) hsz) ?_
    refine quiet_ok (rs := rs) hT (fun c a w h => by cases h.1) hsel qs _ S a hq h hd hi1 ?_
    rintro S1 a1 ⟨hl, hvs⟩ hr1 hd1 hi2
    simp only [lendB, Bool.and_eq_true, decide_eq_true_eq, List.all_eq_true] at hl
    obtain ⟨hnd, hrows, hhs⟩ := hl
    have hrow : ∀ r ∈ rs, ∃ row, rowAt S1.rows r = some row ∧ rowOnly rs row = true := fun r hr => by
      have := hrows r hr
      split at this
      · rename_i row h; exact ⟨row, h, this⟩
      · cases this
    obtain ⟨gs0, hl1, hl2, hl3⟩ := hi2.lend (rs := rs) (hs := hs) hnd (fun r hr => let ⟨row, h, _⟩ := hrow r hr; ⟨row, h⟩) (fun i hi => (hhs i hi).1)
    have hSc : ∀ S' a' w', SInv (envL E G gs gs0 S1 rs a1.tmps w1) S' a' w' → AgreeR G gs rs w1 w' := fun S' a' w' ⟨_, G', gs', hi'⟩ => by
      have hcore := lent_agree hi2 hl2 hl3 hi' (fun r hr => let ⟨row, h, _⟩ := hrow r hr; ⟨row, h⟩)
      exact hcore
    refine ord_ok hT hSc (K := fun S2 => keptA S2 (vat E a1.tmps) hs ∧ backB S2 rs = true ∧ K .normal (S2.unlend S1 rs hs)) ?_ o _ none _ a1 w1 hc1 (hvs (vat E a1.tmps)) ⟨hd1, G, gs0, hl1⟩
    rintro S2 a2 w2 ⟨hk, hb, hn2⟩ ⟨hd2, G2, gs2, hi3⟩
    simp only [backB, List.all_eq_true, Bool.and_eq_true, decide_eq_true_eq] at hb
    obtain ⟨hu, _⟩ := hi2.unlend (hs := hs) hl2 hl3 hi3 (keptA_spec hk) (fun r hr => by
      obtain ⟨h1, h2⟩ := hb r hr
      refine ⟨?_, h2⟩
      split at h1
      · assumption
      · cases h1) (fun i hi => (hhs i hi).2) hrow
    exact ⟨rfl, _, ⟨S1, hr1, hd2, G2, _, hu⟩, hn2⟩
  have hwp2 : (Code.region id ops.toList.toArray true).wp P (fun e a' w' => e = .normal ∧ ∃ S', (∃ S1, S1.rows = S.rows ∧ SInv (envAt E G gs S1 w1) S' a' w') ∧ K .normal S') a w := wp_region_any hm (by rw [hw1e]; exact hwp)
  refine wp_mono hwp2 ?_
  rintro e a' w' ⟨rfl, S', ⟨S1, hr1, hd', G', gs', hi'⟩, hK'⟩
  have e2 : envAt E G gs S1 w1 = envAt E G gs S w1 := by unfold envAt; rw [hr1]
  rw [e2] at hi'
  exact ⟨S', ⟨hd', G', gs', hi1.back hi'⟩, hK'⟩
end
end Go.Fw

/- Walks: who is barred. Plain theorems. -/
set_option linter.unusedVariables false
set_option linter.unusedSimpArgs false
namespace Go.Proofs.YtfacpamkigmlaaaGreat
open Go Go.Fw
set_option maxRecDepth 100000
theorem c_l4BarsOne (l : List Pck) (bs : List Trm) (k : Int) (hl : l.length ≤ 1048576) (hb : bs.length ≤ 1048576) (hs : ∀ o ∈ l, o.Small) (hk : inB k 0 ((l.length : Int) - 1) = true) : PCtr PP n_spec_l4BarsOne [encP l, .sl false 7 (bs.map Trm.enc), i64 k] (boo (bs.any (givesB (pk l k)))) := by
  obtain ⟨Ω, hΩ⟩ : ∃ Ω, Ω = std := ⟨_, rfl⟩
  obtain ⟨r, hr⟩ : ∃ r, r = bs.any (givesB (pk l k)) := ⟨_, rfl⟩
  rw [← hr]
  obtain ⟨xs, hxs⟩ : ∃ xs, xs = l.map (Pck.enc false) := ⟨_, rfl⟩
  have hlen : xs.length = l.length := by rw [hxs, List.length_map]
  unfold encP at *
  rw [← hxs]
  obtain ⟨ys, hys⟩ : ∃ ys, ys = bs.map Trm.enc := ⟨_, rfl⟩
  have hylen : ys.length = bs.length := by rw [hys, List.length_map]
  rw [← hys]
  obtain ⟨hk0, hkl, hka, hkm⟩ := pk_at hk
  obtain ⟨ps2, ds2, bs2, hen2, hps2, hds2, hbs2⟩ := enc_raw (pk l k)
  have hx2 : xs[k.toNat]? = some (Pck.enc false (pk l k)) := by rw [hxs, List.getElem?_map, hka]; rfl
  rw [hen2] at hx2
  have hg := fun t => c_l2Gives (pk l k) t (by have := (hs _ hkm).p; omega)
  rw [hen2] at hg
  generalize givesB (pk l k) = G at *
  clear hka hkm hps2 hds2 hbs2 hen2
  generalize pk l k = pp at *
  have htab := tab
  have hmo := hmo
  have hve := verEq
  refine PCtr.walk tab hΩ fn_spec_l4BarsOne rfl ?_
  generalize PP = P at *
  cbv
  refine loopX htab hΩ (fun i : Nat => ⟨[(0, .sl false 8 xs), (1, .sl false 7 ys), (2, .sc (.int .i64 k)), (7, .sc (.int .i64 (Ω.int i)))], 23, []⟩) (fun i => i ≤ bs.length ∧ r = (bs.drop i).any G) (fun i => bs.length - i) 0
    ⟨Nat.zero_le _, hr⟩ (Sbs.mk rfl rfl ⟨rfl, rfl, rfl, zeroI hΩ, trivial⟩) ?_
  rintro i ⟨hi, he⟩
  cbv
  refine br (fun h => ?_) (fun h => ?_) <;> cbv
  · replace h := ltI hΩ h
    obtain ⟨c, hcc⟩ := at_of (cs := bs) (by omega : i < bs.length)
    rw [any_at _ hcc] at he
    refine ⟨VC_drawn htab hΩ hmo (by kernel_rfl) ?_⟩
    cbv
    refine ⟨⟨hk0⟩, _, hx2, ?_⟩
    cbv
    refine ⟨⟨nnI hΩ⟩, _, rdI hΩ hys hcc, ?_⟩
    cbv
    refine QCall_pure (k := 3) (hg c) rfl (fits _) rfl ?_
    cbv
    refine br (fun g => ?_) (fun g => ?_) <;> cbv
    · exact .of (congrArg boo (by rw [he, show G c = true from g]; rfl))
    · rw [show G c = false from g, Bool.false_or] at he
      exact ⟨i + 1, ⟨by omega, he⟩, by omega, Sbs.mk rfl rfl ⟨rfl, rfl, rfl, incI hΩ (by omega), trivial⟩⟩
  · replace h := geI hΩ h
    exact .of (congrArg boo (by rw [he, List.drop_of_length_le (by omega)]; rfl))
end Go.Proofs.YtfacpamkigmlaaaGreat

/- Walks: who leans on one. Plain theorems. -/
set_option linter.unusedVariables false
set_option linter.unusedSimpArgs false
namespace Go.Proofs.YtfacpamkigmlaaaGreat
open Go Go.Fw
set_option maxRecDepth 100000
theorem c_l1Has (l : List Int) (s : Int) (hl : l.length ≤ 4611686018427387904) : PCtr PP n_spec_l1Has [.sl false 1 (l.map i64), i64 s] (boo (l.any (· == s))) := by
  obtain ⟨Ω, hΩ⟩ : ∃ Ω, Ω = std := ⟨_, rfl⟩
  obtain ⟨r, hr⟩ : ∃ r, r = l.any (· == s) := ⟨_, rfl⟩
  rw [← hr]
  obtain ⟨xs, hxs⟩ : ∃ xs, xs = l.map i64 := ⟨_, rfl⟩
  have hlen : xs.length = l.length := by rw [hxs, List.length_map]
  rw [← hxs]
  have htab := tab
  have hmo := hmo
  have hve := verEq
  refine PCtr.walk tab hΩ fn_spec_l1Has rfl ?_
  generalize PP = P at *
  cbv
  refine loopX htab hΩ (fun i : Nat => ⟨[(0, .sl false 1 xs), (1, .sc (.int .i64 s)), (5, .sc (.int .i64 (Ω.int i)))], 18, []⟩) (fun i => i ≤ l.length ∧ r = (l.drop i).any (· == s)) (fun i => l.length - i) 0
    ⟨Nat.zero_le _, hr⟩ (Sbs.mk rfl rfl ⟨rfl, rfl, zeroI hΩ, trivial⟩) ?_
  rintro i ⟨hi, he⟩
  cbv
  refine br (fun h => ?_) (fun h => ?_) <;> cbv
  · replace h := ltI hΩ h
    obtain ⟨c, hcc⟩ := at_of (cs := l) (by omega : i < l.length)
    rw [any_at _ hcc] at he
    refine ⟨⟨nnI hΩ⟩, _, rdI hΩ hxs hcc, ?_⟩
    cbv
    refine br (fun g => ?_) (fun g => ?_) <;> cbv
    · exact .of (congrArg boo (by rw [he, show (c == s) = true by simp [eqI_t hΩ g]]; rfl))
    · rw [show (c == s) = false by simp [eqI_f hΩ g], Bool.false_or] at he
      exact ⟨i + 1, ⟨by omega, he⟩, by omega, Sbs.mk rfl rfl ⟨rfl, rfl, incI hΩ (by omega), trivial⟩⟩
  · replace h := geI hΩ h
    exact .of (congrArg boo (by rw [he, List.drop_of_length_le (by omega)]; rfl))
end Go.Proofs.YtfacpamkigmlaaaGreat

/- Walks: the reference's solver, as far as draws ask for it. Plain theorems. -/
set_option linter.unusedVariables false
set_option linter.unusedSimpArgs false
namespace Go.Proofs.YtfacpamkigmlaaaGreat
open Go Go.Fw
set_option maxRecDepth 100000
/-- A number put into a rising list. -/
def put3 (v : Int) : List Int → List Int
  | [] => [v]
  | x :: xs => if v < x then v :: x :: xs else x :: put3 v xs
theorem put3_len (v : Int) : ∀ l : List Int, (put3 v l).length = l.length + 1
  | [] => rfl
  | x :: xs => by rw [put3]; split <;> simp [put3_len v xs]
theorem put3_not {v : Int} : ∀ {l : List Int}, l.any (fun x => decide (v < x)) = false → put3 v l = l ++ [v]
  | [], _ => rfl
  | x :: xs, h => by
    simp only [List.any_cons, Bool.or_eq_false_iff, decide_eq_false_iff_not] at h
    rw [put3, if_neg h.1, put3_not h.2]; rfl
theorem put3_snoc {v x : Int} : ∀ {l : List Int}, l.any (fun x => decide (v < x)) = true → put3 v (l ++ [x]) = put3 v l ++ [x]
  | [], h => by cases h
  | y :: ys, h => by
    rw [List.cons_append, put3, put3]
    split
    · rfl
    · rename_i hy
      simp only [List.any_cons, Bool.or_eq_true, decide_eq_true_eq] at h
      rw [put3_snoc (h.resolve_left hy)]; rfl
theorem put3_snoc2 {v x : Int} : ∀ {l : List Int}, l.any (fun x => decide (v < x)) = false → v < x → put3 v (l ++ [x]) = l ++ [v] ++ [x]
  | [], _, h => by show put3 v [x] = _; rw [put3, if_pos h]; rfl
  | y :: ys, h, hx => by
    simp only [List.any_cons, Bool.or_eq_false_iff, decide_eq_false_iff_not] at h
    rw [List.cons_append, put3, if_neg h.1, put3_snoc2 h.2 hx]; rfl
/-- What stands behind i numbers of the list. -/
def putUp (v : Int) (l : List Int) : List Int := if l.any (fun x => decide (v < x)) then put3 v l else l
theorem putUp_step {v x : Int} {l : List Int} : putUp v (l ++ [x]) = if l.any (fun x => decide (v < x)) = false ∧ v < x then putUp v l ++ [v] ++ [x] else putUp v l ++ [x] := by
  unfold putUp
  rw [List.any_append]
  simp only [List.any_cons, List.any_nil, Bool.or_false]
  cases h : l.any (fun x => decide (v < x)) with
  | true => simp [put3_snoc h]
  | false =>
    by_cases hx : v < x
    · simp [hx, put3_snoc2 h hx]
    · simp [hx]
theorem putUp_end {v : Int} {l : List Int} : put3 v l = if l.any (fun x => decide (v < x)) then putUp v l else putUp v l ++ [v] := by
  unfold putUp
  cases h : l.any (fun x => decide (v < x)) with
  | true => simp
  | false => simp [put3_not h]
theorem putUp_len (v : Int) (l : List Int) : (putUp v l).length ≤ l.length + 1 := by unfold putUp; split <;> simp [put3_len]
theorem c_l3Put (s : List Int) (v : Int) (hs : s.length ≤ 1048576) : PCtr PP n_spec_l3Put [.sl false 1 (s.map i64), i64 v] (.sl true 1 ((put3 v s).map i64)) := by
  obtain ⟨Ω, hΩ⟩ : ∃ Ω, Ω = std := ⟨_, rfl⟩
  obtain ⟨xs, hxs⟩ : ∃ xs, xs = s.map i64 := ⟨_, rfl⟩
  have hlen : xs.length = s.length := by rw [hxs, List.length_map]
  rw [← hxs]
  obtain ⟨U, hU⟩ : ∃ U : Nat → List Int, U = fun i => putUp v (s.take i) := ⟨_, rfl⟩
  obtain ⟨D, hD⟩ : ∃ D : Nat → Bool, D = fun i => (s.take i).any fun x => decide (v < x) := ⟨_, rfl⟩
  obtain ⟨F, hF⟩ : ∃ F : Nat → List A, F = fun i => (U i).map i64 := ⟨_, rfl⟩
  have hF0 : F 0 = [] := by rw [hF, hU]; rfl
  have hD0 : D 0 = false := by rw [hD]; rfl
  have hFl : ∀ i, (F i).length = (U i).length := fun i => by rw [hF]; exact List.length_map _
  have hUl : ∀ i, (U i).length ≤ i + 1 := fun i => by rw [hU]; exact Nat.le_trans (putUp_len _ _) (by simp; omega)
  have hst : ∀ i c, s[i]? = some c → U (i + 1) = (if D i = false ∧ v < c then U i ++ [v] ++ [c] else U i ++ [c]) ∧ D (i + 1) = (D i || decide (v < c)) := fun i c h => by
    rw [hU, hD]; dsimp only
    rw [List.take_add_one, h]
    exact ⟨putUp_step, by rw [List.any_append]; simp⟩
  have hs1 : ∀ i n L, (U i).length = L → Ω.app (Ω.take L (F i)) [i64 n] = (U i ++ [n]).map i64 := fun i n L h => by
    subst hΩ; rw [hF]; show List.take L (List.map i64 (U i)) ++ _ = _
    rw [List.map_append, List.take_of_length_le (by simp; omega)]; rfl
  have hs2 : ∀ i n n2 L, (U i).length = L → Ω.app (Ω.take (Ω.plus L (Ω.len [i64 n])) (Ω.app (Ω.take L (F i)) [i64 n])) [i64 n2] = (U i ++ [n] ++ [n2]).map i64 := fun i n n2 L h => by
    rw [hs1 i n L h]; subst hΩ; show List.take (L + 1) _ ++ _ = _
    rw [List.map_append (l₂ := [n2]), List.take_of_length_le (by simp; omega)]; rfl
  have hend : put3 v s = if D s.length then U s.length else U s.length ++ [v] := by
    have h0 := @putUp_end v (s.take s.length)
    rw [hU, hD]; show put3 v s = if ((s.take s.length).any fun x => decide (v < x)) = true then putUp v (s.take s.length) else putUp v (s.take s.length) ++ [v]
    rw [← h0, List.take_length]
  have hFm : ∀ i, F i = (U i).map i64 := fun i => by rw [hF]
  clear hF hU hD
  have htab := tab
  refine PCtr.walk tab hΩ fn_spec_l3Put rfl ?_
  obtain ⟨R, hR⟩ : ∃ R, R = put3 v s := ⟨_, rfl⟩
  rw [← hR] at hend ⊢
  obtain ⟨G, hG⟩ : ∃ G, G = R.map i64 := ⟨_, rfl⟩
  rw [← hG]
  generalize PP = P at *
  cbv
  refine loopX htab hΩ (fun i : Nat => ⟨[(0, .sl false 1 xs), (1, i64 v), (5, .vw 0 0 (U i).length), (6, boo (D i)), (7, i64 (Ω.int i))], 43, [some ⟨1, F i, false⟩]⟩) (fun i => i ≤ s.length) (fun i => s.length - i) 0 (Nat.zero_le _)
    (Sbs.mk rfl (by rw [hF0]) ⟨rfl, rfl, by have := hFl 0; rw [hF0] at this; rw [← this]; rfl, by rw [hD0]; rfl, zeroI hΩ, trivial⟩) ?_
  intro i hi
  have hFli := hFl i
  have hUli := hUl i
  have hs1i := hs1 i
  have hs2i := hs2 i
  have hsti := hst i
  have hFi1 := hFm (i + 1)
  obtain ⟨m, hm⟩ : ∃ m, (U i).length = m := ⟨_, rfl⟩
  obtain ⟨d, hd⟩ : ∃ d, D i = d := ⟨_, rfl⟩
  have e1 : ∀ n, [some (Row.mk 1 (Ω.app (Ω.take m (F i)) [i64 n]) false)] = [some (Row.mk 1 ((U i ++ [n]).map i64) false)] := fun n => by rw [hs1i n m hm]
  have l1 : ∀ n : Int, A.vw 0 0 (Ω.plus m (Ω.len [i64 n])) = .vw 0 0 (U i ++ [n]).length := fun n => by subst hΩ; rw [List.length_append, hm]; rfl
  have e2 : ∀ n n2, [some (Row.mk 1 (Ω.app (Ω.take (Ω.plus m (Ω.len [i64 n])) (Ω.app (Ω.take m (F i)) [i64 n])) [i64 n2]) false)] = [some (Row.mk 1 ((U i ++ [n] ++ [n2]).map i64) false)] := fun n n2 => by rw [hs2i n n2 m hm]
  have l2 : ∀ n n2 : Int, A.vw 0 0 (Ω.plus (Ω.plus m (Ω.len [i64 n])) (Ω.len [i64 n2])) = .vw 0 0 (U i ++ [n] ++ [n2]).length := fun n n2 => by subst hΩ; rw [List.length_append, List.length_append, hm]; rfl
  rw [hd] at hsti ⊢
  rw [hm] at hFli hUli ⊢
  cbv
  refine br (fun h => ?_) (fun h => ?_) <;> cbv
  · replace h := ltI hΩ h
    obtain ⟨c, hc⟩ := at_of (cs := s) (by omega : i < s.length)
    obtain ⟨q1, q2⟩ := hsti c hc
    have hok : (m + 1) * 8 ≤ 140737488355328 ∧ m + 1 ≤ 9223372036854775807 := by omega
    have hok2 : (Ω.plus m (Ω.len [i64 v]) + 1) * 8 ≤ 140737488355328 ∧ Ω.plus m (Ω.len [i64 v]) + 1 ≤ 9223372036854775807 := by
      have e : Ω.plus m (Ω.len [i64 v]) = m + 1 := by subst hΩ; rfl
      rw [e]; omega
    refine ⟨⟨nnI hΩ⟩, _, rdI hΩ hxs hc, ?_⟩
    cbv
    refine br (fun g1 => ?_) (fun g1 => ?_) <;> cbv
    · have g1 := gtI_t hΩ g1
      refine br (fun g2 => ?_) (fun g2 => ?_) <;> cbv
      · have g2 : d = false := notT' hΩ (by subst hΩ; exact g2)
        rw [if_pos ⟨g2, g1⟩] at q1
        refine ⟨⟨rfl, okAll rfl, hok.1, hok.2⟩, ?_⟩
        refine ⟨⟨nnI hΩ⟩, _, rdI hΩ hxs hc, ?_⟩
        cbv
        exact ⟨⟨rfl, okAll rfl, hok2.1, hok2.2⟩, i + 1, by omega, by omega, (Sbs.cut 1 rfl).trans (Sbs.mk rfl (by show _ = [some (Row.mk 1 (F (i + 1)) false)]; rw [hFi1, q1, ← e2 v c]; rfl) ⟨rfl, rfl, by rw [q1]; exact l2 v c, by rw [q2]; show boo true = _; rw [decide_eq_true g1, Bool.or_true], incI hΩ (by omega), trivial⟩)⟩
      · have g2 : d = true := notF' hΩ (by subst hΩ; exact g2)
        rw [if_neg (by rw [g2]; simp)] at q1
        refine ⟨⟨nnI hΩ⟩, _, rdI hΩ hxs hc, ?_⟩
        cbv
        exact ⟨⟨rfl, okAll rfl, hok.1, hok.2⟩, i + 1, by omega, by omega, (Sbs.cut 1 rfl).trans (Sbs.mk rfl (by show _ = [some (Row.mk 1 (F (i + 1)) false)]; rw [hFi1, q1, ← e1 c]; rfl) ⟨rfl, rfl, by rw [q1]; exact l1 c, by rw [q2, g2]; rfl, incI hΩ (by omega), trivial⟩)⟩
    · have g1 := gtI_f hΩ g1
      rw [if_neg (by omega)] at q1
      refine ⟨⟨nnI hΩ⟩, _, rdI hΩ hxs hc, ?_⟩
      cbv
      exact ⟨⟨rfl, okAll rfl, hok.1, hok.2⟩, i + 1, by omega, by omega, (Sbs.cut 1 rfl).trans (Sbs.mk rfl (by show _ = [some (Row.mk 1 (F (i + 1)) false)]; rw [hFi1, q1, ← e1 c]; rfl) ⟨rfl, rfl, by rw [q1]; exact l1 c, by rw [q2, decide_eq_false (by omega), Bool.or_false]; rfl, incI hΩ (by omega), trivial⟩)⟩
  · have h := geI hΩ h
    have hil : i = s.length := by omega
    rw [← hil] at hend
    refine br (fun g => ?_) (fun g => ?_) <;> cbv
    · have g : d = false := notT' hΩ (by subst hΩ; exact g)
      rw [hd, g, if_neg (by simp)] at hend
      refine ⟨⟨rfl, okAll rfl, by show (m + 1) * 8 ≤ 140737488355328; omega, by show m + 1 ≤ 9223372036854775807; omega⟩, ⟨rfl, ?_⟩, ?_⟩
      · show Ω.plus m (Ω.len [i64 v]) ≤ (Ω.app (Ω.take m (F i)) [i64 v]).length
        rw [hs1i v m hm]; subst hΩ; rw [List.length_map, List.length_append, hm]; exact Nat.le_refl _
      · have e : A.sl true 1 (Ω.take (Ω.plus m (Ω.len [i64 v])) (Ω.app (Ω.take m (F i)) [i64 v])) = .sl true 1 G := by
          rw [hs1i v m hm, hG, hend]; subst hΩ; exact congrArg _ (List.take_of_length_le (by rw [List.length_map, List.length_append, hm]; exact Nat.le_refl _))
        exact .of e
    · have g : d = true := notF' hΩ (by subst hΩ; exact g)
      rw [hd, g, if_pos rfl] at hend
      refine ⟨⟨rfl, ?_⟩, ?_⟩
      · show m ≤ (F i).length; omega
      · have e : A.sl true 1 (Ω.take m (F i)) = .sl true 1 G := by
          rw [hFm i, hG, hend]; subst hΩ; exact congrArg _ (List.take_of_length_le (by rw [List.length_map, hm]; exact Nat.le_refl _))
        exact .of e
end Go.Proofs.YtfacpamkigmlaaaGreat

/- Walks: the reference's solver, its parts. Plain theorems. -/
set_option linter.unusedVariables false
set_option linter.unusedSimpArgs false
namespace Go.Proofs.YtfacpamkigmlaaaGreat
open Go Go.Fw
set_option maxRecDepth 100000
/-- The numbers, each put where it belongs. -/
def sortU (s : List Int) : List Int := s.foldl (fun a v => put3 v a) []
theorem sortU_snoc (s : List Int) (v : Int) : sortU (s ++ [v]) = put3 v (sortU s) := by simp [sortU]
theorem foldl_put3_len : ∀ (s a : List Int), (s.foldl (fun a v => put3 v a) a).length = a.length + s.length
  | [], a => rfl
  | v :: s, a => by rw [List.foldl_cons, foldl_put3_len s, put3_len, List.length_cons]; omega
theorem sortU_len (s : List Int) : (sortU s).length = s.length := by simp [sortU, foldl_put3_len]
theorem c_l4Sorted (s : List Int) (hs : s.length ≤ 1048576) : PCtr PP n_spec_l4Sorted [.sl false 1 (s.map i64)] (.sl true 1 ((sortU s).map i64)) := by
  obtain ⟨Ω, hΩ⟩ : ∃ Ω, Ω = std := ⟨_, rfl⟩
  obtain ⟨xs, hxs⟩ : ∃ xs, xs = s.map i64 := ⟨_, rfl⟩
  have hlen : xs.length = s.length := by rw [hxs, List.length_map]
  rw [← hxs]
  obtain ⟨F, hF⟩ : ∃ F : Nat → List A, F = fun i => (sortU (s.take i)).map i64 := ⟨_, rfl⟩
  have hF0 : F 0 = [] := by rw [hF]; rfl
  have hFl : ∀ i, (F i).length ≤ i := fun i => by rw [hF]; simp [sortU_len]; omega
  have hFz : ∀ i, (F i).map frz = F i := fun i => by rw [hF]; exact frz_I _
  have hFr : ∀ i, roFree (.sl true 1 (F i)) = true := fun i => by rw [hF]; exact roF_I _
  have hput : ∀ i c, s[i]? = some c → PCtr PP n_spec_l3Put [.sl false 1 (F i), i64 c] (.sl true 1 (F (i + 1))) := fun i c h => by
    have := c_l3Put (sortU (s.take i)) c (by rw [sortU_len]; simp; omega)
    rw [← sortU_snoc] at this
    rw [hF]; show PCtr PP n_spec_l3Put [.sl false 1 ((sortU (s.take i)).map i64), i64 c] (.sl true 1 ((sortU (s.take (i + 1))).map i64))
    rw [List.take_add_one, h]; exact this
  have hend : (sortU s).map i64 = F s.length := by rw [hF]; show _ = (sortU (s.take s.length)).map i64; rw [List.take_length]
  rw [hend]
  clear hend hF
  have htab := tab
  refine PCtr.walk tab hΩ fn_spec_l4Sorted rfl ?_
  generalize PP = P at *
  cbv
  refine loopX htab hΩ (fun i : Nat => ⟨[(0, .sl false 1 xs), (3, .vw 0 0 (Ω.len (F i))), (4, i64 (Ω.int i))], 19, [some ⟨1, F i, false⟩]⟩) (fun i => i ≤ s.length) (fun i => s.length - i) 0 (Nat.zero_le _)
    (Sbs.mk rfl (by rw [hF0]) ⟨rfl, by rw [hF0]; subst hΩ; rfl, zeroI hΩ, trivial⟩) ?_
  intro i hi
  have hFli := hFl i
  have hro : ∀ {S : State}, Fw.rowAt S.rows 0 = some ⟨1, F i, false⟩ → roO S 3 (.vw 0 0 (Ω.len (F i))) = some (.sl false 1 (F i)) := fun h => ro_vw h (by subst hΩ; rfl) (hFz i)
  have hne : s.length ≤ i → F i = F s.length := fun h => by rw [show i = s.length by omega]
  have hle : Ω.len (F i) ≤ (F i).length := by subst hΩ; exact Nat.le_refl _
  have htk : Ω.take (Ω.len (F i)) (F i) = F i := takeAll hΩ _
  cbv
  refine br (fun h => ?_) (fun h => ?_) <;> cbv
  · replace h := ltI hΩ h
    obtain ⟨c, hc⟩ := at_of (cs := s) (by omega : i < s.length)
    refine ⟨⟨nnI hΩ⟩, _, rdI hΩ hxs hc, ?_⟩
    cbv
    refine call_pure hΩ 3 (hput i c hc) (mapO2 (hro rfl) rfl) (fits _) (hFr _) rfl ?_
    cbv
    exact ⟨i + 1, by omega, by omega, (Sbs.drop (r := 0) rfl).trans ((Sbs.mv (a := 1) (b := 0) rfl rfl (Nat.le_of_ble_eq_true rfl)).trans ((Sbs.cut 1 rfl).trans (Sbs.mk rfl rfl ⟨rfl, rfl, incI hΩ (by omega), trivial⟩)))⟩
  · replace h := geI hΩ h
    exact ⟨⟨rfl, hle⟩, .of (by rw [← hne (by omega)]; exact congrArg _ htk)⟩
/-- A step of the solver: what is chosen, what is denied after it. -/
def frmA (f : Int × List Int) : A := .agg [i64 f.1, .sl false 1 (f.2.map i64)]
theorem c_l4Chosen (fs : List (Int × List Int)) (hs : fs.length ≤ 1048576) : PCtr PP n_spec_l4Chosen [.sl false 2 (fs.map frmA)] (.sl true 1 ((fs.map Prod.fst).map i64)) := by
  obtain ⟨Ω, hΩ⟩ : ∃ Ω, Ω = std := ⟨_, rfl⟩
  obtain ⟨xs, hxs⟩ : ∃ xs, xs = fs.map frmA := ⟨_, rfl⟩
  have hlen : xs.length = fs.length := by rw [hxs, List.length_map]
  rw [← hxs]
  obtain ⟨F, hF⟩ : ∃ F : Nat → List A, F = fun i => ((fs.take i).map Prod.fst).map i64 := ⟨_, rfl⟩
  have hF0 : F 0 = [] := by rw [hF]; rfl
  have hFl : ∀ i, (F i).length ≤ i := fun i => by rw [hF]; simp; omega
  have hst : ∀ i c, fs[i]? = some c → Ω.app (Ω.take (Ω.len (F i)) (F i)) [i64 c.1] = F (i + 1) := fun i c h => by
    rw [takeAll hΩ]
    subst hΩ; rw [hF]; show List.map i64 (List.map Prod.fst (fs.take i)) ++ [i64 c.1] = List.map i64 (List.map Prod.fst (fs.take (i + 1)))
    rw [List.take_add_one, h, List.map_append, List.map_append]; rfl
  have hln : ∀ i c, fs[i]? = some c → Ω.plus (Ω.len (F i)) (Ω.len [i64 c.1]) = Ω.len (F (i + 1)) := fun i c h => by
    rw [← hst i c h, takeAll hΩ]; subst hΩ; show (F i).length + 1 = (F i ++ [i64 c.1]).length; rw [List.length_append]; rfl
  have hend : (fs.map Prod.fst).map i64 = F fs.length := by rw [hF]; show _ = ((fs.take fs.length).map Prod.fst).map i64; rw [List.take_length]
  rw [hend]
  clear hend hF
  have htab := tab
  refine PCtr.walk tab hΩ fn_spec_l4Chosen rfl ?_
  generalize PP = P at *
  cbv
  refine loopX htab hΩ (fun i : Nat => ⟨[(0, .sl false 2 xs), (3, .vw 0 0 (Ω.len (F i))), (4, i64 (Ω.int i))], 21, [some ⟨1, F i, false⟩]⟩) (fun i => i ≤ fs.length) (fun i => fs.length - i) 0 (Nat.zero_le _)
    (Sbs.mk rfl (by rw [hF0]) ⟨rfl, by rw [hF0]; subst hΩ; rfl, zeroI hΩ, trivial⟩) ?_
  intro i hi
  have hFli := hFl i
  have hne : fs.length ≤ i → F i = F fs.length := fun h => by rw [show i = fs.length by omega]
  have hle : Ω.len (F i) ≤ (F i).length := by subst hΩ; exact Nat.le_refl _
  have hle2 : Ω.len (F i) ≤ 1048576 := by omega
  have htk : Ω.take (Ω.len (F i)) (F i) = F i := takeAll hΩ _
  have hst2 : ∀ c, fs[i]? = some c → some (Row.mk 1 (Ω.app (Ω.take (Ω.len (F i)) (F i)) [i64 c.1]) false) = some (Row.mk 1 (F (i + 1)) false) := fun c h => by rw [hst i c h]
  have hln2 := hln i
  cbv
  refine br (fun h => ?_) (fun h => ?_) <;> cbv
  · replace h := ltI hΩ h
    obtain ⟨c, hc⟩ := at_of (cs := fs) (by omega : i < fs.length)
    have hrd : xs[(Ω.int i).toNat]? = some (.agg [i64 c.1, .sl false 1 (c.2.map i64)]) := by have := rdI hΩ hxs hc; exact this
    have hst2 := hst2 c hc
    have hln2 := hln2 c hc
    generalize c.1 = c1 at *
    generalize c.2.map i64 = c2 at *
    refine ⟨⟨nnI hΩ⟩, _, hrd, ?_⟩
    cbv
    exact ⟨⟨rfl, okAll rfl, by show (Ω.len (F i) + 1) * 8 ≤ 140737488355328; omega, by show Ω.len (F i) + 1 ≤ 9223372036854775807; omega⟩, i + 1, by omega, by omega, (Sbs.cut 1 rfl).trans (Sbs.mk rfl (by show [_] = _; rw [← hst2]; rfl) ⟨rfl, congrArg (A.vw 0 0) hln2, incI hΩ (by omega), trivial⟩)⟩
  · replace h := geI hΩ h
    exact ⟨⟨rfl, hle⟩, .of (by rw [← hne (by omega)]; exact congrArg _ htk)⟩
end Go.Proofs.YtfacpamkigmlaaaGreat

/- Walks: the reference's solver: what is unmet, what fits. Plain theorems. -/
set_option linter.unusedVariables false
set_option linter.unusedSimpArgs false
namespace Go.Proofs.YtfacpamkigmlaaaGreat
open Go Go.Fw
set_option maxRecDepth 100000
/-- Some terms. -/
def someTs (x : A) : Prop := ∃ us : List Trm, x = .sl false 7 (us.map Trm.enc) ∧ us.length ≤ 1048576
/-- One place cut out. -/
theorem seg1 {Ω : Opq} (hΩ : Ω = std) {i : Nat} {xs : List A} (h : i < xs.length) (hs : xs.length ≤ 4611686018427387904) :
    0 ≤ Ω.ar .add .i64 (Ω.int i) 1 ∧ Ω.nat (Ω.int i) ≤ Ω.nat (Ω.ar .add .i64 (Ω.int i) 1) ∧ Ω.nat (Ω.ar .add .i64 (Ω.int i) 1) ≤ xs.length ∧ ∃ z, xs[i]? = some z ∧ Ω.seg (Ω.nat (Ω.int i)) (Ω.nat (Ω.ar .add .i64 (Ω.int i) 1)) xs = [z] := by
  subst hΩ
  have e : std.ar .add .i64 (std.int i) 1 = ((i + 1 : Nat) : Int) := inc64 (by omega)
  rw [e]
  refine ⟨by omega, by show i ≤ i + 1; omega, h, xs[i], List.getElem?_eq_getElem h, ?_⟩
  show ((xs.take (i + 1)).drop i) = _
  rw [List.drop_take, List.drop_eq_getElem_cons h, show i + 1 - i = 1 by omega]; rfl
theorem fitNilT : FitX .nil (.sl false 7 (([] : List Trm).map Trm.enc)) := ⟨1, by simp [fitA]⟩
theorem r_l4Unmet (l : List Pck) (az : List Trm) (s : List Int) (hl : l.length ≤ 1048576) (hs : s.length ≤ 1048576) (ha : az.length ≤ 1048576) (ho : ∀ o ∈ l, o.Small) (hk : ∀ k ∈ s, inB k 0 ((l.length : Int) - 1) = true) :
    RCtr PP n_spec_l4Unmet [encP l, .sl false 7 (az.map Trm.enc), .sl false 1 (s.map i64)] someTs := by
  obtain ⟨Ω, hΩ⟩ : ∃ Ω, Ω = std := ⟨_, rfl⟩
  have hat : ∀ k, inB k 0 ((l.length : Int) - 1) = true → 0 ≤ k ∧ ∃ n v1 v2 v3 sz ps ds bs, (l.map (Pck.enc false))[k.toNat]? = some (.agg [str n, i64 v1, i64 v2, i64 v3, i64 sz, .sl false 1 ps, .sl false 1 ds, .sl false 7 bs]) ∧ pk l k ∈ l ∧
      ds = (pk l k).d.map (encTs false) := fun k h => by
    obtain ⟨h0, h1, h2, h3⟩ := pk_at h
    obtain ⟨ps, ds, bs, hen, hp, hd, hb⟩ := enc_raw (pk l k)
    exact ⟨h0, _, _, _, _, _, ps, ds, bs, by rw [List.getElem?_map, h2]; exact congrArg some hen, h3, hd⟩
  obtain ⟨cs, hcs⟩ : ∃ cs, cs = l.map (Pck.enc false) := ⟨_, rfl⟩
  obtain ⟨xs, hxs⟩ : ∃ xs, xs = s.map i64 := ⟨_, rfl⟩
  obtain ⟨es, hes⟩ : ∃ es, es = az.map Trm.enc := ⟨_, rfl⟩
  have hxl : xs.length = s.length := by rw [hxs, List.length_map]
  have hel : es.length = az.length := by rw [hes, List.length_map]
  have hmet : ∀ d : List Trm, d.length ≤ 1048576 → PCtr PP n_spec_l3Met [encP l, .sl false 1 xs, .sl false 7 (d.map Trm.enc)] (boo (metB l s d)) := fun d hd => by
    rw [hxs]
    exact c_l3Met l s d hl hs hd ho hk
  unfold encP at *
  rw [← hcs] at hat hmet ⊢
  rw [← hxs, ← hes]
  have htab := tab
  have hmo := hmo
  refine RCtr.walk tab hΩ fn_spec_l4Unmet rfl ?_
  generalize PP = P at *
  cbv
  refine loopX htab hΩ (fun i : Nat => ⟨[(0, .sl false 8 cs), (1, .sl false 7 es), (2, .sl false 1 xs), (7, i64 (Ω.int i))], 65, []⟩) (fun i => i ≤ az.length) (fun i => az.length - i) 0 (Nat.zero_le _)
    (Sbs.mk rfl rfl ⟨rfl, rfl, rfl, zeroI hΩ, trivial⟩) ?_
  intro i hi
  cbv
  refine br (fun h => ?_) (fun h => ?_) <;> cbv
  · replace h := ltI hΩ h
    obtain ⟨c, hc⟩ := at_of (cs := az) (by omega : i < az.length)
    obtain ⟨q1, q2, q3, z, hz, q4⟩ := seg1 hΩ (i := i) (xs := es) (by omega) (by omega)
    have hz2 : z = c.enc := by
      rw [hes, List.getElem?_map, hc] at hz; exact (Option.some.inj hz).symm
    have hcm := hmet [c] (Nat.le_of_ble_eq_true rfl)
    generalize metB l s [c] = gu at hcm
    refine ⟨⟨nnI hΩ, q1, q2, q3⟩, ?_⟩
    refine call_pure hΩ 3 hcm rfl (fitsE (by show [_, _, A.sl false 7 (Ω.seg _ _ _)] = _; rw [q4, hz2]; rfl)) rfl rfl ?_
    cbv
    refine br (fun g => ?_) (fun g => ?_) <;> cbv
    · exact ⟨⟨nnI hΩ, q1, q2, q3⟩, _, ⟨[c], rfl, Nat.le_of_ble_eq_true rfl⟩, .of (by show A.sl false 7 (Ω.seg _ _ _) = _; rw [q4, hz2]; rfl)⟩
    · exact ⟨i + 1, by omega, by omega, Sbs.mk rfl rfl ⟨rfl, rfl, rfl, incI hΩ (by omega), trivial⟩⟩
  · replace h := geI hΩ h
    refine loopX htab hΩ (fun i : Nat => ⟨[(0, .sl false 8 cs), (2, .sl false 1 xs), (8, i64 (Ω.int i))], 65, []⟩) (fun i => i ≤ s.length) (fun i => s.length - i) 0 (Nat.zero_le _)
      (Sbs.mk rfl rfl ⟨rfl, rfl, zeroI hΩ, trivial⟩) ?_
    intro j hj
    cbv
    refine br (fun h => ?_) (fun h => ?_) <;> cbv
    · replace h := ltI hΩ h
      obtain ⟨c, hc⟩ := at_of (cs := s) (by omega : j < s.length)
      obtain ⟨hc0, nn, v1, v2, v3, sz, ps, ds, bs, hx, hm, hds⟩ := hat c (hk c (List.mem_of_getElem? hc))
      have hdl : ds.length = (pk l c).d.length := by rw [hds, List.length_map]
      have hsm := ho _ hm
      have hd1 := hsm.d
      have hd2 := hsm.e
      generalize (pk l c).d = d at *
      refine ⟨⟨nnI hΩ⟩, _, rdI hΩ hxs hc, ?_⟩
      cbv
      refine ⟨⟨hc0⟩, _, hx, ?_⟩
      cbv
      refine loopX htab hΩ (fun q : Nat => ⟨[(0, .sl false 8 cs), (2, .sl false 1 xs), (8, i64 (Ω.int j)), (9, .pt 0 0 0), (10, i64 (Ω.int q))], 65,
        [some ⟨8, [.agg [str nn, i64 v1, i64 v2, i64 v3, i64 sz, .sl false 1 ps, .sl false 1 ds, .sl false 7 bs]], true⟩]⟩)
        (fun q => q ≤ d.length) (fun q => d.length - q) 0 (Nat.zero_le _) (Sbs.mk rfl rfl ⟨rfl, rfl, rfl, rfl, zeroI hΩ, trivial⟩) ?_
      intro q hq
      cbv
      refine br (fun h => ?_) (fun h => ?_) <;> cbv
      · replace h := ltI hΩ h
        obtain ⟨u, huu⟩ := at_of (cs := d) (by omega : q < d.length)
        have hul := hd2 u (List.mem_of_getElem? huu)
        have hcm := hmet u hul
        obtain ⟨us, hus⟩ : ∃ us, us = u.map Trm.enc := ⟨_, rfl⟩
        rw [← hus] at hcm
        have hrd : ds[(Ω.int q).toNat]? = some (.sl false 7 us) := (rdI hΩ hds huu).trans (by rw [hus]; rfl)
        generalize metB l s u = gu at hcm
        refine ⟨⟨nnI hΩ⟩, _, hrd, ?_⟩
        cbv
        refine call_pure hΩ 3 hcm rfl (fits _) rfl rfl ?_
        cbv
        refine br (fun g => ?_) (fun g => ?_) <;> cbv
        · refine ⟨⟨nnI hΩ⟩, _, hrd, ?_⟩
          cbv
          exact ⟨_, ⟨u, rfl, hul⟩, .of (by rw [hus]; rfl)⟩
        · exact ⟨q + 1, by omega, by omega, Sbs.mk rfl rfl ⟨rfl, rfl, rfl, rfl, incI hΩ (by omega), trivial⟩⟩
      · replace h := geI hΩ h
        exact ⟨j + 1, by omega, by omega, (Sbs.cut 0 rfl).trans (Sbs.mk rfl rfl ⟨rfl, rfl, incI hΩ (by omega), trivial⟩)⟩
    · exact ⟨_, ⟨[], rfl, Nat.zero_le _⟩, fitNilT⟩
end Go.Proofs.YtfacpamkigmlaaaGreat

/- Walks: the reference's solver: what fits, what is ahead, candidates. Plain theorems. -/
set_option linter.unusedVariables false
set_option linter.unusedSimpArgs false
namespace Go.Proofs.YtfacpamkigmlaaaGreat
open Go Go.Fw
set_option maxRecDepth 100000
def someB (x : A) : Prop := ∃ b, x = boo b
theorem r_l4Ahead (l : List Pck) (s : List Int) (a b : Int) (hl : l.length ≤ 1048576) (hs : s.length ≤ 1048576) (ha : inB a 0 ((l.length : Int) - 1) = true) (hb : inB b 0 ((l.length : Int) - 1) = true) :
    RCtr PP n_spec_l4Ahead [encP l, .sl false 1 (s.map i64), i64 a, i64 b] someB := by
  obtain ⟨Ω, hΩ⟩ : ∃ Ω, Ω = std := ⟨_, rfl⟩
  have hat : ∀ k, inB k 0 ((l.length : Int) - 1) = true → 0 ≤ k ∧ ∃ n v1 v2 v3 sz ps ds bs, (pk l k).v = ⟨v1, v2, v3⟩ ∧ (l.map (Pck.enc false))[k.toNat]? = some (.agg [str n, i64 v1, i64 v2, i64 v3, i64 sz, .sl false 1 ps, .sl false 1 ds, .sl false 7 bs]) := fun k h => by
    obtain ⟨h0, h1, h2, h3⟩ := pk_at h
    obtain ⟨ps, ds, bs, hen, hp, hd, hb⟩ := enc_raw (pk l k)
    exact ⟨h0, _, (pk l k).v.a, (pk l k).v.b, (pk l k).v.c, _, ps, ds, bs, rfl, by rw [List.getElem?_map, h2]; exact congrArg some hen⟩
  obtain ⟨ha0, n1, x1, x2, x3, z1, p1, d1, b1, -, hx⟩ := hat a ha
  obtain ⟨hb0, n2, y1, y2, y3, z2, p2, d2, b2, -, hy⟩ := hat b hb
  have hv := c_CompareVersions ⟨x1, x2, x3⟩ ⟨y1, y2, y3⟩
  generalize cmpV ⟨x1, x2, x3⟩ ⟨y1, y2, y3⟩ = cv at hv
  have hha := c_l1Has s a (by omega)
  have hhb := c_l1Has s b (by omega)
  generalize s.any (· == a) = h1 at hha
  generalize s.any (· == b) = h2 at hhb
  unfold encP Ver.enc at *
  generalize l.map (Pck.enc false) = cs at *
  generalize s.map i64 = xs at *
  have htab := tab
  have hmo := hmo
  refine RCtr.walk tab hΩ fn_spec_l4Ahead rfl ?_
  generalize PP = P at *
  cbv
  refine call_pure hΩ 3 hha rfl (fits _) rfl rfl ?_
  cbv
  refine call_pure hΩ 3 hhb rfl (fits _) rfl rfl ?_
  cbv
  refine br (fun h => ?_) (fun h => ?_) <;> cbv
  · refine call_pure hΩ 3 hha rfl (fits _) rfl rfl ?_
    cbv
    exact ⟨_, ⟨_, rfl⟩, .same⟩
  · refine ⟨VC_drawn htab hΩ hmo (by kernel_rfl) ?_⟩
    cbv
    refine ⟨⟨ha0⟩, _, hx, ?_⟩
    cbv
    refine ⟨⟨hb0⟩, _, hy, ?_⟩
    cbv
    refine QCall_pure (k := 3) hv rfl (fits _) rfl ?_
    cbv
    refine br (fun h => ?_) (fun h => ?_) <;> cbv
    · exact ⟨_, ⟨_, rfl⟩, .same⟩
    · exact ⟨_, ⟨_, rfl⟩, .same⟩
theorem r_l4Fits (l : List Pck) (s : List Int) (a : Int) (hl : l.length ≤ 1048576) (hs : s.length ≤ 1048576) (ho : ∀ o ∈ l, o.Small) (hk : ∀ k ∈ s, inB k 0 ((l.length : Int) - 1) = true) (ha : inB a 0 ((l.length : Int) - 1) = true) :
    RCtr PP n_spec_l4Fits [encP l, .sl false 1 (s.map i64), i64 a] someB := by
  obtain ⟨Ω, hΩ⟩ : ∃ Ω, Ω = std := ⟨_, rfl⟩
  have hat : ∀ k, inB k 0 ((l.length : Int) - 1) = true → 0 ≤ k ∧ ∃ n v1 v2 v3 sz ps ds bs, (l.map (Pck.enc false))[k.toNat]? = some (.agg [str n, i64 v1, i64 v2, i64 v3, i64 sz, .sl false 1 ps, .sl false 1 ds, .sl false 7 bs]) ∧
      ∀ q, inB q 0 ((l.length : Int) - 1) = true → ∃ g, PCtr PP n_spec_l4BarsOne [encP l, .sl false 7 bs, i64 q] (boo g) := fun k h => by
    obtain ⟨h0, h1, h2, h3⟩ := pk_at h
    obtain ⟨ps, ds, bs, hen, hp, hd, hb⟩ := enc_raw (pk l k)
    exact ⟨h0, _, _, _, _, _, ps, ds, bs, by rw [List.getElem?_map, h2]; exact congrArg some hen, fun q hq => ⟨_, by rw [hb]; exact c_l4BarsOne l _ q hl (ho _ h3).b ho hq⟩⟩
  obtain ⟨xs, hxs⟩ : ∃ xs, xs = s.map i64 := ⟨_, rfl⟩
  have hxl : xs.length = s.length := by rw [hxs, List.length_map]
  obtain ⟨ha0, n1, u1, u2, u3, z1, p1, d1, b1, hx, hg⟩ := hat a ha
  unfold encP at *
  generalize l.map (Pck.enc false) = cs at *
  rw [← hxs]
  have htab := tab
  have hmo := hmo
  refine RCtr.walk tab hΩ fn_spec_l4Fits rfl ?_
  generalize PP = P at *
  cbv
  refine loopX htab hΩ (fun i : Nat => ⟨[(0, .sl false 8 cs), (1, .sl false 1 xs), (2, i64 a), (7, i64 (Ω.int i))], 54, []⟩) (fun i => i ≤ s.length) (fun i => s.length - i) 0 (Nat.zero_le _)
    (Sbs.mk rfl rfl ⟨rfl, rfl, rfl, zeroI hΩ, trivial⟩) ?_
  intro i hi
  cbv
  refine br (fun h => ?_) (fun h => ?_) <;> cbv
  · replace h := ltI hΩ h
    obtain ⟨c, hc⟩ := at_of (cs := s) (by omega : i < s.length)
    have hck := hk c (List.mem_of_getElem? hc)
    obtain ⟨hc0, nn, v1, v2, v3, sz, ps, ds, bs, hx2, hg2⟩ := hat c hck
    obtain ⟨g1, hg1⟩ := hg2 a ha
    obtain ⟨g2, hg2⟩ := hg c hck
    refine ⟨VC_drawn htab hΩ hmo (by kernel_rfl) ?_⟩
    cbv
    refine ⟨⟨nnI hΩ⟩, _, rdI hΩ hxs hc, ?_⟩
    cbv
    refine ⟨⟨hc0⟩, _, hx2, ?_⟩
    cbv
    refine ⟨⟨ha0⟩, _, hx, ?_⟩
    cbv
    repeat' (first
      | (refine br (fun _ => ?_) (fun _ => ?_) <;> cbv)
      | (refine ⟨⟨nnI hΩ⟩, _, rdI hΩ hxs hc, ?_⟩; cbv)
      | (refine ⟨⟨hc0⟩, _, hx2, ?_⟩; cbv)
      | (refine ⟨⟨ha0⟩, _, hx, ?_⟩; cbv)
      | (refine QCall_pure (k := 3) hg1 rfl (fits _) rfl ?_; cbv)
      | (refine QCall_pure (k := 3) hg2 rfl (fits _) rfl ?_; cbv)
      | exact ⟨_, ⟨_, rfl⟩, .same⟩
      | exact ⟨i + 1, by omega, by omega, Sbs.mk rfl rfl ⟨rfl, rfl, rfl, incI hΩ (by omega), trivial⟩⟩)
  · replace h := geI hΩ h
    exact ⟨_, ⟨_, rfl⟩, .same⟩
end Go.Proofs.YtfacpamkigmlaaaGreat

/- Walks: the reference's solver: candidates. Plain theorems. -/
set_option linter.unusedVariables false
set_option linter.unusedSimpArgs false
namespace Go.Proofs.YtfacpamkigmlaaaGreat
open Go Go.Fw
set_option maxRecDepth 100000
theorem gtZ {Ω : Opq} (hΩ : Ω = std) {n : Nat} (h : Ω.cmp .gtr (Ω.int n) 0 = true) : 0 < n := by subst hΩ; have := gt_t h; exact Int.ofNat_lt.1 this
theorem decJ {Ω : Opq} (hΩ : Ω = std) {n : Nat} (h : 0 < n) (h2 : n ≤ 4611686018427387904) : Ω.ar .sub .i64 (Ω.int n) 1 = Ω.int (n - 1) := by
  subst hΩ; show IntKind.i64.wrap ((n : Int) - 1) = ((n - 1 : Nat) : Int); rw [wrap64 (by omega) (by omega)]; omega
theorem ints_ok (c : List Int) : (∀ y ∈ c.map i64, noOwn y = true) ∧ ∀ x ∈ flat (c.map i64), okCell x = true :=
  ⟨fun y h => by obtain ⟨k, _, rfl⟩ := List.mem_map.1 h; rfl, fun x h => by
    obtain ⟨y, hy, hx⟩ := List.mem_flatMap.1 h
    obtain ⟨k, _, rfl⟩ := List.mem_map.1 hy
    rw [show x = i64 k from List.mem_singleton.1 hx]; rfl⟩
theorem cand_new {F : List Int → List A} (hF : F = fun s => s.map i64) (c : List Int) (i : Int) (n : Nat) (hn : n ≤ c.length) :
    (((((((([] : List A).take 0 ++ ((F c).take n).drop 0).take (0 + (((F c).take n).drop 0).length)) ++ [i64 i]).take (0 + (((F c).take n).drop 0).length + 1)) ++ ((F c).take (F c).length).drop n).map frz).drop 0).take (0 + (((F c).take n).drop 0).length + 1 + (((F c).take (F c).length).drop n).length) = F (c.take n ++ [i] ++ c.drop n) := by
  rw [hF]
  simp only [List.take_nil, List.nil_append, List.drop_zero, Nat.zero_add, List.take_length]
  rw [List.take_of_length_le (l := List.take n (List.map i64 c) ++ [i64 i]) (by simp), List.take_of_length_le (by simp; omega)]
  rw [← frz_I (c.take n ++ [i] ++ c.drop n)]
  congr 1
  simp
theorem segOK {Ω : Opq} (hΩ : Ω = std) {xs : List A} (h1 : ∀ y ∈ xs, noOwn y = true) (h2 : ∀ c ∈ flat xs, okCell c = true) (l h : Nat) : (∀ y ∈ Ω.seg l h xs, noOwn y = true) ∧ (∀ c ∈ flat (Ω.seg l h xs), okCell c = true) := by
  subst hΩ
  have hs : ∀ y ∈ (xs.take h).drop l, y ∈ xs := fun y hy => List.mem_of_mem_take (List.mem_of_mem_drop hy)
  refine ⟨fun y hy => h1 y (hs y hy), fun c hc => h2 c ?_⟩
  obtain ⟨x, hx, hy⟩ := List.mem_flatMap.1 hc
  exact List.mem_flatMap.2 ⟨x, hs x hx, hy⟩
/-- Some places below n. -/
def someP (n : Nat) (x : A) : Prop := ∃ c : List Int, x = .sl false 1 (c.map i64) ∧ c.length ≤ n ∧ ∀ k ∈ c, 0 ≤ k ∧ k < (n : Int)
theorem r_l4Candidates (l : List Pck) (us : List Trm) (s d y : List Int) (hl : l.length ≤ 1048576) (hu : us.length ≤ 1048576) (hs : s.length ≤ 1048576) (hd : d.length ≤ 1048576) (hy : y.length ≤ 1048576) (ho : ∀ o ∈ l, o.Small) (hk : ∀ k ∈ s, inB k 0 ((l.length : Int) - 1) = true) :
    RCtr PP n_spec_l4Candidates [encP l, .sl false 7 (us.map Trm.enc), .sl false 1 (s.map i64), .sl false 1 (d.map i64), .sl false 1 (y.map i64)] (someP l.length) := by
  obtain ⟨Ω, hΩ⟩ : ∃ Ω, Ω = std := ⟨_, rfl⟩
  have hin : ∀ i : Nat, i < l.length → inB i 0 ((l.length : Int) - 1) = true := fun i h => by simp only [inB, Bool.and_eq_true, decide_eq_true_eq]; omega
  have hin2 : ∀ i : Int, 0 ≤ i → i < (l.length : Int) → inB i 0 ((l.length : Int) - 1) = true := fun i h h2 => by simp only [inB, Bool.and_eq_true, decide_eq_true_eq]; omega
  have hat : ∀ i : Nat, i < l.length → ∃ n v1 v2 v3 sz ps ds bs, (l.map (Pck.enc false))[i]? = some (.agg [str n, i64 v1, i64 v2, i64 v3, i64 sz, .sl false 1 ps, .sl false 1 ds, .sl false 7 bs]) ∧
      ∀ t : Trm, ∃ g, PCtr PP n_spec_l2Gives [.agg [str n, i64 v1, i64 v2, i64 v3, i64 sz, .sl false 1 ps, .sl false 1 ds, .sl false 7 bs], t.enc] (boo g) := fun i h => by
    obtain ⟨h0, h1, h2, h3⟩ := pk_at (hin i h)
    obtain ⟨ps, ds, bs, hen, hp, hd, hb⟩ := enc_raw (pk l i)
    exact ⟨_, _, _, _, _, ps, ds, bs, by rw [List.getElem?_map, show i = (i : Int).toNat from rfl, h2]; exact congrArg some hen, fun t => ⟨_, by rw [← hen]; exact c_l2Gives (pk l i) t (by have := (ho _ h3).p; omega)⟩⟩
  have hfit := fun (i : Nat) h => r_l4Fits l s i hl hs ho hk (hin i h)
  have hah := fun (i : Nat) h q h0 h1 => r_l4Ahead l y i q hl hy (hin i h) (hin2 q h0 h1)
  have hhs : ∀ i : Int, ∃ g, PCtr PP n_spec_l1Has [.sl false 1 (s.map i64), i64 i] (boo g) := fun i => ⟨_, c_l1Has s i (by omega)⟩
  have hhd : ∀ i : Int, ∃ g, PCtr PP n_spec_l1Has [.sl false 1 (d.map i64), i64 i] (boo g) := fun i => ⟨_, c_l1Has d i (by omega)⟩
  obtain ⟨L, hL⟩ : ∃ L, L = l.length := ⟨_, rfl⟩
  unfold encP at *
  obtain ⟨cs, hcs⟩ : ∃ cs, cs = l.map (Pck.enc false) := ⟨_, rfl⟩
  have hcl : cs.length = L := by rw [hcs, List.length_map, hL]
  rw [← hcs] at hat hfit hah ⊢
  rw [← hL] at hat hfit hah ⊢
  obtain ⟨es, hes⟩ : ∃ es, es = us.map Trm.enc := ⟨_, rfl⟩
  have hel : es.length = us.length := by rw [hes, List.length_map]
  rw [← hes]
  obtain ⟨F, hF⟩ : ∃ F : List Int → List A, F = fun s => s.map i64 := ⟨_, rfl⟩
  have hF0 : F [] = [] := by rw [hF]; rfl
  have hFl : ∀ s, (F s).length = s.length := fun s => by rw [hF]; exact List.length_map _
  have hFm : ∀ c : List Int, c.map i64 = F c := fun c => by rw [hF]
  have hFat : ∀ (c : List Int) (n : Nat), n < c.length → ∃ k, c[n]? = some k ∧ (F c)[n]? = some (i64 k) := fun c n h => ⟨c[n], List.getElem?_eq_getElem h, by rw [hF]; simp [h]⟩
  generalize s.map i64 = xs at *
  generalize d.map i64 = zs at *
  generalize y.map i64 = ys at *
  have htab := tab
  have hmo := hmo
  refine RCtr.walk tab hΩ fn_spec_l4Candidates rfl ?_
  generalize PP = P at *
  cbv
  refine loopX htab hΩ (fun i : Nat × List Int => ⟨[(0, .sl false 8 cs), (1, .sl false 7 es), (2, .sl false 1 xs), (3, .sl false 1 zs), (4, .sl false 1 ys), (11, .sl false 1 (F i.2)), (12, i64 (Ω.int i.1))], 90, []⟩)
    (fun i => i.1 ≤ L ∧ i.2.length ≤ i.1 ∧ ∀ k ∈ i.2, 0 ≤ k ∧ k < (L : Int)) (fun i => L - i.1) (0, []) ⟨Nat.zero_le _, Nat.le_refl _, by simp⟩
    ((Sbs.thaw (r := 0) rfl rfl).trans ((Sbs.cut 0 rfl).trans (Sbs.mk rfl rfl ⟨rfl, rfl, rfl, rfl, rfl, by dsimp only; rw [hF0]; rfl, zeroI hΩ, trivial⟩))) ?_
  rintro ⟨i, c⟩ ⟨i1, i2, i3⟩
  dsimp only at i1 i2 i3
  have hFc := hFl c
  have hcat := hFat c
  have hok := ints_ok c
  rw [hFm c] at hok
  have hlt : ∀ {n : Nat}, Ω.cmp .lss (Ω.int i) (Ω.int (Ω.len cs)) = true → i < L := fun h => by have := ltI hΩ h; omega
  cbv
  refine br (fun h => ?_) (fun h => ?_) <;> cbv
  · have h := hlt (n := 0) h
    obtain ⟨nn, v1, v2, v3, sz, ps, ds, bs, hx, hg⟩ := hat i h
    have hx2 : cs[(Ω.int i).toNat]? = some (.agg [str nn, i64 v1, i64 v2, i64 v3, i64 sz, .sl false 1 ps, .sl false 1 ds, .sl false 7 bs]) := rdJ hΩ hx
    refine loopX htab hΩ (fun j : Nat × Bool => ⟨[(0, .sl false 8 cs), (1, .sl false 7 es), (2, .sl false 1 xs), (3, .sl false 1 zs), (4, .sl false 1 ys), (11, .sl false 1 (F c)), (12, i64 (Ω.int i)), (13, boo j.2), (14, i64 (Ω.int j.1))], 90, []⟩)
      (fun j => j.1 ≤ us.length) (fun j => us.length - j.1) (0, false) (Nat.zero_le _) (Sbs.mk rfl rfl ⟨rfl, rfl, rfl, rfl, rfl, rfl, rfl, rfl, zeroI hΩ, trivial⟩) ?_
    rintro ⟨j, b⟩ hj
    dsimp only at hj
    cbv
    refine br (fun h2 => ?_) (fun h2 => ?_) <;> cbv
    · replace h2 := ltI hΩ h2
      obtain ⟨u, hu⟩ := at_of (cs := us) (by omega : j < us.length)
      obtain ⟨g, hg⟩ := hg u
      refine ⟨VC_drawn htab hΩ hmo (by kernel_rfl) ?_⟩
      cbv
      refine br (fun h3 => ?_) (fun h3 => ?_) <;> cbv
      · exact ⟨(j + 1, true), by dsimp only; omega, by dsimp only; omega, Sbs.mk rfl rfl ⟨rfl, rfl, rfl, rfl, rfl, rfl, rfl, rfl, incI hΩ (by omega), trivial⟩⟩
      · refine ⟨⟨nnI hΩ⟩, _, hx2, ?_⟩
        cbv
        refine ⟨⟨nnI hΩ⟩, _, rdI hΩ hes hu, ?_⟩
        cbv
        refine QCall_pure (k := 3) hg rfl (fits _) rfl ?_
        cbv
        exact ⟨(j + 1, Ω.ite false true g), by dsimp only; omega, by dsimp only; omega, Sbs.mk rfl rfl ⟨rfl, rfl, rfl, rfl, rfl, rfl, rfl, rfl, incI hΩ (by omega), trivial⟩⟩
    · replace h2 := geI hΩ h2
      refine br (fun h3 => ?_) (fun h3 => ?_) <;> cbv
      · exact ⟨(i + 1, c), ⟨by dsimp only; omega, by dsimp only; omega, i3⟩, by dsimp only; omega, Sbs.mk rfl rfl ⟨rfl, rfl, rfl, rfl, rfl, rfl, incI hΩ (by omega), trivial⟩⟩
      · obtain ⟨g1, hg1⟩ := hhs (Ω.int i)
        obtain ⟨g2, hg2⟩ := hhd (Ω.int i)
        refine call_pure hΩ 3 hg1 rfl (fits _) rfl rfl ?_
        cbv
        refine br (fun h4 => ?_) (fun h4 => ?_) <;> cbv
        · exact ⟨(i + 1, c), ⟨by dsimp only; omega, by dsimp only; omega, i3⟩, by dsimp only; omega, Sbs.mk rfl rfl ⟨rfl, rfl, rfl, rfl, rfl, rfl, incI hΩ (by omega), trivial⟩⟩
        · refine call_pure hΩ 3 hg2 rfl (fits _) rfl rfl ?_
          cbv
          refine br (fun h4 => ?_) (fun h4 => ?_) <;> cbv
          · exact ⟨(i + 1, c), ⟨by dsimp only; omega, by dsimp only; omega, i3⟩, by dsimp only; omega, Sbs.mk rfl rfl ⟨rfl, rfl, rfl, rfl, rfl, rfl, incI hΩ (by omega), trivial⟩⟩
          · refine call_r hΩ 3 (hfit i h) rfl (fitsE (by subst hΩ; rfl)) (fun x ⟨g, hx⟩ => ?_)
            subst hx
            refine ⟨rfl, ?_⟩
            cbv
            refine br (fun h4 => ?_) (fun h4 => ?_) <;> cbv
            · exact ⟨(i + 1, c), ⟨by dsimp only; omega, by dsimp only; omega, i3⟩, by dsimp only; omega, Sbs.mk rfl rfl ⟨rfl, rfl, rfl, rfl, rfl, rfl, incI hΩ (by omega), trivial⟩⟩
            · refine loopX htab hΩ (fun n : Nat => ⟨[(0, .sl false 8 cs), (1, .sl false 7 es), (2, .sl false 1 xs), (3, .sl false 1 zs), (4, .sl false 1 ys), (11, .sl false 1 (F c)), (12, i64 (Ω.int i)), (15, i64 (Ω.int n))], 90, []⟩)
                (fun n => n ≤ c.length) (fun n => n) c.length (Nat.le_refl _) (Sbs.mk rfl rfl ⟨rfl, rfl, rfl, rfl, rfl, rfl, rfl, by rw [← hFc]; subst hΩ; rfl, trivial⟩) ?_
              intro n hn
              cbv
              refine br (fun h5 => ?_) (fun h5 => ?_) <;> cbv
              · have h5 : 0 < n := gtZ hΩ h5
                have e5 : Ω.ar .sub .i64 (Ω.int n) 1 = Ω.int (n - 1) := decJ hΩ h5 (by omega)
                obtain ⟨k, hk1, hk2⟩ := hcat (n - 1) (by omega)
                have hk3 := i3 k (List.mem_of_getElem? hk1)
                refine ⟨⟨by show 0 ≤ Ω.ar .sub .i64 (Ω.int n) 1; rw [e5]; exact nnI hΩ⟩, i64 k, by show (F c)[(Ω.ar .sub .i64 (Ω.int n) 1).toNat]? = some (i64 k); rw [e5]; exact rdJ hΩ hk2, ?_⟩
                cbv
                refine call_r hΩ 3 (hah i h k hk3.1 hk3.2) rfl (fitsE (by subst hΩ; rfl)) (fun x ⟨g, hx⟩ => ?_)
                subst hx
                refine ⟨rfl, ?_⟩
                cbv
                refine br (fun h6 => ?_) (fun h6 => ?_) <;> cbv
                · exact ⟨n - 1, by omega, by omega, Sbs.mk rfl rfl ⟨rfl, rfl, rfl, rfl, rfl, rfl, rfl, congrArg i64 e5, trivial⟩⟩
                · refine ⟨VC_order htab hΩ hmo [1, 2, 3, 5, 8, 9, 10] (.two 0 (.two 4 (.step 6 (.step 7 (.step 11 (.step 12 .fin)))) 6 (.step 4 (.step 7 (.step 11 (.step 12 .fin))))) 6 (.step 0 (.step 4 (.step 7 (.step 11 (.step 12 .fin)))))) (by kernel_rfl) ?_⟩
                  cbv
                  have e6 : Ω.nat (Ω.int n) = n := by subst hΩ; rfl
                  have e7 : Ω.len (F c) = c.length := by rw [← hFc]; subst hΩ; rfl
                  have q1 := segOK hΩ hok.1 hok.2 0 (Ω.nat (Ω.int n))
                  have q2 := segOK hΩ hok.1 hok.2 (Ω.nat (Ω.int n)) (Ω.len (F c))
                  have l1 : (Ω.seg 0 (Ω.nat (Ω.int n)) (F c)).length ≤ 1048576 := by subst hΩ; show (((F c).take n).drop 0).length ≤ _; simp; omega
                  have l2 : (Ω.seg (Ω.nat (Ω.int n)) (Ω.len (F c)) (F c)).length ≤ 1048576 := by subst hΩ; show (((F c).take (F c).length).drop n).length ≤ _; simp; omega
                  have l3 : Ω.plus 0 (Ω.len (Ω.seg 0 (Ω.nat (Ω.int n)) (F c))) ≤ 1048576 := by subst hΩ; show 0 + (((F c).take n).drop 0).length ≤ _; simp; omega
                  have l4 : Ω.plus (Ω.plus 0 (Ω.len (Ω.seg 0 (Ω.nat (Ω.int n)) (F c)))) 1 ≤ 1048577 := by subst hΩ; show 0 + (((F c).take n).drop 0).length + 1 ≤ _; simp; omega
                  have l5 : Ω.plus (Ω.plus 0 (Ω.len (Ω.seg 0 (Ω.nat (Ω.int n)) (F c)))) (Ω.len [i64 (Ω.int i)]) ≤ 1048577 := by subst hΩ; show 0 + (((F c).take n).drop 0).length + 1 ≤ _; simp; omega
                  have hall : ∀ q ∈ c.take n ++ [Ω.int i] ++ c.drop n, 0 ≤ q ∧ q < (L : Int) := fun q hq => by
                    rcases List.mem_append.1 hq with hq | hq
                    · rcases List.mem_append.1 hq with hq | hq
                      · exact i3 q (List.mem_of_mem_take hq)
                      · rw [List.mem_singleton.1 hq]; subst hΩ; exact ⟨Int.natCast_nonneg i, by show (i : Int) < L; omega⟩
                    · exact i3 q (List.mem_of_mem_drop hq)
                  have hlen2 : (c.take n ++ [Ω.int i] ++ c.drop n).length ≤ i + 1 := by simp; omega
                  have hnew := cand_new hF c (Ω.int i) n hn
                  refine ⟨⟨⟨trivial, nnI hΩ, Nat.zero_le _, by show Ω.nat (Ω.int n) ≤ (F c).length; omega⟩⟩, ⟨⟨nnI hΩ, trivial, by show Ω.nat (Ω.int n) ≤ Ω.len (F c); omega, by show Ω.len (F c) ≤ (F c).length; omega⟩⟩, ⟨?_, ?_⟩, ?_⟩
                  · exact ⟨⟨⟨q1.1, q1.2, by show (0 + (Ω.seg 0 (Ω.nat (Ω.int n)) (F c)).length) * 8 ≤ 140737488355328; omega, by show 0 + (Ω.seg 0 (Ω.nat (Ω.int n)) (F c)).length ≤ 9223372036854775807; omega⟩⟩, ⟨⟨rfl, okAll rfl, by show (Ω.plus 0 (Ω.len (Ω.seg 0 (Ω.nat (Ω.int n)) (F c))) + 1) * 8 ≤ 140737488355328; omega, by show Ω.plus 0 (Ω.len (Ω.seg 0 (Ω.nat (Ω.int n)) (F c))) + 1 ≤ 9223372036854775807; omega⟩⟩, ⟨⟨q2.1, q2.2, by show (Ω.plus (Ω.plus 0 (Ω.len (Ω.seg 0 (Ω.nat (Ω.int n)) (F c)))) (Ω.len [i64 (Ω.int i)]) + (Ω.seg (Ω.nat (Ω.int n)) (Ω.len (F c)) (F c)).length) * 8 ≤ 140737488355328; omega, by show Ω.plus (Ω.plus 0 (Ω.len (Ω.seg 0 (Ω.nat (Ω.int n)) (F c)))) (Ω.len [i64 (Ω.int i)]) + (Ω.seg (Ω.nat (Ω.int n)) (Ω.len (F c)) (F c)).length ≤ 9223372036854775807; omega⟩⟩, (i + 1, c.take n ++ [Ω.int i] ++ c.drop n), ⟨by dsimp only; omega, hlen2, hall⟩, by dsimp only; omega, (Sbs.thaw (r := 0) rfl rfl).trans ((Sbs.cut 0 rfl).trans (Sbs.mk rfl rfl ⟨rfl, rfl, rfl, rfl, rfl, by subst hΩ; exact congrArg (A.sl false 1) hnew, incI hΩ (by omega), trivial⟩))⟩
                  · exact ⟨⟨⟨q1.1, q1.2, by show (0 + (Ω.seg 0 (Ω.nat (Ω.int n)) (F c)).length) * 8 ≤ 140737488355328; omega, by show 0 + (Ω.seg 0 (Ω.nat (Ω.int n)) (F c)).length ≤ 9223372036854775807; omega⟩⟩, ⟨⟨Nat.le_refl _, by simp [noOwn], by simp [flat, A.cells, okCell], by show (Ω.plus 0 (Ω.len (Ω.seg 0 (Ω.nat (Ω.int n)) (F c))) + 1) * 8 ≤ 140737488355328; omega, by show Ω.plus 0 (Ω.len (Ω.seg 0 (Ω.nat (Ω.int n)) (F c))) + 1 ≤ 9223372036854775807; omega⟩⟩, ⟨⟨q2.1, q2.2, by show (Ω.plus (Ω.plus 0 (Ω.len (Ω.seg 0 (Ω.nat (Ω.int n)) (F c)))) 1 + (Ω.seg (Ω.nat (Ω.int n)) (Ω.len (F c)) (F c)).length) * 8 ≤ 140737488355328; omega, by show Ω.plus (Ω.plus 0 (Ω.len (Ω.seg 0 (Ω.nat (Ω.int n)) (F c)))) 1 + (Ω.seg (Ω.nat (Ω.int n)) (Ω.len (F c)) (F c)).length ≤ 9223372036854775807; omega⟩⟩, (i + 1, c.take n ++ [Ω.int i] ++ c.drop n), ⟨by dsimp only; omega, hlen2, hall⟩, by dsimp only; omega, (Sbs.thaw (r := 0) rfl rfl).trans ((Sbs.cut 0 rfl).trans (Sbs.mk rfl rfl ⟨rfl, rfl, rfl, rfl, rfl, by subst hΩ; exact congrArg (A.sl false 1) hnew, incI hΩ (by omega), trivial⟩))⟩
                  · exact ⟨⟨⟨q1.1, q1.2, by show (0 + (Ω.seg 0 (Ω.nat (Ω.int n)) (F c)).length) * 8 ≤ 140737488355328; omega, by show 0 + (Ω.seg 0 (Ω.nat (Ω.int n)) (F c)).length ≤ 9223372036854775807; omega⟩⟩, ⟨⟨Nat.le_refl _, by simp [noOwn], by simp [flat, A.cells, okCell], by show (Ω.plus 0 (Ω.len (Ω.seg 0 (Ω.nat (Ω.int n)) (F c))) + 1) * 8 ≤ 140737488355328; omega, by show Ω.plus 0 (Ω.len (Ω.seg 0 (Ω.nat (Ω.int n)) (F c))) + 1 ≤ 9223372036854775807; omega⟩⟩, ⟨⟨q2.1, q2.2, by show (Ω.plus (Ω.plus 0 (Ω.len (Ω.seg 0 (Ω.nat (Ω.int n)) (F c)))) 1 + (Ω.seg (Ω.nat (Ω.int n)) (Ω.len (F c)) (F c)).length) * 8 ≤ 140737488355328; omega, by show Ω.plus (Ω.plus 0 (Ω.len (Ω.seg 0 (Ω.nat (Ω.int n)) (F c)))) 1 + (Ω.seg (Ω.nat (Ω.int n)) (Ω.len (F c)) (F c)).length ≤ 9223372036854775807; omega⟩⟩, (i + 1, c.take n ++ [Ω.int i] ++ c.drop n), ⟨by dsimp only; omega, hlen2, hall⟩, by dsimp only; omega, (Sbs.thaw (r := 1) rfl rfl).trans ((Sbs.cut 0 rfl).trans (Sbs.mk rfl rfl ⟨rfl, rfl, rfl, rfl, rfl, by subst hΩ; exact congrArg (A.sl false 1) hnew, incI hΩ (by omega), trivial⟩))⟩
              · refine ⟨VC_order htab hΩ hmo [1, 2, 3, 5, 8, 9, 10] (.two 0 (.two 4 (.step 6 (.step 7 (.step 11 (.step 12 .fin)))) 6 (.step 4 (.step 7 (.step 11 (.step 12 .fin))))) 6 (.step 0 (.step 4 (.step 7 (.step 11 (.step 12 .fin)))))) (by kernel_rfl) ?_⟩
                cbv
                have e6 : Ω.nat (Ω.int n) = n := by subst hΩ; rfl
                have e7 : Ω.len (F c) = c.length := by rw [← hFc]; subst hΩ; rfl
                have q1 := segOK hΩ hok.1 hok.2 0 (Ω.nat (Ω.int n))
                have q2 := segOK hΩ hok.1 hok.2 (Ω.nat (Ω.int n)) (Ω.len (F c))
                have l1 : (Ω.seg 0 (Ω.nat (Ω.int n)) (F c)).length ≤ 1048576 := by subst hΩ; show (((F c).take n).drop 0).length ≤ _; simp; omega
                have l2 : (Ω.seg (Ω.nat (Ω.int n)) (Ω.len (F c)) (F c)).length ≤ 1048576 := by subst hΩ; show (((F c).take (F c).length).drop n).length ≤ _; simp; omega
                have l3 : Ω.plus 0 (Ω.len (Ω.seg 0 (Ω.nat (Ω.int n)) (F c))) ≤ 1048576 := by subst hΩ; show 0 + (((F c).take n).drop 0).length ≤ _; simp; omega
                have l4 : Ω.plus (Ω.plus 0 (Ω.len (Ω.seg 0 (Ω.nat (Ω.int n)) (F c)))) 1 ≤ 1048577 := by subst hΩ; show 0 + (((F c).take n).drop 0).length + 1 ≤ _; simp; omega
                have l5 : Ω.plus (Ω.plus 0 (Ω.len (Ω.seg 0 (Ω.nat (Ω.int n)) (F c)))) (Ω.len [i64 (Ω.int i)]) ≤ 1048577 := by subst hΩ; show 0 + (((F c).take n).drop 0).length + 1 ≤ _; simp; omega
                have hall : ∀ q ∈ c.take n ++ [Ω.int i] ++ c.drop n, 0 ≤ q ∧ q < (L : Int) := fun q hq => by
                  rcases List.mem_append.1 hq with hq | hq
                  · rcases List.mem_append.1 hq with hq | hq
                    · exact i3 q (List.mem_of_mem_take hq)
                    · rw [List.mem_singleton.1 hq]; subst hΩ; exact ⟨Int.natCast_nonneg i, by show (i : Int) < L; omega⟩
                  · exact i3 q (List.mem_of_mem_drop hq)
                have hlen2 : (c.take n ++ [Ω.int i] ++ c.drop n).length ≤ i + 1 := by simp; omega
                have hnew := cand_new hF c (Ω.int i) n hn
                refine ⟨⟨⟨trivial, nnI hΩ, Nat.zero_le _, by show Ω.nat (Ω.int n) ≤ (F c).length; omega⟩⟩, ⟨⟨nnI hΩ, trivial, by show Ω.nat (Ω.int n) ≤ Ω.len (F c); omega, by show Ω.len (F c) ≤ (F c).length; omega⟩⟩, ⟨?_, ?_⟩, ?_⟩
                · exact ⟨⟨⟨q1.1, q1.2, by show (0 + (Ω.seg 0 (Ω.nat (Ω.int n)) (F c)).length) * 8 ≤ 140737488355328; omega, by show 0 + (Ω.seg 0 (Ω.nat (Ω.int n)) (F c)).length ≤ 9223372036854775807; omega⟩⟩, ⟨⟨rfl, okAll rfl, by show (Ω.plus 0 (Ω.len (Ω.seg 0 (Ω.nat (Ω.int n)) (F c))) + 1) * 8 ≤ 140737488355328; omega, by show Ω.plus 0 (Ω.len (Ω.seg 0 (Ω.nat (Ω.int n)) (F c))) + 1 ≤ 9223372036854775807; omega⟩⟩, ⟨⟨q2.1, q2.2, by show (Ω.plus (Ω.plus 0 (Ω.len (Ω.seg 0 (Ω.nat (Ω.int n)) (F c)))) (Ω.len [i64 (Ω.int i)]) + (Ω.seg (Ω.nat (Ω.int n)) (Ω.len (F c)) (F c)).length) * 8 ≤ 140737488355328; omega, by show Ω.plus (Ω.plus 0 (Ω.len (Ω.seg 0 (Ω.nat (Ω.int n)) (F c)))) (Ω.len [i64 (Ω.int i)]) + (Ω.seg (Ω.nat (Ω.int n)) (Ω.len (F c)) (F c)).length ≤ 9223372036854775807; omega⟩⟩, (i + 1, c.take n ++ [Ω.int i] ++ c.drop n), ⟨by dsimp only; omega, hlen2, hall⟩, by dsimp only; omega, (Sbs.thaw (r := 0) rfl rfl).trans ((Sbs.cut 0 rfl).trans (Sbs.mk rfl rfl ⟨rfl, rfl, rfl, rfl, rfl, by subst hΩ; exact congrArg (A.sl false 1) hnew, incI hΩ (by omega), trivial⟩))⟩
                · exact ⟨⟨⟨q1.1, q1.2, by show (0 + (Ω.seg 0 (Ω.nat (Ω.int n)) (F c)).length) * 8 ≤ 140737488355328; omega, by show 0 + (Ω.seg 0 (Ω.nat (Ω.int n)) (F c)).length ≤ 9223372036854775807; omega⟩⟩, ⟨⟨Nat.le_refl _, by simp [noOwn], by simp [flat, A.cells, okCell], by show (Ω.plus 0 (Ω.len (Ω.seg 0 (Ω.nat (Ω.int n)) (F c))) + 1) * 8 ≤ 140737488355328; omega, by show Ω.plus 0 (Ω.len (Ω.seg 0 (Ω.nat (Ω.int n)) (F c))) + 1 ≤ 9223372036854775807; omega⟩⟩, ⟨⟨q2.1, q2.2, by show (Ω.plus (Ω.plus 0 (Ω.len (Ω.seg 0 (Ω.nat (Ω.int n)) (F c)))) 1 + (Ω.seg (Ω.nat (Ω.int n)) (Ω.len (F c)) (F c)).length) * 8 ≤ 140737488355328; omega, by show Ω.plus (Ω.plus 0 (Ω.len (Ω.seg 0 (Ω.nat (Ω.int n)) (F c)))) 1 + (Ω.seg (Ω.nat (Ω.int n)) (Ω.len (F c)) (F c)).length ≤ 9223372036854775807; omega⟩⟩, (i + 1, c.take n ++ [Ω.int i] ++ c.drop n), ⟨by dsimp only; omega, hlen2, hall⟩, by dsimp only; omega, (Sbs.thaw (r := 0) rfl rfl).trans ((Sbs.cut 0 rfl).trans (Sbs.mk rfl rfl ⟨rfl, rfl, rfl, rfl, rfl, by subst hΩ; exact congrArg (A.sl false 1) hnew, incI hΩ (by omega), trivial⟩))⟩
                · exact ⟨⟨⟨q1.1, q1.2, by show (0 + (Ω.seg 0 (Ω.nat (Ω.int n)) (F c)).length) * 8 ≤ 140737488355328; omega, by show 0 + (Ω.seg 0 (Ω.nat (Ω.int n)) (F c)).length ≤ 9223372036854775807; omega⟩⟩, ⟨⟨Nat.le_refl _, by simp [noOwn], by simp [flat, A.cells, okCell], by show (Ω.plus 0 (Ω.len (Ω.seg 0 (Ω.nat (Ω.int n)) (F c))) + 1) * 8 ≤ 140737488355328; omega, by show Ω.plus 0 (Ω.len (Ω.seg 0 (Ω.nat (Ω.int n)) (F c))) + 1 ≤ 9223372036854775807; omega⟩⟩, ⟨⟨q2.1, q2.2, by show (Ω.plus (Ω.plus 0 (Ω.len (Ω.seg 0 (Ω.nat (Ω.int n)) (F c)))) 1 + (Ω.seg (Ω.nat (Ω.int n)) (Ω.len (F c)) (F c)).length) * 8 ≤ 140737488355328; omega, by show Ω.plus (Ω.plus 0 (Ω.len (Ω.seg 0 (Ω.nat (Ω.int n)) (F c)))) 1 + (Ω.seg (Ω.nat (Ω.int n)) (Ω.len (F c)) (F c)).length ≤ 9223372036854775807; omega⟩⟩, (i + 1, c.take n ++ [Ω.int i] ++ c.drop n), ⟨by dsimp only; omega, hlen2, hall⟩, by dsimp only; omega, (Sbs.thaw (r := 1) rfl rfl).trans ((Sbs.cut 0 rfl).trans (Sbs.mk rfl rfl ⟨rfl, rfl, rfl, rfl, rfl, by subst hΩ; exact congrArg (A.sl false 1) hnew, incI hΩ (by omega), trivial⟩))⟩
  · exact ⟨_, ⟨c, rfl, by omega, i3⟩, .of (by rw [hFm]; rfl)⟩
end Go.Proofs.YtfacpamkigmlaaaGreat

/- Walks: the reference's solver. Plain theorems. -/
set_option linter.unusedVariables false
set_option linter.unusedSimpArgs false
namespace Go.Proofs.YtfacpamkigmlaaaGreat
open Go Go.Fw
set_option maxRecDepth 100000
theorem ro_vw2 {S : State} {k r off len n : Nat} {ys zs : List A} (hr : Fw.rowAt S.rows r = some ⟨n, ys, false⟩) (hf : ((ys.drop off).take len).map frz = zs) : roO S (k + 1) (.vw r off len) = some (.sl false n zs) := by
  simp only [roO, hr]
  rw [hf]
  rfl
theorem frz_frm (fs : List (Int × List Int)) : (fs.map frmA).map frz = fs.map frmA := by
  rw [List.map_map]; exact List.map_congr_left fun c _ => by show frz (.agg _) = A.agg _; rw [frz_agg]; show A.agg [frz (i64 c.1), frz (.sl false 1 (c.2.map i64))] = _; rw [frz_sl, frz_I]; rfl
/-- What the solver tells: a code, a count, a set. -/
def someS (x : A) : Prop := ∃ (c n : Int) (s : List Int), x = .agg [i64 c, i64 n, .sl false 1 (s.map i64)] ∧ s.length ≤ 1048576
theorem fitS1 (c n : Int) : FitX (.agg [i64 c, i64 n, .nil]) (.agg [i64 c, i64 n, .sl false 1 (([] : List Int).map i64)]) := ⟨2, by simp [fitA, fitA.fitL, i64]⟩
structure SolI (L B : Nat) (fs : List (Int × List Int)) (R : List A) (d : List Int) (n : Nat) : Prop where
  row : R.take fs.length = fs.map frmA
  le : fs.length ≤ R.length
  all : ∀ f ∈ fs, 0 ≤ f.1 ∧ f.1 < (L : Int) ∧ f.2.length + 1 ≤ n
  d : d.length ≤ n
  f : fs.length ≤ n
  n : n ≤ B
theorem eq_fI {Ω : Opq} (hΩ : Ω = std) {i j : Nat} (h : Ω.cmp .eql (Ω.int i) (Ω.int j) = false) : i ≠ j := by subst hΩ; exact fun e => eq_f h (by rw [e])
theorem solPush {Ω : Opq} (hΩ : Ω = std) {L B : Nat} {fs : List (Int × List Int)} {R : List A} {d : List Int} {n m : Nat} {k : Int} {z : A} (h : SolI L B fs R d n) (hm : fs.length = m) (hn : n + 1 ≤ B) (hk : 0 ≤ k ∧ k < (L : Int)) (hz : z = frmA (k, d)) :
    SolI L B (fs ++ [(k, d)]) (Ω.app (Ω.take m R) [z]) d (n + 1) := by
  subst hΩ hz
  have e : std.app (std.take m R) [frmA (k, d)] = (fs ++ [(k, d)]).map frmA := by
    show R.take m ++ [frmA (k, d)] = _
    rw [← hm, h.row, List.map_append]; rfl
  rw [e]
  refine ⟨List.take_of_length_le (by simp), by simp, fun f hf => ?_, by have := h.d; omega, by have := h.f; simp; omega, hn⟩
  rcases List.mem_append.1 hf with hf | hf
  · obtain ⟨h1, h2, h3⟩ := h.all f hf
    exact ⟨h1, h2, by omega⟩
  · rw [List.mem_singleton.1 hf]; exact ⟨hk.1, hk.2, by have := h.d; show d.length + 1 ≤ n + 1; omega⟩
theorem solPop {L B : Nat} {fs : List (Int × List Int)} {R : List A} {d e : List Int} {n m : Nat} {p : Int} (h : SolI L B fs R d n) (hm : fs.length = m) (he : e.length + 1 ≤ n) : SolI L B (fs.take (m - 1)) R (e ++ [p]) n := by
  subst hm
  have h1 := h.row
  have h2 := h.le
  have h3 := h.f
  refine ⟨?_, by rw [List.length_take]; omega, fun f hf => h.all f (List.mem_of_mem_take hf), by simpa using he, by rw [List.length_take]; omega, h.n⟩
  rw [List.map_take, ← h1, List.take_take, List.length_take]
theorem solNew {D : List Int → List A} (hD : D = fun s => s.map i64) (e : List Int) (p : Int) :
    (((((([] : List A).take 0 ++ D e).take (0 + (D e).length)) ++ [i64 p]).map frz).drop 0).take (0 + (D e).length + 1) = D (e ++ [p]) := by
  rw [hD]
  simp only [List.take_nil, List.nil_append, List.drop_zero, Nat.zero_add, List.take_length]
  rw [List.take_of_length_le (by simp)]
  rw [← frz_I (e ++ [p])]
  congr 1
  simp
theorem r_l4Solve (l : List Pck) (az : List Trm) (y : List Int) (B : Nat) (hl : l.length ≤ 1048576) (ha : az.length ≤ 1048576) (hy : y.length ≤ 1048576) (hB : B ≤ 1048575) (ho : ∀ o ∈ l, o.Small) :
    RCtr PP n_spec_l4Solve [encP l, .sl false 7 (az.map Trm.enc), .sl false 1 (y.map i64), i64 (B : Int)] someS := by
  obtain ⟨Ω, hΩ⟩ : ∃ Ω, Ω = std := ⟨_, rfl⟩
  have hB2 : i64 (B : Int) = i64 (Ω.int B) := by subst hΩ; rfl
  have hin : ∀ {fs : List (Int × List Int)}, (∀ f ∈ fs, 0 ≤ f.1 ∧ f.1 < (l.length : Int)) → ∀ k ∈ fs.map Prod.fst, inB k 0 ((l.length : Int) - 1) = true := fun h k hk => by
    obtain ⟨f, hf, rfl⟩ := List.mem_map.1 hk
    have := h f hf
    simp only [inB, Bool.and_eq_true, decide_eq_true_eq]; omega
  have hun := fun (fs : List (Int × List Int)) (h1 : fs.length ≤ 1048576) (h : ∀ f ∈ fs, 0 ≤ f.1 ∧ f.1 < (l.length : Int)) => r_l4Unmet l az (fs.map Prod.fst) hl (by rw [List.length_map]; exact h1) ha ho (hin h)
  have hca := fun (fs : List (Int × List Int)) (us : List Trm) (d : List Int) (h1 : fs.length ≤ 1048576) (h : ∀ f ∈ fs, 0 ≤ f.1 ∧ f.1 < (l.length : Int)) (h2 : us.length ≤ 1048576) (h3 : d.length ≤ 1048576) => r_l4Candidates l us (fs.map Prod.fst) d y hl h2 (by rw [List.length_map]; exact h1) h3 hy ho (hin h)
  have hch := fun (fs : List (Int × List Int)) (h1 : fs.length ≤ 1048576) => c_l4Chosen fs h1
  have hso : ∀ fs : List (Int × List Int), fs.length ≤ 1048576 → ∃ s : List Int, s.length ≤ 1048576 ∧ PCtr PP n_spec_l4Sorted [.sl false 1 ((fs.map Prod.fst).map i64)] (.sl true 1 (s.map i64)) := fun fs h => ⟨_, by rw [sortU_len, List.length_map]; exact h, c_l4Sorted _ (by rw [List.length_map]; exact h)⟩
  obtain ⟨L, hL⟩ : ∃ L, L = l.length := ⟨_, rfl⟩
  unfold encP at *
  obtain ⟨cs, hcs⟩ : ∃ cs, cs = l.map (Pck.enc false) := ⟨_, rfl⟩
  rw [← hcs] at hun hca ⊢
  rw [← hL] at hun hca
  obtain ⟨C, hC⟩ : ∃ C : List (Int × List Int) → List A, C = fun fs => (fs.map Prod.fst).map i64 := ⟨_, rfl⟩
  have hCm : ∀ fs : List (Int × List Int), (fs.map Prod.fst).map i64 = C fs := fun fs => by rw [hC]
  have hCz : ∀ fs : List (Int × List Int), frz (.sl true 1 (C fs)) = .sl false 1 (C fs) := fun fs => by rw [hC]; rw [frz_sl]; exact congrArg _ (frz_I _)
  have hCr : ∀ fs : List (Int × List Int), roFree (.sl true 1 (C fs)) = true := fun fs => by rw [hC]; exact roF_I _
  obtain ⟨D, hD⟩ : ∃ D : List Int → List A, D = fun s => s.map i64 := ⟨_, rfl⟩
  have hDm : ∀ s : List Int, s.map i64 = D s := fun s => by rw [hD]
  have hDz : ∀ s : List Int, frz (.sl true 1 (D s)) = .sl false 1 (D s) := fun s => by rw [hD]; rw [frz_sl]; exact congrArg _ (frz_I _)
  have hDr : ∀ s : List Int, roFree (.sl true 1 (D s)) = true := fun s => by rw [hD]; exact roF_I _
  have hD0 : D [] = [] := by rw [hD]; rfl
  obtain ⟨E, hE⟩ : ∃ E : List (Int × List Int) → List A, E = fun fs => fs.map frmA := ⟨_, rfl⟩
  have hEz : ∀ fs : List (Int × List Int), (E fs).map frz = E fs := fun fs => by rw [hE]; exact frz_frm fs
  have hrow : ∀ {S : State} {fs : List (Int × List Int)} {R : List A}, R.take fs.length = E fs → Fw.rowAt S.rows 1 = some ⟨2, R, false⟩ → roO S 3 (.vw 1 0 fs.length) = some (.sl false 2 (E fs)) := fun h h1 => ro_vw2 h1 (by rw [List.drop_zero, h, hEz])
  rw [hB2]
  simp only [hCm, hDm] at hun hca hch hso ⊢
  replace hch : ∀ fs : List (Int × List Int), fs.length ≤ 1048576 → PCtr PP n_spec_l4Chosen [.sl false 2 (E fs)] (.sl true 1 (C fs)) := fun fs h => by rw [hE]; exact hch fs h
  obtain ⟨es, hes⟩ : ∃ es, es = az.map Trm.enc := ⟨_, rfl⟩
  rw [← hes] at hun ⊢
  generalize D y = ys at *
  have htab := tab
  have hmo := hmo
  refine RCtr.walk tab hΩ fn_spec_l4Solve rfl ?_
  generalize PP = P at *
  cbv
  refine loopX htab hΩ (fun i : List (Int × List Int) × List A × List Int × Nat => ⟨[(0, .sl false 8 cs), (1, .sl false 7 es), (2, .sl false 1 ys), (3, i64 (Ω.int B)), (8, .pt 0 0 0), (9, .vw 1 0 i.1.length), (10, .sl false 1 (D i.2.2.1)), (11, i64 (Ω.int i.2.2.2))], 79, [some ⟨3, [.agg [i64 0, i64 0, .nil]], true⟩, some ⟨2, i.2.1, false⟩]⟩)
    (fun i => SolI L B i.1 i.2.1 i.2.2.1 i.2.2.2) (fun i => 2 * (B - i.2.2.2) + i.1.length) ([], [], [], 0) ⟨rfl, Nat.le_refl _, by simp, Nat.le_refl _, Nat.le_refl _, Nat.zero_le _⟩
    ((Sbs.thaw (r := 2) rfl rfl).trans ((Sbs.cut 2 rfl).trans (Sbs.mk rfl rfl ⟨rfl, rfl, rfl, rfl, rfl, rfl, by dsimp only; rw [hD0]; rfl, zeroI hΩ, trivial⟩))) ?_
  rintro ⟨fs, R, d, n⟩ hI
  dsimp only at hI
  have hfl : fs.length ≤ 1048576 := by have := hI.f; have := hI.n; omega
  have hdl : d.length ≤ 1048576 := by have := hI.d; have := hI.n; omega
  have hfa : ∀ f ∈ fs, 0 ≤ f.1 ∧ f.1 < (L : Int) := fun f hf => ⟨(hI.all f hf).1, (hI.all f hf).2.1⟩
  have hun := hun fs hfl hfa
  have hca := fun us h2 => hca fs us d hfl hfa h2 hdl
  have hch := hch fs hfl
  obtain ⟨sr, hsr, hso⟩ := hso fs hfl
  have hR := hI.row
  rw [show fs.map frmA = E fs by rw [hE]] at hR
  obtain ⟨m, hm⟩ : ∃ m, fs.length = m := ⟨_, rfl⟩
  have hrw : ∀ {S : State}, Fw.rowAt S.rows 1 = some ⟨2, R, false⟩ → roO S 3 (.vw 1 0 m) = some (.sl false 2 (E fs)) := fun h1 => hm ▸ hrow hR h1
  dsimp only
  rw [hm] at hR hfl ⊢
  have hCz := hCz fs
  have hCr := hCr fs
  have hDz := hDz sr
  have hDr := hDr sr
  cbv
  refine call_pf hΩ 3 hch (mapO1 (hrw rfl)) (fits _) hCr hCz rfl ?_
  cbv
  refine call_r hΩ 3 hun rfl (fits _) (fun x ⟨us, hx, hul⟩ => ?_)
  subst hx
  refine ⟨rfl, ?_⟩
  have hca := hca us hul
  generalize us.map Trm.enc = uz at hca ⊢
  cbv
  refine br (fun h => ?_) (fun h => ?_) <;> cbv
  · refine call_pf hΩ 3 hso rfl (fits _) hDr hDz rfl ?_
    cbv
    refine ⟨_, ⟨0, Ω.int n, sr, rfl, hsr⟩, ?_⟩
    rw [hDm]
    cbv
    exact .same
  · refine call_r hΩ 3 hca rfl (fits _) (fun x ⟨ks, hx, hkl, hks⟩ => ?_)
    subst hx
    refine ⟨rfl, ?_⟩
    rw [hDm]
    have h0 : 0 < Ω.len (D ks) → ∃ k, ks[0]? = some k ∧ (D ks)[Int.toNat 0]? = some (i64 k) := fun h => by
      have e : Ω.len (D ks) = ks.length := by rw [← hDm]; subst hΩ; exact List.length_map _
      obtain ⟨k, hk⟩ := at_of (cs := ks) (i := 0) (by omega)
      exact ⟨k, hk, by rw [← hDm]; show (ks.map i64)[0]? = _; rw [List.getElem?_map, hk]; rfl⟩
    cbv
    refine br (fun hgt => ?_) (fun hgt => ?_) <;> cbv
    · refine br (fun h => ?_) (fun h => ?_) <;> cbv
      · exact ⟨_, ⟨7, Ω.int n, [], rfl, Nat.zero_le _⟩, fitS1 7 (Ω.int n)⟩
      · have hnB : n ≠ B := fun e => by have := eq_fI hΩ h; exact this e
        obtain ⟨k0, hk0, hk1⟩ := h0 (gtZ hΩ hgt)
        have hk2 := hks k0 (List.mem_of_getElem? hk0)
        have hnn := hI.n
        refine ⟨⟨Int.le_refl _⟩, _, hk1, ?_⟩
        cbv
        have hS : SolI L B (fs ++ [(k0, d)]) (Ω.app (Ω.take m R) [.agg [i64 k0, .sl false 1 (D d)]]) d (n + 1) := by
          refine solPush hΩ hI hm (by omega) hk2 ?_
          rw [← hDm]; rfl
        exact ⟨⟨rfl, okAll rfl, by show (m + 1) * 32 ≤ 140737488355328; omega, by show m + 1 ≤ 9223372036854775807; omega⟩, (fs ++ [(k0, d)], Ω.app (Ω.take m R) [.agg [i64 k0, .sl false 1 (D d)]], d, n + 1), hS, by dsimp only; rw [List.length_append, hm, List.length_singleton]; omega, (Sbs.cut 2 rfl).trans (Sbs.mk rfl rfl ⟨rfl, rfl, rfl, rfl, rfl, by dsimp only; rw [List.length_append, hm]; subst hΩ; rfl, rfl, incI hΩ (by omega), trivial⟩)⟩
    · refine br (fun h => ?_) (fun h => ?_) <;> cbv
      · exact ⟨_, ⟨4, Ω.int n, [], rfl, Nat.zero_le _⟩, fitS1 4 (Ω.int n)⟩
      · have hm0 : 0 < m := by
          rcases Nat.eq_zero_or_pos m with e | e
          · exact absurd (by rw [e]; subst hΩ; rfl : Ω.int m = 0) (by have := h; subst hΩ; exact eq_f this)
          · exact e
        have e5 : Ω.ar .sub .i64 (Ω.int m) 1 = Ω.int (m - 1) := decJ hΩ hm0 (by omega)
        obtain ⟨⟨p, e⟩, hf⟩ := at_of (cs := fs) (i := m - 1) (by omega)
        have hRf : R[m - 1]? = some (.agg [i64 p, .sl false 1 (D e)]) := by
          have h1 : (R.take m)[m - 1]? = R[m - 1]? := List.getElem?_take_of_lt (by omega)
          rw [← h1, hR, hE, ← hDm]; simp only [List.getElem?_map, hf]; rfl
        have hfm := hI.all _ (List.mem_of_getElem? hf)
        refine ⟨⟨by show 0 ≤ Ω.ar .sub .i64 (Ω.int m) 1 ∧ Ω.ar .sub .i64 (Ω.int m) 1 < (m : Int); rw [e5]; exact ixI hΩ (by omega)⟩, .agg [i64 p, .sl false 1 (D e)], by show R[Ω.plus 0 (Ω.nat (Ω.ar .sub .i64 (Ω.int m) 1))]? = _; rw [e5]; exact atI hΩ hRf, ?_⟩
        cbv
        have e6 : Ω.nat (Ω.ar .sub .i64 (Ω.int m) 1) = m - 1 := by rw [e5]; subst hΩ; rfl
        refine ⟨⟨trivial, by show 0 ≤ Ω.ar .sub .i64 (Ω.int m) 1; rw [e5]; exact nnI hΩ, Nat.zero_le _, by show Ω.nat (Ω.ar .sub .i64 (Ω.int m) 1) ≤ m; omega⟩, ?_⟩
        refine ⟨VC_lord htab hΩ hmo [1, 2, 4, 5] (.two 0 (.two 3 (.step 6 (.step 7 (.step 8 .fin))) 6 (.step 3 (.step 7 (.step 8 .fin)))) 6 (.step 0 (.step 3 (.step 7 (.step 8 .fin))))) [2] [] (by kernel_rfl) ?_⟩
        cbv
        intro vs
        cbv
        have hok := ints_ok e
        rw [hDm] at hok
        have hel : (D e).length ≤ 1048576 := by rw [← hDm, List.length_map]; have := hfm.2.2; have := hI.n; dsimp only at *; omega
        have hpl : Ω.plus 0 (Ω.len (D e)) ≤ 1048576 := by subst hΩ; show 0 + (D e).length ≤ _; omega
        have hnew := solNew hD e p
        have hS : SolI L B (fs.take (m - 1)) R (e ++ [p]) n := solPop hI hm hfm.2.2
        have hvw : A.vw 1 (Ω.plus 0 0) (Ω.minus (Ω.nat (Ω.ar .sub .i64 (Ω.int m) 1)) 0) = .vw 1 0 (fs.take (m - 1)).length := by rw [e6, List.length_take, hm, Nat.min_eq_left (by omega)]; subst hΩ; rfl
        refine ⟨⟨?_, ?_⟩, ?_⟩
        · exact ⟨⟨hok.1, hok.2, by show (0 + (D e).length) * 8 ≤ 140737488355328; omega, by show 0 + (D e).length ≤ 9223372036854775807; omega⟩, ⟨rfl, okAll rfl, by show (Ω.plus 0 (Ω.len (D e)) + 1) * 8 ≤ 140737488355328; omega, by show Ω.plus 0 (Ω.len (D e)) + 1 ≤ 9223372036854775807; omega⟩, (fs.take (m - 1), R, e ++ [p], n), hS, by dsimp only; rw [List.length_take, hm]; omega, (Sbs.thaw (r := 3) rfl rfl).trans ((Sbs.cut 2 rfl).trans (Sbs.mk rfl rfl ⟨rfl, rfl, rfl, rfl, rfl, hvw, by subst hΩ; exact congrArg (A.sl false 1) hnew, rfl, trivial⟩))⟩
        · exact ⟨⟨hok.1, hok.2, by show (0 + (D e).length) * 8 ≤ 140737488355328; omega, by show 0 + (D e).length ≤ 9223372036854775807; omega⟩, ⟨Nat.le_refl _, by simp [noOwn], by simp [flat, A.cells, okCell], by show (Ω.plus 0 (Ω.len (D e)) + 1) * 8 ≤ 140737488355328; omega, by show Ω.plus 0 (Ω.len (D e)) + 1 ≤ 9223372036854775807; omega⟩, (fs.take (m - 1), R, e ++ [p], n), hS, by dsimp only; rw [List.length_take, hm]; omega, (Sbs.thaw (r := 3) rfl rfl).trans ((Sbs.cut 2 rfl).trans (Sbs.mk rfl rfl ⟨rfl, rfl, rfl, rfl, rfl, hvw, by subst hΩ; exact congrArg (A.sl false 1) hnew, rfl, trivial⟩))⟩
        · exact ⟨⟨hok.1, hok.2, by show (0 + (D e).length) * 8 ≤ 140737488355328; omega, by show 0 + (D e).length ≤ 9223372036854775807; omega⟩, ⟨Nat.le_refl _, by simp [noOwn], by simp [flat, A.cells, okCell], by show (Ω.plus 0 (Ω.len (D e)) + 1) * 8 ≤ 140737488355328; omega, by show Ω.plus 0 (Ω.len (D e)) + 1 ≤ 9223372036854775807; omega⟩, (fs.take (m - 1), R, e ++ [p], n), hS, by dsimp only; rw [List.length_take, hm]; omega, (Sbs.thaw (r := 4) rfl rfl).trans ((Sbs.cut 2 rfl).trans (Sbs.mk rfl rfl ⟨rfl, rfl, rfl, rfl, rfl, hvw, by subst hΩ; exact congrArg (A.sl false 1) hnew, rfl, trivial⟩))⟩
end Go.Proofs.YtfacpamkigmlaaaGreat

/- Walks: draws of catalogs with sets. Plain theorems. -/
set_option linter.unusedVariables false
set_option linter.unusedSimpArgs false
namespace Go.Proofs.YtfacpamkigmlaaaGreat
open Go Go.Fw
set_option maxRecDepth 100000
theorem call_d0 {P : Program} {S : State} {Ω : Opq} (hΩ : Ω = std) (k : Nat) {g : Nat} {args : List A} {R : A → List A → Prop} {K : A → State → Prop} (hc : XCtr P g args R) (hd : args.all isData = true) (hn : args.all noOwn = true)
    (h : ∀ x outs, R x outs → outs = args ∧ noOwn (rootO Ω k S x).1 = true ∧ K (rootO Ω k S x).1 (rootO Ω k S x).2) : CallX P g args S K :=
  call_rel hΩ k hc [] (by simp) ⟨_, mutL_data hd hn⟩ fun x outs hR => let ⟨h1, h2, h3⟩ := h x outs hR; ⟨[], rfl, by rw [h1]; exact mutL_data hd hn, h2, h3⟩
theorem c_l1Source (bs : List A) : PCtr PP n_spec_l1Source [.sl false 1 bs] (src bs 0) := by
  obtain ⟨Ω, hΩ⟩ : ∃ Ω, Ω = std := ⟨_, rfl⟩
  have htab := tab
  refine PCtr.walk tab hΩ fn_spec_l1Source rfl ?_
  generalize PP = P at *
  cbv
  exact .same
/-- A draw of what is told apart from its source. -/
def D0 (bs : List A) (Q : A → Prop) : A → List A → Prop := fun x o => o = [.sl false 1 bs] ∧ Q x
end Go.Proofs.YtfacpamkigmlaaaGreat

/- Walks: draws of what is asked; sets that hold. Plain theorems. -/
set_option linter.unusedVariables false
set_option linter.unusedSimpArgs false
namespace Go.Proofs.YtfacpamkigmlaaaGreat
open Go Go.Fw
set_option maxRecDepth 100000
/-- Some terms, held alone. -/
def ownTs (n : Nat) (x : A) : Prop := ∃ ts : List Trm, x = .sl true 7 (ts.map Trm.enc) ∧ ts.length ≤ n
theorem frz_T (ts : List Trm) : (ts.map Trm.enc).map frz = ts.map Trm.enc := by rw [List.map_map]; exact List.map_congr_left fun c _ => rfl
theorem d_l3Asks {bs : List A} (hb : Src bs) (p : Int) (h0 : 0 ≤ p) (h1 : p + 60 ≤ 1099511627776) : XCtr PP n_spec_l3Asks [src bs p] (DR bs p 60 [] (ownTs 4)) := by
  obtain ⟨Ω, hΩ⟩ : ∃ Ω, Ω = std := ⟨_, rfl⟩
  have hC := fun p n a b c => d_l1Chance hb p n a b c
  have hP := fun p ns a b c d => d_l1Pick hb p ns a b c d
  have hT := fun p a b => d_l1Term hb p a b
  have hB := fun p a b => d_l1BentTerm hb p a b
  obtain ⟨F, hF⟩ : ∃ F : List Trm → List A, F = fun s => s.map Trm.enc := ⟨_, rfl⟩
  have hF0 : F [] = [] := by rw [hF]; rfl
  have hFl : ∀ s, (F s).length = s.length := fun s => by rw [hF]; exact List.length_map _
  have hFs : ∀ (s : List Trm) (t : Trm), Ω.app (Ω.take s.length (F s)) [t.enc] = F (s ++ [t]) := fun s t => by
    subst hΩ; rw [hF]; show List.take s.length (List.map Trm.enc s) ++ _ = List.map Trm.enc (s ++ [t])
    rw [List.map_append, List.take_of_length_le (by simp)]; rfl
  have hFt : ∀ s, A.sl true 7 (Ω.take s.length (F s)) = .sl true 7 (s.map Trm.enc) := fun s => by
    subst hΩ; rw [hF]; exact congrArg _ (List.take_of_length_le (by simp))
  have hFt0 : ∀ s m, s.length = m → A.sl true 7 (Ω.take m (F s)) = .sl true 7 (s.map Trm.enc) := fun s m h => by rw [← h, hFt]
  have hFt1 : ∀ s t m X, s.length = m → X = t.enc → A.sl true 7 (Ω.take (Ω.plus m (Ω.len [X])) (Ω.app (Ω.take m (F s)) [X])) = .sl true 7 ((s ++ [t]).map Trm.enc) := fun s t m X h e => by
    rw [← h, e, hFs, ← hFt]; congr 2; subst hΩ; rw [List.length_append]; rfl
  have hFle : ∀ s {m} {X : A}, s.length = m → Ω.plus m (Ω.len [X]) ≤ (Ω.app (Ω.take m (F s)) [X]).length := fun s {m X} h => by
    subst hΩ; show m + 1 ≤ (List.take m (F s) ++ [X]).length
    rw [List.take_of_length_le (by rw [hFl]; omega), List.length_append, hFl]; show m + 1 ≤ s.length + 1; omega
  clear hF
  have htab := tab
  have hmo := hmo
  refine XCtr.walkO tab hΩ 3 fn_spec_l3Asks rfl rfl ?_
  generalize PP = P at *
  cbv
  refine call_pick (ns := [0, 1, 1, 2, 3]) hΩ (hP _ _ (by omega) (by omega) (Nat.zero_lt_succ _) (Nat.le_of_ble_eq_true rfl)) rfl rfl rfl rfl (by decide) (fun q1 n q1a q1b hn => ?_)
  replace hn : 0 ≤ n ∧ n ≤ 3 := by simp at hn; omega
  cbv
  refine loopX htab hΩ (fun i : Int × Int × List Trm => ⟨[(0, .pt 0 0 0), (3, .vw 1 0 i.2.2.length), (4, i64 i.1), (26, .pt 0 0 0)], 26, [some ⟨2, [.agg [.sl false 1 bs, i64 i.2.1]], true⟩, some ⟨7, F i.2.2, false⟩]⟩)
    (fun i => 0 ≤ i.1 ∧ i.1 ≤ 3 ∧ p ≤ i.2.1 ∧ i.2.1 + 9 * i.1 ≤ p + 30 ∧ (i.2.2.length : Int) + i.1 ≤ 3) (fun i => i.1.toNat) (n, q1, [])
    ⟨by dsimp only; omega, by dsimp only; omega, by dsimp only; omega, by dsimp only; omega, by show ((0 : Nat) : Int) + n ≤ 3; omega⟩ ((Sbs.cut 2 rfl).trans (Sbs.mk rfl (by show _ = [_, some (Row.mk 7 (F []) false)]; rw [hF0]; rfl) ⟨rfl, rfl, rfl, rfl, trivial⟩)) ?_
  rintro ⟨k, q, s⟩ ⟨i1, i2, i3, i4, i5⟩
  dsimp only at i1 i2 i3 i4 i5
  have hFli := hFl s
  obtain ⟨m, hm⟩ : ∃ m, s.length = m := ⟨_, rfl⟩
  have hrows : ∀ {R0 : Option Row} {X : A} {t : Trm}, X = t.enc → [R0, some (Row.mk 7 (Ω.app (Ω.take m (F s)) [X]) false)] = [R0, some (Row.mk 7 (F (s ++ [t])) false)] := fun {R0 X t} h => by rw [h, ← hm, hFs]
  have hvw : ∀ {X : A} {t : Trm}, A.vw 1 0 (Ω.plus m (Ω.len [X])) = .vw 1 0 (s ++ [t]).length := fun {X t} => by subst hΩ; rw [List.length_append, hm]; rfl
  have hsl : ∀ t : Trm, (((s ++ [t]).length : Nat) : Int) + (k - 1) ≤ 3 := fun t => by rw [List.length_append, List.length_singleton]; omega
  have hm3 : m ≤ 3 := by omega
  have hk1 : k ≤ 4611686018427387904 := by omega
  have hqb : q + 9 * (k - 1) + 9 ≤ p + 30 := by omega
  have hs4 : ∀ t : Trm, (s ++ [t]).length ≤ 4 := fun t => by rw [List.length_append, List.length_singleton, hm]; omega
  have hqq : q + 9 ≤ 1099511627776 := by omega
  have hq1 : q + 1 ≤ p + 31 := by omega
  have hqk : q ≤ p + 30 := by omega
  rw [hm] at hFli i5 ⊢
  cbv
  refine br (fun hk => ?_) (fun hk => ?_) <;> cbv
  · have hk : 0 < k := by subst hΩ; exact gt_t hk
    refine call_dr false hΩ 3 (hT _ (by omega) (by omega)) rfl rfl rfl (fun q2 x q2a q2b ⟨t, hx⟩ => ?_)
    have hq2 : q2 + 9 * (k - 1) ≤ p + 30 := by omega
    obtain ⟨tn, ⟨ta, tb, tc⟩, ⟨td, te, tf⟩⟩ := t
    subst hx
    cbv
    exact ⟨⟨rfl, okAll rfl, by show (m + 1) * 64 ≤ 140737488355328; omega, by show m + 1 ≤ 9223372036854775807; omega⟩, (k - 1, q2, s ++ [(⟨tn, ⟨ta, tb, tc⟩, ⟨td, te, tf⟩⟩ : Trm)]), ⟨by dsimp only; omega, by dsimp only; omega, by dsimp only; omega, hq2, hsl _⟩, by dsimp only; omega, (Sbs.cut 2 rfl).trans (Sbs.mk rfl (hrows (by rfl)) ⟨rfl, hvw, decI hΩ (by omega) hk1, rfl, trivial⟩)⟩
  · refine call_dr false hΩ 3 (hC _ _ (by omega) (by omega) (by omega)) rfl rfl rfl (fun q2 x q2a q2b ⟨c, hx⟩ => ?_)
    subst hx
    cbv
    refine br (fun hc => ?_) (fun hc => ?_) <;> cbv
    · refine call_dr false hΩ 3 (hB _ (by omega) (by omega)) rfl rfl rfl (fun q3 x q3a q3b ⟨t, hx⟩ => ?_)
      obtain ⟨tn, ⟨ta, tb, tc⟩, ⟨td, te, tf⟩⟩ := t
      subst hx
      cbv
      exact ⟨⟨rfl, okAll rfl, by show (m + 1) * 64 ≤ 140737488355328; omega, by show m + 1 ≤ 9223372036854775807; omega⟩, ⟨rfl, hFle _ hm⟩, _, _, .of (hFt1 s (⟨tn, ⟨ta, tb, tc⟩, ⟨td, te, tf⟩⟩ : Trm) m _ hm rfl), .same, ⟨q3, by omega, by omega, rfl, _, rfl, hs4 _⟩, rfl⟩
    · exact ⟨⟨rfl, by show m ≤ (F s).length; omega⟩, _, _, .of (hFt0 s m hm), .same, ⟨q2, by omega, by omega, rfl, s, rfl, by omega⟩, rfl⟩
theorem d_l3Ask {bs : List A} (hb : Src bs) (l : List Pck) (hl : l.length ≤ 40) (p : Int) (h0 : 0 ≤ p) (h1 : p + 10 ≤ 1099511627776) : XCtr PP n_spec_l3Ask [src bs p, encP l] (DR bs p 10 [encP l] (ownTs 4)) := by
  obtain ⟨Ω, hΩ⟩ : ∃ Ω, Ω = std := ⟨_, rfl⟩
  have hN := fun p n a b c => d_l1Next hb p n a b c
  have hA := fun n => d_AnyTerm n
  obtain ⟨N, hNN⟩ : ∃ N : Int, N = (l.length : Int) := ⟨_, rfl⟩
  have hN40 : N ≤ 40 := by omega
  have hat : ∀ r : Int, 0 ≤ r → r < N → ∃ nm v1 v2 v3 sz ps ds bs, (l.map (Pck.enc false))[r.toNat]? = some (.agg [str nm, i64 v1, i64 v2, i64 v3, i64 sz, .sl false 1 ps, .sl false 1 ds, .sl false 7 bs]) := fun r a b => by
    obtain ⟨h0, h1, h2, h3⟩ := pk_at (c := l) (k := r) (by simp only [inB, Bool.and_eq_true, decide_eq_true_eq]; omega)
    obtain ⟨ps, ds, bs, hen, hp, hd, hb⟩ := enc_raw (pk l r)
    exact ⟨_, _, _, _, _, ps, ds, bs, by rw [List.getElem?_map, h2]; exact congrArg some hen⟩
  obtain ⟨xs, hxs⟩ : ∃ xs, xs = l.map (Pck.enc false) := ⟨_, rfl⟩
  have hxl : Ω.int (Ω.len xs) = N := by rw [hxs, hNN]; subst hΩ; show ((l.map _).length : Int) = _; rw [List.length_map]
  unfold encP
  rw [← hxs] at hat ⊢
  obtain ⟨F, hF⟩ : ∃ F : List Trm → List A, F = fun s => s.map Trm.enc := ⟨_, rfl⟩
  have hF0 : F [] = [] := by rw [hF]; rfl
  have hFl : ∀ s, (F s).length = s.length := fun s => by rw [hF]; exact List.length_map _
  have hFs : ∀ (s : List Trm) (t : Trm), Ω.app (Ω.take s.length (F s)) [t.enc] = F (s ++ [t]) := fun s t => by
    subst hΩ; rw [hF]; show List.take s.length (List.map Trm.enc s) ++ _ = List.map Trm.enc (s ++ [t])
    rw [List.map_append, List.take_of_length_le (by simp)]; rfl
  have hFt : ∀ s, A.sl true 7 (Ω.take s.length (F s)) = .sl true 7 (s.map Trm.enc) := fun s => by
    subst hΩ; rw [hF]; exact congrArg _ (List.take_of_length_le (by simp))
  have hFt0 : ∀ s m, s.length = m → A.sl true 7 (Ω.take m (F s)) = .sl true 7 (s.map Trm.enc) := fun s m h => by rw [← h, hFt]
  clear hF hxs
  have htab := tab
  have hmo := hmo
  refine XCtr.walkO tab hΩ 3 fn_spec_l3Ask rfl rfl ?_
  generalize PP = P at *
  cbv
  refine call_dr false hΩ 3 (hN _ 3 (by omega) (by omega) (by omega)) rfl rfl rfl (fun q1 x q1a q1b ⟨r0, hx, hr0⟩ => ?_)
  subst hx
  have hr0 := hr0.2 (by omega)
  have he0 : Ω.ar .add .i64 1 r0 = 1 + r0 := by subst hΩ; exact wrap64 (by omega) (by omega)
  cbv
  refine loopX htab hΩ (fun i : Int × Int × List Trm => ⟨[(0, .pt 0 0 0), (1, .sl false 8 xs), (5, .vw 1 0 i.2.2.length), (6, i64 i.1), (33, .pt 0 0 0), (34, .sl false 8 xs)], 33, [some ⟨2, [.agg [.sl false 1 bs, i64 i.2.1]], true⟩, some ⟨7, F i.2.2, false⟩]⟩)
    (fun i => 0 ≤ i.1 ∧ i.1 ≤ 3 ∧ p ≤ i.2.1 ∧ i.2.1 + i.1 ≤ p + 5 ∧ (i.2.2.length : Int) + i.1 ≤ 3) (fun i => i.1.toNat) (1 + r0, q1, [])
    ⟨by dsimp only; omega, by dsimp only; omega, by dsimp only; omega, by dsimp only; omega, by show ((0 : Nat) : Int) + (1 + r0) ≤ 3; omega⟩ ((Sbs.cut 2 rfl).trans (Sbs.mk rfl (by show _ = [_, some (Row.mk 7 (F []) false)]; rw [hF0]; rfl) ⟨rfl, rfl, rfl, congrArg i64 he0, rfl, rfl, trivial⟩)) ?_
  rintro ⟨k, q, s⟩ ⟨i1, i2, i3, i4, i5⟩
  dsimp only at i1 i2 i3 i4 i5
  have hFli := hFl s
  obtain ⟨m, hm⟩ : ∃ m, s.length = m := ⟨_, rfl⟩
  have hrows : ∀ {R0 : Option Row} {X : A} {t : Trm}, X = t.enc → [R0, some (Row.mk 7 (Ω.app (Ω.take m (F s)) [X]) false)] = [R0, some (Row.mk 7 (F (s ++ [t])) false)] := fun {R0 X t} h => by rw [h, ← hm, hFs]
  have hvw : ∀ {X : A} {t : Trm}, A.vw 1 0 (Ω.plus m (Ω.len [X])) = .vw 1 0 (s ++ [t]).length := fun {X t} => by subst hΩ; rw [List.length_append, hm]; rfl
  have hsl : ∀ t : Trm, (((s ++ [t]).length : Nat) : Int) + (k - 1) ≤ 3 := fun t => by rw [List.length_append, List.length_singleton]; omega
  have hm3 : m ≤ 3 := by omega
  have hk1 : k ≤ 4611686018427387904 := by omega
  have hqq : q + 1 ≤ 1099511627776 := by omega
  have hqk : q ≤ p + 5 := by omega
  have hpos : ∀ {b : Bool}, Ω.cmp .gtr k 0 = true → 0 < k := fun h => by subst hΩ; exact gt_t h
  have hlp : Ω.cmp .gtr (Ω.int (Ω.len xs)) 0 = true → 1 ≤ N := fun h => by rw [hxl, hΩ] at h; have := gt_t h; omega
  have hln : Ω.int (Ω.len xs) ≤ 4294967296 := by rw [hxl]; omega
  rw [hm] at hFli i5 ⊢
  have hfin : ∀ q' : Int, p ≤ q' → q' ≤ p + 5 → ownTs 4 (A.sl true 7 (s.map Trm.enc)) := fun _ _ _ => ⟨s, rfl, by omega⟩
  cbv
  refine br (fun hk => ?_) (fun hk => ?_) <;> cbv
  · have hk := hpos (b := true) hk
    refine br (fun hg => ?_) (fun hg => ?_) <;> cbv
    · have hg2 := hlp (by subst hΩ; exact hg)
      refine call_dr false hΩ 3 (hN _ _ (by omega) (by omega) hln) rfl rfl rfl (fun q2 x q2a q2b ⟨r, hx, hr⟩ => ?_)
      subst hx
      have hr : 0 ≤ r ∧ r < Ω.int (Ω.len xs) := hr.2 (by show 1 ≤ Ω.int (Ω.len xs); rw [hxl]; exact hg2)
      rw [hxl] at hr
      obtain ⟨nm, v1, v2, v3, sz, ps, ds, bz, hx⟩ := hat r hr.1 hr.2
      cbv
      refine ⟨⟨hr.1⟩, _, hx, ?_⟩
      cbv
      refine call_pure hΩ 3 (hA nm) rfl (fits _) rfl rfl ?_
      cbv
      exact ⟨⟨rfl, okAll rfl, by show (m + 1) * 64 ≤ 140737488355328; omega, by show m + 1 ≤ 9223372036854775807; omega⟩, (k - 1, q2, s ++ [inTop nm]), ⟨by dsimp only; omega, by dsimp only; omega, by dsimp only; omega, by dsimp only; omega, hsl _⟩, by dsimp only; omega, (Sbs.cut 2 rfl).trans (Sbs.mk rfl (hrows (by rfl)) ⟨rfl, rfl, hvw, decI hΩ (by omega) hk1, rfl, rfl, trivial⟩)⟩
    · exact ⟨⟨rfl, by show m ≤ (F s).length; omega⟩, _, _, .of (hFt0 s m hm), .same, ⟨q, by omega, by omega, rfl, hfin q i3 hqk⟩, rfl⟩
  · exact ⟨⟨rfl, by show m ≤ (F s).length; omega⟩, _, _, .of (hFt0 s m hm), .same, ⟨q, by omega, by omega, rfl, hfin q i3 hqk⟩, rfl⟩
end Go.Proofs.YtfacpamkigmlaaaGreat

/- Walks: draws of a catalog, a set and what is asked. Plain theorems. -/
set_option linter.unusedVariables false
set_option linter.unusedSimpArgs false
namespace Go.Proofs.YtfacpamkigmlaaaGreat
open Go Go.Fw
set_option maxRecDepth 100000
/-- A catalog, a set, what is asked. -/
def csa (x : A) : Prop := ∃ (l : List Pck) (s : List Int) (ts : List Trm), x = .tup [encP l, .sl false 1 (s.map i64), .sl false 7 (ts.map Trm.enc)] ∧ (∀ o ∈ l, o.Small) ∧ l.length ≤ 40 ∧ s.length ≤ 1048576 ∧ ts.length ≤ 1048576
theorem fitS60 (xs ts : List A) : fitA.fitL 3 [.sl false 8 xs, .sl false 7 ts, .nil, i64 60] [.sl false 8 xs, .sl false 7 ts, .sl false 1 (([] : List Int).map i64), i64 ((60 : Nat) : Int)] :=
  ⟨(fits [_]).1, (fits [_]).1, rfl, (fits [_]).1, trivial⟩
theorem d_l13Draw {bs : List A} (hb : Src bs) (p : Int) (h0 : 0 ≤ p) (h1 : p + 1100 ≤ 1099511627776) : XCtr PP n_spec_l13Draw [src bs p] (DR bs p 1100 [] csa) := by
  obtain ⟨Ω, hΩ⟩ : ∃ Ω, Ω = std := ⟨_, rfl⟩
  have hcat := fun p a b => d_l2Catalog hb p a b
  have hasks := fun p a b => d_l3Asks hb p a b
  have hset := fun p l a b c d => d_l3DrawSet hb l a b p c d
  have hask := fun l hl p a b => d_l3Ask hb l hl p a b
  have hC := fun p n a b c => d_l1Chance hb p n a b c
  have hflt : ∀ l : List Pck, l.length ≤ 40 → (∀ o ∈ l, o.Small) → ∃ r, PCtr PP n_spec_CatalogFault [encP l] (i64 r) := fun l a b => ⟨_, c_specCatalogFault l (by omega) b⟩
  have hsol : ∀ (l : List Pck) (ts : List Trm), l.length ≤ 40 → (∀ o ∈ l, o.Small) → ts.length ≤ 1048576 → RCtr PP n_spec_l4Solve [encP l, .sl false 7 (ts.map Trm.enc), .sl false 1 (([] : List Int).map i64), i64 ((60 : Nat) : Int)] someS := fun l ts a b c => r_l4Solve l ts [] 60 (by omega) c (Nat.zero_le _) (Nat.le_of_ble_eq_true rfl) b
  have htab := tab
  have hmo := hmo
  refine XCtr.walkO tab hΩ 3 fn_spec_l13Draw rfl rfl ?_
  generalize PP = P at *
  cbv
  refine call_dr true hΩ 3 (hcat _ (by omega) (by omega)) rfl rfl rfl (fun q1 x q1a q1b ⟨l, hx, hl, hll⟩ => ?_)
  rw [show fzA true x = encP l by rw [hx]; show frz (A.sl true 8 _) = _; rw [frz_sl, encP_frz]; rfl]
  obtain ⟨cf, hflt⟩ := hflt l hll hl
  replace hset := fun p a b => hset p l hll hl a b
  replace hask := hask l hll
  replace hsol := fun ts c => hsol l ts hll hl c
  have hcsa : ∀ (s : List Int) (ts : List Trm), s.length ≤ 1048576 → ts.length ≤ 1048576 → csa (.tup [encP l, .sl false 1 (s.map i64), .sl false 7 (ts.map Trm.enc)]) := fun s ts a b => ⟨l, s, ts, rfl, hl, hll, a, b⟩
  obtain ⟨cs, hcs⟩ : ∃ cs, cs = l.map (Pck.enc false) := ⟨_, rfl⟩
  unfold encP at *
  rw [← hcs] at hflt hset hask hsol hcsa ⊢
  cbv
  refine call_dr true hΩ 3 (hasks _ (by omega) (by omega)) rfl rfl rfl (fun q2 x q2a q2b ⟨t1, hx, ht1⟩ => ?_)
  rw [show fzA true x = .sl false 7 (t1.map Trm.enc) by rw [hx]; show frz (A.sl true 7 _) = _; rw [frz_sl, frz_T]]
  obtain ⟨u1, hu1⟩ : ∃ u1, u1 = t1.map Trm.enc := ⟨_, rfl⟩
  rw [← hu1]
  cbv
  refine call_dr true hΩ 3 (hset _ (by omega) (by omega)) rfl rfl rfl (fun q3 x q3a q3b ⟨s1, hx, hs1⟩ => ?_)
  rw [show fzA true x = .sl false 1 (s1.map i64) by rw [hx]; show frz (A.sl true 1 _) = _; rw [frz_sl, frz_I]]
  obtain ⟨v1, hv1⟩ : ∃ v1, v1 = s1.map i64 := ⟨_, rfl⟩
  rw [← hv1]
  cbv
  refine call_pure hΩ 3 hflt rfl (fits _) rfl rfl ?_
  cbv
  have hout : ∀ q : Int, p ≤ q → q ≤ p + 1100 → DR bs p 1100 [] csa (.tup [.sl false 8 cs, .sl false 1 v1, .sl false 7 u1]) [src bs q] := fun q a b => ⟨q, a, b, rfl, by rw [hu1, hv1]; exact hcsa s1 t1 (by omega) (by omega)⟩
  refine br (fun h => ?_) (fun h => ?_) <;> cbv
  · refine br (fun hg => ?_) (fun hg => ?_) <;> cbv
    · refine call_dr false hΩ 3 (hC _ 4 (by omega) (by omega) (by omega)) rfl rfl rfl (fun q4 x q4a q4b ⟨c4, hx⟩ => ?_)
      subst hx
      cbv
      refine br (fun h4 => ?_) (fun h4 => ?_) <;> cbv
      · refine call_dr true hΩ 3 (hask _ (by omega) (by omega)) rfl rfl rfl (fun q5 x q5a q5b ⟨t2, hx, ht2⟩ => ?_)
        rw [show fzA true x = .sl false 7 (t2.map Trm.enc) by rw [hx]; show frz (A.sl true 7 _) = _; rw [frz_sl, frz_T]]
        replace hsol := hsol t2 (by omega)
        obtain ⟨u2, hu2⟩ : ∃ u2, u2 = t2.map Trm.enc := ⟨_, rfl⟩
        have hu2l : u2.length = t2.length := by rw [hu2, List.length_map]
        rw [← hu2] at hsol ⊢
        cbv
        refine call_r hΩ 3 hsol rfl (fitS60 _ _) (fun x ⟨c, n, s2, hx, hs2⟩ => ?_)
        subst hx
        refine ⟨rfl, ?_⟩
        obtain ⟨v2, hv2⟩ : ∃ v2, v2 = s2.map i64 := ⟨_, rfl⟩
        rw [← hv2]
        have hout2 : ∀ (q : Int) (b : Bool), p ≤ q → q ≤ p + 1100 → DR bs p 1100 [] csa (.tup [.sl false 8 cs, .sl false 1 (if b then v2 else v1), .sl false 7 u2]) [src bs q] := fun q b e f => ⟨q, e, f, rfl, by cases b <;> rw [hu2] <;> first | (rw [hv2]; exact hcsa s2 t2 hs2 (by omega)) | (rw [hv1]; exact hcsa s1 t2 (by omega) (by omega))⟩
        have hout3 : ∀ (q : Int) (b : Bool), p ≤ q → q ≤ p + 1100 → DR bs p 1100 [] csa (.tup [.sl false 8 cs, .sl false 1 (if b then v2 else v1), .sl false 7 (Ω.seg 0 (Ω.nat 1) u2)]) [src bs q] := fun q b e f => ⟨q, e, f, rfl, by
          have e1 : Ω.seg 0 (Ω.nat 1) u2 = (t2.take 1).map Trm.enc := by rw [hu2]; subst hΩ; show ((t2.map Trm.enc).take 1).drop 0 = _; rw [List.drop_zero, List.map_take]
          have e2 : (t2.take 1).length ≤ 1048576 := by rw [List.length_take]; omega
          rw [e1]
          cases b <;> first | (rw [hv2]; exact hcsa s2 (t2.take 1) hs2 e2) | (rw [hv1]; exact hcsa s1 (t2.take 1) (by omega) e2)⟩
        have hlen1 : Ω.ite true (Ω.cmp .gtr (Ω.int (Ω.len u2)) 1) false = true → Ω.nat 1 ≤ u2.length := fun h => by
          subst hΩ
          have : (1 : Int) < (u2.length : Int) := gt_t h
          show 1 ≤ u2.length; omega
        cbv
        refine br (fun h5 => ?_) (fun h5 => ?_) <;> cbv
        · refine call_dr false hΩ 3 (hC _ 3 (by omega) (by omega) (by omega)) rfl rfl rfl (fun q6 x q6a q6b ⟨c6, hx⟩ => ?_)
          subst hx
          cbv
          refine br (fun h6 => ?_) (fun h6 => ?_) <;> cbv
          · refine br (fun h7 => ?_) (fun h7 => ?_) <;> cbv
            · exact ⟨⟨trivial, by decide, Nat.zero_le _, hlen1 h7⟩, _, _, .same, .same, hout3 q6 true (by omega) (by omega), rfl⟩
            · exact ⟨_, _, .same, .same, hout2 q6 true (by omega) (by omega), rfl⟩
          · exact ⟨_, _, .same, .same, hout2 q6 true (by omega) (by omega), rfl⟩
        · refine call_dr false hΩ 3 (hC _ 3 (by omega) (by omega) (by omega)) rfl rfl rfl (fun q6 x q6a q6b ⟨c6, hx⟩ => ?_)
          subst hx
          cbv
          refine br (fun h6 => ?_) (fun h6 => ?_) <;> cbv
          · refine br (fun h7 => ?_) (fun h7 => ?_) <;> cbv
            · exact ⟨⟨trivial, by decide, Nat.zero_le _, hlen1 h7⟩, _, _, .same, .same, hout3 q6 false (by omega) (by omega), rfl⟩
            · exact ⟨_, _, .same, .same, hout2 q6 false (by omega) (by omega), rfl⟩
          · exact ⟨_, _, .same, .same, hout2 q6 false (by omega) (by omega), rfl⟩
      · exact ⟨_, _, .same, .same, hout q4 (by omega) (by omega), rfl⟩
    · exact ⟨_, _, .same, .same, hout q3 (by omega) (by omega), rfl⟩
  · exact ⟨_, _, .same, .same, hout q3 (by omega) (by omega), rfl⟩
end Go.Proofs.YtfacpamkigmlaaaGreat

/- Walks: who holds what is asked. Plain theorems. -/
set_option linter.unusedVariables false
set_option linter.unusedSimpArgs false
namespace Go.Proofs.YtfacpamkigmlaaaGreat
open Go Go.Fw
set_option maxRecDepth 100000
def consB (c : List Pck) (s : List Int) : Bool := decide ((fltS c s).length = 0)
def holdB (c : List Pck) (s : List Int) (a : List Trm) : Bool := consB c s && a.all fun t => s.any fun k => givesB (pk c k) t
def askC (c : List Pck) (s : List Int) (a : List Trm) : Int := if setF c s ≠ 0 then setF c s else if 8 < a.length then 2 else firstF trmF a
theorem roFlt (o : List Flt) : roFree (.sl true 3 (o.map Flt.enc)) = true := roFAll fun x hx => by obtain ⟨c, _, rfl⟩ := List.mem_map.1 hx; rfl
theorem c_consistent (l : List Pck) (s : List Int) (hl : l.length ≤ 1048576) (hs : s.length ≤ 1048576) (ho : ∀ o ∈ l, o.Small) (hk : ∀ k ∈ s, inB k 0 ((l.length : Int) - 1) = true) : PCtr PP n_impl_consistent [encP l, .sl false 1 (s.map i64)] (boo (consB l s)) := by
  obtain ⟨Ω, hΩ⟩ : ∃ Ω, Ω = std := ⟨_, rfl⟩
  have hc := c_faults l s hl hs ho hk
  have hrf := roFlt (fltS l s)
  obtain ⟨r, hr⟩ : ∃ r, r = consB l s := ⟨_, rfl⟩
  rw [← hr]
  unfold consB at hr
  obtain ⟨es, hes⟩ : ∃ es, es = (fltS l s).map Flt.enc := ⟨_, rfl⟩
  have hel : es.length = (fltS l s).length := by rw [hes, List.length_map]
  rw [← hel] at hr
  rw [← hes] at hc hrf
  clear hel hes
  unfold encP at *
  generalize l.map (Pck.enc false) = xs at *
  generalize s.map i64 = ys at *
  have htab := tab
  have hmo := hmo
  refine PCtr.walk tab hΩ fn_impl_consistent rfl ?_
  generalize PP = P at *
  cbv
  refine call_pure hΩ 3 hc rfl (fits _) hrf rfl ?_
  cbv
  refine .of (congrArg boo ?_)
  subst hΩ
  show decide ((es.length : Int) = 0) = r
  rw [hr]
  rw [Bool.eq_iff_iff, decide_eq_true_eq, decide_eq_true_eq]
  omega
theorem c_l3Good (l : List Pck) (s : List Int) (hl : l.length ≤ 1048576) (hs : s.length ≤ 1048576) (ho : ∀ o ∈ l, o.Small) (hk : ∀ k ∈ s, inB k 0 ((l.length : Int) - 1) = true) : PCtr PP n_spec_l3Good [encP l, .sl false 1 (s.map i64)] (boo (consB l s)) := by
  obtain ⟨Ω, hΩ⟩ : ∃ Ω, Ω = std := ⟨_, rfl⟩
  have hc := c_l3Faults l s hl hs ho hk
  have hrf := roFlt (fltS l s)
  obtain ⟨r, hr⟩ : ∃ r, r = consB l s := ⟨_, rfl⟩
  rw [← hr]
  unfold consB at hr
  obtain ⟨es, hes⟩ : ∃ es, es = (fltS l s).map Flt.enc := ⟨_, rfl⟩
  have hel : es.length = (fltS l s).length := by rw [hes, List.length_map]
  rw [← hel] at hr
  rw [← hes] at hc hrf
  clear hel hes
  unfold encP at *
  generalize l.map (Pck.enc false) = xs at *
  generalize s.map i64 = ys at *
  have htab := tab
  have hmo := hmo
  refine PCtr.walk tab hΩ fn_spec_l3Good rfl ?_
  generalize PP = P at *
  cbv
  refine call_pure hΩ 3 hc rfl (fits _) hrf rfl ?_
  cbv
  refine .of (congrArg boo ?_)
  subst hΩ
  show decide ((es.length : Int) = 0) = r
  rw [hr]
  rw [Bool.eq_iff_iff, decide_eq_true_eq, decide_eq_true_eq]
  omega
theorem c_holds11 (l : List Pck) (k : Int) (t : Trm) (hl : l.length ≤ 1048576) (ho : ∀ o ∈ l, o.Small) (hk : inB k 0 ((l.length : Int) - 1) = true) : PCtr PP n_impl_holds_1_1 [i64 k, .rp [encP l], .rp t.cells] (boo (givesB (pk l k) t)) := by
  obtain ⟨Ω, hΩ⟩ : ∃ Ω, Ω = std := ⟨_, rfl⟩
  have hat : ∀ k, inB k 0 ((l.length : Int) - 1) = true → 0 ≤ k ∧ ∃ v1 v2 v3 sz ps ds bs, (l.map (Pck.enc false))[k.toNat]? = some (.agg [str (pk l k).n, i64 v1, i64 v2, i64 v3, i64 sz, .sl false 1 ps, .sl false 1 ds, .sl false 7 bs]) ∧ pk l k ∈ l ∧
      Pck.enc false (pk l k) = .agg [str (pk l k).n, i64 v1, i64 v2, i64 v3, i64 sz, .sl false 1 ps, .sl false 1 ds, .sl false 7 bs] ∧ ds = (pk l k).d.map (encTs false) ∧ bs = (pk l k).b.map Trm.enc := fun k h => by
    obtain ⟨h0, h1, h2, h3⟩ := pk_at h
    obtain ⟨ps, ds, bs, hen, hp, hd, hb⟩ := enc_raw (pk l k)
    exact ⟨h0, _, _, _, _, ps, ds, bs, by rw [List.getElem?_map, h2]; exact congrArg some hen, h3, hen, hd, hb⟩
  obtain ⟨hc0, v1, v2, v3, sz, ps, ds, bs, hx, hm, hen, -, -⟩ := hat k hk
  have hg := c_gives (pk l k) t (ho _ hm).p
  rw [hen] at hg
  clear hat
  unfold encP
  generalize givesB (pk l k) t = gb at *
  generalize (pk l k).n = nn at *
  generalize l.map (Pck.enc false) = xs at *
  have htab := tab
  have hmo := hmo
  refine PCtr.walk tab hΩ fn_impl_holds_1_1 rfl ?_
  generalize PP = P at *
  cbv
  refine ⟨VC_drawn htab hΩ hmo (by kernel_rfl) ?_⟩
  cbv
  refine ⟨⟨hc0⟩, _, hx, ?_⟩
  cbv
  refine QCall_pure (k := 3) hg rfl (fits _) rfl ?_
  cbv
  exact .same
theorem c_holds1 (l : List Pck) (s : List Int) (t : Trm) (hl : l.length ≤ 1048576) (hs : s.length ≤ 1048576) (ho : ∀ o ∈ l, o.Small) (hk : ∀ k ∈ s, inB k 0 ((l.length : Int) - 1) = true) : PCtr PP n_impl_holds_1 [t.enc, .rp [.sl false 1 (s.map i64)], .rp [encP l]] (boo (!s.any fun k => givesB (pk l k) t)) := by
  obtain ⟨Ω, hΩ⟩ : ∃ Ω, Ω = std := ⟨_, rfl⟩
  have hc : PCtr PP n_slices_ContainsFunc_L_int64_int64 [.sl false 1 (s.map i64), .clo n_impl_holds_1_1 [.rp [encP l], .rp t.cells]] (boo (s.any fun k => givesB (pk l k) t)) :=
    c_ContainsFuncI s (by omega) _ _ _ ⟨fun _ _ => rfl, rfl, fun _ => rfl, fun k h => c_holds11 l k t hl ho (hk k h)⟩
  unfold encP at *
  generalize (s.any fun k => givesB (pk l k) t) = r at *
  generalize l.map (Pck.enc false) = xs at *
  generalize s.map i64 = ys at *
  have htab := tab
  have hmo := hmo
  refine PCtr.walk tab hΩ fn_impl_holds_1 rfl ?_
  generalize PP = P at *
  cbv
  refine call_pure hΩ 5 hc (ro_clo2 rfl rfl) (fits _) rfl rfl ?_
  cbv
  exact .of (congrArg boo (by subst hΩ; rfl))
theorem c_holds (l : List Pck) (s : List Int) (a : List Trm) (hl : l.length ≤ 1048576) (hs : s.length ≤ 1048576) (ha : a.length ≤ 1048576) (ho : ∀ o ∈ l, o.Small) (hk : ∀ k ∈ s, inB k 0 ((l.length : Int) - 1) = true) : PCtr PP n_impl_holds [encP l, .sl false 1 (s.map i64), .sl false 7 (a.map Trm.enc)] (boo (holdB l s a)) := by
  obtain ⟨Ω, hΩ⟩ : ∃ Ω, Ω = std := ⟨_, rfl⟩
  have h1 := c_consistent l s hl hs ho hk
  have hc : PCtr PP n_slices_ContainsFunc_L_impl_Term_impl_Term [.sl false 7 (a.map Trm.enc), .clo n_impl_holds_1 [.rp [.sl false 1 (s.map i64)], .rp [encP l]]] (boo (a.any fun t => !s.any fun k => givesB (pk l k) t)) :=
    c_ContainsFuncT a (by omega) _ _ _ ⟨fun _ _ => rfl, rfl, fun _ => rfl, fun t _ => c_holds1 l s t hl hs ho hk⟩
  obtain ⟨r, hr⟩ : ∃ r, r = holdB l s a := ⟨_, rfl⟩
  rw [← hr]
  unfold holdB at hr
  rw [show (a.all fun t => s.any fun k => givesB (pk l k) t) = !(a.any fun t => !s.any fun k => givesB (pk l k) t) by rw [List.not_any_eq_all_not]; congr 1; funext t; simp] at hr
  unfold encP at *
  generalize (a.any fun t => !s.any fun k => givesB (pk l k) t) = r2 at *
  generalize consB l s = r1 at *
  generalize l.map (Pck.enc false) = xs at *
  generalize s.map i64 = ys at *
  generalize a.map Trm.enc = zs at *
  have htab := tab
  have hmo := hmo
  refine PCtr.walk tab hΩ fn_impl_holds rfl ?_
  generalize PP = P at *
  cbv
  refine call_pure hΩ 3 h1 rfl (fits _) rfl rfl ?_
  cbv
  repeat' (first | (refine br (fun h => ?_) (fun h => ?_) <;> cbv) | (refine call_pure hΩ 5 hc (ro_clo2 rfl rfl) (fits _) rfl rfl ?_; cbv))
  all_goals (refine .of (congrArg boo ?_); subst hΩ; subst hr; clear hc h1 htab hmo; simp_all)
theorem c_l3Holds (l : List Pck) (s : List Int) (a : List Trm) (hl : l.length ≤ 1048576) (hs : s.length ≤ 1048576) (ha : a.length ≤ 1048576) (ho : ∀ o ∈ l, o.Small) (hk : ∀ k ∈ s, inB k 0 ((l.length : Int) - 1) = true) (ht : firstF trmF a = 0) : PCtr PP n_spec_l3Holds [encP l, .sl false 1 (s.map i64), .sl false 7 (a.map Trm.enc)] (boo (a.all fun t => s.any fun k => givesB (pk l k) t)) := by
  obtain ⟨Ω, hΩ⟩ : ∃ Ω, Ω = std := ⟨_, rfl⟩
  have hg : ∀ t, PCtr PP n_spec_l3Given [encP l, .sl false 1 (s.map i64), t.enc, i64 (-1)] (boo (s.any fun k => givesB (pk l k) t)) := fun t => by
    have := c_l3Given l s t (-1) hl hs ho hk
    rw [show (s.any fun k => givesB (pk l k) t) = givB l s (-1) t by
      have := metB_eq (c := l) (fun k h => (pk_at (hk k h)).1) [t]
      simpa [metB] using this]
    exact this
  have hz : ∀ t ∈ a, trmF t = 0 := by
    clear ha
    induction a with
    | nil => simp
    | cons x a ih =>
      rw [firstF] at ht
      split at ht
      · rename_i h; exact absurd ht h
      · rename_i h
        intro t hta
        rcases List.mem_cons.1 hta with rfl | hta
        · exact Decidable.not_not.1 h
        · exact ih ht t hta
  have hf : ∀ t ∈ a, ∃ k0, k0 = 0 ∧ PCtr PP n_spec_TermFault [t.enc] (i64 k0) := fun t h => ⟨_, hz t h, c_specTermFault t⟩
  obtain ⟨G, hG⟩ : ∃ G : Trm → Bool, G = fun t => s.any fun k => givesB (pk l k) t := ⟨_, rfl⟩
  obtain ⟨r, hr⟩ : ∃ r, r = !(a.any fun t => !G t) := ⟨_, rfl⟩
  rw [show (a.all fun t => s.any fun k => givesB (pk l k) t) = r by rw [hr, List.not_any_eq_all_not, hG]; congr 1; funext t; simp]
  have hg2 : ∀ t, PCtr PP n_spec_l3Given [encP l, .sl false 1 (s.map i64), t.enc, i64 (-1)] (boo (G t)) := fun t => by rw [hG]; exact hg t
  clear hG hg hz
  obtain ⟨zs, hzs⟩ : ∃ zs, zs = a.map Trm.enc := ⟨_, rfl⟩
  have hlen : zs.length = a.length := by rw [hzs, List.length_map]
  rw [← hzs]
  unfold encP at *
  generalize l.map (Pck.enc false) = xs at *
  generalize s.map i64 = ys at *
  have htab := tab
  have hmo := hmo
  refine PCtr.walk tab hΩ fn_spec_l3Holds rfl ?_
  generalize PP = P at *
  cbv
  refine loopX htab hΩ (fun i : Nat => ⟨[(0, .sl false 8 xs), (1, .sl false 1 ys), (2, .sl false 7 zs), (7, .sc (.int .i64 (Ω.int i)))], 30, []⟩) (fun i => i ≤ a.length ∧ r = !((a.drop i).any fun t => !G t)) (fun i => a.length - i) 0
    ⟨Nat.zero_le _, hr⟩ (Sbs.mk rfl rfl ⟨rfl, rfl, rfl, zeroI hΩ, trivial⟩) ?_
  rintro i ⟨hi, he⟩
  cbv
  refine br (fun h => ?_) (fun h => ?_) <;> cbv
  · replace h := ltI hΩ h
    obtain ⟨c, hcc⟩ := at_of (cs := a) (by omega : i < a.length)
    rw [any_at _ hcc] at he
    refine ⟨⟨nnI hΩ⟩, _, rdI hΩ hzs hcc, ?_⟩
    cbv
    obtain ⟨k0, hk0, hf0⟩ := hf c (List.mem_of_getElem? hcc)
    refine call_pure hΩ 3 hf0 rfl (fits _) rfl rfl ?_
    cbv
    refine br (fun g => ?_) (fun g => ?_) <;> cbv
    · exact absurd hk0 (neI_t hΩ g)
    refine ⟨⟨nnI hΩ⟩, _, rdI hΩ hzs hcc, ?_⟩
    cbv
    refine call_pure hΩ 3 (hg2 c) rfl (fits _) rfl rfl ?_
    cbv
    refine br (fun g => ?_) (fun g => ?_) <;> cbv
    · have g : G c = false := by subst hΩ; simpa using g
      exact .of (congrArg boo (by rw [he, g]; rfl))
    · have g : G c = true := by subst hΩ; simpa using g
      rw [g, Bool.not_true, Bool.false_or] at he
      exact ⟨i + 1, ⟨by omega, he⟩, by omega, Sbs.mk rfl rfl ⟨rfl, rfl, rfl, incI hΩ (by omega), trivial⟩⟩
  · replace h := geI hΩ h
    exact .of (congrArg boo (by rw [he, List.drop_of_length_le (by omega)]; rfl))
theorem c_asksCode (l : List Pck) (s : List Int) (a : List Trm) (hl : l.length ≤ 1048576) (hs : s.length ≤ 1048576) (ha : a.length ≤ 1048576) (ho : ∀ o ∈ l, o.Small) : PCtr PP n_impl_asksCode [encP l, .sl false 1 (s.map i64), .sl false 7 (a.map Trm.enc)] (i64 (askC l s a)) := by
  obtain ⟨Ω, hΩ⟩ : ∃ Ω, Ω = std := ⟨_, rfl⟩
  have h1 := c_implSetFault l s hl ho hs
  have h2 := c_termsFault a (by omega)
  obtain ⟨r, hr⟩ : ∃ r, r = askC l s a := ⟨_, rfl⟩
  rw [← hr]
  unfold askC at hr
  unfold encP at *
  obtain ⟨zs, hzs⟩ : ∃ zs, zs = a.map Trm.enc := ⟨_, rfl⟩
  have hlen : zs.length = a.length := by rw [hzs, List.length_map]
  rw [← hzs] at h2 ⊢
  rw [← hlen] at hr
  generalize setF l s = k1 at *
  generalize firstF trmF a = k2 at *
  generalize l.map (Pck.enc false) = xs at *
  generalize s.map i64 = ys at *
  clear hlen hzs
  have htab := tab
  have hmo := hmo
  refine PCtr.walk tab hΩ fn_impl_asksCode rfl ?_
  generalize PP = P at *
  cbv
  refine call_pure hΩ 3 h1 rfl (fits _) rfl rfl ?_
  cbv
  repeat' (first | (refine br (fun h => ?_) (fun h => ?_) <;> cbv) | (refine call_pure hΩ 3 h2 rfl (fits _) rfl rfl ?_; cbv))
  all_goals (refine .of (congrArg i64 ?_); clear h1 h2 htab hmo; subst hΩ; subst hr; simp_all [cmpIS])
  all_goals (intros; omega)
theorem c_l13Asked (l : List Pck) (s : List Int) (a : List Trm) (hl : l.length ≤ 1048576) (hs : s.length ≤ 1048576) (ha : a.length ≤ 1048576) (ho : ∀ o ∈ l, o.Small) : PCtr PP n_spec_l13Asked [encP l, .sl false 1 (s.map i64), .sl false 7 (a.map Trm.enc)] (i64 (askC l s a)) := by
  obtain ⟨Ω, hΩ⟩ : ∃ Ω, Ω = std := ⟨_, rfl⟩
  have h1 := c_specSetFault l s hl ho hs
  have h2 := c_l2Terms a (by omega)
  obtain ⟨r, hr⟩ : ∃ r, r = askC l s a := ⟨_, rfl⟩
  rw [← hr]
  unfold askC at hr
  unfold encP at *
  obtain ⟨zs, hzs⟩ : ∃ zs, zs = a.map Trm.enc := ⟨_, rfl⟩
  have hlen : zs.length = a.length := by rw [hzs, List.length_map]
  rw [← hzs] at h2 ⊢
  rw [← hlen] at hr
  generalize setF l s = k1 at *
  generalize firstF trmF a = k2 at *
  generalize l.map (Pck.enc false) = xs at *
  generalize s.map i64 = ys at *
  clear hlen hzs
  have htab := tab
  have hmo := hmo
  refine PCtr.walk tab hΩ fn_spec_l13Asked rfl ?_
  generalize PP = P at *
  cbv
  refine call_pure hΩ 3 h1 rfl (fits _) rfl rfl ?_
  cbv
  repeat' (first | (refine br (fun h => ?_) (fun h => ?_) <;> cbv) | (refine call_pure hΩ 3 h2 rfl (fits _) rfl rfl ?_; cbv))
  all_goals (refine .of (congrArg i64 ?_); clear h1 h2 htab hmo; subst hΩ; subst hr; simp_all [cmpIS])
  all_goals (intros; omega)
end Go.Proofs.YtfacpamkigmlaaaGreat

/- Walks: what can be spared. Plain theorems. -/
set_option linter.unusedVariables false
set_option linter.unusedSimpArgs false
namespace Go.Proofs.YtfacpamkigmlaaaGreat
open Go Go.Fw
set_option maxRecDepth 100000
def butF (s : List Int) (k : Int) : List Int := s.filter fun o => !decide (o = k)
def sprS (c : List Pck) (s : List Int) (a : List Trm) : List Int := if askC c s a ≠ 0 then [] else if holdB c s a then s.filter (fun k => holdB c (butF s k) a) else []
theorem sprS_le (c : List Pck) (s : List Int) (a : List Trm) : (sprS c s a).length ≤ s.length := by
  unfold sprS
  split
  · exact Nat.zero_le _
  · split
    · exact List.length_filter_le _ _
    · exact Nat.zero_le _
theorem askC_set {c : List Pck} {s : List Int} {a : List Trm} (h : askC c s a = 0) : setF c s = 0 ∧ firstF trmF a = 0 := by
  unfold askC at h
  split at h
  · rename_i h0; exact absurd h h0
  · rename_i h0
    split at h
    · simp at h
    · exact ⟨Decidable.not_not.1 h0, h⟩
theorem c_SpareOf11 (o k : Int) : PCtr PP n_impl_SpareOf_1_1 [i64 o, .rp [i64 k]] (boo (!decide (o = k))) := by
  obtain ⟨Ω, hΩ⟩ : ∃ Ω, Ω = std := ⟨_, rfl⟩
  obtain ⟨r, hr⟩ : ∃ r, r = !decide (o = k) := ⟨_, rfl⟩
  rw [← hr]
  have htab := tab
  have hmo := hmo
  refine PCtr.walk tab hΩ fn_impl_SpareOf_1_1 rfl ?_
  generalize PP = P at *
  cbv
  refine .of (congrArg boo ?_)
  subst hΩ; subst hr
  simp [cmpIS, bne]
  rfl
theorem c_SpareOf1 (l : List Pck) (s : List Int) (a : List Trm) (k : Int) (hl : l.length ≤ 1048576) (hs : s.length ≤ 1048576) (ha : a.length ≤ 1048576) (ho : ∀ o ∈ l, o.Small) (hk : ∀ k ∈ s, inB k 0 ((l.length : Int) - 1) = true) :
    PCtr PP n_impl_SpareOf_1 [i64 k, .rp [encP l], .rp [.sl false 1 (s.map i64)], .rp [.sl false 7 (a.map Trm.enc)]] (boo (holdB l (butF s k) a)) := by
  obtain ⟨Ω, hΩ⟩ : ∃ Ω, Ω = std := ⟨_, rfl⟩
  have hbl : (butF s k).length ≤ s.length := List.length_filter_le _ _
  have h1 : PCtr PP n_impl_those [.sl false 1 (s.map i64), .clo n_impl_SpareOf_1_1 [.rp [i64 k]]] (ints (butF s k)) :=
    c_those s hs _ _ _ ⟨fun _ _ => rfl, rfl, fun _ => rfl, fun o _ => c_SpareOf11 o k⟩
  have h2 := c_holds l (butF s k) a hl (by omega) ha ho fun x hx => hk x (List.mem_filter.1 hx).1
  have hrf := roFInt (butF s k)
  have hfz := frzInt (butF s k)
  unfold ints encP at *
  generalize holdB l (butF s k) a = r at *
  generalize l.map (Pck.enc false) = xs at *
  generalize s.map i64 = ys at *
  generalize a.map Trm.enc = zs at *
  generalize (butF s k).map i64 = bs at *
  have hle : Ω.len bs = bs.length := by subst hΩ; rfl
  have htab := tab
  have hmo := hmo
  refine PCtr.walk tab hΩ fn_impl_SpareOf_1 rfl ?_
  generalize PP = P at *
  cbv
  refine ⟨VC_held htab hΩ hmo [0, 1, 2, 4] [3, 5, 6] (by kernel_rfl) ?_⟩
  cbv
  refine call_pure hΩ 5 h1 (ro_clo2 rfl rfl) (fits _) hrf rfl ?_
  cbv
  refine call_pure hΩ 3 h2 (mapO3 rfl (roV rfl hle hfz) rfl) (fits _) rfl rfl ?_
  cbv
  exact .same
theorem rise_adj {s : List Int} : ∀ (n i : Nat), s.length - i = n → riseAll s i (s.drop i) = true → ∀ j x y, i ≤ j → 1 ≤ j → s[j - 1]? = some x → s[j]? = some y → x < y
  | 0, i, hn, _, j, x, y, hij, _, _, hy => by
    have := (List.getElem?_eq_some_iff.1 hy).1
    omega
  | n + 1, i, hn, h, j, x, y, hij, h1, hx, hy => by
    have hi : i < s.length := by omega
    rw [riseAll_at (List.getElem?_eq_getElem hi), Bool.and_eq_true] at h
    by_cases hji : j = i
    · subst hji
      have h2 := h.1
      rw [Bool.or_eq_true] at h2
      rcases h2 with h2 | h2
      · have : j = 0 := by simpa using h2
        omega
      · have h3 := of_decide_eq_true h2
        rw [List.getD_eq_getElem?_getD, hx] at h3
        rw [List.getElem?_eq_getElem hi] at hy
        cases hy
        exact h3
    · exact rise_adj n (i + 1) (by omega) h.2 j x y (by omega) h1 hx hy
theorem setF_rise {c : List Pck} {s : List Int} (h : setF c s = 0) : riseAll s 0 (s.drop 0) = true := by
  unfold setF at h
  split at h
  · rename_i h0; exact absurd h h0
  · split at h
    · rename_i h1
      rw [setOk_eq, Bool.and_eq_true] at h1
      exact h1.1
    · simp at h
theorem setF_lt {c : List Pck} {s : List Int} (h : setF c s = 0) : ∀ (d i : Nat) (x y : Int), s[i]? = some x → s[i + d + 1]? = some y → x < y
  | 0, i, x, y, hx, hy => rise_adj _ 0 rfl (setF_rise h) (i + 1) x y (by omega) (by omega) hx hy
  | d + 1, i, x, y, hx, hy => by
    have hlt := (List.getElem?_eq_some_iff.1 hy).1
    obtain ⟨z, hz⟩ : ∃ z, s[i + d + 1]? = some z := ⟨_, List.getElem?_eq_getElem (by omega)⟩
    have h1 := setF_lt h d i x z hx hz
    have h2 := rise_adj _ 0 rfl (setF_rise h) (i + (d + 1) + 1) z y (by omega) (by omega) hz hy
    omega
theorem setF_but {c : List Pck} {s : List Int} (h : setF c s = 0) {i : Nat} {k : Int} (hk : s[i]? = some k) : butF s k = s.take i ++ s.drop (i + 1) := by
  obtain ⟨h1, h2⟩ := List.getElem?_eq_some_iff.1 hk
  have hs : s = s.take i ++ (k :: s.drop (i + 1)) := by rw [← h2, List.getElem_cons_drop, List.take_append_drop]
  unfold butF
  conv => lhs; rw [hs]
  rw [List.filter_append, List.filter_cons_of_neg (by simp)]
  congr 1
  · rw [List.filter_eq_self]
    intro x hx
    obtain ⟨j, hj, hjx⟩ := List.mem_iff_getElem.1 hx
    have hji : j < i := by simp at hj; omega
    rw [List.getElem_take] at hjx
    have := setF_lt h (i - j - 1) j x k (by rw [← hjx]; exact List.getElem?_eq_getElem _) (by rw [show j + (i - j - 1) + 1 = i by omega]; exact hk)
    simp; omega
  · rw [List.filter_eq_self]
    intro x hx
    obtain ⟨j, hj, hjx⟩ := List.mem_iff_getElem.1 hx
    rw [List.getElem_drop] at hjx
    have := setF_lt h j i k x hk (by rw [show i + j + 1 = i + 1 + j by omega, ← hjx]; exact List.getElem?_eq_getElem _)
    simp; omega
theorem seg_ok {Ω : Opq} (hΩ : Ω = std) {xs : List A} (h1 : ∀ y ∈ xs, noOwn y = true) (h2 : ∀ c ∈ flat xs, okCell c = true) (l h : Nat) : (∀ y ∈ Ω.seg l h xs, noOwn y = true) ∧ (∀ c ∈ flat (Ω.seg l h xs), okCell c = true) := by
  subst hΩ
  have hs : ∀ y ∈ (xs.take h).drop l, y ∈ xs := fun y hy => List.mem_of_mem_take (List.mem_of_mem_drop hy)
  refine ⟨fun y hy => h1 y (hs y hy), fun c hc => h2 c ?_⟩
  obtain ⟨x, hx, hy⟩ := List.mem_flatMap.1 hc
  exact List.mem_flatMap.2 ⟨x, hs x hx, hy⟩
theorem c_implSpareOf (l : List Pck) (s : List Int) (a : List Trm) (hl : l.length ≤ 1048576) (ho : ∀ o ∈ l, o.Small) (hs : s.length ≤ 1048576) (ha : a.length ≤ 1048576) : PCtr PP n_impl_SpareOf [encP l, .sl false 1 (s.map i64), .sl false 7 (a.map Trm.enc)] (setR (askC l s a) 0 (sprS l s a)) := by
  obtain ⟨Ω, hΩ⟩ : ∃ Ω, Ω = std := ⟨_, rfl⟩
  have hc := c_asksCode l s a hl hs ha ho
  obtain ⟨k0, hk0⟩ : ∃ x, askC l s a = x := ⟨_, rfl⟩
  obtain ⟨bi, hbi⟩ : ∃ x, holdB l s a = x := ⟨_, rfl⟩
  rw [hk0] at hc
  have hS : sprS l s a = if k0 ≠ 0 then [] else if bi then s.filter (fun k => holdB l (butF s k) a) else [] := by rw [sprS, hk0, hbi]
  have hin : k0 = 0 → ∀ k ∈ s, inB k 0 ((l.length : Int) - 1) = true := fun e => setF_in (askC_set (hk0.trans e)).1
  have hp : k0 = 0 → PCtr PP n_impl_holds [encP l, .sl false 1 (s.map i64), .sl false 7 (a.map Trm.enc)] (boo bi) := fun e => by rw [← hbi]; exact c_holds l s a hl hs ha ho (hin e)
  have hth : k0 = 0 → PCtr PP n_impl_those [.sl false 1 (s.map i64), .clo n_impl_SpareOf_1 [.rp [encP l], .rp [.sl false 1 (s.map i64)], .rp [.sl false 7 (a.map Trm.enc)]]] (ints (s.filter (fun k => holdB l (butF s k) a))) := fun e =>
    c_those s hs _ _ _ ⟨fun _ _ => rfl, rfl, fun _ => rfl, fun k hk => c_SpareOf1 l s a k hl hs ha ho (hin e)⟩
  have hroZ := roFInt (s.filter (fun k => holdB l (butF s k) a))
  unfold ints encP at *
  rw [hk0]
  generalize sprS l s a = Z at *
  generalize s.filter (fun k => holdB l (butF s k) a) = zs at *
  have htab := tab
  have hmo := hmo
  generalize s.map i64 = xs at *
  generalize a.map Trm.enc = tsx at *
  generalize l.map (Pck.enc false) = cs at *
  refine PCtr.walk tab hΩ fn_impl_SpareOf rfl ?_
  generalize hA : setR k0 0 Z = R
  generalize PP = P at *
  cbv
  refine call_pure hΩ 3 hc rfl (fits _) rfl rfl ?_
  cbv
  refine br (fun g1 => ?_) (fun g1 => ?_) <;> cbv
  · have g1 : k0 ≠ 0 := neI_t hΩ g1
    have e2 : Z = [] := by rw [hS, if_pos g1]
    rw [← hA, e2]
    exact fit_nilR k0 0
  have g1 : k0 = 0 := neI_f hΩ g1
  refine call_pure hΩ 3 (hp g1) rfl (fits _) rfl rfl ?_
  cbv
  refine br (fun g2 => ?_) (fun g2 => ?_) <;> cbv
  · have g2 : bi = false := notT' hΩ g2
    have e2 : Z = [] := by rw [hS, g1, g2]; rfl
    rw [← hA, g1, e2]
    exact fit_nilR 0 0
  have g2 : bi = true := notF' hΩ g2
  have e2 : Z = zs := by rw [hS, g1, g2]; rfl
  have hth := hth g1
  obtain ⟨zz, hzz⟩ : ∃ zz, zz = zs.map i64 := ⟨_, rfl⟩
  rw [← hzz] at hth hroZ
  refine call_pure hΩ 5 hth (ro_clo2 rfl rfl) (fits _) hroZ rfl ?_
  cbv
  exact ⟨⟨rfl, by subst hΩ; exact Nat.le_refl _⟩, by rw [← hA, g1, e2]; exact fit_R hΩ 0 0 zs hzz⟩
theorem c_specSpareOf (l : List Pck) (s : List Int) (a : List Trm) (hl : l.length ≤ 1048576) (ho : ∀ o ∈ l, o.Small) (hs : s.length ≤ 1048576) (ha : a.length ≤ 1048576) : PCtr PP n_spec_SpareOf [encP l, .sl false 1 (s.map i64), .sl false 7 (a.map Trm.enc)] (setR (askC l s a) 0 (sprS l s a)) := by
  obtain ⟨Ω, hΩ⟩ : ∃ Ω, Ω = std := ⟨_, rfl⟩
  have hc := c_l13Asked l s a hl hs ha ho
  obtain ⟨k0, hk0⟩ : ∃ x, askC l s a = x := ⟨_, rfl⟩
  rw [hk0] at hc
  obtain ⟨xs, hxs⟩ : ∃ xs, xs = s.map i64 := ⟨_, rfl⟩
  have hlen : xs.length = s.length := by rw [hxs, List.length_map]
  obtain ⟨A1, hA1⟩ : ∃ A1 : Bool, A1 = a.all fun t => s.any fun k => givesB (pk l k) t := ⟨_, rfl⟩
  obtain ⟨B1, hB1⟩ : ∃ B1 : Bool, B1 = consB l s := ⟨_, rfl⟩
  have hS : sprS l s a = if k0 ≠ 0 then [] else if (B1 && A1) then s.filter (fun k => holdB l (butF s k) a) else [] := by rw [sprS, hk0, hB1, hA1]; rfl
  have hin : k0 = 0 → ∀ k ∈ s, inB k 0 ((l.length : Int) - 1) = true := fun e => setF_in (askC_set (hk0.trans e)).1
  have hg : k0 = 0 → PCtr PP n_spec_l3Good [encP l, .sl false 1 xs] (boo B1) := fun e => by rw [hB1, hxs]; exact c_l3Good l s hl hs ho (hin e)
  have hh : k0 = 0 → PCtr PP n_spec_l3Holds [encP l, .sl false 1 xs, .sl false 7 (a.map Trm.enc)] (boo A1) := fun e => by rw [hA1, hxs]; exact c_l3Holds l s a hl hs ha ho (hin e) (askC_set (hk0.trans e)).2
  obtain ⟨bf, hbf⟩ : ∃ bf : Int → List A, bf = fun k => (butF s k).map i64 := ⟨_, rfl⟩
  have hrest : k0 = 0 → ∀ i k, s[i]? = some k → ∃ b1 b2 : Bool, (b1 && b2) = holdB l (butF s k) a ∧ PCtr PP n_spec_l3Good [encP l, .sl false 1 (bf k)] (boo b1) ∧ PCtr PP n_spec_l3Holds [encP l, .sl false 1 (bf k), .sl false 7 (a.map Trm.enc)] (boo b2) ∧
      xs.take i ++ xs.drop (i + 1) = bf k ∧ (bf k).map frz = bf k ∧ (xs.take i).length + (xs.drop (i + 1)).length = (bf k).length := fun e i k hk => by
    have hb := setF_but (askC_set (hk0.trans e)).1 hk
    have hbl : (butF s k).length ≤ s.length := List.length_filter_le _ _
    have hi2 : ∀ k' ∈ butF s k, inB k' 0 ((l.length : Int) - 1) = true := fun x hx => hin e x (List.mem_filter.1 hx).1
    have e2 : xs.take i ++ xs.drop (i + 1) = bf k := by rw [hbf]; simp only; rw [hb, hxs, List.map_append, List.map_take, List.map_drop]
    refine ⟨_, _, rfl, by rw [hbf]; exact c_l3Good l _ hl (by omega) ho hi2, by rw [hbf]; exact c_l3Holds l _ a hl (by omega) ha ho hi2 (askC_set (hk0.trans e)).2, e2, by rw [hbf]; exact frzInt _, ?_⟩
    rw [← e2, List.length_append]
  have hno := noInt s
  rw [← hxs] at hno
  unfold encP at *
  rw [hk0, ← hxs]
  rw [← hxs] at hc
  generalize sprS l s a = Z at *
  obtain ⟨B, hB⟩ : ∃ B : Int → Bool, B = fun k => holdB l (butF s k) a := ⟨_, rfl⟩
  have hrest : k0 = 0 → ∀ i k, s[i]? = some k → ∃ b1 b2 : Bool, (b1 && b2) = B k ∧ PCtr PP n_spec_l3Good [.sl false 8 (l.map (Pck.enc false)), .sl false 1 (bf k)] (boo b1) ∧ PCtr PP n_spec_l3Holds [.sl false 8 (l.map (Pck.enc false)), .sl false 1 (bf k), .sl false 7 (a.map Trm.enc)] (boo b2) ∧
      xs.take i ++ xs.drop (i + 1) = bf k ∧ (bf k).map frz = bf k ∧ (xs.take i).length + (xs.drop (i + 1)).length = (bf k).length := by rw [hB]; exact hrest
  rw [← hB] at hS
  clear hbf hB1 hA1 hB hin
  generalize a.map Trm.enc = tsx at *
  generalize l.map (Pck.enc false) = cs at *
  have htab := tab
  have hmo := hmo
  refine PCtr.walk tab hΩ fn_spec_SpareOf rfl ?_
  generalize hA : setR k0 0 Z = R
  generalize PP = P at *
  cbv
  refine call_pure hΩ 3 hc rfl (fits _) rfl rfl ?_
  cbv
  refine br (fun g1 => ?_) (fun g1 => ?_) <;> cbv
  · have g1 : k0 ≠ 0 := neI_t hΩ g1
    have e2 : Z = [] := by rw [hS, if_pos g1]
    rw [← hA, e2]
    exact fit_nilR k0 0
  have g1 : k0 = 0 := neI_f hΩ g1
  have hg := hg g1
  have hh := hh g1
  have hrest := hrest g1
  refine call_pure hΩ 3 hg rfl (fits _) rfl rfl ?_
  cbv
  refine br (fun g2 => ?_) (fun g2 => ?_) <;> cbv
  · have g2 : B1 = false := notT' hΩ g2
    have e2 : Z = [] := by rw [hS, g1, g2]; rfl
    rw [← hA, g1, e2]
    exact fit_nilR 0 0
  have g2 : B1 = true := notF' hΩ g2
  refine call_pure hΩ 3 hh rfl (fits _) rfl rfl ?_
  cbv
  refine br (fun g3 => ?_) (fun g3 => ?_) <;> cbv
  · have g3 : A1 = false := by subst hΩ; simpa using g3
    have e2 : Z = [] := by rw [hS, g1, g2, g3]; rfl
    rw [← hA, g1, e2]
    exact fit_nilR 0 0
  have g3 : A1 = true := by subst hΩ; simpa using g3
  have e2 : Z = s.filter B := by rw [hS, g1, g2, g3]; rfl
  obtain ⟨F, hF⟩ : ∃ F : Nat → List Int, F = fun j => (s.take j).filter B := ⟨_, rfl⟩
  have hFat : ∀ j c, s[j]? = some c → F (j + 1) = F j ++ (if B c then [c] else []) := fun j c h => by
    rw [hF]
    simp only
    rw [List.take_add_one, h, List.filter_append]
    congr 1
    cases hb : B c <;> simp [hb]
  have hFn : F s.length = s.filter B := by rw [hF]; simp only; rw [List.take_length]
  have hF0 : F 0 = [] := by rw [hF]; rfl
  have hFl : ∀ j, (F j).length ≤ s.length := fun j => by rw [hF]; exact Nat.le_trans (List.length_filter_le _ _) (by simp; omega)
  obtain ⟨ys, hys⟩ : ∃ ys : Nat → List A, ys = fun j => (F j).map i64 := ⟨_, rfl⟩
  have hyl : ∀ j, (ys j).length = (F j).length := fun j => by rw [hys]; simp
  refine loopX htab hΩ (fun i : Nat => ⟨[(0, .sl false 8 cs), (1, .sl false 1 xs), (2, .sl false 7 tsx), (6, .pt 0 0 0), (8, .pt 1 0 0), (9, .sc (.int .i64 (Ω.int i)))], 67,
      [some ⟨3, [.agg [i64 0, i64 0, .nil]], true⟩, some ⟨3, [.agg [i64 0, i64 0, .vw 2 0 (F i).length]], true⟩, some ⟨1, ys i, false⟩]⟩) (fun i => i ≤ s.length) (fun i => s.length - i) 0 (Nat.zero_le _)
    (Sbs.trans (Sbs.nilCell (r := 1) (j := 0) (q := 2) (n := 1) rfl rfl rfl) (Sbs.mk rfl (by rw [hF0, hys]; simp only; rw [hF0]; rfl) ⟨rfl, rfl, rfl, rfl, rfl, zeroI hΩ, trivial⟩)) ?_
  intro i hi
  have hFli := hFl i
  have hyli := hyl i
  have hFai := hFat i
  obtain ⟨m, hm⟩ : ∃ m, (F i).length = m := ⟨_, rfl⟩
  rw [hm] at hFli hyli ⊢
  cbv
  refine br (fun h => ?_) (fun h => ?_) <;> cbv
  · replace h := ltI hΩ h
    obtain ⟨c, hcc⟩ := at_of (cs := s) (by omega : i < s.length)
    have hFc := hFai c hcc
    obtain ⟨b1, b2, hbb, hgc, hhc, hap, hfz, hll⟩ := hrest i c hcc
    have yes : B c = true → [some (Row.mk 3 [.agg [i64 0, i64 0, .nil]] true), some ⟨3, [.agg [i64 0, i64 0, .vw 2 0 (Ω.plus m (Ω.len [i64 c]))]], true⟩, some ⟨1, Ω.app (Ω.take m (ys i)) [i64 c], false⟩] =
        [some ⟨3, [.agg [i64 0, i64 0, .nil]], true⟩, some ⟨3, [.agg [i64 0, i64 0, .vw 2 0 (F (i + 1)).length]], true⟩, some ⟨1, ys (i + 1), false⟩] := fun hb => by
      rw [hb] at hFc
      have e3 : (F (i + 1)).length = m + 1 := by rw [hFc, ← hm]; simp
      have e4 : ys (i + 1) = ys i ++ [i64 c] := by rw [hys]; simp only; rw [hFc]; simp
      rw [e3, e4]
      subst hΩ
      show [_, some (Row.mk 3 [A.agg [i64 0, i64 0, A.vw 2 0 (m + 1)]] true), some (Row.mk 1 ((ys i).take m ++ [i64 c]) false)] = _
      rw [List.take_of_length_le (by omega)]
    have non : B c = false → [some (Row.mk 3 [.agg [i64 0, i64 0, .nil]] true), some ⟨3, [.agg [i64 0, i64 0, .vw 2 0 m]], true⟩, some ⟨1, ys i, false⟩] =
        [some ⟨3, [.agg [i64 0, i64 0, .nil]], true⟩, some ⟨3, [.agg [i64 0, i64 0, .vw 2 0 (F (i + 1)).length]], true⟩, some ⟨1, ys (i + 1), false⟩] := fun hb => by
      rw [hb] at hFc
      have e3 : (F (i + 1)).length = m := by rw [hFc, ← hm]; simp
      have e4 : ys (i + 1) = ys i := by rw [hys]; simp only; rw [hFc]; simp
      rw [e3, e4]
    have hinc : Ω.nat (Ω.ar .add .i64 (Ω.int i) 1) = i + 1 ∧ 0 ≤ Ω.ar .add .i64 (Ω.int i) 1 := by
      subst hΩ
      have e : std.ar .add .i64 (std.int i) 1 = ((i + 1 : Nat) : Int) := inc64 (by omega)
      rw [e]
      exact ⟨rfl, Int.natCast_nonneg _⟩
    have q1 := seg_ok hΩ hno.1 hno.2.1 0 (Ω.nat (Ω.int i))
    have q2 := seg_ok hΩ hno.1 hno.2.1 (Ω.nat (Ω.ar .add .i64 (Ω.int i) 1)) (Ω.len xs)
    have z1 : Ω.seg 0 (Ω.nat (Ω.int i)) xs = xs.take i := by subst hΩ; rfl
    have z2 : Ω.seg (Ω.nat (Ω.ar .add .i64 (Ω.int i) 1)) (Ω.len xs) xs = xs.drop (i + 1) := by rw [hinc.1]; subst hΩ; show (xs.take xs.length).drop (i + 1) = _; rw [List.take_length]
    have l1 : (Ω.seg 0 (Ω.nat (Ω.int i)) xs).length = i := by rw [z1, List.length_take]; omega
    have l2 : (Ω.seg (Ω.nat (Ω.ar .add .i64 (Ω.int i) 1)) (Ω.len xs) xs).length ≤ s.length := by rw [z2, List.length_drop]; omega
    have l3 : Ω.plus 0 (Ω.len (Ω.seg 0 (Ω.nat (Ω.int i)) xs)) = i := by rw [z1]; subst hΩ; show 0 + (xs.take i).length = i; rw [List.length_take]; omega
    have hL : Ω.app (Ω.take (Ω.plus 0 (Ω.len (Ω.seg 0 (Ω.nat (Ω.int i)) xs))) (Ω.app (Ω.take 0 []) (Ω.seg 0 (Ω.nat (Ω.int i)) xs))) (Ω.seg (Ω.nat (Ω.ar .add .i64 (Ω.int i) 1)) (Ω.len xs) xs) = bf c := by
      rw [z1, z2, ← hap]
      subst hΩ
      show ([].take 0 ++ xs.take i).take (0 + (xs.take i).length) ++ _ = _
      rw [List.take_of_length_le (by simp)]
      rfl
    have hLl : Ω.plus (Ω.plus 0 (Ω.len (Ω.seg 0 (Ω.nat (Ω.int i)) xs))) (Ω.len (Ω.seg (Ω.nat (Ω.ar .add .i64 (Ω.int i) 1)) (Ω.len xs) xs)) = (bf c).length := by
      rw [z1, z2, ← hll]
      subst hΩ
      show 0 + (xs.take i).length + _ = _
      rw [Nat.zero_add]
      rfl
    refine ⟨VC_held htab hΩ hmo [1, 2, 3, 5, 6, 7, 8] [0, 4, 9, 10] (by kernel_rfl) ?_⟩
    cbv
    refine ⟨⟨⟨trivial, (nnI hΩ), Nat.zero_le _, by subst hΩ; show ((i : Int)).toNat ≤ xs.length; omega⟩⟩, ⟨⟨hinc.2, trivial, by have := hinc.1; have e : Ω.len xs = xs.length := (by subst hΩ; rfl); show Ω.nat (Ω.ar .add .i64 (Ω.int i) 1) ≤ Ω.len xs; omega, by have e : Ω.len xs = xs.length := (by subst hΩ; rfl); show Ω.len xs ≤ xs.length; omega⟩⟩,
      ⟨⟨q1.1, q1.2, by show (0 + (Ω.seg 0 (Ω.nat (Ω.int i)) xs).length) * 8 ≤ 140737488355328; omega, by show 0 + (Ω.seg 0 (Ω.nat (Ω.int i)) xs).length ≤ 9223372036854775807; omega⟩⟩,
      ⟨⟨q2.1, q2.2, by show (Ω.plus 0 (Ω.len (Ω.seg 0 (Ω.nat (Ω.int i)) xs)) + (Ω.seg (Ω.nat (Ω.ar .add .i64 (Ω.int i) 1)) (Ω.len xs) xs).length) * 8 ≤ 140737488355328; rw [l3]; omega, by show Ω.plus 0 (Ω.len (Ω.seg 0 (Ω.nat (Ω.int i)) xs)) + (Ω.seg (Ω.nat (Ω.ar .add .i64 (Ω.int i) 1)) (Ω.len xs) xs).length ≤ 9223372036854775807; rw [l3]; omega⟩⟩, ?_⟩
    refine call_pure hΩ 3 hgc (mapO2 rfl (ro_vw rfl (hLl.trans (congrArg List.length hL.symm)) ((congrArg (List.map frz) hL).trans hfz))) (fits _) rfl rfl ?_
    cbv
    refine br (fun g => ?_) (fun g => ?_) <;> cbv
    · have g : b1 = true := g
      refine call_pure hΩ 3 hhc (mapO3 rfl (ro_vw rfl (hLl.trans (congrArg List.length hL.symm)) ((congrArg (List.map frz) hL).trans hfz)) rfl) (fits _) rfl rfl ?_
      cbv
      refine br (fun h => ?_) (fun h => ?_) <;> cbv
      · have hb : B c = true := by rw [← hbb, g]; subst hΩ; simpa using h
        refine ⟨VC_atail htab hΩ hmo 6 rfl rfl rfl (by kernel_rfl) ?_⟩
        cbv
        refine ⟨⟨nnI hΩ⟩, _, rdI hΩ hxs hcc, ?_⟩
        cbv
        exact ⟨⟨rfl, okAll rfl, by show (m + 1) * 8 ≤ 140737488355328; omega, by show m + 1 ≤ 9223372036854775807; omega⟩, i + 1, by omega, by omega, Sbs.trans (Sbs.lastN (rows := [_, _, _, _]) rfl) (Sbs.mkL (rows := [_, _, _]) rfl rfl (yes hb) ⟨rfl, rfl, rfl, rfl, rfl, incI hΩ (by omega), trivial⟩)⟩
      · have hb : B c = false := by rw [← hbb, g]; subst hΩ; simpa using h
        exact ⟨i + 1, by omega, by omega, Sbs.mkL (rows := [_, _, _]) rfl rfl (non hb) ⟨rfl, rfl, rfl, rfl, rfl, incI hΩ (by omega), trivial⟩⟩
    · have g : b1 = false := g
      have hb : B c = false := by rw [← hbb, g]; rfl
      exact ⟨i + 1, by omega, by omega, Sbs.mkL (rows := [_, _, _]) rfl rfl (non hb) ⟨rfl, rfl, rfl, rfl, rfl, incI hΩ (by omega), trivial⟩⟩
  · have hil : i = s.length := by have := geI hΩ h; omega
    refine ⟨⟨rfl, by rw [← hyli]; exact Nat.le_refl _⟩, .of ?_⟩
    rw [← hA, g1, e2, ← hFn, ← hil]
    subst hΩ
    show A.agg [i64 0, i64 0, A.sl true 1 ((ys i).take m)] = _
    rw [List.take_of_length_le (by omega), hys]
    rfl
end Go.Proofs.YtfacpamkigmlaaaGreat

/- Walks: is a set consistent? Plain theorems. -/
set_option linter.unusedVariables false
set_option linter.unusedSimpArgs false
namespace Go.Proofs.YtfacpamkigmlaaaGreat
open Go Go.Fw
set_option maxRecDepth 100000
theorem c_specConsistent (l : List Pck) (s : List Int) (hl : l.length ≤ 1048576) (hs : s.length ≤ 1048576) (ho : ∀ o ∈ l, o.Small) : PCtr PP n_spec_Consistent [encP l, .sl false 1 (s.map i64)] (boo (decide (setF l s = 0) && consB l s)) := by
  obtain ⟨Ω, hΩ⟩ : ∃ Ω, Ω = std := ⟨_, rfl⟩
  have hc := c_specSetFault l s hl ho hs
  have hk : setF l s = 0 → PCtr PP n_spec_l3Good [encP l, .sl false 1 (s.map i64)] (boo (consB l s)) := fun h => c_l3Good l s hl hs ho (setF_in h)
  obtain ⟨r, hr⟩ : ∃ r, r = (decide (setF l s = 0) && consB l s) := ⟨_, rfl⟩
  rw [← hr]
  generalize setF l s = k at *
  generalize consB l s = b at *
  unfold encP at *
  generalize l.map (Pck.enc false) = xs at *
  generalize s.map i64 = ys at *
  have htab := tab
  refine PCtr.walk tab hΩ fn_spec_Consistent rfl ?_
  generalize PP = P at *
  cbv
  refine call_pure hΩ 3 hc rfl (fits _) rfl rfl ?_
  cbv
  refine br (fun h => ?_) (fun h => ?_) <;> cbv
  · have h := eqI_t hΩ h
    refine call_pure hΩ 3 (hk h) rfl (fits _) rfl rfl ?_
    cbv
    repeat' (first | (refine br (fun h => ?_) (fun h => ?_) <;> cbv))
    all_goals (refine .of (congrArg boo ?_); subst hΩ; subst hr; simp_all)
  · have h := eqI_f hΩ h
    repeat' (first | (refine br (fun h => ?_) (fun h => ?_) <;> cbv))
    all_goals (refine .of (congrArg boo ?_); subst hΩ; subst hr; simp_all)
end Go.Proofs.YtfacpamkigmlaaaGreat

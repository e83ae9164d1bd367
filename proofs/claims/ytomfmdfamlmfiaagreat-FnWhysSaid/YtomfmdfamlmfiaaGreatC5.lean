/- Walks: faults of a set. Plain theorems. -/
import Derived.Test.YtomfmdfamlmfiaaGreatC4
set_option linter.unusedVariables false
set_option linter.unusedSimpArgs false
namespace Go.Proofs.YtomfmdfamlmfiaaGreat
open Go Go.Fw
set_option maxRecDepth 100000
structure Flt where
  k : Int
  p : Int
  a : Int
def Flt.enc (f : Flt) : A := .agg [i64 f.k, i64 f.p, i64 f.a]
def twB (c : List Pck) (s : List Int) (i : Nat) (n : List UInt8) : Bool := (s.take i).any fun j => (pk c j).n == n
def metB (c : List Pck) (s : List Int) (l : List Trm) : Bool := s.any fun o => l.any (givesB (pk c o))
def givB (c : List Pck) (s : List Int) (k : Int) (t : Trm) : Bool := s.any fun o => !decide (o = k) && givesB (pk c o) t
def nF (c : List Pck) (s : List Int) (k : Int) : Nat → List (List Trm) → List Flt
  | _, [] => []
  | j, l :: ls => (if metB c s l then [] else [⟨2, k, (j : Int)⟩]) ++ nF c s k (j + 1) ls
def bF (c : List Pck) (s : List Int) (k : Int) : Nat → List Trm → List Flt
  | _, [] => []
  | j, t :: ts => (if givB c s k t then [⟨3, k, (j : Int)⟩] else []) ++ bF c s k (j + 1) ts
def tF (c : List Pck) (s : List Int) (i : Nat) (k : Int) : List Flt := if twB c s i (pk c k).n then [⟨1, k, 0⟩] else []
def aF (c : List Pck) (s : List Int) : Nat → List Int → List Flt
  | _, [] => []
  | i, k :: ks => tF c s i k ++ (nF c s k 0 (pk c k).d ++ (bF c s k 0 (pk c k).b ++ aF c s (i + 1) ks))
/-- All faults of a set. -/
def fltS (c : List Pck) (s : List Int) : List Flt := aF c s 0 s
theorem nF_at {c : List Pck} {s : List Int} {k : Int} {d : List (List Trm)} {j : Nat} {l : List Trm} (h : d[j]? = some l) : nF c s k j (d.drop j) = (if metB c s l then [] else [⟨2, k, (j : Int)⟩]) ++ nF c s k (j + 1) (d.drop (j + 1)) := by
  obtain ⟨h1, h2⟩ := List.getElem?_eq_some_iff.1 h
  rw [List.drop_eq_getElem_cons h1, h2, nF]
theorem bF_at {c : List Pck} {s : List Int} {k : Int} {d : List Trm} {j : Nat} {l : Trm} (h : d[j]? = some l) : bF c s k j (d.drop j) = (if givB c s k l then [⟨3, k, (j : Int)⟩] else []) ++ bF c s k (j + 1) (d.drop (j + 1)) := by
  obtain ⟨h1, h2⟩ := List.getElem?_eq_some_iff.1 h
  rw [List.drop_eq_getElem_cons h1, h2, bF]
theorem aF_at {c : List Pck} {s l : List Int} {i : Nat} {k : Int} (h : l[i]? = some k) : aF c s i (l.drop i) = tF c s i k ++ (nF c s k 0 (pk c k).d ++ (bF c s k 0 (pk c k).b ++ aF c s (i + 1) (l.drop (i + 1)))) := by
  obtain ⟨h1, h2⟩ := List.getElem?_eq_some_iff.1 h
  rw [List.drop_eq_getElem_cons h1, h2, aF]
theorem nF_len (c : List Pck) (s : List Int) (k : Int) : ∀ (d : List (List Trm)) (j : Nat), (nF c s k j d).length ≤ d.length
  | [], _ => by simp [nF]
  | l :: d, j => by
    have := nF_len c s k d (j + 1)
    rw [nF, List.length_append, List.length_cons]
    split <;> simp <;> omega
theorem bF_len (c : List Pck) (s : List Int) (k : Int) : ∀ (d : List Trm) (j : Nat), (bF c s k j d).length ≤ d.length
  | [], _ => by simp [bF]
  | l :: d, j => by
    have := bF_len c s k d (j + 1)
    rw [bF, List.length_append, List.length_cons]
    split <;> simp <;> omega
theorem aF_len (c : List Pck) (s : List Int) : ∀ (l : List Int) (i : Nat), (∀ k ∈ l, (pk c k).d.length ≤ 1048576 ∧ (pk c k).b.length ≤ 1048576) → (aF c s i l).length ≤ l.length * 2097153
  | [], _, _ => by simp [aF]
  | k :: l, i, h => by
    have h1 := aF_len c s l (i + 1) fun x hx => h x (by simp [hx])
    have h2 := nF_len c s k (pk c k).d 0
    have h3 := bF_len c s k (pk c k).b 0
    have h4 := h k (by simp)
    have h5 : (tF c s i k).length ≤ 1 := by unfold tF; split <;> simp
    rw [aF, List.length_append, List.length_append, List.length_append, List.length_cons]
    omega
theorem fltS_len {c : List Pck} {s : List Int} (h : ∀ k ∈ s, (pk c k).d.length ≤ 1048576 ∧ (pk c k).b.length ≤ 1048576) (hs : s.length ≤ 1048576) : (fltS c s).length ≤ 2199024304128 := by
  have := aF_len c s s 0 h
  unfold fltS
  omega
theorem metB_eq {c : List Pck} {s : List Int} (h : ∀ k ∈ s, 0 ≤ k) (l : List Trm) : metB c s l = l.any (givB c s (-1)) := by
  unfold metB givB
  rw [Bool.eq_iff_iff]
  simp only [List.any_eq_true, Bool.and_eq_true, Bool.not_eq_true', decide_eq_false_iff_not]
  constructor
  · rintro ⟨o, ho, t, ht, hg⟩
    exact ⟨t, ht, o, ho, by have := h o ho; omega, hg⟩
  · rintro ⟨t, ht, o, ho, _, hg⟩
    exact ⟨o, ho, t, ht, hg⟩
theorem c_l3Given (l : List Pck) (s : List Int) (t : Trm) (but : Int) (hl : l.length ≤ 1048576) (hs : s.length ≤ 1048576) (ho : ∀ o ∈ l, o.Small) (hk : ∀ k ∈ s, inB k 0 ((l.length : Int) - 1) = true) : PCtr PP n_spec_l3Given [encP l, .sl false 1 (s.map i64), t.enc, i64 but] (boo (givB l s but t)) := by
  obtain ⟨Ω, hΩ⟩ : ∃ Ω, Ω = std := ⟨_, rfl⟩
  obtain ⟨r, hr⟩ : ∃ r, r = givB l s but t := ⟨_, rfl⟩
  rw [← hr]
  unfold givB at hr
  obtain ⟨xs, hxs⟩ : ∃ xs, xs = l.map (Pck.enc false) := ⟨_, rfl⟩
  have hlen : xs.length = l.length := by rw [hxs, List.length_map]
  obtain ⟨ys, hys⟩ : ∃ ys, ys = s.map i64 := ⟨_, rfl⟩
  have hylen : ys.length = s.length := by rw [hys, List.length_map]
  unfold encP at *
  rw [← hxs, ← hys]
  have hat : ∀ k ∈ s, 0 ≤ k ∧ ∃ n v1 v2 v3 sz ps ds bs, xs[k.toNat]? = some (.agg [str n, i64 v1, i64 v2, i64 v3, i64 sz, .sl false 1 ps, .sl false 1 ds, .sl false 7 bs]) ∧ PCtr PP n_spec_l2Gives [.agg [str n, i64 v1, i64 v2, i64 v3, i64 sz, .sl false 1 ps, .sl false 1 ds, .sl false 7 bs], t.enc] (boo (givesB (pk l k) t)) := fun k h => by
    obtain ⟨h0, h1, h2, h3⟩ := pk_at (hk k h)
    obtain ⟨ps, ds, bs, hen, -, -, -⟩ := enc_raw (pk l k)
    have := c_l2Gives (pk l k) t (by have := (ho _ h3).p; omega)
    rw [hen] at this
    exact ⟨h0, _, _, _, _, _, ps, ds, bs, by rw [hxs, List.getElem?_map, h2]; exact congrArg some hen, this⟩
  clear hk ho hxs
  have htab := tab
  have hmo := hmo
  refine PCtr.walk tab hΩ fn_spec_l3Given rfl ?_
  generalize PP = P at *
  cbv
  refine loopX htab hΩ (fun i : Nat => ⟨[(0, .sl false 8 xs), (1, .sl false 1 ys), (3, .sc (.int .i64 but)), (6, .pt 0 0 0), (9, .sc (.int .i64 (Ω.int i)))], 33, [some ⟨7, [t.enc], true⟩]⟩) (fun i => i ≤ s.length ∧ r = (s.drop i).any fun o => !decide (o = but) && givesB (pk l o) t) (fun i => s.length - i) 0
    ⟨Nat.zero_le _, hr⟩ (Sbs.mk rfl rfl ⟨rfl, rfl, rfl, rfl, zeroI hΩ, trivial⟩) ?_
  rintro i ⟨hi, he⟩
  cbv
  refine br (fun h => ?_) (fun h => ?_) <;> cbv
  · replace h := ltI hΩ h
    obtain ⟨c, hcc⟩ := at_of (cs := s) (by omega : i < s.length)
    rw [any_at _ hcc] at he
    obtain ⟨hc0, n, v1, v2, v3, sz, ps, ds, bs, hx, hg⟩ := hat c (List.mem_of_getElem? hcc)
    generalize givesB (pk l c) t = gb at hg he
    refine ⟨VC_drawn htab hΩ hmo (by kernel_rfl) ?_⟩
    cbv
    refine ⟨⟨nnI hΩ⟩, _, rdI hΩ hys hcc, ?_⟩
    cbv
    refine br (fun g => ?_) (fun g => ?_) <;> cbv
    · have g := neI_t hΩ g
      refine ⟨⟨nnI hΩ⟩, _, rdI hΩ hys hcc, ?_⟩
      cbv
      refine ⟨⟨hc0⟩, _, hx, ?_⟩
      cbv
      refine QCall_pure (k := 3) hg rfl (fits _) rfl ?_
      cbv
      refine br (fun h => ?_) (fun h => ?_) <;> cbv
      · have h : gb = true := by subst hΩ; exact h
        exact .of (congrArg boo (by rw [he, h, decide_eq_false g]; rfl))
      · have h : gb = false := by subst hΩ; exact h
        rw [h, Bool.and_false, Bool.false_or] at he
        exact ⟨i + 1, ⟨by omega, he⟩, by omega, Sbs.mk rfl rfl ⟨rfl, rfl, rfl, rfl, incI hΩ (by omega), trivial⟩⟩
    · have g := neI_f hΩ g
      rw [decide_eq_true g, Bool.not_true, Bool.false_and, Bool.false_or] at he
      exact ⟨i + 1, ⟨by omega, he⟩, by omega, Sbs.mk rfl rfl ⟨rfl, rfl, rfl, rfl, incI hΩ (by omega), trivial⟩⟩
  · replace h := geI hΩ h
    exact .of (congrArg boo (by rw [he, List.drop_of_length_le (by omega)]; rfl))
theorem c_l3Met (l : List Pck) (s : List Int) (d : List Trm) (hl : l.length ≤ 1048576) (hs : s.length ≤ 1048576) (hd : d.length ≤ 1048576) (ho : ∀ o ∈ l, o.Small) (hk : ∀ k ∈ s, inB k 0 ((l.length : Int) - 1) = true) : PCtr PP n_spec_l3Met [encP l, .sl false 1 (s.map i64), .sl false 7 (d.map Trm.enc)] (boo (metB l s d)) := by
  obtain ⟨Ω, hΩ⟩ : ∃ Ω, Ω = std := ⟨_, rfl⟩
  obtain ⟨r, hr⟩ : ∃ r, r = metB l s d := ⟨_, rfl⟩
  rw [← hr]
  rw [metB_eq (fun k h => (pk_at (hk k h)).1)] at hr
  obtain ⟨zs, hzs⟩ : ∃ zs, zs = d.map Trm.enc := ⟨_, rfl⟩
  have hlen : zs.length = d.length := by rw [hzs, List.length_map]
  rw [← hzs]
  have hg := fun t => c_l3Given l s t (-1) hl hs ho hk
  unfold encP at *
  generalize givB l s (-1) = G at *
  generalize l.map (Pck.enc false) = xs at *
  generalize s.map i64 = ys at *
  have htab := tab
  have hmo := hmo
  refine PCtr.walk tab hΩ fn_spec_l3Met rfl ?_
  generalize PP = P at *
  cbv
  refine loopX htab hΩ (fun i : Nat => ⟨[(0, .sl false 8 xs), (1, .sl false 1 ys), (2, .sl false 7 zs), (7, .sc (.int .i64 (Ω.int i)))], 21, []⟩) (fun i => i ≤ d.length ∧ r = (d.drop i).any G) (fun i => d.length - i) 0
    ⟨Nat.zero_le _, hr⟩ (Sbs.mk rfl rfl ⟨rfl, rfl, rfl, zeroI hΩ, trivial⟩) ?_
  rintro i ⟨hi, he⟩
  cbv
  refine br (fun h => ?_) (fun h => ?_) <;> cbv
  · replace h := ltI hΩ h
    obtain ⟨c, hcc⟩ := at_of (cs := d) (by omega : i < d.length)
    rw [any_at _ hcc] at he
    refine ⟨⟨nnI hΩ⟩, _, rdI hΩ hzs hcc, ?_⟩
    cbv
    refine call_pure hΩ 3 (hg c) rfl (fits _) rfl rfl ?_
    cbv
    refine br (fun g => ?_) (fun g => ?_) <;> cbv
    · exact .of (congrArg boo (by rw [he, show G c = true from g]; rfl))
    · rw [show G c = false from g, Bool.false_or] at he
      exact ⟨i + 1, ⟨by omega, he⟩, by omega, Sbs.mk rfl rfl ⟨rfl, rfl, rfl, incI hΩ (by omega), trivial⟩⟩
  · replace h := geI hΩ h
    exact .of (congrArg boo (by rw [he, List.drop_of_length_le (by omega)]; rfl))
theorem c_l3Faults (l : List Pck) (s : List Int) (hl : l.length ≤ 1048576) (hs : s.length ≤ 1048576) (ho : ∀ o ∈ l, o.Small) (hk : ∀ k ∈ s, inB k 0 ((l.length : Int) - 1) = true) : PCtr PP n_spec_l3Faults [encP l, .sl false 1 (s.map i64)] (.sl true 3 ((fltS l s).map Flt.enc)) := by
  obtain ⟨Ω, hΩ⟩ : ∃ Ω, Ω = std := ⟨_, rfl⟩
  have hat : ∀ k, inB k 0 ((l.length : Int) - 1) = true → 0 ≤ k ∧ ∃ v1 v2 v3 sz ps ds bs, (l.map (Pck.enc false))[k.toNat]? = some (.agg [str (pk l k).n, i64 v1, i64 v2, i64 v3, i64 sz, .sl false 1 ps, .sl false 1 ds, .sl false 7 bs]) ∧ pk l k ∈ l ∧
      Pck.enc false (pk l k) = .agg [str (pk l k).n, i64 v1, i64 v2, i64 v3, i64 sz, .sl false 1 ps, .sl false 1 ds, .sl false 7 bs] ∧ ds = (pk l k).d.map (encTs false) ∧ bs = (pk l k).b.map Trm.enc := fun k h => by
    obtain ⟨h0, h1, h2, h3⟩ := pk_at h
    obtain ⟨ps, ds, bs, hen, hp, hd, hb⟩ := enc_raw (pk l k)
    exact ⟨h0, _, _, _, _, ps, ds, bs, by rw [List.getElem?_map, h2]; exact congrArg some hen, h3, hen, hd, hb⟩
  obtain ⟨tot, htot⟩ : ∃ tot, tot = fltS l s := ⟨_, rfl⟩
  have hb : tot.length ≤ 2199024304128 := by rw [htot]; exact fltS_len (fun k h => ⟨(ho _ (pk_at (hk k h)).2.2.2).d, (ho _ (pk_at (hk k h)).2.2.2).b⟩) hs
  rw [← htot]
  obtain ⟨e, he⟩ : ∃ e : List Flt → List A, e = List.map Flt.enc := ⟨_, rfl⟩
  have hel : ∀ o, (e o).length = o.length := fun o => by rw [he, List.length_map]
  have hea : ∀ o f, e (o ++ [f]) = e o ++ [f.enc] := fun o f => by rw [he, List.map_append]; rfl
  have he0 : e [] = [] := by rw [he]; rfl
  have hap : ∀ o f m, o.length = m → Ω.app (Ω.take m (e o)) [f.enc] = e (o ++ [f]) := fun o f m h => by
    rw [hea]
    subst hΩ
    show (e o).take m ++ [f.enc] = _
    rw [List.take_of_length_le (by rw [hel]; omega)]
  have hlp : ∀ (o : List Flt) (f : Flt) (x : A) m, o.length = m → Ω.plus m (Ω.len [x]) = (o ++ [f]).length := fun o f x m h => by
    rw [List.length_append, h]; subst hΩ; rfl
  rw [show List.map Flt.enc = e from he.symm]
  clear he
  obtain ⟨cs, hcs⟩ : ∃ cs, cs = l.map (Pck.enc false) := ⟨_, rfl⟩
  obtain ⟨xs, hxs⟩ : ∃ xs, xs = s.map i64 := ⟨_, rfl⟩
  have hxl : xs.length = s.length := by rw [hxs, List.length_map]
  have hmet : ∀ d : List Trm, d.length ≤ 1048576 → PCtr PP n_spec_l3Met [encP l, .sl false 1 xs, .sl false 7 (d.map Trm.enc)] (boo (metB l s d)) := fun d hd => by
    rw [hxs]
    exact c_l3Met l s d hl hs hd ho hk
  have hgiv : ∀ q t, PCtr PP n_spec_l3Given [encP l, .sl false 1 xs, t.enc, i64 q] (boo (givB l s q t)) := fun q t => by
    rw [hxs]
    exact c_l3Given l s t q hl hs ho hk
  unfold encP at *
  unfold fltS at htot
  rw [← hcs] at hat hmet hgiv ⊢
  rw [← hxs]
  have htab := tab
  have hmo := hmo
  refine PCtr.walk tab hΩ fn_spec_l3Faults rfl ?_
  generalize PP = P at *
  cbv
  refine loopX htab hΩ (fun i : Nat × List Flt => ⟨[(0, .sl false 8 cs), (1, .sl false 1 xs), (5, .vw 0 0 i.2.length), (6, .sc (.int .i64 (Ω.int i.1)))], 103,
      [some ⟨3, e i.2, false⟩]⟩) (fun i => i.1 ≤ s.length ∧ i.2 ++ aF l s i.1 (s.drop i.1) = tot) (fun i => s.length - i.1) (0, []) ⟨Nat.zero_le _, htot.symm⟩
    (Sbs.mk rfl (by dsimp only; rw [he0]) ⟨rfl, rfl, rfl, zeroI hΩ, trivial⟩) ?_
  rintro ⟨i, out⟩ ⟨hi, hout⟩
  dsimp only at hi hout
  dsimp only
  obtain ⟨m, hm⟩ : ∃ m, out.length = m := ⟨_, rfl⟩
  rw [hm]
  cbv
  refine br (fun h => ?_) (fun h => ?_) <;> cbv
  · replace h := ltI hΩ h
    obtain ⟨c, hcc⟩ := at_of (cs := s) (by omega : i < s.length)
    rw [aF_at hcc] at hout
    have hcin := hk c (List.mem_of_getElem? hcc)
    obtain ⟨hc0, v1, v2, v3, sz, ps, ds, bs, hx, hm2, hen, hds, hbs⟩ := hat c hcin
    have hdl : ds.length = (pk l c).d.length := by rw [hds, List.length_map]
    have hbl : bs.length = (pk l c).b.length := by rw [hbs, List.length_map]
    have hsm := ho _ hm2
    unfold tF at hout
    have hd1 := hsm.d
    have hd2 := hsm.e
    have hb1 := hsm.b
    generalize (pk l c).d = d at *
    generalize (pk l c).b = b at *
    generalize (pk l c).n = nn at *
    obtain ⟨tw, htw⟩ : ∃ tw, tw = twB l s i nn := ⟨_, rfl⟩
    rw [← htw] at hout
    unfold twB at htw
    refine ⟨⟨nnI hΩ⟩, _, rdI hΩ hxs hcc, ?_⟩
    cbv
    refine ⟨⟨hc0⟩, _, hx, ?_⟩
    cbv
    obtain ⟨rest, hrest⟩ : ∃ rest, rest = nF l s c 0 d ++ (bF l s c 0 b ++ aF l s (i + 1) (s.drop (i + 1))) := ⟨_, rfl⟩
    rw [← hrest] at hout
    have hml : tw = true → m + 1 ≤ 2199024304129 := fun _ => by
      have := congrArg List.length hout
      simp only [List.length_append] at this
      omega
    refine loopX htab hΩ (fun q : Nat => ⟨[(0, .sl false 8 cs), (1, .sl false 1 xs), (5, .vw 0 0 m), (6, .sc (.int .i64 (Ω.int i))), (7, .pt 1 0 0), (8, .sc (.int .i64 (Ω.int q)))], 103,
        [some ⟨3, e out, false⟩, some ⟨8, [.agg [str nn, i64 v1, i64 v2, i64 v3, i64 sz, .sl false 1 ps, .sl false 1 ds, .sl false 7 bs]], true⟩]⟩)
      (fun q => q ≤ i ∧ tw = ((s.take i).drop q).any fun j => (pk l j).n == nn) (fun q => i - q) 0 ⟨Nat.zero_le _, htw⟩ (Sbs.mk rfl rfl ⟨rfl, rfl, rfl, rfl, rfl, zeroI hΩ, trivial⟩) ?_
    rintro q ⟨hq, hqa⟩
    cbv
    refine br (fun g => ?_) (fun g => ?_) <;> cbv
    · replace g := ltN hΩ g
      obtain ⟨p, hpp⟩ := at_of (cs := s) (by omega : q < s.length)
      rw [any_at _ (show (s.take i)[q]? = some p by rw [List.getElem?_take_of_lt g]; exact hpp)] at hqa
      obtain ⟨hp0, w1, w2, w3, wz, ps', ds', bs', hx', -, -, -, -⟩ := hat p (hk p (List.mem_of_getElem? hpp))
      generalize (pk l p).n = n2 at hqa hx'
      refine ⟨VC_drawn htab hΩ hmo (by kernel_rfl) ?_⟩
      cbv
      refine ⟨⟨nnI hΩ⟩, _, rdI hΩ hxs hpp, ?_⟩
      cbv
      refine ⟨⟨hp0⟩, _, hx', ?_⟩
      cbv
      refine br (fun g2 => ?_) (fun g2 => ?_) <;> cbv
      · have g2 : tw = true := by rw [hqa, show (n2 == nn) = true by subst hΩ; exact g2]; rfl
        have hml := hml g2
        rw [g2, if_pos rfl, ← List.append_assoc] at hout
        refine ⟨⟨nnI hΩ⟩, _, rdI hΩ hxs hcc, ?_⟩
        cbv
        refine ⟨⟨rfl, okAll rfl, by show (m + 1) * 24 ≤ 140737488355328; omega, by show m + 1 ≤ 9223372036854775807; omega⟩, ?_⟩
        refine loopX htab hΩ (fun j : Nat × List Flt => ⟨[(0, .sl false 8 cs), (1, .sl false 1 xs), (5, .vw 0 0 j.2.length), (6, .sc (.int .i64 (Ω.int i))), (7, .pt 1 0 0), (9, .sc (.int .i64 (Ω.int j.1)))], 103, [some ⟨3, e j.2, false⟩, some ⟨8, [.agg [str nn, i64 v1, i64 v2, i64 v3, i64 sz, .sl false 1 ps, .sl false 1 ds, .sl false 7 bs]], true⟩]⟩) (fun j => j.1 ≤ d.length ∧ j.2 ++ (nF l s c j.1 (d.drop j.1) ++ (bF l s c 0 b ++ aF l s (i + 1) (s.drop (i + 1)))) = tot) (fun j => d.length - j.1) (0, out ++ [(⟨1, c, 0⟩ : Flt)]) ⟨Nat.zero_le _, by rw [hrest] at hout; exact hout⟩
          (Sbs.trans (Sbs.lastN (rows := [_, _]) rfl) (Sbs.mk rfl (by dsimp only; rw [← hap out ⟨1, c, 0⟩ m hm]; subst hΩ; rfl) ⟨rfl, rfl, congrArg (A.vw 0 0) (hlp out ⟨1, c, 0⟩ _ m hm), rfl, rfl, zeroI hΩ, trivial⟩)) ?_
        rintro ⟨j, o2⟩ ⟨hj, hj2⟩
        dsimp only at hj hj2
        dsimp only
        obtain ⟨m2, hm2⟩ : ∃ m2, o2.length = m2 := ⟨_, rfl⟩
        rw [hm2]
        cbv
        have hml2 : m2 ≤ 2199024304128 := by
          have := congrArg List.length hj2
          rw [List.length_append, hm2] at this
          omega
        refine br (fun h => ?_) (fun h => ?_) <;> cbv
        · replace h := ltI hΩ h
          obtain ⟨u, huu⟩ := at_of (cs := d) (by omega : j < d.length)
          rw [nF_at huu, List.append_assoc] at hj2
          have hc := hmet u (hd2 u (List.mem_of_getElem? huu))
          obtain ⟨us, hus⟩ : ∃ us, us = u.map Trm.enc := ⟨_, rfl⟩
          rw [← hus] at hc
          have hrd : ds[(Ω.int j).toNat]? = some (.sl false 7 us) := (rdI hΩ hds huu).trans (by rw [hus]; rfl)
          generalize metB l s u = gu at hc hj2
          refine ⟨⟨nnI hΩ⟩, _, hrd, ?_⟩
          cbv
          refine call_pure hΩ 3 hc rfl (fits _) rfl rfl ?_
          cbv
          refine br (fun g => ?_) (fun g => ?_) <;> cbv
          · have g : gu = false := notT' hΩ g
            rw [g, if_neg (by simp), ← List.append_assoc] at hj2
            refine ⟨⟨nnI hΩ⟩, _, rdI hΩ hxs hcc, ?_⟩
            cbv
            refine ⟨⟨rfl, okAll rfl, by show (m2 + 1) * 24 ≤ 140737488355328; omega, by show m2 + 1 ≤ 9223372036854775807; omega⟩, (j + 1, o2 ++ [⟨2, c, j⟩]), ⟨by dsimp only; omega, hj2⟩, by dsimp only; omega, ?_⟩
            exact Sbs.trans (Sbs.lastN (rows := [_, _]) rfl) (Sbs.mk rfl (by dsimp only; rw [← hap o2 ⟨2, c, j⟩ m2 hm2]; subst hΩ; rfl) ⟨rfl, rfl, congrArg (A.vw 0 0) (hlp o2 ⟨2, c, j⟩ _ m2 hm2), rfl, rfl, incI hΩ (by omega), trivial⟩)
          · have g : gu = true := notF' hΩ g
            rw [g] at hj2
            exact ⟨(j + 1, o2), ⟨by dsimp only; omega, hj2⟩, by dsimp only; omega, Sbs.mk rfl rfl ⟨rfl, rfl, congrArg (A.vw 0 0) hm2.symm, rfl, rfl, incI hΩ (by omega), trivial⟩⟩
        · replace h := geI hΩ h
          rw [List.drop_of_length_le (by omega : d.length ≤ j), nF, List.nil_append] at hj2
          obtain ⟨o1, m1, hm1, rfl⟩ : ∃ o1 m1, o1.length = m1 ∧ o1 = o2 := ⟨_, _, rfl, rfl⟩
          obtain rfl : m2 = m1 := hm2.symm.trans hm1
          clear hm2
          refine loopX htab hΩ (fun j : Nat × List Flt => ⟨[(0, .sl false 8 cs), (1, .sl false 1 xs), (5, .vw 0 0 j.2.length), (6, .sc (.int .i64 (Ω.int i))), (7, .pt 1 0 0), (10, .sc (.int .i64 (Ω.int j.1)))], 103, [some ⟨3, e j.2, false⟩, some ⟨8, [.agg [str nn, i64 v1, i64 v2, i64 v3, i64 sz, .sl false 1 ps, .sl false 1 ds, .sl false 7 bs]], true⟩]⟩) (fun j => j.1 ≤ b.length ∧ j.2 ++ (bF l s c j.1 (b.drop j.1) ++ aF l s (i + 1) (s.drop (i + 1))) = tot) (fun j => b.length - j.1) (0, o1) ⟨Nat.zero_le _, hj2⟩
            (Sbs.mk rfl rfl ⟨rfl, rfl, congrArg (A.vw 0 0) hm1.symm, rfl, rfl, zeroI hΩ, trivial⟩) ?_
          rintro ⟨j, o2⟩ ⟨hj, hj2⟩
          dsimp only at hj hj2
          dsimp only
          obtain ⟨m2, hm2⟩ : ∃ m2, o2.length = m2 := ⟨_, rfl⟩
          rw [hm2]
          cbv
          have hml2 : m2 ≤ 2199024304128 := by
            have := congrArg List.length hj2
            rw [List.length_append, hm2] at this
            omega
          refine br (fun h => ?_) (fun h => ?_) <;> cbv
          · replace h := ltI hΩ h
            obtain ⟨u, huu⟩ := at_of (cs := b) (by omega : j < b.length)
            rw [bF_at huu, List.append_assoc] at hj2
            have hc := hgiv c u
            generalize givB l s c u = gu at hc hj2
            refine ⟨VC_drawn htab hΩ hmo (by kernel_rfl) ?_⟩
            cbv
            refine ⟨⟨nnI hΩ⟩, _, rdI hΩ hbs huu, ?_⟩
            cbv
            refine ⟨⟨nnI hΩ⟩, _, rdI hΩ hxs hcc, ?_⟩
            cbv
            refine QCall_pure (k := 3) hc rfl (fits _) rfl ?_
            cbv
            refine br (fun g => ?_) (fun g => ?_) <;> cbv
            · have g : gu = true := g
              rw [g, if_pos rfl, ← List.append_assoc] at hj2
              refine ⟨⟨nnI hΩ⟩, _, rdI hΩ hxs hcc, ?_⟩
              cbv
              refine ⟨⟨rfl, okAll rfl, by show (m2 + 1) * 24 ≤ 140737488355328; omega, by show m2 + 1 ≤ 9223372036854775807; omega⟩, (j + 1, o2 ++ [⟨3, c, j⟩]), ⟨by dsimp only; omega, hj2⟩, by dsimp only; omega, ?_⟩
              exact Sbs.trans (Sbs.lastN (rows := [_, _]) rfl) (Sbs.mk rfl (by dsimp only; rw [← hap o2 ⟨3, c, j⟩ m2 hm2]; subst hΩ; rfl) ⟨rfl, rfl, congrArg (A.vw 0 0) (hlp o2 ⟨3, c, j⟩ _ m2 hm2), rfl, rfl, incI hΩ (by omega), trivial⟩)
            · have g : gu = false := g
              rw [g] at hj2
              exact ⟨(j + 1, o2), ⟨by dsimp only; omega, hj2⟩, by dsimp only; omega, Sbs.mk rfl rfl ⟨rfl, rfl, congrArg (A.vw 0 0) hm2.symm, rfl, rfl, incI hΩ (by omega), trivial⟩⟩
          · replace h := geI hΩ h
            rw [List.drop_of_length_le (by omega : b.length ≤ j), bF, List.nil_append] at hj2
            exact ⟨(i + 1, o2), ⟨by dsimp only; omega, hj2⟩, by dsimp only; omega, Sbs.mkL (rows := [_]) rfl rfl rfl ⟨rfl, rfl, congrArg (A.vw 0 0) hm2.symm, incI hΩ (by omega), trivial⟩⟩

      · rw [show (n2 == nn) = false by subst hΩ; exact g2, Bool.false_or] at hqa
        exact ⟨q + 1, ⟨by omega, hqa⟩, by omega, Sbs.mk rfl rfl ⟨rfl, rfl, rfl, rfl, rfl, incI hΩ (by omega), trivial⟩⟩
    · replace g := geN hΩ g
      rw [List.drop_of_length_le (by simp; omega), List.any_nil] at hqa
      rw [hqa] at hout
      refine loopX htab hΩ (fun j : Nat × List Flt => ⟨[(0, .sl false 8 cs), (1, .sl false 1 xs), (5, .vw 0 0 j.2.length), (6, .sc (.int .i64 (Ω.int i))), (7, .pt 1 0 0), (9, .sc (.int .i64 (Ω.int j.1)))], 103, [some ⟨3, e j.2, false⟩, some ⟨8, [.agg [str nn, i64 v1, i64 v2, i64 v3, i64 sz, .sl false 1 ps, .sl false 1 ds, .sl false 7 bs]], true⟩]⟩) (fun j => j.1 ≤ d.length ∧ j.2 ++ (nF l s c j.1 (d.drop j.1) ++ (bF l s c 0 b ++ aF l s (i + 1) (s.drop (i + 1)))) = tot) (fun j => d.length - j.1) (0, out) ⟨Nat.zero_le _, by rw [hrest] at hout; exact hout⟩
        (Sbs.mk rfl rfl ⟨rfl, rfl, congrArg (A.vw 0 0) hm.symm, rfl, rfl, zeroI hΩ, trivial⟩) ?_
      rintro ⟨j, o2⟩ ⟨hj, hj2⟩
      dsimp only at hj hj2
      dsimp only
      obtain ⟨m2, hm2⟩ : ∃ m2, o2.length = m2 := ⟨_, rfl⟩
      rw [hm2]
      cbv
      have hml2 : m2 ≤ 2199024304128 := by
        have := congrArg List.length hj2
        rw [List.length_append, hm2] at this
        omega
      refine br (fun h => ?_) (fun h => ?_) <;> cbv
      · replace h := ltI hΩ h
        obtain ⟨u, huu⟩ := at_of (cs := d) (by omega : j < d.length)
        rw [nF_at huu, List.append_assoc] at hj2
        have hc := hmet u (hd2 u (List.mem_of_getElem? huu))
        obtain ⟨us, hus⟩ : ∃ us, us = u.map Trm.enc := ⟨_, rfl⟩
        rw [← hus] at hc
        have hrd : ds[(Ω.int j).toNat]? = some (.sl false 7 us) := (rdI hΩ hds huu).trans (by rw [hus]; rfl)
        generalize metB l s u = gu at hc hj2
        refine ⟨⟨nnI hΩ⟩, _, hrd, ?_⟩
        cbv
        refine call_pure hΩ 3 hc rfl (fits _) rfl rfl ?_
        cbv
        refine br (fun g => ?_) (fun g => ?_) <;> cbv
        · have g : gu = false := notT' hΩ g
          rw [g, if_neg (by simp), ← List.append_assoc] at hj2
          refine ⟨⟨nnI hΩ⟩, _, rdI hΩ hxs hcc, ?_⟩
          cbv
          refine ⟨⟨rfl, okAll rfl, by show (m2 + 1) * 24 ≤ 140737488355328; omega, by show m2 + 1 ≤ 9223372036854775807; omega⟩, (j + 1, o2 ++ [⟨2, c, j⟩]), ⟨by dsimp only; omega, hj2⟩, by dsimp only; omega, ?_⟩
          exact Sbs.trans (Sbs.lastN (rows := [_, _]) rfl) (Sbs.mk rfl (by dsimp only; rw [← hap o2 ⟨2, c, j⟩ m2 hm2]; subst hΩ; rfl) ⟨rfl, rfl, congrArg (A.vw 0 0) (hlp o2 ⟨2, c, j⟩ _ m2 hm2), rfl, rfl, incI hΩ (by omega), trivial⟩)
        · have g : gu = true := notF' hΩ g
          rw [g] at hj2
          exact ⟨(j + 1, o2), ⟨by dsimp only; omega, hj2⟩, by dsimp only; omega, Sbs.mk rfl rfl ⟨rfl, rfl, congrArg (A.vw 0 0) hm2.symm, rfl, rfl, incI hΩ (by omega), trivial⟩⟩
      · replace h := geI hΩ h
        rw [List.drop_of_length_le (by omega : d.length ≤ j), nF, List.nil_append] at hj2
        obtain ⟨o1, m1, hm1, rfl⟩ : ∃ o1 m1, o1.length = m1 ∧ o1 = o2 := ⟨_, _, rfl, rfl⟩
        obtain rfl : m2 = m1 := hm2.symm.trans hm1
        clear hm2
        refine loopX htab hΩ (fun j : Nat × List Flt => ⟨[(0, .sl false 8 cs), (1, .sl false 1 xs), (5, .vw 0 0 j.2.length), (6, .sc (.int .i64 (Ω.int i))), (7, .pt 1 0 0), (10, .sc (.int .i64 (Ω.int j.1)))], 103, [some ⟨3, e j.2, false⟩, some ⟨8, [.agg [str nn, i64 v1, i64 v2, i64 v3, i64 sz, .sl false 1 ps, .sl false 1 ds, .sl false 7 bs]], true⟩]⟩) (fun j => j.1 ≤ b.length ∧ j.2 ++ (bF l s c j.1 (b.drop j.1) ++ aF l s (i + 1) (s.drop (i + 1))) = tot) (fun j => b.length - j.1) (0, o1) ⟨Nat.zero_le _, hj2⟩
          (Sbs.mk rfl rfl ⟨rfl, rfl, congrArg (A.vw 0 0) hm1.symm, rfl, rfl, zeroI hΩ, trivial⟩) ?_
        rintro ⟨j, o2⟩ ⟨hj, hj2⟩
        dsimp only at hj hj2
        dsimp only
        obtain ⟨m2, hm2⟩ : ∃ m2, o2.length = m2 := ⟨_, rfl⟩
        rw [hm2]
        cbv
        have hml2 : m2 ≤ 2199024304128 := by
          have := congrArg List.length hj2
          rw [List.length_append, hm2] at this
          omega
        refine br (fun h => ?_) (fun h => ?_) <;> cbv
        · replace h := ltI hΩ h
          obtain ⟨u, huu⟩ := at_of (cs := b) (by omega : j < b.length)
          rw [bF_at huu, List.append_assoc] at hj2
          have hc := hgiv c u
          generalize givB l s c u = gu at hc hj2
          refine ⟨VC_drawn htab hΩ hmo (by kernel_rfl) ?_⟩
          cbv
          refine ⟨⟨nnI hΩ⟩, _, rdI hΩ hbs huu, ?_⟩
          cbv
          refine ⟨⟨nnI hΩ⟩, _, rdI hΩ hxs hcc, ?_⟩
          cbv
          refine QCall_pure (k := 3) hc rfl (fits _) rfl ?_
          cbv
          refine br (fun g => ?_) (fun g => ?_) <;> cbv
          · have g : gu = true := g
            rw [g, if_pos rfl, ← List.append_assoc] at hj2
            refine ⟨⟨nnI hΩ⟩, _, rdI hΩ hxs hcc, ?_⟩
            cbv
            refine ⟨⟨rfl, okAll rfl, by show (m2 + 1) * 24 ≤ 140737488355328; omega, by show m2 + 1 ≤ 9223372036854775807; omega⟩, (j + 1, o2 ++ [⟨3, c, j⟩]), ⟨by dsimp only; omega, hj2⟩, by dsimp only; omega, ?_⟩
            exact Sbs.trans (Sbs.lastN (rows := [_, _]) rfl) (Sbs.mk rfl (by dsimp only; rw [← hap o2 ⟨3, c, j⟩ m2 hm2]; subst hΩ; rfl) ⟨rfl, rfl, congrArg (A.vw 0 0) (hlp o2 ⟨3, c, j⟩ _ m2 hm2), rfl, rfl, incI hΩ (by omega), trivial⟩)
          · have g : gu = false := g
            rw [g] at hj2
            exact ⟨(j + 1, o2), ⟨by dsimp only; omega, hj2⟩, by dsimp only; omega, Sbs.mk rfl rfl ⟨rfl, rfl, congrArg (A.vw 0 0) hm2.symm, rfl, rfl, incI hΩ (by omega), trivial⟩⟩
        · replace h := geI hΩ h
          rw [List.drop_of_length_le (by omega : b.length ≤ j), bF, List.nil_append] at hj2
          exact ⟨(i + 1, o2), ⟨by dsimp only; omega, hj2⟩, by dsimp only; omega, Sbs.mkL (rows := [_]) rfl rfl rfl ⟨rfl, rfl, congrArg (A.vw 0 0) hm2.symm, incI hΩ (by omega), trivial⟩⟩

  · have hil : i = s.length := by have := geI hΩ h; omega
    rw [hil, List.drop_length, aF, List.append_nil] at hout
    refine ⟨⟨rfl, by show m ≤ (e out).length; rw [hel, hm]; exact Nat.le_refl _⟩, .of ?_⟩
    rw [← hout]
    subst hΩ
    show A.sl true 3 ((e out).take m) = _
    rw [List.take_of_length_le (by rw [hel]; omega)]
end Go.Proofs.YtomfmdfamlmfiaaGreat

/- Walks: draws of sets. Plain theorems. -/
set_option linter.unusedVariables false
set_option linter.unusedSimpArgs false
namespace Go.Proofs.YtomfmdfamlmfiaaGreat
open Go Go.Fw
set_option maxRecDepth 100000
theorem nF_mem {c : List Pck} {s : List Int} {k : Int} : ∀ {d : List (List Trm)} {j : Nat} {f : Flt}, f ∈ nF c s k j d → f.p = k
  | [], _, _, h => by simp [nF] at h
  | l :: d, j, f, h => by
    rw [nF, List.mem_append] at h
    rcases h with h | h
    · split at h
      · cases h
      · simp at h; rw [h]
    · exact nF_mem h
theorem bF_mem {c : List Pck} {s : List Int} {k : Int} : ∀ {d : List Trm} {j : Nat} {f : Flt}, f ∈ bF c s k j d → f.p = k
  | [], _, _, h => by simp [bF] at h
  | l :: d, j, f, h => by
    rw [bF, List.mem_append] at h
    rcases h with h | h
    · split at h
      · simp at h; rw [h]
      · cases h
    · exact bF_mem h
theorem aF_mem {c : List Pck} {s : List Int} : ∀ {l : List Int} {i : Nat} {f : Flt}, f ∈ aF c s i l → f.p ∈ l
  | [], _, _, h => by simp [aF] at h
  | k :: l, i, f, h => by
    rw [aF, List.mem_append, List.mem_append, List.mem_append] at h
    rcases h with h | h | h | h
    · unfold tF at h
      split at h
      · simp at h; rw [h]; simp
      · cases h
    · rw [nF_mem h]; simp
    · rw [bF_mem h]; simp
    · exact List.mem_cons_of_mem _ (aF_mem h)
theorem fltS_mem {c : List Pck} {s : List Int} {f : Flt} (h : f ∈ fltS c s) : f.p ∈ s := aF_mem h
theorem d_l3DrawSet {bs : List A} (hb : Src bs) (l : List Pck) (hl : l.length ≤ 40) (ho : ∀ o ∈ l, o.Small) (p : Int) (h0 : 0 ≤ p) (h1 : p + 50 ≤ 1099511627776) :
    XCtr PP n_spec_l3DrawSet [src bs p, encP l] (DR bs p 50 [encP l] fun x => ∃ s : List Int, x = .sl true 1 (s.map i64) ∧ s.length ≤ 41) := by
  obtain ⟨Ω, hΩ⟩ : ∃ Ω, Ω = std := ⟨_, rfl⟩
  have hC := fun p n a b c => d_l1Chance hb p n a b c
  have hP := fun p ns a b c d => d_l1Pick hb p ns a b c d
  have hcat := c_specCatalogFault l (by omega) ho
  have hflt : ∀ s : List Int, s.length ≤ 40 → (∀ k ∈ s, 0 ≤ k ∧ k < (l.length : Int)) → PCtr PP n_spec_l3Faults [encP l, .sl false 1 (s.map i64)] (.sl true 3 ((fltS l s).map Flt.enc)) := fun s hs hk =>
    c_l3Faults l s (by omega) (by omega) ho fun k h => by
      have := hk k h
      simp only [inB, Bool.and_eq_true, decide_eq_true_eq]; omega
  generalize catF l = cf at *
  obtain ⟨F, hF⟩ : ∃ F : List Int → List A, F = fun s => s.map i64 := ⟨_, rfl⟩
  have hF0 : F [] = [] := by rw [hF]; rfl
  have hFl : ∀ s, (F s).length = s.length := fun s => by rw [hF]; exact List.length_map _
  have hFz : ∀ s, (F s).map frz = F s := fun s => by rw [hF]; exact frz_I s
  have hFs : ∀ (s : List Int) (n : Int), Ω.app (Ω.take s.length (F s)) [i64 n] = F (s ++ [n]) := fun s n => by
    subst hΩ; rw [hF]; show List.take s.length (List.map i64 s) ++ _ = List.map i64 (s ++ [n])
    rw [List.map_append, List.take_of_length_le (by simp)]; rfl
  have hFt : ∀ s, A.sl true 1 (Ω.take s.length (F s)) = .sl true 1 (s.map i64) := fun s => by
    subst hΩ; rw [hF]; exact congrArg _ (List.take_of_length_le (by simp))
  have hFt0 : ∀ s m, s.length = m → A.sl true 1 (Ω.take m (F s)) = .sl true 1 (s.map i64) := fun s m h => by rw [← h, hFt]
  have hFt1 : ∀ s n m, s.length = m → A.sl true 1 (Ω.take (Ω.plus m (Ω.len [i64 n])) (Ω.app (Ω.take m (F s)) [i64 n])) = .sl true 1 ((s ++ [n]).map i64) := fun s n m h => by
    rw [← h, hFs, ← hFt]; congr 2; subst hΩ; rw [List.length_append]; rfl
  have hFle0 : ∀ s {m}, s.length = m → m ≤ (F s).length := fun s {m} h => by rw [hFl]; omega
  have hFle : ∀ s {m} {X : A}, s.length = m → Ω.plus m (Ω.len [X]) ≤ (Ω.app (Ω.take m (F s)) [X]).length := fun s {m X} h => by
    subst hΩ; show m + 1 ≤ (List.take m (F s) ++ [X]).length
    rw [List.take_of_length_le (by rw [hFl]; omega), List.length_append, hFl]; show m + 1 ≤ s.length + 1; omega
  have hFat : ∀ (s : List Int) (j : Nat) (c : Int), s[j]? = some c → (F s)[Ω.plus 0 (Ω.nat (Ω.int j))]? = some (i64 c) := fun s j c h => by
    subst hΩ; show (F s)[0 + j]? = _; rw [Nat.zero_add, hF]; simp [h]
  replace hflt : ∀ s : List Int, s.length ≤ 40 → (∀ k ∈ s, 0 ≤ k ∧ k < (l.length : Int)) → PCtr PP n_spec_l3Faults [encP l, .sl false 1 (F s)] (.sl true 3 ((fltS l s).map Flt.enc)) := fun s a b => by rw [hF]; exact hflt s a b
  clear hF
  obtain ⟨xs, hxs⟩ : ∃ xs, xs = l.map (Pck.enc false) := ⟨_, rfl⟩
  have hxl : xs.length = l.length := by rw [hxs, List.length_map]
  obtain ⟨L, hL⟩ : ∃ L, L = l.length := ⟨_, rfl⟩
  have hlx : Ω.int (Ω.len xs) = (L : Int) := by subst hΩ; rw [hL, ← hxl]; rfl
  unfold encP at *
  rw [← hxs] at hcat hflt ⊢
  rw [← hL] at hflt hl hxl
  have htab := tab
  have hmo := hmo
  refine XCtr.walkO tab hΩ 3 fn_spec_l3DrawSet rfl rfl ?_
  generalize PP = P at *
  cbv
  refine loopX htab hΩ (fun i : Nat × Int × List Int => ⟨[(0, .pt 0 0 0), (1, .sl false 8 xs), (5, .vw 1 0 i.2.2.length), (6, i64 (Ω.int i.1)), (73, .pt 0 0 0), (74, .sl false 8 xs)], 73, [some ⟨2, [.agg [.sl false 1 bs, i64 i.2.1]], true⟩, some ⟨1, F i.2.2, false⟩]⟩)
    (fun i => i.1 ≤ L ∧ p ≤ i.2.1 ∧ i.2.1 ≤ p + (i.1 : Int) ∧ i.2.2.length ≤ i.1 ∧ ∀ k ∈ i.2.2, 0 ≤ k ∧ k < (i.1 : Int)) (fun i => L - i.1) (0, p, [])
    ⟨Nat.zero_le _, by dsimp only; omega, by dsimp only; omega, Nat.le_refl _, by simp⟩ (Sbs.mk rfl (by show _ = [_, some (Row.mk 1 (F []) false)]; rw [hF0]; rfl) ⟨rfl, rfl, rfl, zeroI hΩ, rfl, rfl, trivial⟩) ?_
  rintro ⟨i, q, s⟩ ⟨i1, i2, i3, i4, i5⟩
  dsimp only at i1 i2 i3 i4 i5
  have hFli := hFl s
  obtain ⟨m, hm⟩ : ∃ m, s.length = m := ⟨_, rfl⟩
  have hrows : ∀ {R0 : Option Row} {n : Int}, [R0, some (Row.mk 1 (Ω.app (Ω.take m (F s)) [i64 n]) false)] = [R0, some (Row.mk 1 (F (s ++ [n])) false)] := fun {R0 n} => by rw [← hm, hFs]
  have hvw : ∀ {X : A} {n : Int}, A.vw 1 0 (Ω.plus m (Ω.len [X])) = .vw 1 0 (s ++ [n]).length := fun {X n} => by subst hΩ; rw [List.length_append, hm]; rfl
  have hall : ∀ k ∈ s ++ [Ω.int i], 0 ≤ k ∧ k < ((i + 1 : Nat) : Int) := fun k hk => by
    rcases List.mem_append.1 hk with h | h
    · have := i5 k h; omega
    · rw [List.mem_singleton.1 h]; subst hΩ; show 0 ≤ (i : Int) ∧ (i : Int) < _; omega
  have hall2 : ∀ k ∈ s, 0 ≤ k ∧ k < ((i + 1 : Nat) : Int) := fun k hk => by have := i5 k hk; omega
  have hqb : q + 10 ≤ p + 50 := by omega
  have hq3 : ∀ q' : Int, q' ≤ q + 1 → q' ≤ p + ((i + 1 : Nat) : Int) := fun q' h => by omega
  have hsl : (s ++ [Ω.int i]).length ≤ i + 1 := by rw [List.length_append, hm, List.length_singleton]; omega
  have hlt : Ω.cmp .lss (Ω.int i) (Ω.int (Ω.len xs)) = true → i < L := fun h => by have := ltI hΩ h; omega
  have hsF : ∀ k ∈ s, 0 ≤ k ∧ k < (L : Int) := fun k hk => by have := i5 k hk; omega
  rw [hm] at hFli i4 ⊢
  cbv
  refine br (fun hk => ?_) (fun hk => ?_) <;> cbv
  · have hk := hlt hk
    refine call_dr false hΩ 3 (hC _ _ (by omega) (by omega) (by omega)) rfl rfl rfl (fun q2 x q2a q2b ⟨c1, hx⟩ => ?_)
    subst hx
    cbv
    refine br (fun hc => ?_) (fun hc => ?_) <;> cbv
    · exact ⟨⟨rfl, okAll rfl, by show (m + 1) * 8 ≤ 140737488355328; omega, by show m + 1 ≤ 9223372036854775807; omega⟩, (i + 1, q2, s ++ [Ω.int i]), ⟨by dsimp only; omega, by dsimp only; omega, hq3 q2 q2b, hsl, hall⟩, by dsimp only; omega, (Sbs.cut 2 rfl).trans (Sbs.mk rfl hrows ⟨rfl, rfl, hvw, incI hΩ (by omega), rfl, rfl, trivial⟩)⟩
    · exact ⟨(i + 1, q2, s), ⟨by dsimp only; omega, by dsimp only; omega, hq3 q2 q2b, by dsimp only; omega, hall2⟩, by dsimp only; omega, (Sbs.cut 2 rfl).trans (Sbs.mk rfl rfl ⟨rfl, rfl, congrArg (A.vw 1 0) hm.symm, incI hΩ (by omega), rfl, rfl, trivial⟩)⟩
  · refine call_dr false hΩ 3 (hC _ _ (by omega) (by omega) (by omega)) rfl rfl rfl (fun q4 x q4a q4b ⟨c2, hx⟩ => ?_)
    subst hx
    cbv
    refine br (fun hc2 => ?_) (fun hc2 => ?_) <;> cbv
    · refine call_pure hΩ 3 hcat rfl (fits _) rfl rfl ?_
      cbv
      refine br (fun hc4 => ?_) (fun hc4 => ?_) <;> cbv
      · refine loopX htab hΩ (fun t : List Int => ⟨[(0, .pt 0 0 0), (1, .sl false 8 xs), (5, .vw 1 0 t.length), (73, .pt 0 0 0), (74, .sl false 8 xs)], 73, [some ⟨2, [.agg [.sl false 1 bs, i64 q4]], true⟩, some ⟨1, F t, false⟩]⟩)
          (fun t => t.length ≤ 40 ∧ ∀ k ∈ t, 0 ≤ k ∧ k < (L : Int)) (fun t => t.length) s ⟨by omega, hsF⟩ (Sbs.mk rfl rfl ⟨rfl, rfl, congrArg (A.vw 1 0) hm.symm, rfl, rfl, trivial⟩) ?_
        rintro t ⟨t1, t2⟩
        have hft := hflt t t1 t2
        have hFlt := hFl t
        have hFzt := hFz t
        obtain ⟨es, hes⟩ : ∃ es, es = (fltS l t).map Flt.enc := ⟨_, rfl⟩
        have hro : roFree (.sl true 3 es) = true := by rw [hes]; exact roFAll fun x hx => by obtain ⟨c, _, rfl⟩ := List.mem_map.1 hx; rfl
        have hesl : es.length = (fltS l t).length := by rw [hes, List.length_map]
        have hfirst : 0 < es.length → ∃ f : Flt, es[0]? = some f.enc ∧ f.p ∈ t := fun h => by
          obtain ⟨f, hf⟩ := at_of (cs := fltS l t) (i := 0) (by omega)
          exact ⟨f, by rw [hes, List.getElem?_map, hf]; rfl, fltS_mem (List.mem_of_getElem? hf)⟩
        have hgt : Ω.cmp .gtr (Ω.int (Ω.len es)) 0 = true → 0 < es.length := fun h => by have := gtI_t hΩ h; subst hΩ; have this : (0 : Int) < (es.length : Int) := this; omega
        rw [← hes] at hft
        obtain ⟨M, hM⟩ : ∃ M, t.length = M := ⟨_, rfl⟩
        rw [hM] at hFlt t1 ⊢
        clear hes hesl hflt
        cbv
        refine call_pure hΩ 3 hft (mapO2 rfl (ro_vw rfl hFlt.symm hFzt)) (fits _) hro rfl ?_
        cbv
        refine br (fun hg => ?_) (fun hg => ?_) <;> cbv
        · obtain ⟨f, hf, hfp⟩ := hfirst (hgt hg)
          refine call_pure hΩ 3 hft (mapO2 rfl (ro_vw rfl hFlt.symm hFzt)) (fits _) hro rfl ?_
          cbv
          refine ⟨⟨by subst hΩ; exact ⟨Int.le_refl _, Int.ofNat_lt.2 (hgt hg)⟩⟩, _, (show es[Ω.plus 0 (Ω.nat 0)]? = some (.agg [i64 f.k, i64 f.p, i64 f.a]) by subst hΩ; exact hf), ?_⟩
          cbv
          obtain ⟨fp, hfp2⟩ : ∃ x, x = f.p := ⟨_, rfl⟩
          have hflt1 : (t.filter fun k => !decide (k = fp)).length < M := by
            rw [← hM, hfp2]
            refine List.length_filter_lt_length_iff_exists.2 ⟨f.p, hfp, by simp⟩
          refine loopX htab hΩ (fun i : Nat × List Int => ⟨[(0, .pt 0 0 0), (1, .sl false 8 xs), (5, .vw 1 0 M), (7, .pt 4 0 0), (8, .vw 5 0 i.2.length), (9, i64 (Ω.int i.1)), (73, .pt 0 0 0), (74, .sl false 8 xs)], 73,
              [some ⟨2, [.agg [.sl false 1 bs, i64 q4]], true⟩, some ⟨1, F t, false⟩, none, none, some ⟨3, [.agg [i64 f.k, i64 fp, i64 f.a]], true⟩, some ⟨1, F i.2, false⟩]⟩)
            (fun i => i.1 ≤ M ∧ i.2 = (t.take i.1).filter fun k => !decide (k = fp)) (fun i => M - i.1) (0, []) ⟨Nat.zero_le _, rfl⟩
            ((Sbs.drop (r := 2) rfl).trans ((Sbs.drop (r := 3) rfl).trans (Sbs.mk rfl (by show _ = [_, _, none, none, some (Row.mk 3 [.agg [i64 f.k, i64 fp, i64 f.a]] true), some (Row.mk 1 (F []) false)]; rw [hF0, hfp2]; rfl) ⟨rfl, rfl, rfl, rfl, rfl, zeroI hΩ, rfl, rfl, trivial⟩))) ?_
          rintro ⟨j, r⟩ ⟨j1, j2⟩
          dsimp only at j1 j2
          have hrl : r.length ≤ j := by rw [j2]; exact Nat.le_trans (List.length_filter_le _ _) (by simp; omega)
          have hFr := hFs r
          obtain ⟨R, hR⟩ : ∃ R, r.length = R := ⟨_, rfl⟩
          have hvr : ∀ {X : A} {n : Int}, A.vw 5 0 (Ω.plus R (Ω.len [X])) = .vw 5 0 (r ++ [n]).length := fun {X n} => by subst hΩ; rw [List.length_append, hR]; rfl
          have hstep : ∀ c, t[j]? = some c → (t.take (j + 1)).filter (fun k => !decide (k = fp)) = r ++ (if c = fp then [] else [c]) := fun c hc => by
            rw [List.take_add_one, hc, List.filter_append, ← j2]
            congr 1
            by_cases h : c = fp <;> simp [h]
          have hend : j = M → r.length < M ∧ r.length ≤ 40 ∧ ∀ k ∈ r, 0 ≤ k ∧ k < (L : Int) := fun h => by
            have e : r = t.filter fun k => !decide (k = fp) := by rw [j2, h, ← hM, List.take_length]
            refine ⟨by rw [e]; exact hflt1, by rw [e]; omega, fun k hk => t2 k ?_⟩
            rw [e] at hk; exact (List.mem_filter.1 hk).1
          rw [hR] at hrl hFr ⊢
          have hat : ∀ c, t[j]? = some c → (F t)[Ω.plus 0 (Ω.nat (Ω.int j))]? = some (i64 c) := hFat t j
          cbv
          refine br (fun hj => ?_) (fun hj => ?_) <;> cbv
          · have hj := ltN hΩ hj
            obtain ⟨c, hc⟩ := at_of (cs := t) (i := j) (by omega)
            refine ⟨VC_drawn htab hΩ hmo (by kernel_rfl) ?_⟩
            cbv
            refine ⟨⟨ixI hΩ hj⟩, _, hat c hc, ?_⟩
            cbv
            refine br (fun hn => ?_) (fun hn => ?_) <;> cbv
            · have hn := neI_t hΩ hn
              have e := hstep c hc
              rw [if_neg hn] at e
              refine ⟨⟨ixI hΩ hj⟩, _, hat c hc, ?_⟩
              cbv
              exact ⟨⟨rfl, okAll rfl, by show (R + 1) * 8 ≤ 140737488355328; omega, by show R + 1 ≤ 9223372036854775807; omega⟩, (j + 1, r ++ [c]), ⟨by dsimp only; omega, e.symm⟩, by dsimp only; omega, (Sbs.cut 6 rfl).trans (Sbs.mk rfl (by rw [show some (Row.mk 1 (F (r ++ [c])) false) = some (Row.mk 1 (Ω.app (Ω.take R (F r)) [i64 c]) false) by rw [hFr]]; rfl) ⟨rfl, rfl, rfl, rfl, hvr, incI hΩ (by omega), rfl, rfl, trivial⟩)⟩
            · have hn := neI_f hΩ hn
              have e := hstep c hc
              rw [if_pos hn, List.append_nil] at e
              exact ⟨(j + 1, r), ⟨by dsimp only; omega, e.symm⟩, by dsimp only; omega, (Sbs.cut 6 rfl).trans (Sbs.mk rfl rfl ⟨rfl, rfl, rfl, rfl, congrArg (A.vw 5 0) hR.symm, incI hΩ (by omega), rfl, rfl, trivial⟩)⟩
          · have hj := geN hΩ hj
            obtain ⟨e1, e2, e3⟩ := hend (by omega)
            exact ⟨r, ⟨e2, e3⟩, by omega, (Sbs.drop (r := 1) rfl).trans ((Sbs.mv (a := 5) (b := 1) rfl rfl (Nat.le_of_ble_eq_true rfl)).trans ((Sbs.cut 2 rfl).trans (Sbs.mk rfl rfl ⟨rfl, rfl, congrArg (A.vw 1 0) hR.symm, rfl, rfl, trivial⟩)))⟩
        · clear hfirst hgt
          refine call_dr false hΩ 3 (hC _ _ (by omega) (by omega) (by omega)) rfl rfl rfl (fun q8 x q8a q8b ⟨c3, hx⟩ => ?_)
          subst hx
          cbv
          refine br (fun hc3 => ?_) (fun hc3 => ?_) <;> cbv
          · refine call_pick (ns := [_, -1, 0]) hΩ (hP _ _ (by omega) (by omega) (Nat.zero_lt_succ _) (Nat.le_of_ble_eq_true rfl)) rfl rfl rfl rfl (by decide) (fun q9 n q9a q9b hn => ?_)
            cbv
            exact ⟨⟨rfl, okAll rfl, by show (M + 1) * 8 ≤ 140737488355328; omega, by show M + 1 ≤ 9223372036854775807; omega⟩, ⟨rfl, hFle _ hM⟩, _, _, .of (hFt1 t n M hM), .same, ⟨q9, by omega, by omega, rfl, t ++ [n], rfl, by rw [List.length_append, List.length_singleton, hM]; omega⟩, rfl⟩
          · exact ⟨⟨rfl, hFle0 _ hM⟩, _, _, .of (hFt0 t M hM), .same, ⟨q8, by omega, by omega, rfl, t, rfl, by rw [hM]; omega⟩, rfl⟩
      · refine call_dr false hΩ 3 (hC _ _ (by omega) (by omega) (by omega)) rfl rfl rfl (fun q8 x q8a q8b ⟨c3, hx⟩ => ?_)
        subst hx
        cbv
        refine br (fun hc3 => ?_) (fun hc3 => ?_) <;> cbv
        · refine call_pick (ns := [_, -1, 0]) hΩ (hP _ _ (by omega) (by omega) (Nat.zero_lt_succ _) (Nat.le_of_ble_eq_true rfl)) rfl rfl rfl rfl (by decide) (fun q9 n q9a q9b hn => ?_)
          cbv
          exact ⟨⟨rfl, okAll rfl, by show (m + 1) * 8 ≤ 140737488355328; omega, by show m + 1 ≤ 9223372036854775807; omega⟩, ⟨rfl, hFle _ hm⟩, _, _, .of (hFt1 s n m hm), .same, ⟨q9, by omega, by omega, rfl, s ++ [n], rfl, by rw [List.length_append, List.length_singleton, hm]; omega⟩, rfl⟩
        · exact ⟨⟨rfl, hFle0 _ hm⟩, _, _, .of (hFt0 s m hm), .same, ⟨q8, by omega, by omega, rfl, s, rfl, by rw [hm]; omega⟩, rfl⟩
    · refine call_dr false hΩ 3 (hC _ _ (by omega) (by omega) (by omega)) rfl rfl rfl (fun q8 x q8a q8b ⟨c3, hx⟩ => ?_)
      subst hx
      cbv
      refine br (fun hc3 => ?_) (fun hc3 => ?_) <;> cbv
      · refine call_pick (ns := [_, -1, 0]) hΩ (hP _ _ (by omega) (by omega) (Nat.zero_lt_succ _) (Nat.le_of_ble_eq_true rfl)) rfl rfl rfl rfl (by decide) (fun q9 n q9a q9b hn => ?_)
        cbv
        exact ⟨⟨rfl, okAll rfl, by show (m + 1) * 8 ≤ 140737488355328; omega, by show m + 1 ≤ 9223372036854775807; omega⟩, ⟨rfl, hFle _ hm⟩, _, _, .of (hFt1 s n m hm), .same, ⟨q9, by omega, by omega, rfl, s ++ [n], rfl, by rw [List.length_append, List.length_singleton, hm]; omega⟩, rfl⟩
      · exact ⟨⟨rfl, hFle0 _ hm⟩, _, _, .of (hFt0 s m hm), .same, ⟨q8, by omega, by omega, rfl, s, rfl, by rw [hm]; omega⟩, rfl⟩
end Go.Proofs.YtomfmdfamlmfiaaGreat

/- Contracts of a result of which a relation speaks, for what is only read; results frozen. Plain theorems, no condition. -/
set_option linter.unusedVariables false
set_option linter.unusedSimpArgs false
namespace Go.Fw
/-- A contract that tells some result of which R speaks. -/
structure RCtr (P : Program) (g : Nat) (args : List A) (R : A → Prop) : Prop where
  enter : Enter P g
  run : ∀ (w : World) (G : Nat → Prop) (vs : List Value), GoodG P w G → RelL w G args vs [] → Calls P g vs.toArray w (fun e w' => ∃ v F x, R x ∧ e = .returned v ∧ Go.RowKit.Below w.heap.size w w' ∧
    F.Nodup ∧ (∀ b ∈ F, w.heap.size ≤ b) ∧ Rel w' (fun b => (G b ∨ (w.heap.size ≤ b ∧ b < w'.heap.size)) ∧ b ∉ F) x v F)
section
variable {P : Program} {T : Nat → Option TI} {S : State} {Ω : Opq}
theorem PCtr.r {g : Nat} {args : List A} {x : A} (h : PCtr P g args x) {R : A → Prop} (hR : R x) : RCtr P g args R :=
  ⟨h.enter, fun w G vs h1 h2 => Calls.mono (h.run w G vs h1 h2) (by rintro e w' ⟨v, F, rfl, h⟩; exact ⟨v, F, x, hR, rfl, h⟩)⟩
theorem CallOK_r {g k : Nat} {args ys : List A} {R : A → Prop} {K : A → State → Prop} (hc : RCtr P g ys R) (h1 : args.all isData = true) (h2 : fitA.fitL k args ys)
    (h : ∀ x, R x → noOwn (rootA k S x).1 = true ∧ K (rootA k S x).1 (rootA k S x).2) : CallOK P g args S K := by
  refine ⟨hc.enter, fun E G gs tmps w vs hi hl => ?_⟩
  have hys := fitL_rel (fun x y v F => fitA_rel k x y v F) args ys vs [] h2 (hl.data h1)
  refine Calls.mono (hc.run w G vs hi.glt hys) ?_
  rintro e w' ⟨v, F, x, hx, rfl, hb, hnd, hnew, hr⟩
  have hGF : ∀ b, G b → b ∉ F := fun b h hF => by have := hi.glt b h; have := hnew b hF; omega
  obtain ⟨gs', g1, g2⟩ := adopt_new hi hb hnd hnew (fun b h => ⟨.inl h, hGF b h⟩) (fun b h => ⟨h.1.imp id And.left, h.2⟩)
    (fun b h => h.1.elim (fun h => Nat.lt_of_lt_of_le (hi.glt b h) hb.size) And.right) hr k (h x hx).1
  exact ⟨v, _, _, _, gs', rfl, (h x hx).2, g1, g2⟩
theorem call_r (hΩ : Ω = std) (k : Nat) {g : Nat} {args ys : List A} {R : A → Prop} {K : A → State → Prop} (hc : RCtr P g ys R) (h1 : args.all isData = true) (h2 : fitA.fitL k args ys)
    (h : ∀ x, R x → noOwn (rootO Ω k S x).1 = true ∧ K (rootO Ω k S x).1 (rootO Ω k S x).2) : CallX P g args S K := by
  subst hΩ
  exact ⟨CallOK_r (k := k) hc h1 h2 fun x hx => by simp only [← rootO_std]; exact h x hx⟩
theorem CallOK_rf {g k : Nat} {args ys0 ys : List A} {R : A → Prop} {K : A → State → Prop} (hc : RCtr P g ys R) (h1 : mapO (roO S k) args = some ys0) (h2 : fitA.fitL k ys0 ys)
    (h : ∀ x, R x → roFree x = true ∧ noOwn (rootA k S (Fw.frz x)).1 = true ∧ K (rootA k S (Fw.frz x)).1 (rootA k S (Fw.frz x)).2) : CallOK P g args S K := by
  refine ⟨hc.enter, fun E G gs tmps w vs hi hl => ?_⟩
  have hys := fitL_rel (fun x y v F => fitA_rel k x y v F) ys0 ys vs [] h2 (mapO_rel (fun x v F y h hy => roO_rel hi k x v F y h hy) hl h1)
  refine Calls.mono (hc.run w (Old w) vs hi.glt.old hys) ?_
  rintro e w' ⟨v, F, x, hx, rfl, hb, hnd, hnew, hr⟩
  obtain ⟨hx, hno, hK⟩ := h x hx
  have hr' : Rel w' (fun b => G b ∧ b ∉ F) x v F := hr.anyG hx _
  have hr2 : Rel w' (fun b => (G b ∨ b ∈ F) ∧ b ∉ ([] : List Nat)) (Fw.frz x) v [] := hr'.frz (fun b hb => ⟨.inl hb.1, by simp⟩) fun b hb => ⟨.inr hb, by simp⟩
  obtain ⟨gs', g1, g2⟩ := adopt_new hi hb List.nodup_nil (by simp) (fun b h => ⟨.inl h, by simp⟩) (fun b h => ⟨h.1.imp id (hnew b), h.2⟩)
    (fun b h => h.1.elim (fun h => Nat.lt_of_lt_of_le (hi.glt b h) hb.size) (hr.lt b)) hr2 k hno
  exact ⟨v, _, _, _, gs', rfl, hK, g1, g2⟩
/-- The result is frozen. -/
theorem call_rf (hΩ : Ω = std) (k : Nat) {g : Nat} {args ys0 ys : List A} {R : A → Prop} {K : A → State → Prop} (hc : RCtr P g ys R) (h1 : mapO (roO S k) args = some ys0) (h2 : fitA.fitL k ys0 ys)
    (h : ∀ x, R x → roFree x = true ∧ noOwn (rootO Ω k S (Fw.frz x)).1 = true ∧ K (rootO Ω k S (Fw.frz x)).1 (rootO Ω k S (Fw.frz x)).2) : CallX P g args S K := by
  subst hΩ
  exact ⟨CallOK_rf (k := k) hc h1 h2 fun x hx => by simp only [← rootO_std]; exact h x hx⟩
theorem call_pf (hΩ : Ω = std) (k : Nat) {g : Nat} {args ys0 ys : List A} {x y : A} {K : A → State → Prop} (hc : PCtr P g ys x) (h1 : mapO (roO S k) args = some ys0) (h2 : fitA.fitL k ys0 ys) (hx : roFree x = true) (hy : Fw.frz x = y)
    (hno : noOwn (rootO Ω k S y).1 = true) (hK : K (rootO Ω k S y).1 (rootO Ω k S y).2) : CallX P g args S K :=
  call_rf hΩ k (hc.r (R := fun z => z = x) rfl) h1 h2 fun z hz => by subst hz; subst hy; exact ⟨hx, hno, hK⟩
/-- A walk of the body gives the contract. -/
theorem RCtr.of {g : Nat} {c : Code} {N : Nat} {rs : List ResultVar} {xs : List A} {R : A → Prop} (hf : FnAt P g c N rs) (hN : xs.length ≤ N) (h : VC P c (entryS N xs) (fun e S => ∃ x, R x ∧ outK P rs x e S)) : RCtr P g xs R := by
  obtain ⟨hen, fn, h1, h2, h3, h4⟩ := hf
  refine ⟨hen, fun w G vs hG hl => ?_⟩
  have hlen := hl.length
  refine calls_of_wp h1 h2 ?_
  have hinv : Inv (P := P) ⟨w, G, fun _ => False, fun _ => undef⟩ G (fun _ => (none, [])) (entryS N xs) (vs.toArray ++ Array.replicate (fn.ntmps - vs.toArray.size) undef) w := by
    refine ⟨fun _ _ _ => rfl, rfl, rfl, rfl, Nat.le_refl _, ?_, fun _ h => h, fun _ h => .inl h, hG, ?_, ?_, ?_, ?_, fun i => ?_⟩
    · simp [entryS, h3]; omega
    · intro r row hr; simp [entryS, rowAt] at hr
    · intro r row hr; simp [entryS, rowAt] at hr
    · intro r row hr; simp [entryS, rowAt] at hr
    · intro r r' row row' hr; simp [entryS, rowAt] at hr
    · show TRel w G [] _ (lk (entryT 0 xs) i) _ []
      rw [lk_entryT, if_pos (Nat.zero_le _), Nat.sub_zero]
      unfold vat
      by_cases hi : i < xs.length
      · obtain ⟨v, hv, hr⟩ := hl.get i xs[i] (List.getElem?_eq_getElem hi)
        rw [List.getD_eq_getElem?_getD, List.getElem?_eq_getElem hi]
        have : (vs.toArray ++ Array.replicate (fn.ntmps - vs.toArray.size) undef).getD i undef = v := by
          rw [Array.getD_eq_getD_getElem?, Array.getElem?_append_left (by simp; omega)]
          simp [hv]
        rw [if_pos (by simp; omega), this]; exact .of hr
      · rw [List.getD_eq_getElem?_getD, List.getElem?_eq_none (by omega)]
        exact .un
  refine wp_mono (h _ { tmps := vs.toArray ++ Array.replicate (fn.ntmps - vs.toArray.size) undef, defers := [] } w ⟨rfl, G, _, hinv⟩) ?_
  rintro e a' w' ⟨S', ⟨hd, G', gs', hi'⟩, x, hR, hK⟩
  have fin : Outs P rs x S' → a'.defers = [] ∧ ∃ v, (results fn a'.tmps).run P w' = .ok v w' ∧ (∃ v_1 F y, R y ∧ Ending.returned v = .returned v_1 ∧ Go.RowKit.Below w.heap.size w w' ∧
      F.Nodup ∧ (∀ b ∈ F, w.heap.size ≤ b) ∧ Rel w' (fun b => (G b ∨ (w.heap.size ≤ b ∧ b < w'.heap.size)) ∧ b ∉ F) y v_1 F) := by
    intro ho
    refine ⟨hd, ?_⟩
    obtain ⟨vs', zs, F, k, g1, g2, g3, g4, g5⟩ := ho _ _ _ _ _ hi'
    have hres := fitA_rel k _ _ _ _ g5 (oneA_rel g2)
    refine ⟨oneV vs', h4 _ _ _ g1, _, F, x, hR, rfl, ⟨hi'.os, hi'.tape, hi'.output, hi'.size, fun b hb => hi'.keep b hb id⟩, g3, fun b hb => ?_, ?_⟩
    · rcases (g4 b hb).2 with h | h
      · exact h.elim
      · exact h
    · refine hres.move_ (fun b hb => ⟨⟨?_, fun hF => (g4 b hF).1 hb⟩, rfl⟩) (fun b hb => rfl)
      rcases hi'.gnew b hb with h | h | h
      · exact .inl h
      · exact h.elim
      · exact .inr ⟨h, hi'.glt b hb⟩
  cases e with
  | normal => exact fin hK
  | ret => exact fin hK
  | _ => exact hK.elim
theorem RCtr.walk (hT : TabOK P T) (hΩ : Ω = std) {g : Nat} {c : Code} {N : Nat} {rs : List ResultVar} {xs : List A} {R : A → Prop} (hf : FnAt P g c N rs) (hN : Nat.ble xs.length N = true)
    (h : vC Ω P T c (entryS N xs) (fun e S => ∃ x, R x ∧ outV Ω T rs x e S)) : RCtr P g xs R :=
  RCtr.of hf (Nat.le_of_ble_eq_true hN) (VC.mono (vstart hT hΩ h) fun e S' ⟨x, hR, h⟩ => ⟨x, hR, outV_ok hT (hΩ ▸ h)⟩)
end
end Go.Fw

/- Regions that draw their order, of which the operations that do something may stand in a few orders. Plain theorems, no condition. -/
set_option linter.unusedVariables false
set_option linter.unusedSimpArgs false
namespace Go.Fw
/-- The orders that may come. -/
inductive Ord where
  | fin
  | step (n : Nat) (o : Ord)
  | two (n : Nat) (o : Ord) (m : Nat) (p : Ord)
def Ord.depth : Ord → Nat
  | .fin => 0
  | .step _ o => o.depth + 1
  | .two _ o _ _ => o.depth + 1
section
variable {P : Program} {T : Nat → Option TI} {S : State} {Ω : Opq}
def vOne (Ω : Opq) (P : Program) (T : Nat → Option TI) (ops : List Oper) (mv : Option Nat) (n : Nat) (S : State) (k : Option Nat → State → Prop) : Prop :=
  match ops[n]? with
    | some o => (match o.guard with
      | none => vOp Ω P T mv o S fun S' => k (madeBy o) S'
      | some _ => False)
    | none => False
def vOrd (Ω : Opq) (P : Program) (T : Nat → Option TI) (ops : List Oper) : Ord → Option Nat → State → (State → Prop) → Prop
  | .fin, _, S, K => K S
  | .step n o, mv, S, K => vOne Ω P T ops mv n S fun mv' S' => vOrd Ω P T ops o mv' S' K
  | .two n o m p, mv, S, K => (vOne Ω P T ops mv n S fun mv' S' => vOrd Ω P T ops o mv' S' K) ∧ (vOne Ω P T ops mv m S fun mv' S' => vOrd Ω P T ops p mv' S' K)
def heldO (ops : Array Oper) : Ord → Array Bool → Bool
  | .fin, l => (Region.ready .any ops l).isEmpty
  | .step n o, l => decide (Region.ready .any ops l = [n]) && heldO ops o (l.setIfInBounds n true)
  | .two n o m p, l => decide (Region.ready .any ops l = [n, m]) && decide (o.depth = p.depth) && heldO ops o (l.setIfInBounds n true) && heldO ops p (l.setIfInBounds m true)
def heldQO (ops : Array Oper) (o : Ord) : List Nat → Array Bool → Bool
  | [], l => heldO ops o l
  | q :: qs, l => (Region.ready .any ops l).contains q && Region.free .any ops l q && heldQO ops o qs (l.setIfInBounds q true)
def heldOB (ops : Array Oper) (qs : List Nat) (o : Ord) : Bool :=
  Region.noSelect ops && decide (qs.length + o.depth = ops.size) && heldQO ops o qs (Array.replicate ops.size false)
theorem vOne_ok (hT : TabOK P T) {ops : List Oper} {E : Env P} {mv : Option Nat} {n : Nat} {S : State} {k : Option Nat → State → Prop} (h : vOne std P T ops mv n S k) {a : Act} {w : World} (hs : SInv E S a w)
    {K' : Act → World → Prop} {Q : Exit → Act → World → Prop} (hk : ∀ mv' S' a' w', k mv' S' → SInv E S' a' w' → K' a' w') : wpOp P ops.toArray Q n K' a w := by
  unfold vOne at h
  split at h <;> try exact h.elim
  rename_i o ho
  split at h <;> try exact h.elim
  rename_i hg
  unfold wpOp
  rw [show ops.toArray[n]? = some o by simpa using ho]
  simp only
  rw [if_pos (by simp [Region.wanted, hg])]
  exact .inl (vOp_ok hT h E a w _ _ hs fun S' a' w' hK hs' => hk _ S' a' w' hK hs')
theorem heldO_ok (hT : TabOK P T) {ops : List Oper} {E : Env P} {Sc : World → Prop} (hSc : ∀ S a w, SInv E S a w → Sc w) {K : State → Prop} : ∀ (o : Ord) (listed : Array Bool) (mv : Option Nat) (S : State) (a : Act) (w : World), heldO ops.toArray o listed = true →
    vOrd std P T ops o mv S K → SInv E S a w → wpAnyH P .any ops.toArray (fun e a' w' => e = .normal ∧ ∃ S', SInv E S' a' w' ∧ K S') Sc o.depth listed a w
  | .fin, listed, mv, S, a, w, hB, h, hs => ⟨by simpa [heldO] using hB, rfl, S, hs, h⟩
  | .step n o, listed, mv, S, a, w, hB, h, hs => by
    simp only [heldO, Bool.and_eq_true, decide_eq_true_eq] at hB
    unfold vOrd at h
    refine wpAnyH_all hB.1 (by simp) fun i hi => ?_
    have hin : i = n := by simpa using hi
    subst hin
    exact vOne_ok hT h hs fun mv' S' a' w' hK hs' => ⟨hSc _ _ _ hs', heldO_ok hT hSc o _ _ S' a' w' hB.2 hK hs'⟩
  | .two n o m p, listed, mv, S, a, w, hB, h, hs => by
    simp only [heldO, Bool.and_eq_true, decide_eq_true_eq] at hB
    unfold vOrd at h
    refine wpAnyH_all hB.1.1.1 (by simp) fun i hi => ?_
    have hin : i = n ∨ i = m := by simpa using hi
    rcases hin with rfl | rfl
    · exact vOne_ok hT h.1 hs fun mv' S' a' w' hK hs' => ⟨hSc _ _ _ hs', heldO_ok hT hSc o _ _ S' a' w' hB.1.2 hK hs'⟩
    · exact vOne_ok hT h.2 hs fun mv' S' a' w' hK hs' => ⟨hSc _ _ _ hs', by rw [hB.1.1.2]; exact heldO_ok hT hSc p _ _ S' a' w' hB.2 hK hs'⟩
theorem heldQO_ok (hT : TabOK P T) {ops : List Oper} {E : Env P} {G : Nat → Prop} {gs : Gh} {w : World} {Q : Exit → Act → World → Prop} (hQ : ∀ c a w, ¬ Q (.panic c) a w) (hsel : Region.noSelect ops.toArray = true) {o : Ord} {K : State → Prop}
    (hK : ∀ S a listed, heldO ops.toArray o listed = true → K S → a.defers = [] → Inv E G gs S a.tmps w → wpAnyH P .any ops.toArray Q (Agree G w) o.depth listed a w) : ∀ (qs : List Nat) (listed : Array Bool) (S : State) (a : Act), heldQO ops.toArray o qs listed = true →
    vGs std T ops qs S K → a.defers = [] → Inv E G gs S a.tmps w → wpAnyH P .any ops.toArray Q (Agree G w) (qs.length + o.depth) listed a w
  | [], listed, S, a, hB, h, hd, hi => by rw [List.length_nil, Nat.zero_add]; exact hK S a listed hB h hd hi
  | q :: qs, listed, S, a, hB, h, hd, hi => by
    simp only [heldQO, Bool.and_eq_true] at hB
    unfold vGs at h
    split at h <;> try exact h.elim
    rename_i u ho
    split at h <;> try exact h.elim
    rename_i hg
    obtain ⟨z, h1, h2⟩ := vGOp_ok hT h
    obtain ⟨v, h3, h4⟩ := h1 E G gs a w hi
    rw [List.length_cons, show qs.length + 1 + o.depth = (qs.length + o.depth) + 1 by omega]
    refine wpAnyH_take (oi := u) (v := v) (by simpa using ho) hsel hB.1.2 hB.1.1 (fun c a w h => (hQ _ _ _ h).elim) (.inl ⟨by simp [Region.wanted, hg], h3⟩) (fun _ _ => rfl) ?_
    exact heldQO_ok hT hQ hsel hK qs _ _ _ hB.2 h2 (by rw [put_defers]; exact hd) (hi.put h4 u.dst)
/-- A region that draws its order: the operations qs only read what nobody in it writes; the others stand in the orders o. -/
theorem VC_order (hT : TabOK P T) (hΩ : Ω = std) (hm : P.follows .mixedOrders = true) (qs : List Nat) (o : Ord) {id : Nat} {ops : Array Oper} {K : Exit → State → Prop} (hB : heldOB ops qs o = true)
    (h : vGs Ω T ops.toList qs S fun S' => vOrd Ω P T ops.toList o none S' (K .normal)) : VC P (.region id ops true) S K := by
  subst hΩ
  intro E a w hs
  have hops : ops = ops.toList.toArray := by simp
  rw [hops] at hB ⊢
  obtain ⟨hd, G, gs, hi⟩ := hs
  simp only [heldOB, Bool.and_eq_true, decide_eq_true_eq] at hB
  obtain ⟨⟨hsel, hsz⟩, hB⟩ := hB
  have hw1 : Go.RowKit.Below w.heap.size w { w with drawn := w.drawn + 1 } := ⟨rfl, rfl, rfl, Nat.le_refl _, fun _ _ => rfl⟩
  have hi1 : Inv E G gs S a.tmps { w with drawn := w.drawn + 1 } := hi.below hw1 (fun _ h => h) (fun _ h => .inl h) (fun b h => Nat.lt_of_lt_of_le (hi.glt b h) hw1.size)
  have hwp : (Code.region id ops.toList.toArray true).wp P (fun e a' w' => e = .normal ∧ ∃ S', SInv (envAt E G gs S { w with drawn := w.drawn + 1 }) S' a' w' ∧ K .normal S') a w := by
    refine wp_region_held (S := Agree G { w with drawn := w.drawn + 1 }) hm ?_
    rw [show ops.toList.toArray.size = qs.length + o.depth from hsz.symm]
    rw [show ops.toList.toArray.size = qs.length + o.depth from hsz.symm] at hB
    refine heldQO_ok hT (fun c a w h => by cases h.1) hsel (fun S2 a2 listed hB2 hK2 hd2 hi2 => ?_) qs _ S a hB h hd hi1.at
    refine heldO_ok hT (fun S3 a3 w3 hs3 => ?_) o listed none S2 a2 _ hB2 hK2 ⟨hd2, G, gs, hi2⟩
    obtain ⟨_, G3, gs3, hi3⟩ := hs3
    exact hi1.agree hi3
  refine wp_mono hwp ?_
  rintro e a' w' ⟨rfl, S', ⟨hd', G', gs', hi'⟩, hK'⟩
  exact ⟨S', ⟨hd', G', gs', hi1.back hi'⟩, hK'⟩
theorem ord_ok (hT : TabOK P T) {ops : List Oper} {Q : Exit → Act → World → Prop} {kp : Nat → Bool} {Sc : World → Prop} {E : Env P} (hSc : ∀ S a w, SInv E S a w → Sc w) {K : State → Prop} (hK : ∀ S a w, K S → SInv E S a w → Q .normal a w) : ∀ (o : Ord) (l : Array Bool) (mv : Option Nat) (S : State) (a : Act) (w : World), heldO ops.toArray o l = true →
    vOrd std P T ops o mv S K → SInv E S a w → anyK P .any ops.toArray Q kp Sc o.depth l a w
  | .fin, l, mv, S, a, w, hB, h, hs => ⟨by simpa [heldO] using hB, hK S a w h hs⟩
  | .step n o, l, mv, S, a, w, hB, h, hs => by
    simp only [heldO, Bool.and_eq_true, decide_eq_true_eq] at hB
    unfold vOrd at h
    refine ⟨fun h0 => (by rw [hB.1] at h0; cases h0), fun i hi => ?_⟩
    rw [hB.1] at hi
    have hin : i = n := by simpa using hi
    subst hin
    exact vOne_ok hT h hs fun mv' S' a' w' hK' hs' => ⟨fun _ => hSc _ _ _ hs', ord_ok hT hSc hK o _ _ S' a' w' hB.2 hK' hs'⟩
  | .two n o m p, l, mv, S, a, w, hB, h, hs => by
    simp only [heldO, Bool.and_eq_true, decide_eq_true_eq] at hB
    unfold vOrd at h
    refine ⟨fun h0 => (by rw [hB.1.1.1] at h0; cases h0), fun i hi => ?_⟩
    rw [hB.1.1.1] at hi
    have hin : i = n ∨ i = m := by simpa using hi
    rcases hin with rfl | rfl
    · exact vOne_ok hT h.1 hs fun mv' S' a' w' hK' hs' => ⟨fun _ => hSc _ _ _ hs', ord_ok hT hSc hK o _ _ S' a' w' hB.1.2 hK' hs'⟩
    · exact vOne_ok hT h.2 hs fun mv' S' a' w' hK' hs' => ⟨fun _ => hSc _ _ _ hs', by rw [hB.1.1.2]; exact ord_ok hT hSc hK p _ _ S' a' w' hB.2 hK' hs'⟩
def lordB (ops : Array Oper) (qs : List Nat) (o : Ord) : Bool :=
  Region.noSelect ops && (decide (qs.length + o.depth = ops.size) && (quietB ops (fun _ => true) qs (Array.replicate ops.size false) && heldO ops o (listAll qs (Array.replicate ops.size false))))
/-- A region that draws its order: qs read rows rs; the others, in the orders o, leave these alone. -/
theorem VC_lord (hT : TabOK P T) (hΩ : Ω = std) (hm : P.follows .mixedOrders = true) (qs : List Nat) (o : Ord) (rs hs : List Nat) {id : Nat} {ops : Array Oper} {K : Exit → State → Prop} (hB : lordB ops qs o = true)
    (h : vRs Ω T rs ops.toList qs S fun S1 => lendB S1 rs hs = true ∧ ∀ vs : Nat → Value, vOrd Ω P T ops.toList o none (S1.lend rs hs vs) fun S2 => keptA S2 vs hs ∧ backB S2 rs = true ∧
      K .normal (S2.unlend S1 rs hs)) : VC P (.region id ops true) S K := by
  subst hΩ
  intro E a w hs0
  have hops : ops = ops.toList.toArray := by simp
  rw [hops] at hB ⊢
  obtain ⟨hd, G, gs, hi⟩ := hs0
  simp only [lordB, Bool.and_eq_true, decide_eq_true_eq] at hB
  obtain ⟨hsel, hsz, hq, hc1⟩ := hB
  have hw1 : Go.RowKit.Below w.heap.size w { w with drawn := w.drawn + 1 } := ⟨rfl, rfl, rfl, Nat.le_refl _, fun _ _ => rfl⟩
  have hi1 : Inv E G gs S a.tmps { w with drawn := w.drawn + 1 } := hi.below hw1 (fun _ h => h) (fun _ h => .inl h) (fun b h => Nat.lt_of_lt_of_le (hi.glt b h) hw1.size)
  generalize hw1e : { w with drawn := w.drawn + 1 } = w1 at *
  have hwp : wpAny P .any ops.toList.toArray (fun e a' w' => e = .normal ∧ ∃ S', (∃ S1, S1.rows = S.rows ∧ SInv (envAt E G gs S1 w1) S' a' w') ∧ K .normal S') ops.toList.toArray.size (Array.replicate ops.toList.toArray.size false) a w1 := by
    refine any_of_K (kp := fun _ => true) (Sc := AgreeR G gs rs w1) _ _ _ _ ?_
    refine Eq.mp (congrArg (fun n => anyK P .any ops.toList.toArray _ _ _ n (Array.replicate ops.toList.toArray.size false) a w1) hsz) ?_
    refine quiet_ok (rs := rs) hT (fun c a w h => by cases h.1) hsel qs _ S a hq h hd hi1 ?_
    rintro S1 a1 ⟨hl, hvs⟩ hr1 hd1 hi2
    simp only [lendB, Bool.and_eq_true, decide_eq_true_eq, List.all_eq_true] at hl
    obtain ⟨hnd, hrows, hhs⟩ := hl
    have hrow : ∀ r ∈ rs, ∃ row, rowAt S1.rows r = some row ∧ rowOnly rs row = true := fun r hr => by
      have := hrows r hr
      split at this
      · rename_i row h; exact ⟨row, h, this⟩
      · cases this
    obtain ⟨gs0, hl1, hl2, hl3⟩ := hi2.lend (rs := rs) (hs := hs) hnd (fun r hr => let ⟨row, h, _⟩ := hrow r hr; ⟨row, h⟩) (fun i hi => (hhs i hi).1)
    have hSc : ∀ S' a' w', SInv (envL E G gs gs0 S1 rs a1.tmps w1) S' a' w' → AgreeR G gs rs w1 w' := fun S' a' w' ⟨_, G', gs', hi'⟩ => by
      have hcore := lent_agree hi2 hl2 hl3 hi' (fun r hr => let ⟨row, h, _⟩ := hrow r hr; ⟨row, h⟩)
      exact hcore
    refine ord_ok hT hSc (K := fun S2 => keptA S2 (vat E a1.tmps) hs ∧ backB S2 rs = true ∧ K .normal (S2.unlend S1 rs hs)) ?_ o _ none _ a1 w1 hc1 (hvs (vat E a1.tmps)) ⟨hd1, G, gs0, hl1⟩
    rintro S2 a2 w2 ⟨hk, hb, hn2⟩ ⟨hd2, G2, gs2, hi3⟩
    simp only [backB, List.all_eq_true, Bool.and_eq_true, decide_eq_true_eq] at hb
    obtain ⟨hu, _⟩ := hi2.unlend (hs := hs) hl2 hl3 hi3 (keptA_spec hk) (fun r hr => by
      obtain ⟨h1, h2⟩ := hb r hr
      refine ⟨?_, h2⟩
      split at h1
      · assumption
      · cases h1) (fun i hi => (hhs i hi).2) hrow
    exact ⟨rfl, _, ⟨S1, hr1, hd2, G2, _, hu⟩, hn2⟩
  have hwp2 : (Code.region id ops.toList.toArray true).wp P (fun e a' w' => e = .normal ∧ ∃ S', (∃ S1, S1.rows = S.rows ∧ SInv (envAt E G gs S1 w1) S' a' w') ∧ K .normal S') a w := wp_region_any hm (by rw [hw1e]; exact hwp)
  refine wp_mono hwp2 ?_
  rintro e a' w' ⟨rfl, S', ⟨S1, hr1, hd', G', gs', hi'⟩, hK'⟩
  have e2 : envAt E G gs S1 w1 = envAt E G gs S w1 := by unfold envAt; rw [hr1]
  rw [e2] at hi'
  exact ⟨S', ⟨hd', G', gs', hi1.back hi'⟩, hK'⟩
end
end Go.Fw

/- Walks: who is barred. Plain theorems. -/
set_option linter.unusedVariables false
set_option linter.unusedSimpArgs false
namespace Go.Proofs.YtomfmdfamlmfiaaGreat
open Go Go.Fw
set_option maxRecDepth 100000
theorem c_l4BarsOne (l : List Pck) (bs : List Trm) (k : Int) (hl : l.length ≤ 1048576) (hb : bs.length ≤ 1048576) (hs : ∀ o ∈ l, o.Small) (hk : inB k 0 ((l.length : Int) - 1) = true) : PCtr PP n_spec_l4BarsOne [encP l, .sl false 7 (bs.map Trm.enc), i64 k] (boo (bs.any (givesB (pk l k)))) := by
  obtain ⟨Ω, hΩ⟩ : ∃ Ω, Ω = std := ⟨_, rfl⟩
  obtain ⟨r, hr⟩ : ∃ r, r = bs.any (givesB (pk l k)) := ⟨_, rfl⟩
  rw [← hr]
  obtain ⟨xs, hxs⟩ : ∃ xs, xs = l.map (Pck.enc false) := ⟨_, rfl⟩
  have hlen : xs.length = l.length := by rw [hxs, List.length_map]
  unfold encP at *
  rw [← hxs]
  obtain ⟨ys, hys⟩ : ∃ ys, ys = bs.map Trm.enc := ⟨_, rfl⟩
  have hylen : ys.length = bs.length := by rw [hys, List.length_map]
  rw [← hys]
  obtain ⟨hk0, hkl, hka, hkm⟩ := pk_at hk
  obtain ⟨ps2, ds2, bs2, hen2, hps2, hds2, hbs2⟩ := enc_raw (pk l k)
  have hx2 : xs[k.toNat]? = some (Pck.enc false (pk l k)) := by rw [hxs, List.getElem?_map, hka]; rfl
  rw [hen2] at hx2
  have hg := fun t => c_l2Gives (pk l k) t (by have := (hs _ hkm).p; omega)
  rw [hen2] at hg
  generalize givesB (pk l k) = G at *
  clear hka hkm hps2 hds2 hbs2 hen2
  generalize pk l k = pp at *
  have htab := tab
  have hmo := hmo
  have hve := verEq
  refine PCtr.walk tab hΩ fn_spec_l4BarsOne rfl ?_
  generalize PP = P at *
  cbv
  refine loopX htab hΩ (fun i : Nat => ⟨[(0, .sl false 8 xs), (1, .sl false 7 ys), (2, .sc (.int .i64 k)), (7, .sc (.int .i64 (Ω.int i)))], 23, []⟩) (fun i => i ≤ bs.length ∧ r = (bs.drop i).any G) (fun i => bs.length - i) 0
    ⟨Nat.zero_le _, hr⟩ (Sbs.mk rfl rfl ⟨rfl, rfl, rfl, zeroI hΩ, trivial⟩) ?_
  rintro i ⟨hi, he⟩
  cbv
  refine br (fun h => ?_) (fun h => ?_) <;> cbv
  · replace h := ltI hΩ h
    obtain ⟨c, hcc⟩ := at_of (cs := bs) (by omega : i < bs.length)
    rw [any_at _ hcc] at he
    refine ⟨VC_drawn htab hΩ hmo (by kernel_rfl) ?_⟩
    cbv
    refine ⟨⟨hk0⟩, _, hx2, ?_⟩
    cbv
    refine ⟨⟨nnI hΩ⟩, _, rdI hΩ hys hcc, ?_⟩
    cbv
    refine QCall_pure (k := 3) (hg c) rfl (fits _) rfl ?_
    cbv
    refine br (fun g => ?_) (fun g => ?_) <;> cbv
    · exact .of (congrArg boo (by rw [he, show G c = true from g]; rfl))
    · rw [show G c = false from g, Bool.false_or] at he
      exact ⟨i + 1, ⟨by omega, he⟩, by omega, Sbs.mk rfl rfl ⟨rfl, rfl, rfl, incI hΩ (by omega), trivial⟩⟩
  · replace h := geI hΩ h
    exact .of (congrArg boo (by rw [he, List.drop_of_length_le (by omega)]; rfl))
end Go.Proofs.YtomfmdfamlmfiaaGreat

/- Walks: who leans on one. Plain theorems. -/
set_option linter.unusedVariables false
set_option linter.unusedSimpArgs false
namespace Go.Proofs.YtomfmdfamlmfiaaGreat
open Go Go.Fw
set_option maxRecDepth 100000
theorem c_l1Has (l : List Int) (s : Int) (hl : l.length ≤ 4611686018427387904) : PCtr PP n_spec_l1Has [.sl false 1 (l.map i64), i64 s] (boo (l.any (· == s))) := by
  obtain ⟨Ω, hΩ⟩ : ∃ Ω, Ω = std := ⟨_, rfl⟩
  obtain ⟨r, hr⟩ : ∃ r, r = l.any (· == s) := ⟨_, rfl⟩
  rw [← hr]
  obtain ⟨xs, hxs⟩ : ∃ xs, xs = l.map i64 := ⟨_, rfl⟩
  have hlen : xs.length = l.length := by rw [hxs, List.length_map]
  rw [← hxs]
  have htab := tab
  have hmo := hmo
  have hve := verEq
  refine PCtr.walk tab hΩ fn_spec_l1Has rfl ?_
  generalize PP = P at *
  cbv
  refine loopX htab hΩ (fun i : Nat => ⟨[(0, .sl false 1 xs), (1, .sc (.int .i64 s)), (5, .sc (.int .i64 (Ω.int i)))], 18, []⟩) (fun i => i ≤ l.length ∧ r = (l.drop i).any (· == s)) (fun i => l.length - i) 0
    ⟨Nat.zero_le _, hr⟩ (Sbs.mk rfl rfl ⟨rfl, rfl, zeroI hΩ, trivial⟩) ?_
  rintro i ⟨hi, he⟩
  cbv
  refine br (fun h => ?_) (fun h => ?_) <;> cbv
  · replace h := ltI hΩ h
    obtain ⟨c, hcc⟩ := at_of (cs := l) (by omega : i < l.length)
    rw [any_at _ hcc] at he
    refine ⟨⟨nnI hΩ⟩, _, rdI hΩ hxs hcc, ?_⟩
    cbv
    refine br (fun g => ?_) (fun g => ?_) <;> cbv
    · exact .of (congrArg boo (by rw [he, show (c == s) = true by simp [eqI_t hΩ g]]; rfl))
    · rw [show (c == s) = false by simp [eqI_f hΩ g], Bool.false_or] at he
      exact ⟨i + 1, ⟨by omega, he⟩, by omega, Sbs.mk rfl rfl ⟨rfl, rfl, incI hΩ (by omega), trivial⟩⟩
  · replace h := geI hΩ h
    exact .of (congrArg boo (by rw [he, List.drop_of_length_le (by omega)]; rfl))
theorem c_IndexI (l : List Int) (s : Int) (hl : l.length ≤ 4611686018427387904) : PCtr PP n_slices_Index_L_int64_int64 [.sl false 1 (l.map i64), i64 s] (i64 (idx (fun c => s == c) l)) := by
  obtain ⟨Ω, hΩ⟩ : ∃ Ω, Ω = std := ⟨_, rfl⟩
  obtain ⟨r, hr⟩ : ∃ r, r = idx (fun c => s == c) l := ⟨_, rfl⟩
  rw [← hr]
  obtain ⟨xs, hxs⟩ : ∃ xs, xs = l.map i64 := ⟨_, rfl⟩
  have hlen : xs.length = l.length := by rw [hxs, List.length_map]
  rw [← hxs]
  have htab := tab
  have hmo := hmo
  have hve := verEq
  refine PCtr.walk tab hΩ fn_slices_Index_L_int64_int64 rfl ?_
  generalize PP = P at *
  cbv
  refine loopX htab hΩ (fun i : Nat => ⟨[(0, .sl false 1 xs), (1, .sc (.int .i64 s)), (7, .sc (.int .i64 (Ω.int (Ω.len xs)))), (8, .sc (.int .i64 (Ω.int i)))], 19, []⟩) (fun i => i ≤ l.length ∧ r = idxFrom (fun c => s == c) i (l.drop i)) (fun i => l.length - i) 0
    ⟨Nat.zero_le _, hr⟩ (Sbs.mk rfl rfl ⟨rfl, rfl, rfl, zeroI hΩ, trivial⟩) ?_
  rintro i ⟨hi, he⟩
  cbv
  refine br (fun h => ?_) (fun h => ?_) <;> cbv
  · replace h := ltI hΩ h
    obtain ⟨c, hcc⟩ := at_of (cs := l) (by omega : i < l.length)
    rw [idxFrom_at _ hcc] at he
    refine ⟨⟨nnI hΩ⟩, _, rdI hΩ hxs hcc, ?_⟩
    cbv
    refine br (fun g => ?_) (fun g => ?_) <;> cbv
    · exact .of (congrArg i64 (by rw [he, if_pos (by have := eqI_t hΩ g; simp [this])]; subst hΩ; rfl))
    · rw [if_neg (by have := eqI_f hΩ g; simp; omega)] at he
      exact ⟨i + 1, ⟨by omega, he⟩, by omega, Sbs.mk rfl rfl ⟨rfl, rfl, rfl, incI hΩ (by omega), trivial⟩⟩
  · replace h := geI hΩ h
    exact .of (congrArg i64 (by rw [he, List.drop_of_length_le (by omega)]; rfl))
theorem c_ContainsI (l : List Int) (s : Int) (hl : l.length ≤ 4611686018427387904) : PCtr PP n_slices_Contains_L_int64_int64 [.sl false 1 (l.map i64), i64 s] (boo (l.any (· == s))) := by
  obtain ⟨Ω, hΩ⟩ : ∃ Ω, Ω = std := ⟨_, rfl⟩
  obtain ⟨r, hr⟩ : ∃ r, r = l.any (· == s) := ⟨_, rfl⟩
  rw [← hr]
  have hc0 := c_IndexI l s hl
  rw [show (l.any (· == s)) = l.any (fun c => s == c) by congr 1; funext c; rw [Bool.eq_iff_iff, beq_iff_eq, beq_iff_eq]; exact eq_comm, ← idx_any] at hr
  generalize idx (fun c => s == c) l = k at *
  generalize l.map i64 = xs at *
  have htab := tab
  have hmo := hmo
  refine PCtr.walk tab hΩ fn_slices_Contains_L_int64_int64 rfl ?_
  generalize PP = P at *
  cbv
  repeat' (first | (refine br (fun h => ?_) (fun h => ?_) <;> cbv) | (refine ⟨VC_drawn htab hΩ hmo (by kernel_rfl) ?_⟩; cbv) | (refine QCall_pure (k := 3) (hc0) rfl (fits _) rfl ?_; cbv) | (refine call_pure hΩ 3 (hc0) rfl (fits _) rfl rfl ?_; cbv))
  all_goals (refine .of (congrArg boo ?_); subst hΩ; subst hr; rfl)
/-- k leans on t. -/
def nedB (c : List Pck) (t k : Int) : Bool := !decide (k = t) && (pk c k).d.any fun l => l.any (givesB (pk c t))
def nedC (c : List Pck) (s : List Int) (t : Int) : Int := if setF c s ≠ 0 then setF c s else if s.any (· == t) then 0 else 4
def nedS (c : List Pck) (s : List Int) (t : Int) : List Int := if nedC c s t ≠ 0 then [] else s.filter (nedB c t)
theorem nedS_le (c : List Pck) (s : List Int) (t : Int) : (nedS c s t).length ≤ s.length := by
  unfold nedS
  split
  · exact Nat.zero_le _
  · exact List.length_filter_le _ _
theorem c_leans (l : List Pck) (k t : Int) (hl : l.length ≤ 1048576) (hs : ∀ o ∈ l, o.Small) (hk : inB k 0 ((l.length : Int) - 1) = true) (ht : inB t 0 ((l.length : Int) - 1) = true) : PCtr PP n_impl_leans [encP l, i64 k, i64 t] (boo (nedB l t k)) := by
  obtain ⟨Ω, hΩ⟩ : ∃ Ω, Ω = std := ⟨_, rfl⟩
  obtain ⟨r, hr⟩ : ∃ r, r = nedB l t k := ⟨_, rfl⟩
  rw [← hr]
  obtain ⟨xs, hxs⟩ : ∃ xs, xs = l.map (Pck.enc false) := ⟨_, rfl⟩
  have hlen : xs.length = l.length := by rw [hxs, List.length_map]
  unfold encP at *
  rw [← hxs]
  obtain ⟨ht0, htl, hta, htm⟩ := pk_at ht
  obtain ⟨hk0, hkl, hka, hkm⟩ := pk_at hk
  obtain ⟨ps1, ds1, bs1, hen1, hps1, hds1, hbs1⟩ := enc_raw (pk l t)
  obtain ⟨ps2, ds2, bs2, hen2, hps2, hds2, hbs2⟩ := enc_raw (pk l k)
  have hx1 : xs[t.toNat]? = some (Pck.enc false (pk l t)) := by rw [hxs, List.getElem?_map, hta]; rfl
  have hx2 : xs[k.toNat]? = some (Pck.enc false (pk l k)) := by rw [hxs, List.getElem?_map, hka]; rfl
  have hcf : PCtr PP n_slices_ContainsFunc_L_L_impl_Term_L_impl_Term [.sl false 1 ((pk l k).d.map (encTs false)), .clo (1000000 + n_impl_Pack_givesOne) [(pk l t).enc false]] (boo ((pk l k).d.any fun u => u.any (givesB (pk l t)))) :=
    c_ContainsFuncL _ (by have := (hs _ hkm).d; omega) _ _ _ ⟨fun S k => by rw [hen1]; rfl, by rw [hen1]; rfl, fun _ => by rw [hen1]; rfl, fun u hu => c_givesOne (pk l t) u (hs _ htm).p ((hs _ hkm).e u hu)⟩
  rw [hen1] at hx1 hcf
  rw [hen2] at hx2
  rw [← hds2] at hcf
  unfold nedB at hr
  generalize ((pk l k).d.any fun u => u.any (givesB (pk l t))) = B1 at *
  clear hbs1 hbs2 hps1 hps2 hds1 hds2 hen1 hen2 hs hk ht htm hkm hta hka hxs
  generalize pk l t = p1 at *
  generalize pk l k = p2 at *
  have htab := tab
  have hmo := hmo
  have hve := verEq
  refine PCtr.walk tab hΩ fn_impl_leans rfl ?_
  generalize PP = P at *
  cbv
  refine ⟨VC_drawn htab hΩ hmo (by kernel_rfl) ?_⟩
  cbv
  repeat' (first | (refine br (fun h => ?_) (fun h => ?_) <;> cbv) | (refine ⟨⟨ht0⟩, _, hx1, ?_⟩; cbv) | (refine ⟨⟨hk0⟩, _, hx2, ?_⟩; cbv) | (refine QCall_pure (k := 5) hcf (ro_clo2 rfl rfl) (fits _) rfl ?_; cbv))
  all_goals (refine .of (congrArg boo ?_); subst hΩ; subst hr; clear hcf htab hmo hve; simp_all)
theorem c_l13Leans (l : List Pck) (k t : Int) (hl : l.length ≤ 1048576) (hs : ∀ o ∈ l, o.Small) (hk : inB k 0 ((l.length : Int) - 1) = true) (ht : inB t 0 ((l.length : Int) - 1) = true) : PCtr PP n_spec_l13Leans [encP l, i64 k, i64 t] (boo (nedB l t k)) := by
  obtain ⟨Ω, hΩ⟩ : ∃ Ω, Ω = std := ⟨_, rfl⟩
  obtain ⟨r, hr⟩ : ∃ r, r = nedB l t k := ⟨_, rfl⟩
  rw [← hr]
  obtain ⟨xs, hxs⟩ : ∃ xs, xs = l.map (Pck.enc false) := ⟨_, rfl⟩
  have hlen : xs.length = l.length := by rw [hxs, List.length_map]
  unfold encP at *
  rw [← hxs]
  obtain ⟨ht0, htl, hta, htm⟩ := pk_at ht
  obtain ⟨hk0, hkl, hka, hkm⟩ := pk_at hk
  obtain ⟨ps1, ds1, bs1, hen1, hps1, hds1, hbs1⟩ := enc_raw (pk l t)
  obtain ⟨ps2, ds2, bs2, hen2, hps2, hds2, hbs2⟩ := enc_raw (pk l k)
  have hx1 : xs[t.toNat]? = some (Pck.enc false (pk l t)) := by rw [hxs, List.getElem?_map, hta]; rfl
  have hx2 : xs[k.toNat]? = some (Pck.enc false (pk l k)) := by rw [hxs, List.getElem?_map, hka]; rfl
  have hg := fun t' => c_l2Gives (pk l t) t' (by have := (hs _ htm).p; omega)
  rw [hen1] at hx1 hg
  rw [hen2] at hx2
  unfold nedB at hr
  have hdl : (pk l k).d.length ≤ 1048576 := (hs _ hkm).d
  have hdd := (hs _ hkm).e
  generalize (pk l k).d = d at *
  generalize givesB (pk l t) = G at *
  have hdlen : ds2.length = d.length := by rw [hds2, List.length_map]
  clear hbs1 hbs2 hps1 hps2 hds1 hen1 hs hk ht htm hkm hta hka hen2
  generalize pk l t = p1 at *
  generalize pk l k = p2 at *
  rw [show ((!decide (k = t)) && d.any fun l => l.any G) = ((d.any fun l => l.any G) && !decide (k = t)) from Bool.and_comm _ _] at hr
  obtain ⟨B, hB⟩ : ∃ B, B = !decide (k = t) := ⟨_, rfl⟩
  rw [← hB] at hr
  have htab := tab
  have hmo := hmo
  refine PCtr.walk tab hΩ fn_spec_l13Leans rfl ?_
  generalize PP = P at *
  cbv
  refine ⟨⟨hk0⟩, _, hx2, ?_⟩
  cbv
  refine loopX htab hΩ (fun i : Nat => ⟨[(0, .sl false 8 xs), (1, .sc (.int .i64 k)), (2, .sc (.int .i64 t)), (7, .sl false 1 ds2), (8, .sc (.int .i64 (Ω.int i)))], 45, []⟩) (fun i => i ≤ d.length ∧ r = (((d.drop i).any fun l => l.any G) && B)) (fun i => d.length - i) 0
    ⟨Nat.zero_le _, hr⟩ (Sbs.mk rfl rfl ⟨rfl, rfl, rfl, rfl, zeroI hΩ, trivial⟩) ?_
  rintro i ⟨hi, he⟩
  cbv
  refine br (fun h => ?_) (fun h => ?_) <;> cbv
  · replace h := ltI hΩ h
    obtain ⟨c, hcc⟩ := at_of (cs := d) (by omega : i < d.length)
    rw [any_at _ hcc] at he
    obtain ⟨ts, hts⟩ : ∃ ts, ts = c.map Trm.enc := ⟨_, rfl⟩
    have hcl := hdd c (List.mem_of_getElem? hcc)
    have htl : ts.length = c.length := by rw [hts, List.length_map]
    have hrd : ds2[(Ω.int i).toNat]? = some (.sl false 7 ts) := (rdI hΩ hds2 hcc).trans (by rw [hts]; rfl)
    refine loopX htab hΩ (fun j : Nat => ⟨[(0, .sl false 8 xs), (1, .sc (.int .i64 k)), (2, .sc (.int .i64 t)), (7, .sl false 1 ds2), (8, .sc (.int .i64 (Ω.int i))), (9, .sc (.int .i64 (Ω.int j)))], 45, []⟩) (fun j => j ≤ c.length ∧ r = (((c.drop j).any G || ((d.drop (i + 1)).any fun l => l.any G)) && B)) (fun j => c.length - j) 0
      ⟨Nat.zero_le _, he⟩ (Sbs.mk rfl rfl ⟨rfl, rfl, rfl, rfl, rfl, zeroI hΩ, trivial⟩) ?_
    rintro j ⟨hj, he⟩
    cbv
    refine ⟨⟨nnI hΩ⟩, _, hrd, ?_⟩
    cbv
    refine br (fun h => ?_) (fun h => ?_) <;> cbv
    · replace h := ltI hΩ h
      obtain ⟨e, hee⟩ := at_of (cs := c) (by omega : j < c.length)
      rw [any_at _ hee] at he
      refine ⟨VC_drawn htab hΩ hmo (by kernel_rfl) ?_⟩
      cbv
      refine ⟨⟨ht0⟩, _, hx1, ?_⟩
      cbv
      refine ⟨⟨nnI hΩ⟩, _, hrd, ?_⟩
      cbv
      refine ⟨⟨nnI hΩ⟩, _, rdI hΩ hts hee, ?_⟩
      cbv
      refine QCall_pure (k := 3) (hg e) rfl (fits _) rfl ?_
      cbv
      refine br (fun g => ?_) (fun g => ?_) <;> cbv
      · exact .of (congrArg boo (by rw [he, show G e = true from g, hB]; clear hg; subst hΩ; by_cases q : k = t <;> simp [q, cmpIS]))
      · rw [show G e = false from g, Bool.false_or] at he
        exact ⟨j + 1, ⟨by omega, he⟩, by omega, Sbs.mk rfl rfl ⟨rfl, rfl, rfl, rfl, rfl, incI hΩ (by omega), trivial⟩⟩
    · replace h := geI hΩ h
      rw [List.drop_of_length_le (by omega : c.length ≤ j), List.any_nil, Bool.false_or] at he
      exact ⟨i + 1, ⟨by omega, he⟩, by omega, Sbs.mk rfl rfl ⟨rfl, rfl, rfl, rfl, incI hΩ (by omega), trivial⟩⟩
  · replace h := geI hΩ h
    exact .of (congrArg boo (by rw [he, List.drop_of_length_le (by omega)]; rfl))
theorem c_NeedersOf1 (l : List Pck) (t k : Int) (hl : l.length ≤ 1048576) (hs : ∀ o ∈ l, o.Small) (hk : inB k 0 ((l.length : Int) - 1) = true) (ht : inB t 0 ((l.length : Int) - 1) = true) : PCtr PP n_impl_NeedersOf_1 [i64 k, .rp [encP l], .rp [i64 t]] (boo (nedB l t k)) := by
  obtain ⟨Ω, hΩ⟩ : ∃ Ω, Ω = std := ⟨_, rfl⟩
  have hc := c_leans l k t hl hs hk ht
  generalize nedB l t k = r at *
  unfold encP at *
  generalize l.map (Pck.enc false) = xs at *
  have htab := tab
  have hmo := hmo
  refine PCtr.walk tab hΩ fn_impl_NeedersOf_1 rfl ?_
  generalize PP = P at *
  cbv
  refine call_pure hΩ 3 hc rfl (fits _) rfl rfl ?_
  cbv
  exact .same
theorem c_implNeedersOf (l : List Pck) (s : List Int) (t : Int) (hl : l.length ≤ 1048576) (ho : ∀ o ∈ l, o.Small) (hs : s.length ≤ 1048576) : PCtr PP n_impl_NeedersOf [encP l, .sl false 1 (s.map i64), i64 t] (setR (nedC l s t) 0 (nedS l s t)) := by
  obtain ⟨Ω, hΩ⟩ : ∃ Ω, Ω = std := ⟨_, rfl⟩
  have hc := c_implSetFault l s hl ho hs
  have hp := c_ContainsI s t (by omega)
  obtain ⟨k0, hk0⟩ : ∃ x, setF l s = x := ⟨_, rfl⟩
  obtain ⟨bi, hbi⟩ : ∃ x, s.any (· == t) = x := ⟨_, rfl⟩
  rw [hk0] at hc
  rw [hbi] at hp
  have hth : k0 = 0 → bi = true → PCtr PP n_impl_those [.sl false 1 (s.map i64), .clo n_impl_NeedersOf_1 [.rp [encP l], .rp [i64 t]]] (ints (s.filter (nedB l t))) := fun e1 e2 =>
    c_those s hs _ _ _ ⟨fun _ _ => rfl, rfl, fun _ => rfl, fun k hk => c_NeedersOf1 l t k hl ho (setF_in (hk0.trans e1) k hk) (setF_in (hk0.trans e1) t (by rw [e2] at hbi; simpa using hbi))⟩
  have hroZ := roFInt (s.filter (nedB l t))
  unfold ints encP at *
  have hC : nedC l s t = if k0 ≠ 0 then k0 else if bi then 0 else 4 := by rw [nedC, hk0, hbi]
  have hS : nedS l s t = if nedC l s t ≠ 0 then [] else s.filter (nedB l t) := rfl
  generalize nedC l s t = C at *
  generalize nedS l s t = Z at *
  generalize s.filter (nedB l t) = zs at *
  have htab := tab
  have hmo := hmo
  generalize s.map i64 = xs at *
  generalize l.map (Pck.enc false) = cs at *
  refine PCtr.walk tab hΩ fn_impl_NeedersOf rfl ?_
  generalize hA : setR C 0 Z = R
  generalize PP = P at *
  cbv
  refine call_pure hΩ 3 hc rfl (fits _) rfl rfl ?_
  cbv
  refine br (fun g1 => ?_) (fun g1 => ?_) <;> cbv
  · have g1 : k0 = 0 := eqI_t hΩ g1
    refine call_pure hΩ 3 hp rfl (fits _) rfl rfl ?_
    cbv
    refine br (fun g2 => ?_) (fun g2 => ?_) <;> cbv
    · have g2 : bi = false := notT' hΩ (b := bi) (by subst hΩ; exact g2)
      refine br (fun g3 => ?_) (fun g3 => absurd (neI_f hΩ g3) (by decide)) <;> cbv
      have e1 : C = 4 := by rw [hC, g1, g2]; rfl
      have e2 : Z = [] := by rw [hS, e1]; rfl
      rw [← hA, e1, e2]
      exact fit_nilR 4 0
    · have g2 : bi = true := notF' hΩ (b := bi) (by subst hΩ; exact g2)
      have e1 : C = 0 := by rw [hC, g1, g2]; rfl
      have e2 : Z = zs := by rw [hS, e1]; rfl
      have hth := hth g1 g2
      refine br (fun g3 => absurd g1 (neI_t hΩ g3)) (fun g3 => ?_) <;> cbv
      obtain ⟨zz, hzz⟩ : ∃ zz, zz = zs.map i64 := ⟨_, rfl⟩
      rw [← hzz] at hth hroZ
      refine call_pure hΩ 5 hth (ro_clo2 rfl rfl) (fits _) hroZ rfl ?_
      cbv
      exact ⟨⟨rfl, by subst hΩ; exact Nat.le_refl _⟩, by rw [← hA, e1, e2]; exact fit_R hΩ 0 0 zs hzz⟩
  · have g1 : k0 ≠ 0 := eqI_f hΩ g1
    have e1 : C = k0 := by rw [hC, if_pos g1]
    have e2 : Z = [] := by rw [hS, e1, if_pos g1]
    refine br (fun g3 => ?_) (fun g3 => absurd (neI_f hΩ g3) g1) <;> cbv
    rw [← hA, e1, e2]
    exact fit_nilR k0 0
end Go.Proofs.YtomfmdfamlmfiaaGreat

/- Walks: the reference's solver, as far as draws ask for it. Plain theorems. -/
set_option linter.unusedVariables false
set_option linter.unusedSimpArgs false
namespace Go.Proofs.YtomfmdfamlmfiaaGreat
open Go Go.Fw
set_option maxRecDepth 100000
/-- A number put into a rising list. -/
def put3 (v : Int) : List Int → List Int
  | [] => [v]
  | x :: xs => if v < x then v :: x :: xs else x :: put3 v xs
theorem put3_len (v : Int) : ∀ l : List Int, (put3 v l).length = l.length + 1
  | [] => rfl
  | x :: xs => by rw [put3]; split <;> simp [put3_len v xs]
theorem put3_not {v : Int} : ∀ {l : List Int}, l.any (fun x => decide (v < x)) = false → put3 v l = l ++ [v]
  | [], _ => rfl
  | x :: xs, h => by
    simp only [List.any_cons, Bool.or_eq_false_iff, decide_eq_false_iff_not] at h
    rw [put3, if_neg h.1, put3_not h.2]; rfl
theorem put3_snoc {v x : Int} : ∀ {l : List Int}, l.any (fun x => decide (v < x)) = true → put3 v (l ++ [x]) = put3 v l ++ [x]
  | [], h => by cases h
  | y :: ys, h => by
    rw [List.cons_append, put3, put3]
    split
    · rfl
    · rename_i hy
      simp only [List.any_cons, Bool.or_eq_true, decide_eq_true_eq] at h
      rw [put3_snoc (h.resolve_left hy)]; rfl
theorem put3_snoc2 {v x : Int} : ∀ {l : List Int}, l.any (fun x => decide (v < x)) = false → v < x → put3 v (l ++ [x]) = l ++ [v] ++ [x]
  | [], _, h => by show put3 v [x] = _; rw [put3, if_pos h]; rfl
  | y :: ys, h, hx => by
    simp only [List.any_cons, Bool.or_eq_false_iff, decide_eq_false_iff_not] at h
    rw [List.cons_append, put3, if_neg h.1, put3_snoc2 h.2 hx]; rfl
/-- What stands behind i numbers of the list. -/
def putUp (v : Int) (l : List Int) : List Int := if l.any (fun x => decide (v < x)) then put3 v l else l
theorem putUp_step {v x : Int} {l : List Int} : putUp v (l ++ [x]) = if l.any (fun x => decide (v < x)) = false ∧ v < x then putUp v l ++ [v] ++ [x] else putUp v l ++ [x] := by
  unfold putUp
  rw [List.any_append]
  simp only [List.any_cons, List.any_nil, Bool.or_false]
  cases h : l.any (fun x => decide (v < x)) with
  | true => simp [put3_snoc h]
  | false =>
    by_cases hx : v < x
    · simp [hx, put3_snoc2 h hx]
    · simp [hx]
theorem putUp_end {v : Int} {l : List Int} : put3 v l = if l.any (fun x => decide (v < x)) then putUp v l else putUp v l ++ [v] := by
  unfold putUp
  cases h : l.any (fun x => decide (v < x)) with
  | true => simp
  | false => simp [put3_not h]
theorem putUp_len (v : Int) (l : List Int) : (putUp v l).length ≤ l.length + 1 := by unfold putUp; split <;> simp [put3_len]
theorem c_l3Put (s : List Int) (v : Int) (hs : s.length ≤ 1048576) : PCtr PP n_spec_l3Put [.sl false 1 (s.map i64), i64 v] (.sl true 1 ((put3 v s).map i64)) := by
  obtain ⟨Ω, hΩ⟩ : ∃ Ω, Ω = std := ⟨_, rfl⟩
  obtain ⟨xs, hxs⟩ : ∃ xs, xs = s.map i64 := ⟨_, rfl⟩
  have hlen : xs.length = s.length := by rw [hxs, List.length_map]
  rw [← hxs]
  obtain ⟨U, hU⟩ : ∃ U : Nat → List Int, U = fun i => putUp v (s.take i) := ⟨_, rfl⟩
  obtain ⟨D, hD⟩ : ∃ D : Nat → Bool, D = fun i => (s.take i).any fun x => decide (v < x) := ⟨_, rfl⟩
  obtain ⟨F, hF⟩ : ∃ F : Nat → List A, F = fun i => (U i).map i64 := ⟨_, rfl⟩
  have hF0 : F 0 = [] := by rw [hF, hU]; rfl
  have hD0 : D 0 = false := by rw [hD]; rfl
  have hFl : ∀ i, (F i).length = (U i).length := fun i => by rw [hF]; exact List.length_map _
  have hUl : ∀ i, (U i).length ≤ i + 1 := fun i => by rw [hU]; exact Nat.le_trans (putUp_len _ _) (by simp; omega)
  have hst : ∀ i c, s[i]? = some c → U (i + 1) = (if D i = false ∧ v < c then U i ++ [v] ++ [c] else U i ++ [c]) ∧ D (i + 1) = (D i || decide (v < c)) := fun i c h => by
    rw [hU, hD]; dsimp only
    rw [List.take_add_one, h]
    exact ⟨putUp_step, by rw [List.any_append]; simp⟩
  have hs1 : ∀ i n L, (U i).length = L → Ω.app (Ω.take L (F i)) [i64 n] = (U i ++ [n]).map i64 := fun i n L h => by
    subst hΩ; rw [hF]; show List.take L (List.map i64 (U i)) ++ _ = _
    rw [List.map_append, List.take_of_length_le (by simp; omega)]; rfl
  have hs2 : ∀ i n n2 L, (U i).length = L → Ω.app (Ω.take (Ω.plus L (Ω.len [i64 n])) (Ω.app (Ω.take L (F i)) [i64 n])) [i64 n2] = (U i ++ [n] ++ [n2]).map i64 := fun i n n2 L h => by
    rw [hs1 i n L h]; subst hΩ; show List.take (L + 1) _ ++ _ = _
    rw [List.map_append (l₂ := [n2]), List.take_of_length_le (by simp; omega)]; rfl
  have hend : put3 v s = if D s.length then U s.length else U s.length ++ [v] := by
    have h0 := @putUp_end v (s.take s.length)
    rw [hU, hD]; show put3 v s = if ((s.take s.length).any fun x => decide (v < x)) = true then putUp v (s.take s.length) else putUp v (s.take s.length) ++ [v]
    rw [← h0, List.take_length]
  have hFm : ∀ i, F i = (U i).map i64 := fun i => by rw [hF]
  clear hF hU hD
  have htab := tab
  refine PCtr.walk tab hΩ fn_spec_l3Put rfl ?_
  obtain ⟨R, hR⟩ : ∃ R, R = put3 v s := ⟨_, rfl⟩
  rw [← hR] at hend ⊢
  obtain ⟨G, hG⟩ : ∃ G, G = R.map i64 := ⟨_, rfl⟩
  rw [← hG]
  generalize PP = P at *
  cbv
  refine loopX htab hΩ (fun i : Nat => ⟨[(0, .sl false 1 xs), (1, i64 v), (5, .vw 0 0 (U i).length), (6, boo (D i)), (7, i64 (Ω.int i))], 43, [some ⟨1, F i, false⟩]⟩) (fun i => i ≤ s.length) (fun i => s.length - i) 0 (Nat.zero_le _)
    (Sbs.mk rfl (by rw [hF0]) ⟨rfl, rfl, by have := hFl 0; rw [hF0] at this; rw [← this]; rfl, by rw [hD0]; rfl, zeroI hΩ, trivial⟩) ?_
  intro i hi
  have hFli := hFl i
  have hUli := hUl i
  have hs1i := hs1 i
  have hs2i := hs2 i
  have hsti := hst i
  have hFi1 := hFm (i + 1)
  obtain ⟨m, hm⟩ : ∃ m, (U i).length = m := ⟨_, rfl⟩
  obtain ⟨d, hd⟩ : ∃ d, D i = d := ⟨_, rfl⟩
  have e1 : ∀ n, [some (Row.mk 1 (Ω.app (Ω.take m (F i)) [i64 n]) false)] = [some (Row.mk 1 ((U i ++ [n]).map i64) false)] := fun n => by rw [hs1i n m hm]
  have l1 : ∀ n : Int, A.vw 0 0 (Ω.plus m (Ω.len [i64 n])) = .vw 0 0 (U i ++ [n]).length := fun n => by subst hΩ; rw [List.length_append, hm]; rfl
  have e2 : ∀ n n2, [some (Row.mk 1 (Ω.app (Ω.take (Ω.plus m (Ω.len [i64 n])) (Ω.app (Ω.take m (F i)) [i64 n])) [i64 n2]) false)] = [some (Row.mk 1 ((U i ++ [n] ++ [n2]).map i64) false)] := fun n n2 => by rw [hs2i n n2 m hm]
  have l2 : ∀ n n2 : Int, A.vw 0 0 (Ω.plus (Ω.plus m (Ω.len [i64 n])) (Ω.len [i64 n2])) = .vw 0 0 (U i ++ [n] ++ [n2]).length := fun n n2 => by subst hΩ; rw [List.length_append, List.length_append, hm]; rfl
  rw [hd] at hsti ⊢
  rw [hm] at hFli hUli ⊢
  cbv
  refine br (fun h => ?_) (fun h => ?_) <;> cbv
  · replace h := ltI hΩ h
    obtain ⟨c, hc⟩ := at_of (cs := s) (by omega : i < s.length)
    obtain ⟨q1, q2⟩ := hsti c hc
    have hok : (m + 1) * 8 ≤ 140737488355328 ∧ m + 1 ≤ 9223372036854775807 := by omega
    have hok2 : (Ω.plus m (Ω.len [i64 v]) + 1) * 8 ≤ 140737488355328 ∧ Ω.plus m (Ω.len [i64 v]) + 1 ≤ 9223372036854775807 := by
      have e : Ω.plus m (Ω.len [i64 v]) = m + 1 := by subst hΩ; rfl
      rw [e]; omega
    refine ⟨⟨nnI hΩ⟩, _, rdI hΩ hxs hc, ?_⟩
    cbv
    refine br (fun g1 => ?_) (fun g1 => ?_) <;> cbv
    · have g1 := gtI_t hΩ g1
      refine br (fun g2 => ?_) (fun g2 => ?_) <;> cbv
      · have g2 : d = false := notT' hΩ (by subst hΩ; exact g2)
        rw [if_pos ⟨g2, g1⟩] at q1
        refine ⟨⟨rfl, okAll rfl, hok.1, hok.2⟩, ?_⟩
        refine ⟨⟨nnI hΩ⟩, _, rdI hΩ hxs hc, ?_⟩
        cbv
        exact ⟨⟨rfl, okAll rfl, hok2.1, hok2.2⟩, i + 1, by omega, by omega, (Sbs.cut 1 rfl).trans (Sbs.mk rfl (by show _ = [some (Row.mk 1 (F (i + 1)) false)]; rw [hFi1, q1, ← e2 v c]; rfl) ⟨rfl, rfl, by rw [q1]; exact l2 v c, by rw [q2]; show boo true = _; rw [decide_eq_true g1, Bool.or_true], incI hΩ (by omega), trivial⟩)⟩
      · have g2 : d = true := notF' hΩ (by subst hΩ; exact g2)
        rw [if_neg (by rw [g2]; simp)] at q1
        refine ⟨⟨nnI hΩ⟩, _, rdI hΩ hxs hc, ?_⟩
        cbv
        exact ⟨⟨rfl, okAll rfl, hok.1, hok.2⟩, i + 1, by omega, by omega, (Sbs.cut 1 rfl).trans (Sbs.mk rfl (by show _ = [some (Row.mk 1 (F (i + 1)) false)]; rw [hFi1, q1, ← e1 c]; rfl) ⟨rfl, rfl, by rw [q1]; exact l1 c, by rw [q2, g2]; rfl, incI hΩ (by omega), trivial⟩)⟩
    · have g1 := gtI_f hΩ g1
      rw [if_neg (by omega)] at q1
      refine ⟨⟨nnI hΩ⟩, _, rdI hΩ hxs hc, ?_⟩
      cbv
      exact ⟨⟨rfl, okAll rfl, hok.1, hok.2⟩, i + 1, by omega, by omega, (Sbs.cut 1 rfl).trans (Sbs.mk rfl (by show _ = [some (Row.mk 1 (F (i + 1)) false)]; rw [hFi1, q1, ← e1 c]; rfl) ⟨rfl, rfl, by rw [q1]; exact l1 c, by rw [q2, decide_eq_false (by omega), Bool.or_false]; rfl, incI hΩ (by omega), trivial⟩)⟩
  · have h := geI hΩ h
    have hil : i = s.length := by omega
    rw [← hil] at hend
    refine br (fun g => ?_) (fun g => ?_) <;> cbv
    · have g : d = false := notT' hΩ (by subst hΩ; exact g)
      rw [hd, g, if_neg (by simp)] at hend
      refine ⟨⟨rfl, okAll rfl, by show (m + 1) * 8 ≤ 140737488355328; omega, by show m + 1 ≤ 9223372036854775807; omega⟩, ⟨rfl, ?_⟩, ?_⟩
      · show Ω.plus m (Ω.len [i64 v]) ≤ (Ω.app (Ω.take m (F i)) [i64 v]).length
        rw [hs1i v m hm]; subst hΩ; rw [List.length_map, List.length_append, hm]; exact Nat.le_refl _
      · have e : A.sl true 1 (Ω.take (Ω.plus m (Ω.len [i64 v])) (Ω.app (Ω.take m (F i)) [i64 v])) = .sl true 1 G := by
          rw [hs1i v m hm, hG, hend]; subst hΩ; exact congrArg _ (List.take_of_length_le (by rw [List.length_map, List.length_append, hm]; exact Nat.le_refl _))
        exact .of e
    · have g : d = true := notF' hΩ (by subst hΩ; exact g)
      rw [hd, g, if_pos rfl] at hend
      refine ⟨⟨rfl, ?_⟩, ?_⟩
      · show m ≤ (F i).length; omega
      · have e : A.sl true 1 (Ω.take m (F i)) = .sl true 1 G := by
          rw [hFm i, hG, hend]; subst hΩ; exact congrArg _ (List.take_of_length_le (by rw [List.length_map, hm]; exact Nat.le_refl _))
        exact .of e
end Go.Proofs.YtomfmdfamlmfiaaGreat

/- Walks: the reference's solver, its parts. Plain theorems. -/
set_option linter.unusedVariables false
set_option linter.unusedSimpArgs false
namespace Go.Proofs.YtomfmdfamlmfiaaGreat
open Go Go.Fw
set_option maxRecDepth 100000
/-- The numbers, each put where it belongs. -/
def sortU (s : List Int) : List Int := s.foldl (fun a v => put3 v a) []
theorem sortU_snoc (s : List Int) (v : Int) : sortU (s ++ [v]) = put3 v (sortU s) := by simp [sortU]
theorem foldl_put3_len : ∀ (s a : List Int), (s.foldl (fun a v => put3 v a) a).length = a.length + s.length
  | [], a => rfl
  | v :: s, a => by rw [List.foldl_cons, foldl_put3_len s, put3_len, List.length_cons]; omega
theorem sortU_len (s : List Int) : (sortU s).length = s.length := by simp [sortU, foldl_put3_len]
theorem c_l4Sorted (s : List Int) (hs : s.length ≤ 1048576) : PCtr PP n_spec_l4Sorted [.sl false 1 (s.map i64)] (.sl true 1 ((sortU s).map i64)) := by
  obtain ⟨Ω, hΩ⟩ : ∃ Ω, Ω = std := ⟨_, rfl⟩
  obtain ⟨xs, hxs⟩ : ∃ xs, xs = s.map i64 := ⟨_, rfl⟩
  have hlen : xs.length = s.length := by rw [hxs, List.length_map]
  rw [← hxs]
  obtain ⟨F, hF⟩ : ∃ F : Nat → List A, F = fun i => (sortU (s.take i)).map i64 := ⟨_, rfl⟩
  have hF0 : F 0 = [] := by rw [hF]; rfl
  have hFl : ∀ i, (F i).length ≤ i := fun i => by rw [hF]; simp [sortU_len]; omega
  have hFz : ∀ i, (F i).map frz = F i := fun i => by rw [hF]; exact frz_I _
  have hFr : ∀ i, roFree (.sl true 1 (F i)) = true := fun i => by rw [hF]; exact roF_I _
  have hput : ∀ i c, s[i]? = some c → PCtr PP n_spec_l3Put [.sl false 1 (F i), i64 c] (.sl true 1 (F (i + 1))) := fun i c h => by
    have := c_l3Put (sortU (s.take i)) c (by rw [sortU_len]; simp; omega)
    rw [← sortU_snoc] at this
    rw [hF]; show PCtr PP n_spec_l3Put [.sl false 1 ((sortU (s.take i)).map i64), i64 c] (.sl true 1 ((sortU (s.take (i + 1))).map i64))
    rw [List.take_add_one, h]; exact this
  have hend : (sortU s).map i64 = F s.length := by rw [hF]; show _ = (sortU (s.take s.length)).map i64; rw [List.take_length]
  rw [hend]
  clear hend hF
  have htab := tab
  refine PCtr.walk tab hΩ fn_spec_l4Sorted rfl ?_
  generalize PP = P at *
  cbv
  refine loopX htab hΩ (fun i : Nat => ⟨[(0, .sl false 1 xs), (3, .vw 0 0 (Ω.len (F i))), (4, i64 (Ω.int i))], 19, [some ⟨1, F i, false⟩]⟩) (fun i => i ≤ s.length) (fun i => s.length - i) 0 (Nat.zero_le _)
    (Sbs.mk rfl (by rw [hF0]) ⟨rfl, by rw [hF0]; subst hΩ; rfl, zeroI hΩ, trivial⟩) ?_
  intro i hi
  have hFli := hFl i
  have hro : ∀ {S : State}, Fw.rowAt S.rows 0 = some ⟨1, F i, false⟩ → roO S 3 (.vw 0 0 (Ω.len (F i))) = some (.sl false 1 (F i)) := fun h => ro_vw h (by subst hΩ; rfl) (hFz i)
  have hne : s.length ≤ i → F i = F s.length := fun h => by rw [show i = s.length by omega]
  have hle : Ω.len (F i) ≤ (F i).length := by subst hΩ; exact Nat.le_refl _
  have htk : Ω.take (Ω.len (F i)) (F i) = F i := takeAll hΩ _
  cbv
  refine br (fun h => ?_) (fun h => ?_) <;> cbv
  · replace h := ltI hΩ h
    obtain ⟨c, hc⟩ := at_of (cs := s) (by omega : i < s.length)
    refine ⟨⟨nnI hΩ⟩, _, rdI hΩ hxs hc, ?_⟩
    cbv
    refine call_pure hΩ 3 (hput i c hc) (mapO2 (hro rfl) rfl) (fits _) (hFr _) rfl ?_
    cbv
    exact ⟨i + 1, by omega, by omega, (Sbs.drop (r := 0) rfl).trans ((Sbs.mv (a := 1) (b := 0) rfl rfl (Nat.le_of_ble_eq_true rfl)).trans ((Sbs.cut 1 rfl).trans (Sbs.mk rfl rfl ⟨rfl, rfl, incI hΩ (by omega), trivial⟩)))⟩
  · replace h := geI hΩ h
    exact ⟨⟨rfl, hle⟩, .of (by rw [← hne (by omega)]; exact congrArg _ htk)⟩
/-- A step of the solver: what is chosen, what is denied after it. -/
def frmA (f : Int × List Int) : A := .agg [i64 f.1, .sl false 1 (f.2.map i64)]
theorem c_l4Chosen (fs : List (Int × List Int)) (hs : fs.length ≤ 1048576) : PCtr PP n_spec_l4Chosen [.sl false 2 (fs.map frmA)] (.sl true 1 ((fs.map Prod.fst).map i64)) := by
  obtain ⟨Ω, hΩ⟩ : ∃ Ω, Ω = std := ⟨_, rfl⟩
  obtain ⟨xs, hxs⟩ : ∃ xs, xs = fs.map frmA := ⟨_, rfl⟩
  have hlen : xs.length = fs.length := by rw [hxs, List.length_map]
  rw [← hxs]
  obtain ⟨F, hF⟩ : ∃ F : Nat → List A, F = fun i => ((fs.take i).map Prod.fst).map i64 := ⟨_, rfl⟩
  have hF0 : F 0 = [] := by rw [hF]; rfl
  have hFl : ∀ i, (F i).length ≤ i := fun i => by rw [hF]; simp; omega
  have hst : ∀ i c, fs[i]? = some c → Ω.app (Ω.take (Ω.len (F i)) (F i)) [i64 c.1] = F (i + 1) := fun i c h => by
    rw [takeAll hΩ]
    subst hΩ; rw [hF]; show List.map i64 (List.map Prod.fst (fs.take i)) ++ [i64 c.1] = List.map i64 (List.map Prod.fst (fs.take (i + 1)))
    rw [List.take_add_one, h, List.map_append, List.map_append]; rfl
  have hln : ∀ i c, fs[i]? = some c → Ω.plus (Ω.len (F i)) (Ω.len [i64 c.1]) = Ω.len (F (i + 1)) := fun i c h => by
    rw [← hst i c h, takeAll hΩ]; subst hΩ; show (F i).length + 1 = (F i ++ [i64 c.1]).length; rw [List.length_append]; rfl
  have hend : (fs.map Prod.fst).map i64 = F fs.length := by rw [hF]; show _ = ((fs.take fs.length).map Prod.fst).map i64; rw [List.take_length]
  rw [hend]
  clear hend hF
  have htab := tab
  refine PCtr.walk tab hΩ fn_spec_l4Chosen rfl ?_
  generalize PP = P at *
  cbv
  refine loopX htab hΩ (fun i : Nat => ⟨[(0, .sl false 2 xs), (3, .vw 0 0 (Ω.len (F i))), (4, i64 (Ω.int i))], 21, [some ⟨1, F i, false⟩]⟩) (fun i => i ≤ fs.length) (fun i => fs.length - i) 0 (Nat.zero_le _)
    (Sbs.mk rfl (by rw [hF0]) ⟨rfl, by rw [hF0]; subst hΩ; rfl, zeroI hΩ, trivial⟩) ?_
  intro i hi
  have hFli := hFl i
  have hne : fs.length ≤ i → F i = F fs.length := fun h => by rw [show i = fs.length by omega]
  have hle : Ω.len (F i) ≤ (F i).length := by subst hΩ; exact Nat.le_refl _
  have hle2 : Ω.len (F i) ≤ 1048576 := by omega
  have htk : Ω.take (Ω.len (F i)) (F i) = F i := takeAll hΩ _
  have hst2 : ∀ c, fs[i]? = some c → some (Row.mk 1 (Ω.app (Ω.take (Ω.len (F i)) (F i)) [i64 c.1]) false) = some (Row.mk 1 (F (i + 1)) false) := fun c h => by rw [hst i c h]
  have hln2 := hln i
  cbv
  refine br (fun h => ?_) (fun h => ?_) <;> cbv
  · replace h := ltI hΩ h
    obtain ⟨c, hc⟩ := at_of (cs := fs) (by omega : i < fs.length)
    have hrd : xs[(Ω.int i).toNat]? = some (.agg [i64 c.1, .sl false 1 (c.2.map i64)]) := by have := rdI hΩ hxs hc; exact this
    have hst2 := hst2 c hc
    have hln2 := hln2 c hc
    generalize c.1 = c1 at *
    generalize c.2.map i64 = c2 at *
    refine ⟨⟨nnI hΩ⟩, _, hrd, ?_⟩
    cbv
    exact ⟨⟨rfl, okAll rfl, by show (Ω.len (F i) + 1) * 8 ≤ 140737488355328; omega, by show Ω.len (F i) + 1 ≤ 9223372036854775807; omega⟩, i + 1, by omega, by omega, (Sbs.cut 1 rfl).trans (Sbs.mk rfl (by show [_] = _; rw [← hst2]; rfl) ⟨rfl, congrArg (A.vw 0 0) hln2, incI hΩ (by omega), trivial⟩)⟩
  · replace h := geI hΩ h
    exact ⟨⟨rfl, hle⟩, .of (by rw [← hne (by omega)]; exact congrArg _ htk)⟩
end Go.Proofs.YtomfmdfamlmfiaaGreat

/- Walks: the reference's solver: what is unmet, what fits. Plain theorems. -/
set_option linter.unusedVariables false
set_option linter.unusedSimpArgs false
namespace Go.Proofs.YtomfmdfamlmfiaaGreat
open Go Go.Fw
set_option maxRecDepth 100000
/-- Some terms. -/
def someTs (x : A) : Prop := ∃ us : List Trm, x = .sl false 7 (us.map Trm.enc) ∧ us.length ≤ 1048576
/-- One place cut out. -/
theorem seg1 {Ω : Opq} (hΩ : Ω = std) {i : Nat} {xs : List A} (h : i < xs.length) (hs : xs.length ≤ 4611686018427387904) :
    0 ≤ Ω.ar .add .i64 (Ω.int i) 1 ∧ Ω.nat (Ω.int i) ≤ Ω.nat (Ω.ar .add .i64 (Ω.int i) 1) ∧ Ω.nat (Ω.ar .add .i64 (Ω.int i) 1) ≤ xs.length ∧ ∃ z, xs[i]? = some z ∧ Ω.seg (Ω.nat (Ω.int i)) (Ω.nat (Ω.ar .add .i64 (Ω.int i) 1)) xs = [z] := by
  subst hΩ
  have e : std.ar .add .i64 (std.int i) 1 = ((i + 1 : Nat) : Int) := inc64 (by omega)
  rw [e]
  refine ⟨by omega, by show i ≤ i + 1; omega, h, xs[i], List.getElem?_eq_getElem h, ?_⟩
  show ((xs.take (i + 1)).drop i) = _
  rw [List.drop_take, List.drop_eq_getElem_cons h, show i + 1 - i = 1 by omega]; rfl
theorem fitNilT : FitX .nil (.sl false 7 (([] : List Trm).map Trm.enc)) := ⟨1, by simp [fitA]⟩
theorem r_l4Unmet (l : List Pck) (az : List Trm) (s : List Int) (hl : l.length ≤ 1048576) (hs : s.length ≤ 1048576) (ha : az.length ≤ 1048576) (ho : ∀ o ∈ l, o.Small) (hk : ∀ k ∈ s, inB k 0 ((l.length : Int) - 1) = true) :
    RCtr PP n_spec_l4Unmet [encP l, .sl false 7 (az.map Trm.enc), .sl false 1 (s.map i64)] someTs := by
  obtain ⟨Ω, hΩ⟩ : ∃ Ω, Ω = std := ⟨_, rfl⟩
  have hat : ∀ k, inB k 0 ((l.length : Int) - 1) = true → 0 ≤ k ∧ ∃ n v1 v2 v3 sz ps ds bs, (l.map (Pck.enc false))[k.toNat]? = some (.agg [str n, i64 v1, i64 v2, i64 v3, i64 sz, .sl false 1 ps, .sl false 1 ds, .sl false 7 bs]) ∧ pk l k ∈ l ∧
      ds = (pk l k).d.map (encTs false) := fun k h => by
    obtain ⟨h0, h1, h2, h3⟩ := pk_at h
    obtain ⟨ps, ds, bs, hen, hp, hd, hb⟩ := enc_raw (pk l k)
    exact ⟨h0, _, _, _, _, _, ps, ds, bs, by rw [List.getElem?_map, h2]; exact congrArg some hen, h3, hd⟩
  obtain ⟨cs, hcs⟩ : ∃ cs, cs = l.map (Pck.enc false) := ⟨_, rfl⟩
  obtain ⟨xs, hxs⟩ : ∃ xs, xs = s.map i64 := ⟨_, rfl⟩
  obtain ⟨es, hes⟩ : ∃ es, es = az.map Trm.enc := ⟨_, rfl⟩
  have hxl : xs.length = s.length := by rw [hxs, List.length_map]
  have hel : es.length = az.length := by rw [hes, List.length_map]
  have hmet : ∀ d : List Trm, d.length ≤ 1048576 → PCtr PP n_spec_l3Met [encP l, .sl false 1 xs, .sl false 7 (d.map Trm.enc)] (boo (metB l s d)) := fun d hd => by
    rw [hxs]
    exact c_l3Met l s d hl hs hd ho hk
  unfold encP at *
  rw [← hcs] at hat hmet ⊢
  rw [← hxs, ← hes]
  have htab := tab
  have hmo := hmo
  refine RCtr.walk tab hΩ fn_spec_l4Unmet rfl ?_
  generalize PP = P at *
  cbv
  refine loopX htab hΩ (fun i : Nat => ⟨[(0, .sl false 8 cs), (1, .sl false 7 es), (2, .sl false 1 xs), (7, i64 (Ω.int i))], 65, []⟩) (fun i => i ≤ az.length) (fun i => az.length - i) 0 (Nat.zero_le _)
    (Sbs.mk rfl rfl ⟨rfl, rfl, rfl, zeroI hΩ, trivial⟩) ?_
  intro i hi
  cbv
  refine br (fun h => ?_) (fun h => ?_) <;> cbv
  · replace h := ltI hΩ h
    obtain ⟨c, hc⟩ := at_of (cs := az) (by omega : i < az.length)
    obtain ⟨q1, q2, q3, z, hz, q4⟩ := seg1 hΩ (i := i) (xs := es) (by omega) (by omega)
    have hz2 : z = c.enc := by
      rw [hes, List.getElem?_map, hc] at hz; exact (Option.some.inj hz).symm
    have hcm := hmet [c] (Nat.le_of_ble_eq_true rfl)
    generalize metB l s [c] = gu at hcm
    refine ⟨⟨nnI hΩ, q1, q2, q3⟩, ?_⟩
    refine call_pure hΩ 3 hcm rfl (fitsE (by show [_, _, A.sl false 7 (Ω.seg _ _ _)] = _; rw [q4, hz2]; rfl)) rfl rfl ?_
    cbv
    refine br (fun g => ?_) (fun g => ?_) <;> cbv
    · exact ⟨⟨nnI hΩ, q1, q2, q3⟩, _, ⟨[c], rfl, Nat.le_of_ble_eq_true rfl⟩, .of (by show A.sl false 7 (Ω.seg _ _ _) = _; rw [q4, hz2]; rfl)⟩
    · exact ⟨i + 1, by omega, by omega, Sbs.mk rfl rfl ⟨rfl, rfl, rfl, incI hΩ (by omega), trivial⟩⟩
  · replace h := geI hΩ h
    refine loopX htab hΩ (fun i : Nat => ⟨[(0, .sl false 8 cs), (2, .sl false 1 xs), (8, i64 (Ω.int i))], 65, []⟩) (fun i => i ≤ s.length) (fun i => s.length - i) 0 (Nat.zero_le _)
      (Sbs.mk rfl rfl ⟨rfl, rfl, zeroI hΩ, trivial⟩) ?_
    intro j hj
    cbv
    refine br (fun h => ?_) (fun h => ?_) <;> cbv
    · replace h := ltI hΩ h
      obtain ⟨c, hc⟩ := at_of (cs := s) (by omega : j < s.length)
      obtain ⟨hc0, nn, v1, v2, v3, sz, ps, ds, bs, hx, hm, hds⟩ := hat c (hk c (List.mem_of_getElem? hc))
      have hdl : ds.length = (pk l c).d.length := by rw [hds, List.length_map]
      have hsm := ho _ hm
      have hd1 := hsm.d
      have hd2 := hsm.e
      generalize (pk l c).d = d at *
      refine ⟨⟨nnI hΩ⟩, _, rdI hΩ hxs hc, ?_⟩
      cbv
      refine ⟨⟨hc0⟩, _, hx, ?_⟩
      cbv
      refine loopX htab hΩ (fun q : Nat => ⟨[(0, .sl false 8 cs), (2, .sl false 1 xs), (8, i64 (Ω.int j)), (9, .pt 0 0 0), (10, i64 (Ω.int q))], 65,
        [some ⟨8, [.agg [str nn, i64 v1, i64 v2, i64 v3, i64 sz, .sl false 1 ps, .sl false 1 ds, .sl false 7 bs]], true⟩]⟩)
        (fun q => q ≤ d.length) (fun q => d.length - q) 0 (Nat.zero_le _) (Sbs.mk rfl rfl ⟨rfl, rfl, rfl, rfl, zeroI hΩ, trivial⟩) ?_
      intro q hq
      cbv
      refine br (fun h => ?_) (fun h => ?_) <;> cbv
      · replace h := ltI hΩ h
        obtain ⟨u, huu⟩ := at_of (cs := d) (by omega : q < d.length)
        have hul := hd2 u (List.mem_of_getElem? huu)
        have hcm := hmet u hul
        obtain ⟨us, hus⟩ : ∃ us, us = u.map Trm.enc := ⟨_, rfl⟩
        rw [← hus] at hcm
        have hrd : ds[(Ω.int q).toNat]? = some (.sl false 7 us) := (rdI hΩ hds huu).trans (by rw [hus]; rfl)
        generalize metB l s u = gu at hcm
        refine ⟨⟨nnI hΩ⟩, _, hrd, ?_⟩
        cbv
        refine call_pure hΩ 3 hcm rfl (fits _) rfl rfl ?_
        cbv
        refine br (fun g => ?_) (fun g => ?_) <;> cbv
        · refine ⟨⟨nnI hΩ⟩, _, hrd, ?_⟩
          cbv
          exact ⟨_, ⟨u, rfl, hul⟩, .of (by rw [hus]; rfl)⟩
        · exact ⟨q + 1, by omega, by omega, Sbs.mk rfl rfl ⟨rfl, rfl, rfl, rfl, incI hΩ (by omega), trivial⟩⟩
      · replace h := geI hΩ h
        exact ⟨j + 1, by omega, by omega, (Sbs.cut 0 rfl).trans (Sbs.mk rfl rfl ⟨rfl, rfl, incI hΩ (by omega), trivial⟩)⟩
    · exact ⟨_, ⟨[], rfl, Nat.zero_le _⟩, fitNilT⟩
end Go.Proofs.YtomfmdfamlmfiaaGreat

/- Walks: the reference's solver: what fits, what is ahead, candidates. Plain theorems. -/
set_option linter.unusedVariables false
set_option linter.unusedSimpArgs false
namespace Go.Proofs.YtomfmdfamlmfiaaGreat
open Go Go.Fw
set_option maxRecDepth 100000
def someB (x : A) : Prop := ∃ b, x = boo b
theorem r_l4Ahead (l : List Pck) (s : List Int) (a b : Int) (hl : l.length ≤ 1048576) (hs : s.length ≤ 1048576) (ha : inB a 0 ((l.length : Int) - 1) = true) (hb : inB b 0 ((l.length : Int) - 1) = true) :
    RCtr PP n_spec_l4Ahead [encP l, .sl false 1 (s.map i64), i64 a, i64 b] someB := by
  obtain ⟨Ω, hΩ⟩ : ∃ Ω, Ω = std := ⟨_, rfl⟩
  have hat : ∀ k, inB k 0 ((l.length : Int) - 1) = true → 0 ≤ k ∧ ∃ n v1 v2 v3 sz ps ds bs, (pk l k).v = ⟨v1, v2, v3⟩ ∧ (l.map (Pck.enc false))[k.toNat]? = some (.agg [str n, i64 v1, i64 v2, i64 v3, i64 sz, .sl false 1 ps, .sl false 1 ds, .sl false 7 bs]) := fun k h => by
    obtain ⟨h0, h1, h2, h3⟩ := pk_at h
    obtain ⟨ps, ds, bs, hen, hp, hd, hb⟩ := enc_raw (pk l k)
    exact ⟨h0, _, (pk l k).v.a, (pk l k).v.b, (pk l k).v.c, _, ps, ds, bs, rfl, by rw [List.getElem?_map, h2]; exact congrArg some hen⟩
  obtain ⟨ha0, n1, x1, x2, x3, z1, p1, d1, b1, -, hx⟩ := hat a ha
  obtain ⟨hb0, n2, y1, y2, y3, z2, p2, d2, b2, -, hy⟩ := hat b hb
  have hv := c_CompareVersions ⟨x1, x2, x3⟩ ⟨y1, y2, y3⟩
  generalize cmpV ⟨x1, x2, x3⟩ ⟨y1, y2, y3⟩ = cv at hv
  have hha := c_l1Has s a (by omega)
  have hhb := c_l1Has s b (by omega)
  generalize s.any (· == a) = h1 at hha
  generalize s.any (· == b) = h2 at hhb
  unfold encP Ver.enc at *
  generalize l.map (Pck.enc false) = cs at *
  generalize s.map i64 = xs at *
  have htab := tab
  have hmo := hmo
  refine RCtr.walk tab hΩ fn_spec_l4Ahead rfl ?_
  generalize PP = P at *
  cbv
  refine call_pure hΩ 3 hha rfl (fits _) rfl rfl ?_
  cbv
  refine call_pure hΩ 3 hhb rfl (fits _) rfl rfl ?_
  cbv
  refine br (fun h => ?_) (fun h => ?_) <;> cbv
  · refine call_pure hΩ 3 hha rfl (fits _) rfl rfl ?_
    cbv
    exact ⟨_, ⟨_, rfl⟩, .same⟩
  · refine ⟨VC_drawn htab hΩ hmo (by kernel_rfl) ?_⟩
    cbv
    refine ⟨⟨ha0⟩, _, hx, ?_⟩
    cbv
    refine ⟨⟨hb0⟩, _, hy, ?_⟩
    cbv
    refine QCall_pure (k := 3) hv rfl (fits _) rfl ?_
    cbv
    refine br (fun h => ?_) (fun h => ?_) <;> cbv
    · exact ⟨_, ⟨_, rfl⟩, .same⟩
    · exact ⟨_, ⟨_, rfl⟩, .same⟩
theorem r_l4Fits (l : List Pck) (s : List Int) (a : Int) (hl : l.length ≤ 1048576) (hs : s.length ≤ 1048576) (ho : ∀ o ∈ l, o.Small) (hk : ∀ k ∈ s, inB k 0 ((l.length : Int) - 1) = true) (ha : inB a 0 ((l.length : Int) - 1) = true) :
    RCtr PP n_spec_l4Fits [encP l, .sl false 1 (s.map i64), i64 a] someB := by
  obtain ⟨Ω, hΩ⟩ : ∃ Ω, Ω = std := ⟨_, rfl⟩
  have hat : ∀ k, inB k 0 ((l.length : Int) - 1) = true → 0 ≤ k ∧ ∃ n v1 v2 v3 sz ps ds bs, (l.map (Pck.enc false))[k.toNat]? = some (.agg [str n, i64 v1, i64 v2, i64 v3, i64 sz, .sl false 1 ps, .sl false 1 ds, .sl false 7 bs]) ∧
      ∀ q, inB q 0 ((l.length : Int) - 1) = true → ∃ g, PCtr PP n_spec_l4BarsOne [encP l, .sl false 7 bs, i64 q] (boo g) := fun k h => by
    obtain ⟨h0, h1, h2, h3⟩ := pk_at h
    obtain ⟨ps, ds, bs, hen, hp, hd, hb⟩ := enc_raw (pk l k)
    exact ⟨h0, _, _, _, _, _, ps, ds, bs, by rw [List.getElem?_map, h2]; exact congrArg some hen, fun q hq => ⟨_, by rw [hb]; exact c_l4BarsOne l _ q hl (ho _ h3).b ho hq⟩⟩
  obtain ⟨xs, hxs⟩ : ∃ xs, xs = s.map i64 := ⟨_, rfl⟩
  have hxl : xs.length = s.length := by rw [hxs, List.length_map]
  obtain ⟨ha0, n1, u1, u2, u3, z1, p1, d1, b1, hx, hg⟩ := hat a ha
  unfold encP at *
  generalize l.map (Pck.enc false) = cs at *
  rw [← hxs]
  have htab := tab
  have hmo := hmo
  refine RCtr.walk tab hΩ fn_spec_l4Fits rfl ?_
  generalize PP = P at *
  cbv
  refine loopX htab hΩ (fun i : Nat => ⟨[(0, .sl false 8 cs), (1, .sl false 1 xs), (2, i64 a), (7, i64 (Ω.int i))], 54, []⟩) (fun i => i ≤ s.length) (fun i => s.length - i) 0 (Nat.zero_le _)
    (Sbs.mk rfl rfl ⟨rfl, rfl, rfl, zeroI hΩ, trivial⟩) ?_
  intro i hi
  cbv
  refine br (fun h => ?_) (fun h => ?_) <;> cbv
  · replace h := ltI hΩ h
    obtain ⟨c, hc⟩ := at_of (cs := s) (by omega : i < s.length)
    have hck := hk c (List.mem_of_getElem? hc)
    obtain ⟨hc0, nn, v1, v2, v3, sz, ps, ds, bs, hx2, hg2⟩ := hat c hck
    obtain ⟨g1, hg1⟩ := hg2 a ha
    obtain ⟨g2, hg2⟩ := hg c hck
    refine ⟨VC_drawn htab hΩ hmo (by kernel_rfl) ?_⟩
    cbv
    refine ⟨⟨nnI hΩ⟩, _, rdI hΩ hxs hc, ?_⟩
    cbv
    refine ⟨⟨hc0⟩, _, hx2, ?_⟩
    cbv
    refine ⟨⟨ha0⟩, _, hx, ?_⟩
    cbv
    repeat' (first
      | (refine br (fun _ => ?_) (fun _ => ?_) <;> cbv)
      | (refine ⟨⟨nnI hΩ⟩, _, rdI hΩ hxs hc, ?_⟩; cbv)
      | (refine ⟨⟨hc0⟩, _, hx2, ?_⟩; cbv)
      | (refine ⟨⟨ha0⟩, _, hx, ?_⟩; cbv)
      | (refine QCall_pure (k := 3) hg1 rfl (fits _) rfl ?_; cbv)
      | (refine QCall_pure (k := 3) hg2 rfl (fits _) rfl ?_; cbv)
      | exact ⟨_, ⟨_, rfl⟩, .same⟩
      | exact ⟨i + 1, by omega, by omega, Sbs.mk rfl rfl ⟨rfl, rfl, rfl, incI hΩ (by omega), trivial⟩⟩)
  · replace h := geI hΩ h
    exact ⟨_, ⟨_, rfl⟩, .same⟩
end Go.Proofs.YtomfmdfamlmfiaaGreat

/- Walks: the reference's solver: candidates. Plain theorems. -/
set_option linter.unusedVariables false
set_option linter.unusedSimpArgs false
namespace Go.Proofs.YtomfmdfamlmfiaaGreat
open Go Go.Fw
set_option maxRecDepth 100000
theorem gtZ {Ω : Opq} (hΩ : Ω = std) {n : Nat} (h : Ω.cmp .gtr (Ω.int n) 0 = true) : 0 < n := by subst hΩ; have := gt_t h; exact Int.ofNat_lt.1 this
theorem decJ {Ω : Opq} (hΩ : Ω = std) {n : Nat} (h : 0 < n) (h2 : n ≤ 4611686018427387904) : Ω.ar .sub .i64 (Ω.int n) 1 = Ω.int (n - 1) := by
  subst hΩ; show IntKind.i64.wrap ((n : Int) - 1) = ((n - 1 : Nat) : Int); rw [wrap64 (by omega) (by omega)]; omega
theorem ints_ok (c : List Int) : (∀ y ∈ c.map i64, noOwn y = true) ∧ ∀ x ∈ flat (c.map i64), okCell x = true :=
  ⟨fun y h => by obtain ⟨k, _, rfl⟩ := List.mem_map.1 h; rfl, fun x h => by
    obtain ⟨y, hy, hx⟩ := List.mem_flatMap.1 h
    obtain ⟨k, _, rfl⟩ := List.mem_map.1 hy
    rw [show x = i64 k from List.mem_singleton.1 hx]; rfl⟩
theorem cand_new {F : List Int → List A} (hF : F = fun s => s.map i64) (c : List Int) (i : Int) (n : Nat) (hn : n ≤ c.length) :
    (((((((([] : List A).take 0 ++ ((F c).take n).drop 0).take (0 + (((F c).take n).drop 0).length)) ++ [i64 i]).take (0 + (((F c).take n).drop 0).length + 1)) ++ ((F c).take (F c).length).drop n).map frz).drop 0).take (0 + (((F c).take n).drop 0).length + 1 + (((F c).take (F c).length).drop n).length) = F (c.take n ++ [i] ++ c.drop n) := by
  rw [hF]
  simp only [List.take_nil, List.nil_append, List.drop_zero, Nat.zero_add, List.take_length]
  rw [List.take_of_length_le (l := List.take n (List.map i64 c) ++ [i64 i]) (by simp), List.take_of_length_le (by simp; omega)]
  rw [← frz_I (c.take n ++ [i] ++ c.drop n)]
  congr 1
  simp
theorem segOK {Ω : Opq} (hΩ : Ω = std) {xs : List A} (h1 : ∀ y ∈ xs, noOwn y = true) (h2 : ∀ c ∈ flat xs, okCell c = true) (l h : Nat) : (∀ y ∈ Ω.seg l h xs, noOwn y = true) ∧ (∀ c ∈ flat (Ω.seg l h xs), okCell c = true) := by
  subst hΩ
  have hs : ∀ y ∈ (xs.take h).drop l, y ∈ xs := fun y hy => List.mem_of_mem_take (List.mem_of_mem_drop hy)
  refine ⟨fun y hy => h1 y (hs y hy), fun c hc => h2 c ?_⟩
  obtain ⟨x, hx, hy⟩ := List.mem_flatMap.1 hc
  exact List.mem_flatMap.2 ⟨x, hs x hx, hy⟩
/-- Some places below n. -/
def someP (n : Nat) (x : A) : Prop := ∃ c : List Int, x = .sl false 1 (c.map i64) ∧ c.length ≤ n ∧ ∀ k ∈ c, 0 ≤ k ∧ k < (n : Int)
theorem r_l4Candidates (l : List Pck) (us : List Trm) (s d y : List Int) (hl : l.length ≤ 1048576) (hu : us.length ≤ 1048576) (hs : s.length ≤ 1048576) (hd : d.length ≤ 1048576) (hy : y.length ≤ 1048576) (ho : ∀ o ∈ l, o.Small) (hk : ∀ k ∈ s, inB k 0 ((l.length : Int) - 1) = true) :
    RCtr PP n_spec_l4Candidates [encP l, .sl false 7 (us.map Trm.enc), .sl false 1 (s.map i64), .sl false 1 (d.map i64), .sl false 1 (y.map i64)] (someP l.length) := by
  obtain ⟨Ω, hΩ⟩ : ∃ Ω, Ω = std := ⟨_, rfl⟩
  have hin : ∀ i : Nat, i < l.length → inB i 0 ((l.length : Int) - 1) = true := fun i h => by simp only [inB, Bool.and_eq_true, decide_eq_true_eq]; omega
  have hin2 : ∀ i : Int, 0 ≤ i → i < (l.length : Int) → inB i 0 ((l.length : Int) - 1) = true := fun i h h2 => by simp only [inB, Bool.and_eq_true, decide_eq_true_eq]; omega
  have hat : ∀ i : Nat, i < l.length → ∃ n v1 v2 v3 sz ps ds bs, (l.map (Pck.enc false))[i]? = some (.agg [str n, i64 v1, i64 v2, i64 v3, i64 sz, .sl false 1 ps, .sl false 1 ds, .sl false 7 bs]) ∧
      ∀ t : Trm, ∃ g, PCtr PP n_spec_l2Gives [.agg [str n, i64 v1, i64 v2, i64 v3, i64 sz, .sl false 1 ps, .sl false 1 ds, .sl false 7 bs], t.enc] (boo g) := fun i h => by
    obtain ⟨h0, h1, h2, h3⟩ := pk_at (hin i h)
    obtain ⟨ps, ds, bs, hen, hp, hd, hb⟩ := enc_raw (pk l i)
    exact ⟨_, _, _, _, _, ps, ds, bs, by rw [List.getElem?_map, show i = (i : Int).toNat from rfl, h2]; exact congrArg some hen, fun t => ⟨_, by rw [← hen]; exact c_l2Gives (pk l i) t (by have := (ho _ h3).p; omega)⟩⟩
  have hfit := fun (i : Nat) h => r_l4Fits l s i hl hs ho hk (hin i h)
  have hah := fun (i : Nat) h q h0 h1 => r_l4Ahead l y i q hl hy (hin i h) (hin2 q h0 h1)
  have hhs : ∀ i : Int, ∃ g, PCtr PP n_spec_l1Has [.sl false 1 (s.map i64), i64 i] (boo g) := fun i => ⟨_, c_l1Has s i (by omega)⟩
  have hhd : ∀ i : Int, ∃ g, PCtr PP n_spec_l1Has [.sl false 1 (d.map i64), i64 i] (boo g) := fun i => ⟨_, c_l1Has d i (by omega)⟩
  obtain ⟨L, hL⟩ : ∃ L, L = l.length := ⟨_, rfl⟩
  unfold encP at *
  obtain ⟨cs, hcs⟩ : ∃ cs, cs = l.map (Pck.enc false) := ⟨_, rfl⟩
  have hcl : cs.length = L := by rw [hcs, List.length_map, hL]
  rw [← hcs] at hat hfit hah ⊢
  rw [← hL] at hat hfit hah ⊢
  obtain ⟨es, hes⟩ : ∃ es, es = us.map Trm.enc := ⟨_, rfl⟩
  have hel : es.length = us.length := by rw [hes, List.length_map]
  rw [← hes]
  obtain ⟨F, hF⟩ : ∃ F : List Int → List A, F = fun s => s.map i64 := ⟨_, rfl⟩
  have hF0 : F [] = [] := by rw [hF]; rfl
  have hFl : ∀ s, (F s).length = s.length := fun s => by rw [hF]; exact List.length_map _
  have hFm : ∀ c : List Int, c.map i64 = F c := fun c => by rw [hF]
  have hFat : ∀ (c : List Int) (n : Nat), n < c.length → ∃ k, c[n]? = some k ∧ (F c)[n]? = some (i64 k) := fun c n h => ⟨c[n], List.getElem?_eq_getElem h, by rw [hF]; simp [h]⟩
  generalize s.map i64 = xs at *
  generalize d.map i64 = zs at *
  generalize y.map i64 = ys at *
  have htab := tab
  have hmo := hmo
  refine RCtr.walk tab hΩ fn_spec_l4Candidates rfl ?_
  generalize PP = P at *
  cbv
  refine loopX htab hΩ (fun i : Nat × List Int => ⟨[(0, .sl false 8 cs), (1, .sl false 7 es), (2, .sl false 1 xs), (3, .sl false 1 zs), (4, .sl false 1 ys), (11, .sl false 1 (F i.2)), (12, i64 (Ω.int i.1))], 90, []⟩)
    (fun i => i.1 ≤ L ∧ i.2.length ≤ i.1 ∧ ∀ k ∈ i.2, 0 ≤ k ∧ k < (L : Int)) (fun i => L - i.1) (0, []) ⟨Nat.zero_le _, Nat.le_refl _, by simp⟩
    ((Sbs.thaw (r := 0) rfl rfl).trans ((Sbs.cut 0 rfl).trans (Sbs.mk rfl rfl ⟨rfl, rfl, rfl, rfl, rfl, by dsimp only; rw [hF0]; rfl, zeroI hΩ, trivial⟩))) ?_
  rintro ⟨i, c⟩ ⟨i1, i2, i3⟩
  dsimp only at i1 i2 i3
  have hFc := hFl c
  have hcat := hFat c
  have hok := ints_ok c
  rw [hFm c] at hok
  have hlt : ∀ {n : Nat}, Ω.cmp .lss (Ω.int i) (Ω.int (Ω.len cs)) = true → i < L := fun h => by have := ltI hΩ h; omega
  cbv
  refine br (fun h => ?_) (fun h => ?_) <;> cbv
  · have h := hlt (n := 0) h
    obtain ⟨nn, v1, v2, v3, sz, ps, ds, bs, hx, hg⟩ := hat i h
    have hx2 : cs[(Ω.int i).toNat]? = some (.agg [str nn, i64 v1, i64 v2, i64 v3, i64 sz, .sl false 1 ps, .sl false 1 ds, .sl false 7 bs]) := rdJ hΩ hx
    refine loopX htab hΩ (fun j : Nat × Bool => ⟨[(0, .sl false 8 cs), (1, .sl false 7 es), (2, .sl false 1 xs), (3, .sl false 1 zs), (4, .sl false 1 ys), (11, .sl false 1 (F c)), (12, i64 (Ω.int i)), (13, boo j.2), (14, i64 (Ω.int j.1))], 90, []⟩)
      (fun j => j.1 ≤ us.length) (fun j => us.length - j.1) (0, false) (Nat.zero_le _) (Sbs.mk rfl rfl ⟨rfl, rfl, rfl, rfl, rfl, rfl, rfl, rfl, zeroI hΩ, trivial⟩) ?_
    rintro ⟨j, b⟩ hj
    dsimp only at hj
    cbv
    refine br (fun h2 => ?_) (fun h2 => ?_) <;> cbv
    · replace h2 := ltI hΩ h2
      obtain ⟨u, hu⟩ := at_of (cs := us) (by omega : j < us.length)
      obtain ⟨g, hg⟩ := hg u
      refine ⟨VC_drawn htab hΩ hmo (by kernel_rfl) ?_⟩
      cbv
      refine br (fun h3 => ?_) (fun h3 => ?_) <;> cbv
      · exact ⟨(j + 1, true), by dsimp only; omega, by dsimp only; omega, Sbs.mk rfl rfl ⟨rfl, rfl, rfl, rfl, rfl, rfl, rfl, rfl, incI hΩ (by omega), trivial⟩⟩
      · refine ⟨⟨nnI hΩ⟩, _, hx2, ?_⟩
        cbv
        refine ⟨⟨nnI hΩ⟩, _, rdI hΩ hes hu, ?_⟩
        cbv
        refine QCall_pure (k := 3) hg rfl (fits _) rfl ?_
        cbv
        exact ⟨(j + 1, Ω.ite false true g), by dsimp only; omega, by dsimp only; omega, Sbs.mk rfl rfl ⟨rfl, rfl, rfl, rfl, rfl, rfl, rfl, rfl, incI hΩ (by omega), trivial⟩⟩
    · replace h2 := geI hΩ h2
      refine br (fun h3 => ?_) (fun h3 => ?_) <;> cbv
      · exact ⟨(i + 1, c), ⟨by dsimp only; omega, by dsimp only; omega, i3⟩, by dsimp only; omega, Sbs.mk rfl rfl ⟨rfl, rfl, rfl, rfl, rfl, rfl, incI hΩ (by omega), trivial⟩⟩
      · obtain ⟨g1, hg1⟩ := hhs (Ω.int i)
        obtain ⟨g2, hg2⟩ := hhd (Ω.int i)
        refine call_pure hΩ 3 hg1 rfl (fits _) rfl rfl ?_
        cbv
        refine br (fun h4 => ?_) (fun h4 => ?_) <;> cbv
        · exact ⟨(i + 1, c), ⟨by dsimp only; omega, by dsimp only; omega, i3⟩, by dsimp only; omega, Sbs.mk rfl rfl ⟨rfl, rfl, rfl, rfl, rfl, rfl, incI hΩ (by omega), trivial⟩⟩
        · refine call_pure hΩ 3 hg2 rfl (fits _) rfl rfl ?_
          cbv
          refine br (fun h4 => ?_) (fun h4 => ?_) <;> cbv
          · exact ⟨(i + 1, c), ⟨by dsimp only; omega, by dsimp only; omega, i3⟩, by dsimp only; omega, Sbs.mk rfl rfl ⟨rfl, rfl, rfl, rfl, rfl, rfl, incI hΩ (by omega), trivial⟩⟩
          · refine call_r hΩ 3 (hfit i h) rfl (fitsE (by subst hΩ; rfl)) (fun x ⟨g, hx⟩ => ?_)
            subst hx
            refine ⟨rfl, ?_⟩
            cbv
            refine br (fun h4 => ?_) (fun h4 => ?_) <;> cbv
            · exact ⟨(i + 1, c), ⟨by dsimp only; omega, by dsimp only; omega, i3⟩, by dsimp only; omega, Sbs.mk rfl rfl ⟨rfl, rfl, rfl, rfl, rfl, rfl, incI hΩ (by omega), trivial⟩⟩
            · refine loopX htab hΩ (fun n : Nat => ⟨[(0, .sl false 8 cs), (1, .sl false 7 es), (2, .sl false 1 xs), (3, .sl false 1 zs), (4, .sl false 1 ys), (11, .sl false 1 (F c)), (12, i64 (Ω.int i)), (15, i64 (Ω.int n))], 90, []⟩)
                (fun n => n ≤ c.length) (fun n => n) c.length (Nat.le_refl _) (Sbs.mk rfl rfl ⟨rfl, rfl, rfl, rfl, rfl, rfl, rfl, by rw [← hFc]; subst hΩ; rfl, trivial⟩) ?_
              intro n hn
              cbv
              refine br (fun h5 => ?_) (fun h5 => ?_) <;> cbv
              · have h5 : 0 < n := gtZ hΩ h5
                have e5 : Ω.ar .sub .i64 (Ω.int n) 1 = Ω.int (n - 1) := decJ hΩ h5 (by omega)
                obtain ⟨k, hk1, hk2⟩ := hcat (n - 1) (by omega)
                have hk3 := i3 k (List.mem_of_getElem? hk1)
                refine ⟨⟨by show 0 ≤ Ω.ar .sub .i64 (Ω.int n) 1; rw [e5]; exact nnI hΩ⟩, i64 k, by show (F c)[(Ω.ar .sub .i64 (Ω.int n) 1).toNat]? = some (i64 k); rw [e5]; exact rdJ hΩ hk2, ?_⟩
                cbv
                refine call_r hΩ 3 (hah i h k hk3.1 hk3.2) rfl (fitsE (by subst hΩ; rfl)) (fun x ⟨g, hx⟩ => ?_)
                subst hx
                refine ⟨rfl, ?_⟩
                cbv
                refine br (fun h6 => ?_) (fun h6 => ?_) <;> cbv
                · exact ⟨n - 1, by omega, by omega, Sbs.mk rfl rfl ⟨rfl, rfl, rfl, rfl, rfl, rfl, rfl, congrArg i64 e5, trivial⟩⟩
                · refine ⟨VC_order htab hΩ hmo [1, 2, 3, 5, 8, 9, 10] (.two 0 (.two 4 (.step 6 (.step 7 (.step 11 (.step 12 .fin)))) 6 (.step 4 (.step 7 (.step 11 (.step 12 .fin))))) 6 (.step 0 (.step 4 (.step 7 (.step 11 (.step 12 .fin)))))) (by kernel_rfl) ?_⟩
                  cbv
                  have e6 : Ω.nat (Ω.int n) = n := by subst hΩ; rfl
                  have e7 : Ω.len (F c) = c.length := by rw [← hFc]; subst hΩ; rfl
                  have q1 := segOK hΩ hok.1 hok.2 0 (Ω.nat (Ω.int n))
                  have q2 := segOK hΩ hok.1 hok.2 (Ω.nat (Ω.int n)) (Ω.len (F c))
                  have l1 : (Ω.seg 0 (Ω.nat (Ω.int n)) (F c)).length ≤ 1048576 := by subst hΩ; show (((F c).take n).drop 0).length ≤ _; simp; omega
                  have l2 : (Ω.seg (Ω.nat (Ω.int n)) (Ω.len (F c)) (F c)).length ≤ 1048576 := by subst hΩ; show (((F c).take (F c).length).drop n).length ≤ _; simp; omega
                  have l3 : Ω.plus 0 (Ω.len (Ω.seg 0 (Ω.nat (Ω.int n)) (F c))) ≤ 1048576 := by subst hΩ; show 0 + (((F c).take n).drop 0).length ≤ _; simp; omega
                  have l4 : Ω.plus (Ω.plus 0 (Ω.len (Ω.seg 0 (Ω.nat (Ω.int n)) (F c)))) 1 ≤ 1048577 := by subst hΩ; show 0 + (((F c).take n).drop 0).length + 1 ≤ _; simp; omega
                  have l5 : Ω.plus (Ω.plus 0 (Ω.len (Ω.seg 0 (Ω.nat (Ω.int n)) (F c)))) (Ω.len [i64 (Ω.int i)]) ≤ 1048577 := by subst hΩ; show 0 + (((F c).take n).drop 0).length + 1 ≤ _; simp; omega
                  have hall : ∀ q ∈ c.take n ++ [Ω.int i] ++ c.drop n, 0 ≤ q ∧ q < (L : Int) := fun q hq => by
                    rcases List.mem_append.1 hq with hq | hq
                    · rcases List.mem_append.1 hq with hq | hq
                      · exact i3 q (List.mem_of_mem_take hq)
                      · rw [List.mem_singleton.1 hq]; subst hΩ; exact ⟨Int.natCast_nonneg i, by show (i : Int) < L; omega⟩
                    · exact i3 q (List.mem_of_mem_drop hq)
                  have hlen2 : (c.take n ++ [Ω.int i] ++ c.drop n).length ≤ i + 1 := by simp; omega
                  have hnew := cand_new hF c (Ω.int i) n hn
                  refine ⟨⟨⟨trivial, nnI hΩ, Nat.zero_le _, by show Ω.nat (Ω.int n) ≤ (F c).length; omega⟩⟩, ⟨⟨nnI hΩ, trivial, by show Ω.nat (Ω.int n) ≤ Ω.len (F c); omega, by show Ω.len (F c) ≤ (F c).length; omega⟩⟩, ⟨?_, ?_⟩, ?_⟩
                  · exact ⟨⟨⟨q1.1, q1.2, by show (0 + (Ω.seg 0 (Ω.nat (Ω.int n)) (F c)).length) * 8 ≤ 140737488355328; omega, by show 0 + (Ω.seg 0 (Ω.nat (Ω.int n)) (F c)).length ≤ 9223372036854775807; omega⟩⟩, ⟨⟨rfl, okAll rfl, by show (Ω.plus 0 (Ω.len (Ω.seg 0 (Ω.nat (Ω.int n)) (F c))) + 1) * 8 ≤ 140737488355328; omega, by show Ω.plus 0 (Ω.len (Ω.seg 0 (Ω.nat (Ω.int n)) (F c))) + 1 ≤ 9223372036854775807; omega⟩⟩, ⟨⟨q2.1, q2.2, by show (Ω.plus (Ω.plus 0 (Ω.len (Ω.seg 0 (Ω.nat (Ω.int n)) (F c)))) (Ω.len [i64 (Ω.int i)]) + (Ω.seg (Ω.nat (Ω.int n)) (Ω.len (F c)) (F c)).length) * 8 ≤ 140737488355328; omega, by show Ω.plus (Ω.plus 0 (Ω.len (Ω.seg 0 (Ω.nat (Ω.int n)) (F c)))) (Ω.len [i64 (Ω.int i)]) + (Ω.seg (Ω.nat (Ω.int n)) (Ω.len (F c)) (F c)).length ≤ 9223372036854775807; omega⟩⟩, (i + 1, c.take n ++ [Ω.int i] ++ c.drop n), ⟨by dsimp only; omega, hlen2, hall⟩, by dsimp only; omega, (Sbs.thaw (r := 0) rfl rfl).trans ((Sbs.cut 0 rfl).trans (Sbs.mk rfl rfl ⟨rfl, rfl, rfl, rfl, rfl, by subst hΩ; exact congrArg (A.sl false 1) hnew, incI hΩ (by omega), trivial⟩))⟩
                  · exact ⟨⟨⟨q1.1, q1.2, by show (0 + (Ω.seg 0 (Ω.nat (Ω.int n)) (F c)).length) * 8 ≤ 140737488355328; omega, by show 0 + (Ω.seg 0 (Ω.nat (Ω.int n)) (F c)).length ≤ 9223372036854775807; omega⟩⟩, ⟨⟨Nat.le_refl _, by simp [noOwn], by simp [flat, A.cells, okCell], by show (Ω.plus 0 (Ω.len (Ω.seg 0 (Ω.nat (Ω.int n)) (F c))) + 1) * 8 ≤ 140737488355328; omega, by show Ω.plus 0 (Ω.len (Ω.seg 0 (Ω.nat (Ω.int n)) (F c))) + 1 ≤ 9223372036854775807; omega⟩⟩, ⟨⟨q2.1, q2.2, by show (Ω.plus (Ω.plus 0 (Ω.len (Ω.seg 0 (Ω.nat (Ω.int n)) (F c)))) 1 + (Ω.seg (Ω.nat (Ω.int n)) (Ω.len (F c)) (F c)).length) * 8 ≤ 140737488355328; omega, by show Ω.plus (Ω.plus 0 (Ω.len (Ω.seg 0 (Ω.nat (Ω.int n)) (F c)))) 1 + (Ω.seg (Ω.nat (Ω.int n)) (Ω.len (F c)) (F c)).length ≤ 9223372036854775807; omega⟩⟩, (i + 1, c.take n ++ [Ω.int i] ++ c.drop n), ⟨by dsimp only; omega, hlen2, hall⟩, by dsimp only; omega, (Sbs.thaw (r := 0) rfl rfl).trans ((Sbs.cut 0 rfl).trans (Sbs.mk rfl rfl ⟨rfl, rfl, rfl, rfl, rfl, by subst hΩ; exact congrArg (A.sl false 1) hnew, incI hΩ (by omega), trivial⟩))⟩
                  · exact ⟨⟨⟨q1.1, q1.2, by show (0 + (Ω.seg 0 (Ω.nat (Ω.int n)) (F c)).length) * 8 ≤ 140737488355328; omega, by show 0 + (Ω.seg 0 (Ω.nat (Ω.int n)) (F c)).length ≤ 9223372036854775807; omega⟩⟩, ⟨⟨Nat.le_refl _, by simp [noOwn], by simp [flat, A.cells, okCell], by show (Ω.plus 0 (Ω.len (Ω.seg 0 (Ω.nat (Ω.int n)) (F c))) + 1) * 8 ≤ 140737488355328; omega, by show Ω.plus 0 (Ω.len (Ω.seg 0 (Ω.nat (Ω.int n)) (F c))) + 1 ≤ 9223372036854775807; omega⟩⟩, ⟨⟨q2.1, q2.2, by show (Ω.plus (Ω.plus 0 (Ω.len (Ω.seg 0 (Ω.nat (Ω.int n)) (F c)))) 1 + (Ω.seg (Ω.nat (Ω.int n)) (Ω.len (F c)) (F c)).length) * 8 ≤ 140737488355328; omega, by show Ω.plus (Ω.plus 0 (Ω.len (Ω.seg 0 (Ω.nat (Ω.int n)) (F c)))) 1 + (Ω.seg (Ω.nat (Ω.int n)) (Ω.len (F c)) (F c)).length ≤ 9223372036854775807; omega⟩⟩, (i + 1, c.take n ++ [Ω.int i] ++ c.drop n), ⟨by dsimp only; omega, hlen2, hall⟩, by dsimp only; omega, (Sbs.thaw (r := 1) rfl rfl).trans ((Sbs.cut 0 rfl).trans (Sbs.mk rfl rfl ⟨rfl, rfl, rfl, rfl, rfl, by subst hΩ; exact congrArg (A.sl false 1) hnew, incI hΩ (by omega), trivial⟩))⟩
              · refine ⟨VC_order htab hΩ hmo [1, 2, 3, 5, 8, 9, 10] (.two 0 (.two 4 (.step 6 (.step 7 (.step 11 (.step 12 .fin)))) 6 (.step 4 (.step 7 (.step 11 (.step 12 .fin))))) 6 (.step 0 (.step 4 (.step 7 (.step 11 (.step 12 .fin)))))) (by kernel_rfl) ?_⟩
                cbv
                have e6 : Ω.nat (Ω.int n) = n := by subst hΩ; rfl
                have e7 : Ω.len (F c) = c.length := by rw [← hFc]; subst hΩ; rfl
                have q1 := segOK hΩ hok.1 hok.2 0 (Ω.nat (Ω.int n))
                have q2 := segOK hΩ hok.1 hok.2 (Ω.nat (Ω.int n)) (Ω.len (F c))
                have l1 : (Ω.seg 0 (Ω.nat (Ω.int n)) (F c)).length ≤ 1048576 := by subst hΩ; show (((F c).take n).drop 0).length ≤ _; simp; omega
                have l2 : (Ω.seg (Ω.nat (Ω.int n)) (Ω.len (F c)) (F c)).length ≤ 1048576 := by subst hΩ; show (((F c).take (F c).length).drop n).length ≤ _; simp; omega
                have l3 : Ω.plus 0 (Ω.len (Ω.seg 0 (Ω.nat (Ω.int n)) (F c))) ≤ 1048576 := by subst hΩ; show 0 + (((F c).take n).drop 0).length ≤ _; simp; omega
                have l4 : Ω.plus (Ω.plus 0 (Ω.len (Ω.seg 0 (Ω.nat (Ω.int n)) (F c)))) 1 ≤ 1048577 := by subst hΩ; show 0 + (((F c).take n).drop 0).length + 1 ≤ _; simp; omega
                have l5 : Ω.plus (Ω.plus 0 (Ω.len (Ω.seg 0 (Ω.nat (Ω.int n)) (F c)))) (Ω.len [i64 (Ω.int i)]) ≤ 1048577 := by subst hΩ; show 0 + (((F c).take n).drop 0).length + 1 ≤ _; simp; omega
                have hall : ∀ q ∈ c.take n ++ [Ω.int i] ++ c.drop n, 0 ≤ q ∧ q < (L : Int) := fun q hq => by
                  rcases List.mem_append.1 hq with hq | hq
                  · rcases List.mem_append.1 hq with hq | hq
                    · exact i3 q (List.mem_of_mem_take hq)
                    · rw [List.mem_singleton.1 hq]; subst hΩ; exact ⟨Int.natCast_nonneg i, by show (i : Int) < L; omega⟩
                  · exact i3 q (List.mem_of_mem_drop hq)
                have hlen2 : (c.take n ++ [Ω.int i] ++ c.drop n).length ≤ i + 1 := by simp; omega
                have hnew := cand_new hF c (Ω.int i) n hn
                refine ⟨⟨⟨trivial, nnI hΩ, Nat.zero_le _, by show Ω.nat (Ω.int n) ≤ (F c).length; omega⟩⟩, ⟨⟨nnI hΩ, trivial, by show Ω.nat (Ω.int n) ≤ Ω.len (F c); omega, by show Ω.len (F c) ≤ (F c).length; omega⟩⟩, ⟨?_, ?_⟩, ?_⟩
                · exact ⟨⟨⟨q1.1, q1.2, by show (0 + (Ω.seg 0 (Ω.nat (Ω.int n)) (F c)).length) * 8 ≤ 140737488355328; omega, by show 0 + (Ω.seg 0 (Ω.nat (Ω.int n)) (F c)).length ≤ 9223372036854775807; omega⟩⟩, ⟨⟨rfl, okAll rfl, by show (Ω.plus 0 (Ω.len (Ω.seg 0 (Ω.nat (Ω.int n)) (F c))) + 1) * 8 ≤ 140737488355328; omega, by show Ω.plus 0 (Ω.len (Ω.seg 0 (Ω.nat (Ω.int n)) (F c))) + 1 ≤ 9223372036854775807; omega⟩⟩, ⟨⟨q2.1, q2.2, by show (Ω.plus (Ω.plus 0 (Ω.len (Ω.seg 0 (Ω.nat (Ω.int n)) (F c)))) (Ω.len [i64 (Ω.int i)]) + (Ω.seg (Ω.nat (Ω.int n)) (Ω.len (F c)) (F c)).length) * 8 ≤ 140737488355328; omega, by show Ω.plus (Ω.plus 0 (Ω.len (Ω.seg 0 (Ω.nat (Ω.int n)) (F c)))) (Ω.len [i64 (Ω.int i)]) + (Ω.seg (Ω.nat (Ω.int n)) (Ω.len (F c)) (F c)).length ≤ 9223372036854775807; omega⟩⟩, (i + 1, c.take n ++ [Ω.int i] ++ c.drop n), ⟨by dsimp only; omega, hlen2, hall⟩, by dsimp only; omega, (Sbs.thaw (r := 0) rfl rfl).trans ((Sbs.cut 0 rfl).trans (Sbs.mk rfl rfl ⟨rfl, rfl, rfl, rfl, rfl, by subst hΩ; exact congrArg (A.sl false 1) hnew, incI hΩ (by omega), trivial⟩))⟩
                · exact ⟨⟨⟨q1.1, q1.2, by show (0 + (Ω.seg 0 (Ω.nat (Ω.int n)) (F c)).length) * 8 ≤ 140737488355328; omega, by show 0 + (Ω.seg 0 (Ω.nat (Ω.int n)) (F c)).length ≤ 9223372036854775807; omega⟩⟩, ⟨⟨Nat.le_refl _, by simp [noOwn], by simp [flat, A.cells, okCell], by show (Ω.plus 0 (Ω.len (Ω.seg 0 (Ω.nat (Ω.int n)) (F c))) + 1) * 8 ≤ 140737488355328; omega, by show Ω.plus 0 (Ω.len (Ω.seg 0 (Ω.nat (Ω.int n)) (F c))) + 1 ≤ 9223372036854775807; omega⟩⟩, ⟨⟨q2.1, q2.2, by show (Ω.plus (Ω.plus 0 (Ω.len (Ω.seg 0 (Ω.nat (Ω.int n)) (F c)))) 1 + (Ω.seg (Ω.nat (Ω.int n)) (Ω.len (F c)) (F c)).length) * 8 ≤ 140737488355328; omega, by show Ω.plus (Ω.plus 0 (Ω.len (Ω.seg 0 (Ω.nat (Ω.int n)) (F c)))) 1 + (Ω.seg (Ω.nat (Ω.int n)) (Ω.len (F c)) (F c)).length ≤ 9223372036854775807; omega⟩⟩, (i + 1, c.take n ++ [Ω.int i] ++ c.drop n), ⟨by dsimp only; omega, hlen2, hall⟩, by dsimp only; omega, (Sbs.thaw (r := 0) rfl rfl).trans ((Sbs.cut 0 rfl).trans (Sbs.mk rfl rfl ⟨rfl, rfl, rfl, rfl, rfl, by subst hΩ; exact congrArg (A.sl false 1) hnew, incI hΩ (by omega), trivial⟩))⟩
                · exact ⟨⟨⟨q1.1, q1.2, by show (0 + (Ω.seg 0 (Ω.nat (Ω.int n)) (F c)).length) * 8 ≤ 140737488355328; omega, by show 0 + (Ω.seg 0 (Ω.nat (Ω.int n)) (F c)).length ≤ 9223372036854775807; omega⟩⟩, ⟨⟨Nat.le_refl _, by simp [noOwn], by simp [flat, A.cells, okCell], by show (Ω.plus 0 (Ω.len (Ω.seg 0 (Ω.nat (Ω.int n)) (F c))) + 1) * 8 ≤ 140737488355328; omega, by show Ω.plus 0 (Ω.len (Ω.seg 0 (Ω.nat (Ω.int n)) (F c))) + 1 ≤ 9223372036854775807; omega⟩⟩, ⟨⟨q2.1, q2.2, by show (Ω.plus (Ω.plus 0 (Ω.len (Ω.seg 0 (Ω.nat (Ω.int n)) (F c)))) 1 + (Ω.seg (Ω.nat (Ω.int n)) (Ω.len (F c)) (F c)).length) * 8 ≤ 140737488355328; omega, by show Ω.plus (Ω.plus 0 (Ω.len (Ω.seg 0 (Ω.nat (Ω.int n)) (F c)))) 1 + (Ω.seg (Ω.nat (Ω.int n)) (Ω.len (F c)) (F c)).length ≤ 9223372036854775807; omega⟩⟩, (i + 1, c.take n ++ [Ω.int i] ++ c.drop n), ⟨by dsimp only; omega, hlen2, hall⟩, by dsimp only; omega, (Sbs.thaw (r := 1) rfl rfl).trans ((Sbs.cut 0 rfl).trans (Sbs.mk rfl rfl ⟨rfl, rfl, rfl, rfl, rfl, by subst hΩ; exact congrArg (A.sl false 1) hnew, incI hΩ (by omega), trivial⟩))⟩
  · exact ⟨_, ⟨c, rfl, by omega, i3⟩, .of (by rw [hFm]; rfl)⟩
end Go.Proofs.YtomfmdfamlmfiaaGreat

/- Walks: the reference's solver. Plain theorems. -/
set_option linter.unusedVariables false
set_option linter.unusedSimpArgs false
namespace Go.Proofs.YtomfmdfamlmfiaaGreat
open Go Go.Fw
set_option maxRecDepth 100000
theorem ro_vw2 {S : State} {k r off len n : Nat} {ys zs : List A} (hr : Fw.rowAt S.rows r = some ⟨n, ys, false⟩) (hf : ((ys.drop off).take len).map frz = zs) : roO S (k + 1) (.vw r off len) = some (.sl false n zs) := by
  simp only [roO, hr]
  rw [hf]
  rfl
theorem frz_frm (fs : List (Int × List Int)) : (fs.map frmA).map frz = fs.map frmA := by
  rw [List.map_map]; exact List.map_congr_left fun c _ => by show frz (.agg _) = A.agg _; rw [frz_agg]; show A.agg [frz (i64 c.1), frz (.sl false 1 (c.2.map i64))] = _; rw [frz_sl, frz_I]; rfl
/-- What the solver tells: a code, a count, a set. -/
def someS (x : A) : Prop := ∃ (c n : Int) (s : List Int), x = .agg [i64 c, i64 n, .sl false 1 (s.map i64)] ∧ s.length ≤ 1048576
theorem fitS1 (c n : Int) : FitX (.agg [i64 c, i64 n, .nil]) (.agg [i64 c, i64 n, .sl false 1 (([] : List Int).map i64)]) := ⟨2, by simp [fitA, fitA.fitL, i64]⟩
structure SolI (L B : Nat) (fs : List (Int × List Int)) (R : List A) (d : List Int) (n : Nat) : Prop where
  row : R.take fs.length = fs.map frmA
  le : fs.length ≤ R.length
  all : ∀ f ∈ fs, 0 ≤ f.1 ∧ f.1 < (L : Int) ∧ f.2.length + 1 ≤ n
  d : d.length ≤ n
  f : fs.length ≤ n
  n : n ≤ B
theorem eq_fI {Ω : Opq} (hΩ : Ω = std) {i j : Nat} (h : Ω.cmp .eql (Ω.int i) (Ω.int j) = false) : i ≠ j := by subst hΩ; exact fun e => eq_f h (by rw [e])
theorem solPush {Ω : Opq} (hΩ : Ω = std) {L B : Nat} {fs : List (Int × List Int)} {R : List A} {d : List Int} {n m : Nat} {k : Int} {z : A} (h : SolI L B fs R d n) (hm : fs.length = m) (hn : n + 1 ≤ B) (hk : 0 ≤ k ∧ k < (L : Int)) (hz : z = frmA (k, d)) :
    SolI L B (fs ++ [(k, d)]) (Ω.app (Ω.take m R) [z]) d (n + 1) := by
  subst hΩ hz
  have e : std.app (std.take m R) [frmA (k, d)] = (fs ++ [(k, d)]).map frmA := by
    show R.take m ++ [frmA (k, d)] = _
    rw [← hm, h.row, List.map_append]; rfl
  rw [e]
  refine ⟨List.take_of_length_le (by simp), by simp, fun f hf => ?_, by have := h.d; omega, by have := h.f; simp; omega, hn⟩
  rcases List.mem_append.1 hf with hf | hf
  · obtain ⟨h1, h2, h3⟩ := h.all f hf
    exact ⟨h1, h2, by omega⟩
  · rw [List.mem_singleton.1 hf]; exact ⟨hk.1, hk.2, by have := h.d; show d.length + 1 ≤ n + 1; omega⟩
theorem solPop {L B : Nat} {fs : List (Int × List Int)} {R : List A} {d e : List Int} {n m : Nat} {p : Int} (h : SolI L B fs R d n) (hm : fs.length = m) (he : e.length + 1 ≤ n) : SolI L B (fs.take (m - 1)) R (e ++ [p]) n := by
  subst hm
  have h1 := h.row
  have h2 := h.le
  have h3 := h.f
  refine ⟨?_, by rw [List.length_take]; omega, fun f hf => h.all f (List.mem_of_mem_take hf), by simpa using he, by rw [List.length_take]; omega, h.n⟩
  rw [List.map_take, ← h1, List.take_take, List.length_take]
theorem solNew {D : List Int → List A} (hD : D = fun s => s.map i64) (e : List Int) (p : Int) :
    (((((([] : List A).take 0 ++ D e).take (0 + (D e).length)) ++ [i64 p]).map frz).drop 0).take (0 + (D e).length + 1) = D (e ++ [p]) := by
  rw [hD]
  simp only [List.take_nil, List.nil_append, List.drop_zero, Nat.zero_add, List.take_length]
  rw [List.take_of_length_le (by simp)]
  rw [← frz_I (e ++ [p])]
  congr 1
  simp
theorem r_l4Solve (l : List Pck) (az : List Trm) (y : List Int) (B : Nat) (hl : l.length ≤ 1048576) (ha : az.length ≤ 1048576) (hy : y.length ≤ 1048576) (hB : B ≤ 1048575) (ho : ∀ o ∈ l, o.Small) :
    RCtr PP n_spec_l4Solve [encP l, .sl false 7 (az.map Trm.enc), .sl false 1 (y.map i64), i64 (B : Int)] someS := by
  obtain ⟨Ω, hΩ⟩ : ∃ Ω, Ω = std := ⟨_, rfl⟩
  have hB2 : i64 (B : Int) = i64 (Ω.int B) := by subst hΩ; rfl
  have hin : ∀ {fs : List (Int × List Int)}, (∀ f ∈ fs, 0 ≤ f.1 ∧ f.1 < (l.length : Int)) → ∀ k ∈ fs.map Prod.fst, inB k 0 ((l.length : Int) - 1) = true := fun h k hk => by
    obtain ⟨f, hf, rfl⟩ := List.mem_map.1 hk
    have := h f hf
    simp only [inB, Bool.and_eq_true, decide_eq_true_eq]; omega
  have hun := fun (fs : List (Int × List Int)) (h1 : fs.length ≤ 1048576) (h : ∀ f ∈ fs, 0 ≤ f.1 ∧ f.1 < (l.length : Int)) => r_l4Unmet l az (fs.map Prod.fst) hl (by rw [List.length_map]; exact h1) ha ho (hin h)
  have hca := fun (fs : List (Int × List Int)) (us : List Trm) (d : List Int) (h1 : fs.length ≤ 1048576) (h : ∀ f ∈ fs, 0 ≤ f.1 ∧ f.1 < (l.length : Int)) (h2 : us.length ≤ 1048576) (h3 : d.length ≤ 1048576) => r_l4Candidates l us (fs.map Prod.fst) d y hl h2 (by rw [List.length_map]; exact h1) h3 hy ho (hin h)
  have hch := fun (fs : List (Int × List Int)) (h1 : fs.length ≤ 1048576) => c_l4Chosen fs h1
  have hso : ∀ fs : List (Int × List Int), fs.length ≤ 1048576 → ∃ s : List Int, s.length ≤ 1048576 ∧ PCtr PP n_spec_l4Sorted [.sl false 1 ((fs.map Prod.fst).map i64)] (.sl true 1 (s.map i64)) := fun fs h => ⟨_, by rw [sortU_len, List.length_map]; exact h, c_l4Sorted _ (by rw [List.length_map]; exact h)⟩
  obtain ⟨L, hL⟩ : ∃ L, L = l.length := ⟨_, rfl⟩
  unfold encP at *
  obtain ⟨cs, hcs⟩ : ∃ cs, cs = l.map (Pck.enc false) := ⟨_, rfl⟩
  rw [← hcs] at hun hca ⊢
  rw [← hL] at hun hca
  obtain ⟨C, hC⟩ : ∃ C : List (Int × List Int) → List A, C = fun fs => (fs.map Prod.fst).map i64 := ⟨_, rfl⟩
  have hCm : ∀ fs : List (Int × List Int), (fs.map Prod.fst).map i64 = C fs := fun fs => by rw [hC]
  have hCz : ∀ fs : List (Int × List Int), frz (.sl true 1 (C fs)) = .sl false 1 (C fs) := fun fs => by rw [hC]; rw [frz_sl]; exact congrArg _ (frz_I _)
  have hCr : ∀ fs : List (Int × List Int), roFree (.sl true 1 (C fs)) = true := fun fs => by rw [hC]; exact roF_I _
  obtain ⟨D, hD⟩ : ∃ D : List Int → List A, D = fun s => s.map i64 := ⟨_, rfl⟩
  have hDm : ∀ s : List Int, s.map i64 = D s := fun s => by rw [hD]
  have hDz : ∀ s : List Int, frz (.sl true 1 (D s)) = .sl false 1 (D s) := fun s => by rw [hD]; rw [frz_sl]; exact congrArg _ (frz_I _)
  have hDr : ∀ s : List Int, roFree (.sl true 1 (D s)) = true := fun s => by rw [hD]; exact roF_I _
  have hD0 : D [] = [] := by rw [hD]; rfl
  obtain ⟨E, hE⟩ : ∃ E : List (Int × List Int) → List A, E = fun fs => fs.map frmA := ⟨_, rfl⟩
  have hEz : ∀ fs : List (Int × List Int), (E fs).map frz = E fs := fun fs => by rw [hE]; exact frz_frm fs
  have hrow : ∀ {S : State} {fs : List (Int × List Int)} {R : List A}, R.take fs.length = E fs → Fw.rowAt S.rows 1 = some ⟨2, R, false⟩ → roO S 3 (.vw 1 0 fs.length) = some (.sl false 2 (E fs)) := fun h h1 => ro_vw2 h1 (by rw [List.drop_zero, h, hEz])
  rw [hB2]
  simp only [hCm, hDm] at hun hca hch hso ⊢
  replace hch : ∀ fs : List (Int × List Int), fs.length ≤ 1048576 → PCtr PP n_spec_l4Chosen [.sl false 2 (E fs)] (.sl true 1 (C fs)) := fun fs h => by rw [hE]; exact hch fs h
  obtain ⟨es, hes⟩ : ∃ es, es = az.map Trm.enc := ⟨_, rfl⟩
  rw [← hes] at hun ⊢
  generalize D y = ys at *
  have htab := tab
  have hmo := hmo
  refine RCtr.walk tab hΩ fn_spec_l4Solve rfl ?_
  generalize PP = P at *
  cbv
  refine loopX htab hΩ (fun i : List (Int × List Int) × List A × List Int × Nat => ⟨[(0, .sl false 8 cs), (1, .sl false 7 es), (2, .sl false 1 ys), (3, i64 (Ω.int B)), (8, .pt 0 0 0), (9, .vw 1 0 i.1.length), (10, .sl false 1 (D i.2.2.1)), (11, i64 (Ω.int i.2.2.2))], 79, [some ⟨3, [.agg [i64 0, i64 0, .nil]], true⟩, some ⟨2, i.2.1, false⟩]⟩)
    (fun i => SolI L B i.1 i.2.1 i.2.2.1 i.2.2.2) (fun i => 2 * (B - i.2.2.2) + i.1.length) ([], [], [], 0) ⟨rfl, Nat.le_refl _, by simp, Nat.le_refl _, Nat.le_refl _, Nat.zero_le _⟩
    ((Sbs.thaw (r := 2) rfl rfl).trans ((Sbs.cut 2 rfl).trans (Sbs.mk rfl rfl ⟨rfl, rfl, rfl, rfl, rfl, rfl, by dsimp only; rw [hD0]; rfl, zeroI hΩ, trivial⟩))) ?_
  rintro ⟨fs, R, d, n⟩ hI
  dsimp only at hI
  have hfl : fs.length ≤ 1048576 := by have := hI.f; have := hI.n; omega
  have hdl : d.length ≤ 1048576 := by have := hI.d; have := hI.n; omega
  have hfa : ∀ f ∈ fs, 0 ≤ f.1 ∧ f.1 < (L : Int) := fun f hf => ⟨(hI.all f hf).1, (hI.all f hf).2.1⟩
  have hun := hun fs hfl hfa
  have hca := fun us h2 => hca fs us d hfl hfa h2 hdl
  have hch := hch fs hfl
  obtain ⟨sr, hsr, hso⟩ := hso fs hfl
  have hR := hI.row
  rw [show fs.map frmA = E fs by rw [hE]] at hR
  obtain ⟨m, hm⟩ : ∃ m, fs.length = m := ⟨_, rfl⟩
  have hrw : ∀ {S : State}, Fw.rowAt S.rows 1 = some ⟨2, R, false⟩ → roO S 3 (.vw 1 0 m) = some (.sl false 2 (E fs)) := fun h1 => hm ▸ hrow hR h1
  dsimp only
  rw [hm] at hR hfl ⊢
  have hCz := hCz fs
  have hCr := hCr fs
  have hDz := hDz sr
  have hDr := hDr sr
  cbv
  refine call_pf hΩ 3 hch (mapO1 (hrw rfl)) (fits _) hCr hCz rfl ?_
  cbv
  refine call_r hΩ 3 hun rfl (fits _) (fun x ⟨us, hx, hul⟩ => ?_)
  subst hx
  refine ⟨rfl, ?_⟩
  have hca := hca us hul
  generalize us.map Trm.enc = uz at hca ⊢
  cbv
  refine br (fun h => ?_) (fun h => ?_) <;> cbv
  · refine call_pf hΩ 3 hso rfl (fits _) hDr hDz rfl ?_
    cbv
    refine ⟨_, ⟨0, Ω.int n, sr, rfl, hsr⟩, ?_⟩
    rw [hDm]
    cbv
    exact .same
  · refine call_r hΩ 3 hca rfl (fits _) (fun x ⟨ks, hx, hkl, hks⟩ => ?_)
    subst hx
    refine ⟨rfl, ?_⟩
    rw [hDm]
    have h0 : 0 < Ω.len (D ks) → ∃ k, ks[0]? = some k ∧ (D ks)[Int.toNat 0]? = some (i64 k) := fun h => by
      have e : Ω.len (D ks) = ks.length := by rw [← hDm]; subst hΩ; exact List.length_map _
      obtain ⟨k, hk⟩ := at_of (cs := ks) (i := 0) (by omega)
      exact ⟨k, hk, by rw [← hDm]; show (ks.map i64)[0]? = _; rw [List.getElem?_map, hk]; rfl⟩
    cbv
    refine br (fun hgt => ?_) (fun hgt => ?_) <;> cbv
    · refine br (fun h => ?_) (fun h => ?_) <;> cbv
      · exact ⟨_, ⟨7, Ω.int n, [], rfl, Nat.zero_le _⟩, fitS1 7 (Ω.int n)⟩
      · have hnB : n ≠ B := fun e => by have := eq_fI hΩ h; exact this e
        obtain ⟨k0, hk0, hk1⟩ := h0 (gtZ hΩ hgt)
        have hk2 := hks k0 (List.mem_of_getElem? hk0)
        have hnn := hI.n
        refine ⟨⟨Int.le_refl _⟩, _, hk1, ?_⟩
        cbv
        have hS : SolI L B (fs ++ [(k0, d)]) (Ω.app (Ω.take m R) [.agg [i64 k0, .sl false 1 (D d)]]) d (n + 1) := by
          refine solPush hΩ hI hm (by omega) hk2 ?_
          rw [← hDm]; rfl
        exact ⟨⟨rfl, okAll rfl, by show (m + 1) * 32 ≤ 140737488355328; omega, by show m + 1 ≤ 9223372036854775807; omega⟩, (fs ++ [(k0, d)], Ω.app (Ω.take m R) [.agg [i64 k0, .sl false 1 (D d)]], d, n + 1), hS, by dsimp only; rw [List.length_append, hm, List.length_singleton]; omega, (Sbs.cut 2 rfl).trans (Sbs.mk rfl rfl ⟨rfl, rfl, rfl, rfl, rfl, by dsimp only; rw [List.length_append, hm]; subst hΩ; rfl, rfl, incI hΩ (by omega), trivial⟩)⟩
    · refine br (fun h => ?_) (fun h => ?_) <;> cbv
      · exact ⟨_, ⟨4, Ω.int n, [], rfl, Nat.zero_le _⟩, fitS1 4 (Ω.int n)⟩
      · have hm0 : 0 < m := by
          rcases Nat.eq_zero_or_pos m with e | e
          · exact absurd (by rw [e]; subst hΩ; rfl : Ω.int m = 0) (by have := h; subst hΩ; exact eq_f this)
          · exact e
        have e5 : Ω.ar .sub .i64 (Ω.int m) 1 = Ω.int (m - 1) := decJ hΩ hm0 (by omega)
        obtain ⟨⟨p, e⟩, hf⟩ := at_of (cs := fs) (i := m - 1) (by omega)
        have hRf : R[m - 1]? = some (.agg [i64 p, .sl false 1 (D e)]) := by
          have h1 : (R.take m)[m - 1]? = R[m - 1]? := List.getElem?_take_of_lt (by omega)
          rw [← h1, hR, hE, ← hDm]; simp only [List.getElem?_map, hf]; rfl
        have hfm := hI.all _ (List.mem_of_getElem? hf)
        refine ⟨⟨by show 0 ≤ Ω.ar .sub .i64 (Ω.int m) 1 ∧ Ω.ar .sub .i64 (Ω.int m) 1 < (m : Int); rw [e5]; exact ixI hΩ (by omega)⟩, .agg [i64 p, .sl false 1 (D e)], by show R[Ω.plus 0 (Ω.nat (Ω.ar .sub .i64 (Ω.int m) 1))]? = _; rw [e5]; exact atI hΩ hRf, ?_⟩
        cbv
        have e6 : Ω.nat (Ω.ar .sub .i64 (Ω.int m) 1) = m - 1 := by rw [e5]; subst hΩ; rfl
        refine ⟨⟨trivial, by show 0 ≤ Ω.ar .sub .i64 (Ω.int m) 1; rw [e5]; exact nnI hΩ, Nat.zero_le _, by show Ω.nat (Ω.ar .sub .i64 (Ω.int m) 1) ≤ m; omega⟩, ?_⟩
        refine ⟨VC_lord htab hΩ hmo [1, 2, 4, 5] (.two 0 (.two 3 (.step 6 (.step 7 (.step 8 .fin))) 6 (.step 3 (.step 7 (.step 8 .fin)))) 6 (.step 0 (.step 3 (.step 7 (.step 8 .fin))))) [2] [] (by kernel_rfl) ?_⟩
        cbv
        intro vs
        cbv
        have hok := ints_ok e
        rw [hDm] at hok
        have hel : (D e).length ≤ 1048576 := by rw [← hDm, List.length_map]; have := hfm.2.2; have := hI.n; dsimp only at *; omega
        have hpl : Ω.plus 0 (Ω.len (D e)) ≤ 1048576 := by subst hΩ; show 0 + (D e).length ≤ _; omega
        have hnew := solNew hD e p
        have hS : SolI L B (fs.take (m - 1)) R (e ++ [p]) n := solPop hI hm hfm.2.2
        have hvw : A.vw 1 (Ω.plus 0 0) (Ω.minus (Ω.nat (Ω.ar .sub .i64 (Ω.int m) 1)) 0) = .vw 1 0 (fs.take (m - 1)).length := by rw [e6, List.length_take, hm, Nat.min_eq_left (by omega)]; subst hΩ; rfl
        refine ⟨⟨?_, ?_⟩, ?_⟩
        · exact ⟨⟨hok.1, hok.2, by show (0 + (D e).length) * 8 ≤ 140737488355328; omega, by show 0 + (D e).length ≤ 9223372036854775807; omega⟩, ⟨rfl, okAll rfl, by show (Ω.plus 0 (Ω.len (D e)) + 1) * 8 ≤ 140737488355328; omega, by show Ω.plus 0 (Ω.len (D e)) + 1 ≤ 9223372036854775807; omega⟩, (fs.take (m - 1), R, e ++ [p], n), hS, by dsimp only; rw [List.length_take, hm]; omega, (Sbs.thaw (r := 3) rfl rfl).trans ((Sbs.cut 2 rfl).trans (Sbs.mk rfl rfl ⟨rfl, rfl, rfl, rfl, rfl, hvw, by subst hΩ; exact congrArg (A.sl false 1) hnew, rfl, trivial⟩))⟩
        · exact ⟨⟨hok.1, hok.2, by show (0 + (D e).length) * 8 ≤ 140737488355328; omega, by show 0 + (D e).length ≤ 9223372036854775807; omega⟩, ⟨Nat.le_refl _, by simp [noOwn], by simp [flat, A.cells, okCell], by show (Ω.plus 0 (Ω.len (D e)) + 1) * 8 ≤ 140737488355328; omega, by show Ω.plus 0 (Ω.len (D e)) + 1 ≤ 9223372036854775807; omega⟩, (fs.take (m - 1), R, e ++ [p], n), hS, by dsimp only; rw [List.length_take, hm]; omega, (Sbs.thaw (r := 3) rfl rfl).trans ((Sbs.cut 2 rfl).trans (Sbs.mk rfl rfl ⟨rfl, rfl, rfl, rfl, rfl, hvw, by subst hΩ; exact congrArg (A.sl false 1) hnew, rfl, trivial⟩))⟩
        · exact ⟨⟨hok.1, hok.2, by show (0 + (D e).length) * 8 ≤ 140737488355328; omega, by show 0 + (D e).length ≤ 9223372036854775807; omega⟩, ⟨Nat.le_refl _, by simp [noOwn], by simp [flat, A.cells, okCell], by show (Ω.plus 0 (Ω.len (D e)) + 1) * 8 ≤ 140737488355328; omega, by show Ω.plus 0 (Ω.len (D e)) + 1 ≤ 9223372036854775807; omega⟩, (fs.take (m - 1), R, e ++ [p], n), hS, by dsimp only; rw [List.length_take, hm]; omega, (Sbs.thaw (r := 4) rfl rfl).trans ((Sbs.cut 2 rfl).trans (Sbs.mk rfl rfl ⟨rfl, rfl, rfl, rfl, rfl, hvw, by subst hΩ; exact congrArg (A.sl false 1) hnew, rfl, trivial⟩))⟩
end Go.Proofs.YtomfmdfamlmfiaaGreat

/- Walks: draws of catalogs with sets. Plain theorems. -/
set_option linter.unusedVariables false
set_option linter.unusedSimpArgs false
namespace Go.Proofs.YtomfmdfamlmfiaaGreat
open Go Go.Fw
set_option maxRecDepth 100000
theorem call_d0 {P : Program} {S : State} {Ω : Opq} (hΩ : Ω = std) (k : Nat) {g : Nat} {args : List A} {R : A → List A → Prop} {K : A → State → Prop} (hc : XCtr P g args R) (hd : args.all isData = true) (hn : args.all noOwn = true)
    (h : ∀ x outs, R x outs → outs = args ∧ noOwn (rootO Ω k S x).1 = true ∧ K (rootO Ω k S x).1 (rootO Ω k S x).2) : CallX P g args S K :=
  call_rel hΩ k hc [] (by simp) ⟨_, mutL_data hd hn⟩ fun x outs hR => let ⟨h1, h2, h3⟩ := h x outs hR; ⟨[], rfl, by rw [h1]; exact mutL_data hd hn, h2, h3⟩
theorem c_l1Source (bs : List A) : PCtr PP n_spec_l1Source [.sl false 1 bs] (src bs 0) := by
  obtain ⟨Ω, hΩ⟩ : ∃ Ω, Ω = std := ⟨_, rfl⟩
  have htab := tab
  refine PCtr.walk tab hΩ fn_spec_l1Source rfl ?_
  generalize PP = P at *
  cbv
  exact .same
/-- A draw of what is told apart from its source. -/
def D0 (bs : List A) (Q : A → Prop) : A → List A → Prop := fun x o => o = [.sl false 1 bs] ∧ Q x
end Go.Proofs.YtomfmdfamlmfiaaGreat

/- Walks: draws of what is asked; sets that hold. Plain theorems. -/
set_option linter.unusedVariables false
set_option linter.unusedSimpArgs false
namespace Go.Proofs.YtomfmdfamlmfiaaGreat
open Go Go.Fw
set_option maxRecDepth 100000
/-- Some terms, held alone. -/
def ownTs (n : Nat) (x : A) : Prop := ∃ ts : List Trm, x = .sl true 7 (ts.map Trm.enc) ∧ ts.length ≤ n
theorem frz_T (ts : List Trm) : (ts.map Trm.enc).map frz = ts.map Trm.enc := by rw [List.map_map]; exact List.map_congr_left fun c _ => rfl
theorem d_l3Asks {bs : List A} (hb : Src bs) (p : Int) (h0 : 0 ≤ p) (h1 : p + 60 ≤ 1099511627776) : XCtr PP n_spec_l3Asks [src bs p] (DR bs p 60 [] (ownTs 4)) := by
  obtain ⟨Ω, hΩ⟩ : ∃ Ω, Ω = std := ⟨_, rfl⟩
  have hC := fun p n a b c => d_l1Chance hb p n a b c
  have hP := fun p ns a b c d => d_l1Pick hb p ns a b c d
  have hT := fun p a b => d_l1Term hb p a b
  have hB := fun p a b => d_l1BentTerm hb p a b
  obtain ⟨F, hF⟩ : ∃ F : List Trm → List A, F = fun s => s.map Trm.enc := ⟨_, rfl⟩
  have hF0 : F [] = [] := by rw [hF]; rfl
  have hFl : ∀ s, (F s).length = s.length := fun s => by rw [hF]; exact List.length_map _
  have hFs : ∀ (s : List Trm) (t : Trm), Ω.app (Ω.take s.length (F s)) [t.enc] = F (s ++ [t]) := fun s t => by
    subst hΩ; rw [hF]; show List.take s.length (List.map Trm.enc s) ++ _ = List.map Trm.enc (s ++ [t])
    rw [List.map_append, List.take_of_length_le (by simp)]; rfl
  have hFt : ∀ s, A.sl true 7 (Ω.take s.length (F s)) = .sl true 7 (s.map Trm.enc) := fun s => by
    subst hΩ; rw [hF]; exact congrArg _ (List.take_of_length_le (by simp))
  have hFt0 : ∀ s m, s.length = m → A.sl true 7 (Ω.take m (F s)) = .sl true 7 (s.map Trm.enc) := fun s m h => by rw [← h, hFt]
  have hFt1 : ∀ s t m X, s.length = m → X = t.enc → A.sl true 7 (Ω.take (Ω.plus m (Ω.len [X])) (Ω.app (Ω.take m (F s)) [X])) = .sl true 7 ((s ++ [t]).map Trm.enc) := fun s t m X h e => by
    rw [← h, e, hFs, ← hFt]; congr 2; subst hΩ; rw [List.length_append]; rfl
  have hFle : ∀ s {m} {X : A}, s.length = m → Ω.plus m (Ω.len [X]) ≤ (Ω.app (Ω.take m (F s)) [X]).length := fun s {m X} h => by
    subst hΩ; show m + 1 ≤ (List.take m (F s) ++ [X]).length
    rw [List.take_of_length_le (by rw [hFl]; omega), List.length_append, hFl]; show m + 1 ≤ s.length + 1; omega
  clear hF
  have htab := tab
  have hmo := hmo
  refine XCtr.walkO tab hΩ 3 fn_spec_l3Asks rfl rfl ?_
  generalize PP = P at *
  cbv
  refine call_pick (ns := [0, 1, 1, 2, 3]) hΩ (hP _ _ (by omega) (by omega) (Nat.zero_lt_succ _) (Nat.le_of_ble_eq_true rfl)) rfl rfl rfl rfl (by decide) (fun q1 n q1a q1b hn => ?_)
  replace hn : 0 ≤ n ∧ n ≤ 3 := by simp at hn; omega
  cbv
  refine loopX htab hΩ (fun i : Int × Int × List Trm => ⟨[(0, .pt 0 0 0), (3, .vw 1 0 i.2.2.length), (4, i64 i.1), (26, .pt 0 0 0)], 26, [some ⟨2, [.agg [.sl false 1 bs, i64 i.2.1]], true⟩, some ⟨7, F i.2.2, false⟩]⟩)
    (fun i => 0 ≤ i.1 ∧ i.1 ≤ 3 ∧ p ≤ i.2.1 ∧ i.2.1 + 9 * i.1 ≤ p + 30 ∧ (i.2.2.length : Int) + i.1 ≤ 3) (fun i => i.1.toNat) (n, q1, [])
    ⟨by dsimp only; omega, by dsimp only; omega, by dsimp only; omega, by dsimp only; omega, by show ((0 : Nat) : Int) + n ≤ 3; omega⟩ ((Sbs.cut 2 rfl).trans (Sbs.mk rfl (by show _ = [_, some (Row.mk 7 (F []) false)]; rw [hF0]; rfl) ⟨rfl, rfl, rfl, rfl, trivial⟩)) ?_
  rintro ⟨k, q, s⟩ ⟨i1, i2, i3, i4, i5⟩
  dsimp only at i1 i2 i3 i4 i5
  have hFli := hFl s
  obtain ⟨m, hm⟩ : ∃ m, s.length = m := ⟨_, rfl⟩
  have hrows : ∀ {R0 : Option Row} {X : A} {t : Trm}, X = t.enc → [R0, some (Row.mk 7 (Ω.app (Ω.take m (F s)) [X]) false)] = [R0, some (Row.mk 7 (F (s ++ [t])) false)] := fun {R0 X t} h => by rw [h, ← hm, hFs]
  have hvw : ∀ {X : A} {t : Trm}, A.vw 1 0 (Ω.plus m (Ω.len [X])) = .vw 1 0 (s ++ [t]).length := fun {X t} => by subst hΩ; rw [List.length_append, hm]; rfl
  have hsl : ∀ t : Trm, (((s ++ [t]).length : Nat) : Int) + (k - 1) ≤ 3 := fun t => by rw [List.length_append, List.length_singleton]; omega
  have hm3 : m ≤ 3 := by omega
  have hk1 : k ≤ 4611686018427387904 := by omega
  have hqb : q + 9 * (k - 1) + 9 ≤ p + 30 := by omega
  have hs4 : ∀ t : Trm, (s ++ [t]).length ≤ 4 := fun t => by rw [List.length_append, List.length_singleton, hm]; omega
  have hqq : q + 9 ≤ 1099511627776 := by omega
  have hq1 : q + 1 ≤ p + 31 := by omega
  have hqk : q ≤ p + 30 := by omega
  rw [hm] at hFli i5 ⊢
  cbv
  refine br (fun hk => ?_) (fun hk => ?_) <;> cbv
  · have hk : 0 < k := by subst hΩ; exact gt_t hk
    refine call_dr false hΩ 3 (hT _ (by omega) (by omega)) rfl rfl rfl (fun q2 x q2a q2b ⟨t, hx⟩ => ?_)
    have hq2 : q2 + 9 * (k - 1) ≤ p + 30 := by omega
    obtain ⟨tn, ⟨ta, tb, tc⟩, ⟨td, te, tf⟩⟩ := t
    subst hx
    cbv
    exact ⟨⟨rfl, okAll rfl, by show (m + 1) * 64 ≤ 140737488355328; omega, by show m + 1 ≤ 9223372036854775807; omega⟩, (k - 1, q2, s ++ [(⟨tn, ⟨ta, tb, tc⟩, ⟨td, te, tf⟩⟩ : Trm)]), ⟨by dsimp only; omega, by dsimp only; omega, by dsimp only; omega, hq2, hsl _⟩, by dsimp only; omega, (Sbs.cut 2 rfl).trans (Sbs.mk rfl (hrows (by rfl)) ⟨rfl, hvw, decI hΩ (by omega) hk1, rfl, trivial⟩)⟩
  · refine call_dr false hΩ 3 (hC _ _ (by omega) (by omega) (by omega)) rfl rfl rfl (fun q2 x q2a q2b ⟨c, hx⟩ => ?_)
    subst hx
    cbv
    refine br (fun hc => ?_) (fun hc => ?_) <;> cbv
    · refine call_dr false hΩ 3 (hB _ (by omega) (by omega)) rfl rfl rfl (fun q3 x q3a q3b ⟨t, hx⟩ => ?_)
      obtain ⟨tn, ⟨ta, tb, tc⟩, ⟨td, te, tf⟩⟩ := t
      subst hx
      cbv
      exact ⟨⟨rfl, okAll rfl, by show (m + 1) * 64 ≤ 140737488355328; omega, by show m + 1 ≤ 9223372036854775807; omega⟩, ⟨rfl, hFle _ hm⟩, _, _, .of (hFt1 s (⟨tn, ⟨ta, tb, tc⟩, ⟨td, te, tf⟩⟩ : Trm) m _ hm rfl), .same, ⟨q3, by omega, by omega, rfl, _, rfl, hs4 _⟩, rfl⟩
    · exact ⟨⟨rfl, by show m ≤ (F s).length; omega⟩, _, _, .of (hFt0 s m hm), .same, ⟨q2, by omega, by omega, rfl, s, rfl, by omega⟩, rfl⟩
theorem d_l3Ask {bs : List A} (hb : Src bs) (l : List Pck) (hl : l.length ≤ 40) (p : Int) (h0 : 0 ≤ p) (h1 : p + 10 ≤ 1099511627776) : XCtr PP n_spec_l3Ask [src bs p, encP l] (DR bs p 10 [encP l] (ownTs 4)) := by
  obtain ⟨Ω, hΩ⟩ : ∃ Ω, Ω = std := ⟨_, rfl⟩
  have hN := fun p n a b c => d_l1Next hb p n a b c
  have hA := fun n => d_AnyTerm n
  obtain ⟨N, hNN⟩ : ∃ N : Int, N = (l.length : Int) := ⟨_, rfl⟩
  have hN40 : N ≤ 40 := by omega
  have hat : ∀ r : Int, 0 ≤ r → r < N → ∃ nm v1 v2 v3 sz ps ds bs, (l.map (Pck.enc false))[r.toNat]? = some (.agg [str nm, i64 v1, i64 v2, i64 v3, i64 sz, .sl false 1 ps, .sl false 1 ds, .sl false 7 bs]) := fun r a b => by
    obtain ⟨h0, h1, h2, h3⟩ := pk_at (c := l) (k := r) (by simp only [inB, Bool.and_eq_true, decide_eq_true_eq]; omega)
    obtain ⟨ps, ds, bs, hen, hp, hd, hb⟩ := enc_raw (pk l r)
    exact ⟨_, _, _, _, _, ps, ds, bs, by rw [List.getElem?_map, h2]; exact congrArg some hen⟩
  obtain ⟨xs, hxs⟩ : ∃ xs, xs = l.map (Pck.enc false) := ⟨_, rfl⟩
  have hxl : Ω.int (Ω.len xs) = N := by rw [hxs, hNN]; subst hΩ; show ((l.map _).length : Int) = _; rw [List.length_map]
  unfold encP
  rw [← hxs] at hat ⊢
  obtain ⟨F, hF⟩ : ∃ F : List Trm → List A, F = fun s => s.map Trm.enc := ⟨_, rfl⟩
  have hF0 : F [] = [] := by rw [hF]; rfl
  have hFl : ∀ s, (F s).length = s.length := fun s => by rw [hF]; exact List.length_map _
  have hFs : ∀ (s : List Trm) (t : Trm), Ω.app (Ω.take s.length (F s)) [t.enc] = F (s ++ [t]) := fun s t => by
    subst hΩ; rw [hF]; show List.take s.length (List.map Trm.enc s) ++ _ = List.map Trm.enc (s ++ [t])
    rw [List.map_append, List.take_of_length_le (by simp)]; rfl
  have hFt : ∀ s, A.sl true 7 (Ω.take s.length (F s)) = .sl true 7 (s.map Trm.enc) := fun s => by
    subst hΩ; rw [hF]; exact congrArg _ (List.take_of_length_le (by simp))
  have hFt0 : ∀ s m, s.length = m → A.sl true 7 (Ω.take m (F s)) = .sl true 7 (s.map Trm.enc) := fun s m h => by rw [← h, hFt]
  clear hF hxs
  have htab := tab
  have hmo := hmo
  refine XCtr.walkO tab hΩ 3 fn_spec_l3Ask rfl rfl ?_
  generalize PP = P at *
  cbv
  refine call_dr false hΩ 3 (hN _ 3 (by omega) (by omega) (by omega)) rfl rfl rfl (fun q1 x q1a q1b ⟨r0, hx, hr0⟩ => ?_)
  subst hx
  have hr0 := hr0.2 (by omega)
  have he0 : Ω.ar .add .i64 1 r0 = 1 + r0 := by subst hΩ; exact wrap64 (by omega) (by omega)
  cbv
  refine loopX htab hΩ (fun i : Int × Int × List Trm => ⟨[(0, .pt 0 0 0), (1, .sl false 8 xs), (5, .vw 1 0 i.2.2.length), (6, i64 i.1), (33, .pt 0 0 0), (34, .sl false 8 xs)], 33, [some ⟨2, [.agg [.sl false 1 bs, i64 i.2.1]], true⟩, some ⟨7, F i.2.2, false⟩]⟩)
    (fun i => 0 ≤ i.1 ∧ i.1 ≤ 3 ∧ p ≤ i.2.1 ∧ i.2.1 + i.1 ≤ p + 5 ∧ (i.2.2.length : Int) + i.1 ≤ 3) (fun i => i.1.toNat) (1 + r0, q1, [])
    ⟨by dsimp only; omega, by dsimp only; omega, by dsimp only; omega, by dsimp only; omega, by show ((0 : Nat) : Int) + (1 + r0) ≤ 3; omega⟩ ((Sbs.cut 2 rfl).trans (Sbs.mk rfl (by show _ = [_, some (Row.mk 7 (F []) false)]; rw [hF0]; rfl) ⟨rfl, rfl, rfl, congrArg i64 he0, rfl, rfl, trivial⟩)) ?_
  rintro ⟨k, q, s⟩ ⟨i1, i2, i3, i4, i5⟩
  dsimp only at i1 i2 i3 i4 i5
  have hFli := hFl s
  obtain ⟨m, hm⟩ : ∃ m, s.length = m := ⟨_, rfl⟩
  have hrows : ∀ {R0 : Option Row} {X : A} {t : Trm}, X = t.enc → [R0, some (Row.mk 7 (Ω.app (Ω.take m (F s)) [X]) false)] = [R0, some (Row.mk 7 (F (s ++ [t])) false)] := fun {R0 X t} h => by rw [h, ← hm, hFs]
  have hvw : ∀ {X : A} {t : Trm}, A.vw 1 0 (Ω.plus m (Ω.len [X])) = .vw 1 0 (s ++ [t]).length := fun {X t} => by subst hΩ; rw [List.length_append, hm]; rfl
  have hsl : ∀ t : Trm, (((s ++ [t]).length : Nat) : Int) + (k - 1) ≤ 3 := fun t => by rw [List.length_append, List.length_singleton]; omega
  have hm3 : m ≤ 3 := by omega
  have hk1 : k ≤ 4611686018427387904 := by omega
  have hqq : q + 1 ≤ 1099511627776 := by omega
  have hqk : q ≤ p + 5 := by omega
  have hpos : ∀ {b : Bool}, Ω.cmp .gtr k 0 = true → 0 < k := fun h => by subst hΩ; exact gt_t h
  have hlp : Ω.cmp .gtr (Ω.int (Ω.len xs)) 0 = true → 1 ≤ N := fun h => by rw [hxl, hΩ] at h; have := gt_t h; omega
  have hln : Ω.int (Ω.len xs) ≤ 4294967296 := by rw [hxl]; omega
  rw [hm] at hFli i5 ⊢
  have hfin : ∀ q' : Int, p ≤ q' → q' ≤ p + 5 → ownTs 4 (A.sl true 7 (s.map Trm.enc)) := fun _ _ _ => ⟨s, rfl, by omega⟩
  cbv
  refine br (fun hk => ?_) (fun hk => ?_) <;> cbv
  · have hk := hpos (b := true) hk
    refine br (fun hg => ?_) (fun hg => ?_) <;> cbv
    · have hg2 := hlp (by subst hΩ; exact hg)
      refine call_dr false hΩ 3 (hN _ _ (by omega) (by omega) hln) rfl rfl rfl (fun q2 x q2a q2b ⟨r, hx, hr⟩ => ?_)
      subst hx
      have hr : 0 ≤ r ∧ r < Ω.int (Ω.len xs) := hr.2 (by show 1 ≤ Ω.int (Ω.len xs); rw [hxl]; exact hg2)
      rw [hxl] at hr
      obtain ⟨nm, v1, v2, v3, sz, ps, ds, bz, hx⟩ := hat r hr.1 hr.2
      cbv
      refine ⟨⟨hr.1⟩, _, hx, ?_⟩
      cbv
      refine call_pure hΩ 3 (hA nm) rfl (fits _) rfl rfl ?_
      cbv
      exact ⟨⟨rfl, okAll rfl, by show (m + 1) * 64 ≤ 140737488355328; omega, by show m + 1 ≤ 9223372036854775807; omega⟩, (k - 1, q2, s ++ [inTop nm]), ⟨by dsimp only; omega, by dsimp only; omega, by dsimp only; omega, by dsimp only; omega, hsl _⟩, by dsimp only; omega, (Sbs.cut 2 rfl).trans (Sbs.mk rfl (hrows (by rfl)) ⟨rfl, rfl, hvw, decI hΩ (by omega) hk1, rfl, rfl, trivial⟩)⟩
    · exact ⟨⟨rfl, by show m ≤ (F s).length; omega⟩, _, _, .of (hFt0 s m hm), .same, ⟨q, by omega, by omega, rfl, hfin q i3 hqk⟩, rfl⟩
  · exact ⟨⟨rfl, by show m ≤ (F s).length; omega⟩, _, _, .of (hFt0 s m hm), .same, ⟨q, by omega, by omega, rfl, hfin q i3 hqk⟩, rfl⟩
end Go.Proofs.YtomfmdfamlmfiaaGreat

/- Walks: draws of a catalog, a set and what is asked. Plain theorems. -/
set_option linter.unusedVariables false
set_option linter.unusedSimpArgs false
namespace Go.Proofs.YtomfmdfamlmfiaaGreat
open Go Go.Fw
set_option maxRecDepth 100000
/-- A catalog, a set, what is asked. -/
def csa (x : A) : Prop := ∃ (l : List Pck) (s : List Int) (ts : List Trm), x = .tup [encP l, .sl false 1 (s.map i64), .sl false 7 (ts.map Trm.enc)] ∧ (∀ o ∈ l, o.Small) ∧ l.length ≤ 40 ∧ s.length ≤ 1048576 ∧ ts.length ≤ 1048576
theorem fitS60 (xs ts : List A) : fitA.fitL 3 [.sl false 8 xs, .sl false 7 ts, .nil, i64 60] [.sl false 8 xs, .sl false 7 ts, .sl false 1 (([] : List Int).map i64), i64 ((60 : Nat) : Int)] :=
  ⟨(fits [_]).1, (fits [_]).1, rfl, (fits [_]).1, trivial⟩
theorem d_l13Draw {bs : List A} (hb : Src bs) (p : Int) (h0 : 0 ≤ p) (h1 : p + 1100 ≤ 1099511627776) : XCtr PP n_spec_l13Draw [src bs p] (DR bs p 1100 [] csa) := by
  obtain ⟨Ω, hΩ⟩ : ∃ Ω, Ω = std := ⟨_, rfl⟩
  have hcat := fun p a b => d_l2Catalog hb p a b
  have hasks := fun p a b => d_l3Asks hb p a b
  have hset := fun p l a b c d => d_l3DrawSet hb l a b p c d
  have hask := fun l hl p a b => d_l3Ask hb l hl p a b
  have hC := fun p n a b c => d_l1Chance hb p n a b c
  have hflt : ∀ l : List Pck, l.length ≤ 40 → (∀ o ∈ l, o.Small) → ∃ r, PCtr PP n_spec_CatalogFault [encP l] (i64 r) := fun l a b => ⟨_, c_specCatalogFault l (by omega) b⟩
  have hsol : ∀ (l : List Pck) (ts : List Trm), l.length ≤ 40 → (∀ o ∈ l, o.Small) → ts.length ≤ 1048576 → RCtr PP n_spec_l4Solve [encP l, .sl false 7 (ts.map Trm.enc), .sl false 1 (([] : List Int).map i64), i64 ((60 : Nat) : Int)] someS := fun l ts a b c => r_l4Solve l ts [] 60 (by omega) c (Nat.zero_le _) (Nat.le_of_ble_eq_true rfl) b
  have htab := tab
  have hmo := hmo
  refine XCtr.walkO tab hΩ 3 fn_spec_l13Draw rfl rfl ?_
  generalize PP = P at *
  cbv
  refine call_dr true hΩ 3 (hcat _ (by omega) (by omega)) rfl rfl rfl (fun q1 x q1a q1b ⟨l, hx, hl, hll⟩ => ?_)
  rw [show fzA true x = encP l by rw [hx]; show frz (A.sl true 8 _) = _; rw [frz_sl, encP_frz]; rfl]
  obtain ⟨cf, hflt⟩ := hflt l hll hl
  replace hset := fun p a b => hset p l hll hl a b
  replace hask := hask l hll
  replace hsol := fun ts c => hsol l ts hll hl c
  have hcsa : ∀ (s : List Int) (ts : List Trm), s.length ≤ 1048576 → ts.length ≤ 1048576 → csa (.tup [encP l, .sl false 1 (s.map i64), .sl false 7 (ts.map Trm.enc)]) := fun s ts a b => ⟨l, s, ts, rfl, hl, hll, a, b⟩
  obtain ⟨cs, hcs⟩ : ∃ cs, cs = l.map (Pck.enc false) := ⟨_, rfl⟩
  unfold encP at *
  rw [← hcs] at hflt hset hask hsol hcsa ⊢
  cbv
  refine call_dr true hΩ 3 (hasks _ (by omega) (by omega)) rfl rfl rfl (fun q2 x q2a q2b ⟨t1, hx, ht1⟩ => ?_)
  rw [show fzA true x = .sl false 7 (t1.map Trm.enc) by rw [hx]; show frz (A.sl true 7 _) = _; rw [frz_sl, frz_T]]
  obtain ⟨u1, hu1⟩ : ∃ u1, u1 = t1.map Trm.enc := ⟨_, rfl⟩
  rw [← hu1]
  cbv
  refine call_dr true hΩ 3 (hset _ (by omega) (by omega)) rfl rfl rfl (fun q3 x q3a q3b ⟨s1, hx, hs1⟩ => ?_)
  rw [show fzA true x = .sl false 1 (s1.map i64) by rw [hx]; show frz (A.sl true 1 _) = _; rw [frz_sl, frz_I]]
  obtain ⟨v1, hv1⟩ : ∃ v1, v1 = s1.map i64 := ⟨_, rfl⟩
  rw [← hv1]
  cbv
  refine call_pure hΩ 3 hflt rfl (fits _) rfl rfl ?_
  cbv
  have hout : ∀ q : Int, p ≤ q → q ≤ p + 1100 → DR bs p 1100 [] csa (.tup [.sl false 8 cs, .sl false 1 v1, .sl false 7 u1]) [src bs q] := fun q a b => ⟨q, a, b, rfl, by rw [hu1, hv1]; exact hcsa s1 t1 (by omega) (by omega)⟩
  refine br (fun h => ?_) (fun h => ?_) <;> cbv
  · refine br (fun hg => ?_) (fun hg => ?_) <;> cbv
    · refine call_dr false hΩ 3 (hC _ 4 (by omega) (by omega) (by omega)) rfl rfl rfl (fun q4 x q4a q4b ⟨c4, hx⟩ => ?_)
      subst hx
      cbv
      refine br (fun h4 => ?_) (fun h4 => ?_) <;> cbv
      · refine call_dr true hΩ 3 (hask _ (by omega) (by omega)) rfl rfl rfl (fun q5 x q5a q5b ⟨t2, hx, ht2⟩ => ?_)
        rw [show fzA true x = .sl false 7 (t2.map Trm.enc) by rw [hx]; show frz (A.sl true 7 _) = _; rw [frz_sl, frz_T]]
        replace hsol := hsol t2 (by omega)
        obtain ⟨u2, hu2⟩ : ∃ u2, u2 = t2.map Trm.enc := ⟨_, rfl⟩
        have hu2l : u2.length = t2.length := by rw [hu2, List.length_map]
        rw [← hu2] at hsol ⊢
        cbv
        refine call_r hΩ 3 hsol rfl (fitS60 _ _) (fun x ⟨c, n, s2, hx, hs2⟩ => ?_)
        subst hx
        refine ⟨rfl, ?_⟩
        obtain ⟨v2, hv2⟩ : ∃ v2, v2 = s2.map i64 := ⟨_, rfl⟩
        rw [← hv2]
        have hout2 : ∀ (q : Int) (b : Bool), p ≤ q → q ≤ p + 1100 → DR bs p 1100 [] csa (.tup [.sl false 8 cs, .sl false 1 (if b then v2 else v1), .sl false 7 u2]) [src bs q] := fun q b e f => ⟨q, e, f, rfl, by cases b <;> rw [hu2] <;> first | (rw [hv2]; exact hcsa s2 t2 hs2 (by omega)) | (rw [hv1]; exact hcsa s1 t2 (by omega) (by omega))⟩
        have hout3 : ∀ (q : Int) (b : Bool), p ≤ q → q ≤ p + 1100 → DR bs p 1100 [] csa (.tup [.sl false 8 cs, .sl false 1 (if b then v2 else v1), .sl false 7 (Ω.seg 0 (Ω.nat 1) u2)]) [src bs q] := fun q b e f => ⟨q, e, f, rfl, by
          have e1 : Ω.seg 0 (Ω.nat 1) u2 = (t2.take 1).map Trm.enc := by rw [hu2]; subst hΩ; show ((t2.map Trm.enc).take 1).drop 0 = _; rw [List.drop_zero, List.map_take]
          have e2 : (t2.take 1).length ≤ 1048576 := by rw [List.length_take]; omega
          rw [e1]
          cases b <;> first | (rw [hv2]; exact hcsa s2 (t2.take 1) hs2 e2) | (rw [hv1]; exact hcsa s1 (t2.take 1) (by omega) e2)⟩
        have hlen1 : Ω.ite true (Ω.cmp .gtr (Ω.int (Ω.len u2)) 1) false = true → Ω.nat 1 ≤ u2.length := fun h => by
          subst hΩ
          have : (1 : Int) < (u2.length : Int) := gt_t h
          show 1 ≤ u2.length; omega
        cbv
        refine br (fun h5 => ?_) (fun h5 => ?_) <;> cbv
        · refine call_dr false hΩ 3 (hC _ 3 (by omega) (by omega) (by omega)) rfl rfl rfl (fun q6 x q6a q6b ⟨c6, hx⟩ => ?_)
          subst hx
          cbv
          refine br (fun h6 => ?_) (fun h6 => ?_) <;> cbv
          · refine br (fun h7 => ?_) (fun h7 => ?_) <;> cbv
            · exact ⟨⟨trivial, by decide, Nat.zero_le _, hlen1 h7⟩, _, _, .same, .same, hout3 q6 true (by omega) (by omega), rfl⟩
            · exact ⟨_, _, .same, .same, hout2 q6 true (by omega) (by omega), rfl⟩
          · exact ⟨_, _, .same, .same, hout2 q6 true (by omega) (by omega), rfl⟩
        · refine call_dr false hΩ 3 (hC _ 3 (by omega) (by omega) (by omega)) rfl rfl rfl (fun q6 x q6a q6b ⟨c6, hx⟩ => ?_)
          subst hx
          cbv
          refine br (fun h6 => ?_) (fun h6 => ?_) <;> cbv
          · refine br (fun h7 => ?_) (fun h7 => ?_) <;> cbv
            · exact ⟨⟨trivial, by decide, Nat.zero_le _, hlen1 h7⟩, _, _, .same, .same, hout3 q6 false (by omega) (by omega), rfl⟩
            · exact ⟨_, _, .same, .same, hout2 q6 false (by omega) (by omega), rfl⟩
          · exact ⟨_, _, .same, .same, hout2 q6 false (by omega) (by omega), rfl⟩
      · exact ⟨_, _, .same, .same, hout q4 (by omega) (by omega), rfl⟩
    · exact ⟨_, _, .same, .same, hout q3 (by omega) (by omega), rfl⟩
  · exact ⟨_, _, .same, .same, hout q3 (by omega) (by omega), rfl⟩
end Go.Proofs.YtomfmdfamlmfiaaGreat

/- Walks: who holds what is asked. Plain theorems. -/
set_option linter.unusedVariables false
set_option linter.unusedSimpArgs false
namespace Go.Proofs.YtomfmdfamlmfiaaGreat
open Go Go.Fw
set_option maxRecDepth 100000
def askC (c : List Pck) (s : List Int) (a : List Trm) : Int := if setF c s ≠ 0 then setF c s else if 8 < a.length then 2 else firstF trmF a
theorem c_asksCode (l : List Pck) (s : List Int) (a : List Trm) (hl : l.length ≤ 1048576) (hs : s.length ≤ 1048576) (ha : a.length ≤ 1048576) (ho : ∀ o ∈ l, o.Small) : PCtr PP n_impl_asksCode [encP l, .sl false 1 (s.map i64), .sl false 7 (a.map Trm.enc)] (i64 (askC l s a)) := by
  obtain ⟨Ω, hΩ⟩ : ∃ Ω, Ω = std := ⟨_, rfl⟩
  have h1 := c_implSetFault l s hl ho hs
  have h2 := c_termsFault a (by omega)
  obtain ⟨r, hr⟩ : ∃ r, r = askC l s a := ⟨_, rfl⟩
  rw [← hr]
  unfold askC at hr
  unfold encP at *
  obtain ⟨zs, hzs⟩ : ∃ zs, zs = a.map Trm.enc := ⟨_, rfl⟩
  have hlen : zs.length = a.length := by rw [hzs, List.length_map]
  rw [← hzs] at h2 ⊢
  rw [← hlen] at hr
  generalize setF l s = k1 at *
  generalize firstF trmF a = k2 at *
  generalize l.map (Pck.enc false) = xs at *
  generalize s.map i64 = ys at *
  clear hlen hzs
  have htab := tab
  have hmo := hmo
  refine PCtr.walk tab hΩ fn_impl_asksCode rfl ?_
  generalize PP = P at *
  cbv
  refine call_pure hΩ 3 h1 rfl (fits _) rfl rfl ?_
  cbv
  repeat' (first | (refine br (fun h => ?_) (fun h => ?_) <;> cbv) | (refine call_pure hΩ 3 h2 rfl (fits _) rfl rfl ?_; cbv))
  all_goals (refine .of (congrArg i64 ?_); clear h1 h2 htab hmo; subst hΩ; subst hr; simp_all [cmpIS])
  all_goals (intros; omega)
theorem c_l13Asked (l : List Pck) (s : List Int) (a : List Trm) (hl : l.length ≤ 1048576) (hs : s.length ≤ 1048576) (ha : a.length ≤ 1048576) (ho : ∀ o ∈ l, o.Small) : PCtr PP n_spec_l13Asked [encP l, .sl false 1 (s.map i64), .sl false 7 (a.map Trm.enc)] (i64 (askC l s a)) := by
  obtain ⟨Ω, hΩ⟩ : ∃ Ω, Ω = std := ⟨_, rfl⟩
  have h1 := c_specSetFault l s hl ho hs
  have h2 := c_l2Terms a (by omega)
  obtain ⟨r, hr⟩ : ∃ r, r = askC l s a := ⟨_, rfl⟩
  rw [← hr]
  unfold askC at hr
  unfold encP at *
  obtain ⟨zs, hzs⟩ : ∃ zs, zs = a.map Trm.enc := ⟨_, rfl⟩
  have hlen : zs.length = a.length := by rw [hzs, List.length_map]
  rw [← hzs] at h2 ⊢
  rw [← hlen] at hr
  generalize setF l s = k1 at *
  generalize firstF trmF a = k2 at *
  generalize l.map (Pck.enc false) = xs at *
  generalize s.map i64 = ys at *
  clear hlen hzs
  have htab := tab
  have hmo := hmo
  refine PCtr.walk tab hΩ fn_spec_l13Asked rfl ?_
  generalize PP = P at *
  cbv
  refine call_pure hΩ 3 h1 rfl (fits _) rfl rfl ?_
  cbv
  repeat' (first | (refine br (fun h => ?_) (fun h => ?_) <;> cbv) | (refine call_pure hΩ 3 h2 rfl (fits _) rfl rfl ?_; cbv))
  all_goals (refine .of (congrArg i64 ?_); clear h1 h2 htab hmo; subst hΩ; subst hr; simp_all [cmpIS])
  all_goals (intros; omega)
end Go.Proofs.YtomfmdfamlmfiaaGreat

/- Walks: what can be spared. Plain theorems. -/
set_option linter.unusedVariables false
set_option linter.unusedSimpArgs false
namespace Go.Proofs.YtomfmdfamlmfiaaGreat
open Go Go.Fw
set_option maxRecDepth 100000
theorem askC_set {c : List Pck} {s : List Int} {a : List Trm} (h : askC c s a = 0) : setF c s = 0 ∧ firstF trmF a = 0 := by
  unfold askC at h
  split at h
  · rename_i h0; exact absurd h h0
  · rename_i h0
    split at h
    · simp at h
    · exact ⟨Decidable.not_not.1 h0, h⟩
theorem rise_adj {s : List Int} : ∀ (n i : Nat), s.length - i = n → riseAll s i (s.drop i) = true → ∀ j x y, i ≤ j → 1 ≤ j → s[j - 1]? = some x → s[j]? = some y → x < y
  | 0, i, hn, _, j, x, y, hij, _, _, hy => by
    have := (List.getElem?_eq_some_iff.1 hy).1
    omega
  | n + 1, i, hn, h, j, x, y, hij, h1, hx, hy => by
    have hi : i < s.length := by omega
    rw [riseAll_at (List.getElem?_eq_getElem hi), Bool.and_eq_true] at h
    by_cases hji : j = i
    · subst hji
      have h2 := h.1
      rw [Bool.or_eq_true] at h2
      rcases h2 with h2 | h2
      · have : j = 0 := by simpa using h2
        omega
      · have h3 := of_decide_eq_true h2
        rw [List.getD_eq_getElem?_getD, hx] at h3
        rw [List.getElem?_eq_getElem hi] at hy
        cases hy
        exact h3
    · exact rise_adj n (i + 1) (by omega) h.2 j x y (by omega) h1 hx hy
theorem setF_rise {c : List Pck} {s : List Int} (h : setF c s = 0) : riseAll s 0 (s.drop 0) = true := by
  unfold setF at h
  split at h
  · rename_i h0; exact absurd h h0
  · split at h
    · rename_i h1
      rw [setOk_eq, Bool.and_eq_true] at h1
      exact h1.1
    · simp at h
theorem setF_lt {c : List Pck} {s : List Int} (h : setF c s = 0) : ∀ (d i : Nat) (x y : Int), s[i]? = some x → s[i + d + 1]? = some y → x < y
  | 0, i, x, y, hx, hy => rise_adj _ 0 rfl (setF_rise h) (i + 1) x y (by omega) (by omega) hx hy
  | d + 1, i, x, y, hx, hy => by
    have hlt := (List.getElem?_eq_some_iff.1 hy).1
    obtain ⟨z, hz⟩ : ∃ z, s[i + d + 1]? = some z := ⟨_, List.getElem?_eq_getElem (by omega)⟩
    have h1 := setF_lt h d i x z hx hz
    have h2 := rise_adj _ 0 rfl (setF_rise h) (i + (d + 1) + 1) z y (by omega) (by omega) hz hy
    omega
end Go.Proofs.YtomfmdfamlmfiaaGreat

/- Walks: do all of a set's asks hold? Plain theorems. -/
set_option linter.unusedVariables false
set_option linter.unusedSimpArgs false
namespace Go.Proofs.YtomfmdfamlmfiaaGreat
open Go Go.Fw
set_option maxRecDepth 100000
theorem c_lwHas (l : List Int) (s : Int) (hl : l.length ≤ 4611686018427387904) : PCtr PP n_laws_lwHas [.sl false 1 (l.map i64), i64 s] (boo (l.any (· == s))) := by
  obtain ⟨Ω, hΩ⟩ : ∃ Ω, Ω = std := ⟨_, rfl⟩
  obtain ⟨r, hr⟩ : ∃ r, r = l.any (· == s) := ⟨_, rfl⟩
  rw [← hr]
  obtain ⟨xs, hxs⟩ : ∃ xs, xs = l.map i64 := ⟨_, rfl⟩
  have hlen : xs.length = l.length := by rw [hxs, List.length_map]
  rw [← hxs]
  have htab := tab
  have hmo := hmo
  refine PCtr.walk tab hΩ fn_laws_lwHas rfl ?_
  generalize PP = P at *
  cbv
  refine loopX htab hΩ (fun i : Nat => ⟨[(0, .sl false 1 xs), (1, .sc (.int .i64 s)), (5, .sc (.int .i64 (Ω.int i)))], 18, []⟩) (fun i => i ≤ l.length ∧ r = (l.drop i).any (· == s)) (fun i => l.length - i) 0
    ⟨Nat.zero_le _, hr⟩ (Sbs.mk rfl rfl ⟨rfl, rfl, zeroI hΩ, trivial⟩) ?_
  rintro i ⟨hi, he⟩
  cbv
  refine br (fun h => ?_) (fun h => ?_) <;> cbv
  · replace h := ltI hΩ h
    obtain ⟨c, hcc⟩ := at_of (cs := l) (by omega : i < l.length)
    rw [any_at _ hcc] at he
    refine ⟨⟨nnI hΩ⟩, _, rdI hΩ hxs hcc, ?_⟩
    cbv
    refine br (fun g => ?_) (fun g => ?_) <;> cbv
    · exact .of (congrArg boo (by rw [he, show (c == s) = true by simp [eqI_t hΩ g]]; rfl))
    · rw [show (c == s) = false by simp [eqI_f hΩ g], Bool.false_or] at he
      exact ⟨i + 1, ⟨by omega, he⟩, by omega, Sbs.mk rfl rfl ⟨rfl, rfl, incI hΩ (by omega), trivial⟩⟩
  · replace h := geI hΩ h
    exact .of (congrArg boo (by rw [he, List.drop_of_length_le (by omega)]; rfl))
end Go.Proofs.YtomfmdfamlmfiaaGreat

/- Walks: draws of one of a set, and of all that is asked why. Plain theorems. -/
set_option linter.unusedVariables false
set_option linter.unusedSimpArgs false
namespace Go.Proofs.YtomfmdfamlmfiaaGreat
open Go Go.Fw
set_option maxRecDepth 100000
theorem d_l13At {bs : List A} (hb : Src bs) (l : List Pck) (s : List Int) (hl : l.length ≤ 40) (hs : s.length ≤ 1048576) (p : Int) (h0 : 0 ≤ p) (h1 : p + 10 ≤ 1099511627776) :
    XCtr PP n_spec_l13At [src bs p, encP l, .sl false 1 (s.map i64)] (DR bs p 10 [encP l, .sl false 1 (s.map i64)] fun x => ∃ t, x = i64 t) := by
  obtain ⟨Ω, hΩ⟩ : ∃ Ω, Ω = std := ⟨_, rfl⟩
  have hC := fun p n a b c => d_l1Chance hb p n a b c
  have hN := fun p n a b c => d_l1Next hb p n a b c
  have hP := fun p ns a b c d => d_l1Pick hb p ns a b c d
  obtain ⟨xs, hxs⟩ : ∃ xs, xs = s.map i64 := ⟨_, rfl⟩
  have hlen : xs.length = s.length := by rw [hxs, List.length_map]
  obtain ⟨cs, hcs⟩ : ∃ cs, cs = l.map (Pck.enc false) := ⟨_, rfl⟩
  have hcl : cs.length = l.length := by rw [hcs, List.length_map]
  unfold encP
  rw [← hcs, ← hxs]
  have hln : Ω.int (Ω.len xs) = (s.length : Int) := by subst hΩ; show ((xs.length : Nat) : Int) = _; rw [hlen]
  obtain ⟨sl, hsl⟩ : ∃ sl : Int, sl = (s.length : Int) := ⟨_, rfl⟩
  rw [← hsl] at hln
  have hsl1 : sl ≤ 4294967296 := by omega
  have hat : ∀ r, 0 ≤ r → r < sl → ∃ n, xs[r.toNat]? = some (i64 n) := fun r h0 h => by
    obtain ⟨n, hn⟩ := at_of (cs := s) (i := r.toNat) (by omega)
    exact ⟨n, by rw [hxs, List.getElem?_map, hn]; rfl⟩
  clear hsl
  have htab := tab
  have hmo := hmo
  refine XCtr.walkO tab hΩ 3 fn_spec_l13At rfl rfl ?_
  generalize PP = P at *
  cbv
  refine br (fun g1 => ?_) (fun g1 => ?_)
  · have g1 : 0 < sl := by
      have h : 0 < Ω.int (Ω.len xs) := gtI_t hΩ g1
      rwa [hln] at h
    cbv
    refine call_dr false hΩ 3 (hC _ 5 (by omega) (by omega) (by omega)) rfl rfl rfl (fun q1 x q1a q1b ⟨c1, hx⟩ => ?_)
    subst hx
    cbv
    refine br (fun g2 => ?_) (fun g2 => ?_) <;> cbv
    · refine call_dr false hΩ 3 (hN _ _ (by omega) (by omega) (show Ω.int (Ω.len xs) ≤ _ by rw [hln]; exact hsl1)) rfl rfl rfl (fun q2 x q2a q2b ⟨r, hx, hr⟩ => ?_)
      subst hx
      have hr := hr.2 (show 1 ≤ Ω.int (Ω.len xs) by rw [hln]; omega)
      have hr2 : r < sl := by
        have h : r < Ω.int (Ω.len xs) := hr.2
        rwa [hln] at h
      obtain ⟨n, hn⟩ := hat r hr.1 hr2
      cbv
      refine ⟨⟨hr.1⟩, _, hn, ?_⟩
      cbv
      exact ⟨_, _, .same, .same, ⟨q2, by omega, by omega, rfl, _, rfl⟩, rfl⟩
    · refine call_dr false hΩ 3 (hN _ 6 (by omega) (by omega) (by omega)) rfl rfl rfl (fun q2 x q2a q2b ⟨r, hx, hr⟩ => ?_)
      subst hx
      cbv
      refine call_pick (ns := [0, _, -1, _]) hΩ (hP _ _ (by omega) (by omega) (Nat.zero_lt_succ _) (Nat.le_of_ble_eq_true rfl)) rfl rfl rfl rfl (by decide) (fun q3 n q3a q3b hn => ?_)
      cbv
      exact ⟨_, _, .same, .same, ⟨q3, by omega, by omega, rfl, _, rfl⟩, rfl⟩
  · cbv
    refine call_dr false hΩ 3 (hN _ 6 (by omega) (by omega) (by omega)) rfl rfl rfl (fun q2 x q2a q2b ⟨r, hx, hr⟩ => ?_)
    subst hx
    cbv
    refine call_pick (ns := [0, _, -1, _]) hΩ (hP _ _ (by omega) (by omega) (Nat.zero_lt_succ _) (Nat.le_of_ble_eq_true rfl)) rfl rfl rfl rfl (by decide) (fun q3 n q3a q3b hn => ?_)
    cbv
    exact ⟨_, _, .same, .same, ⟨q3, by omega, by omega, rfl, _, rfl⟩, rfl⟩
/-- A catalog, a set, what is asked, one. -/
def csat (x : A) : Prop := ∃ (l : List Pck) (s : List Int) (ts : List Trm) (t : Int), x = .tup [encP l, .sl false 1 (s.map i64), .sl false 7 (ts.map Trm.enc), i64 t] ∧ (∀ o ∈ l, o.Small) ∧ l.length ≤ 40 ∧ s.length ≤ 1048576 ∧ ts.length ≤ 1048576
theorem d_DrawWhyOf {bs : List A} (hb : Src bs) : XCtr PP n_spec_DrawWhyOf [.sl false 1 bs] (D0 bs csat) := by
  obtain ⟨Ω, hΩ⟩ : ∃ Ω, Ω = std := ⟨_, rfl⟩
  have hS := c_l1Source bs
  have hD := d_l13Draw hb 0 (by omega) (by omega)
  have hA := fun l s a b p c d => d_l13At hb l s a b p c d
  have htab := tab
  refine XCtr.walkO tab hΩ 3 fn_spec_DrawWhyOf rfl rfl ?_
  generalize PP = P at *
  cbv
  refine call_share hΩ 3 hS rfl (fits _) rfl ?_
  cbv
  refine call_dr false hΩ 3 hD rfl rfl rfl (fun q1 x q1a q1b hx => ?_)
  obtain ⟨l, s, ts, rfl, h1, h2, h3, h4⟩ := hx
  have hcsa : ∀ t, csat (.tup [encP l, .sl false 1 (s.map i64), .sl false 7 (ts.map Trm.enc), i64 t]) := fun t => ⟨l, s, ts, t, rfl, h1, h2, h3, h4⟩
  replace hA := fun p c d => hA l s h2 h3 p c d
  unfold encP at *
  generalize l.map (Pck.enc false) = xs at *
  generalize s.map i64 = ys at *
  generalize ts.map Trm.enc = zs at *
  refine ⟨rfl, ?_⟩
  cbv
  refine call_dr false hΩ 3 (hA _ (by omega) (by omega)) rfl rfl rfl (fun q2 x q2a q2b ⟨t, hx⟩ => ?_)
  subst hx
  cbv
  exact ⟨_, _, .same, .same, ⟨rfl, hcsa t⟩, rfl⟩
theorem c_GivesTerm (o : Pck) (t : Trm) (ho : o.Small) : PCtr PP n_impl_GivesTerm [o.enc false, t.enc] (boo (decide (packF o = 0) && (decide (trmF t = 0) && givesB o t))) := by
  obtain ⟨Ω, hΩ⟩ : ∃ Ω, Ω = std := ⟨_, rfl⟩
  have h1 := c_implPackFault o ho
  have h2 := c_implTermFault t
  have h3 := c_gives o t ho.p
  obtain ⟨ps, ds, bs, hen, _, _, _⟩ := enc_raw o
  rw [hen] at h1 h3 ⊢
  generalize packF o = k1 at *
  generalize trmF t = k2 at *
  generalize givesB o t = b at *
  obtain ⟨r, hr⟩ : ∃ r, r = (decide (k1 = 0) && (decide (k2 = 0) && b)) := ⟨_, rfl⟩
  rw [← hr]
  obtain ⟨tn, ⟨ta, tb, tc⟩, ⟨td, te, tf⟩⟩ := t
  have htab := tab
  refine PCtr.walk tab hΩ fn_impl_GivesTerm rfl ?_
  generalize PP = P at *
  cbv
  refine call_pure hΩ 3 h1 rfl (fits _) rfl rfl ?_
  cbv
  refine br (fun g1 => ?_) (fun g1 => ?_) <;> cbv
  · have g1 : k1 = 0 := eqI_t hΩ g1
    refine call_pure hΩ 3 h2 rfl (fits _) rfl rfl ?_
    cbv
    refine br (fun g2 => ?_) (fun g2 => ?_) <;> cbv
    · have g2 : k2 = 0 := eqI_t hΩ (show Ω.cmp .eql k2 0 = true by subst hΩ; simpa [std] using g2)
      refine call_pure hΩ 3 h3 rfl (fits _) rfl rfl ?_
      cbv
      exact .of (congrArg boo (by rw [hr, g1, g2]; subst hΩ; rfl))
    · have g2 : k2 ≠ 0 := eqI_f hΩ (show Ω.cmp .eql k2 0 = false by subst hΩ; simpa [std] using g2)
      exact .of (congrArg boo (by rw [hr]; simp [g2]))
  · have g1 : k1 ≠ 0 := eqI_f hΩ g1
    exact .of (congrArg boo (by rw [hr]; simp [g1]))
end Go.Proofs.YtomfmdfamlmfiaaGreat

/- The law of sets in which nobody is barred, walked; what it says of plain data. Plain theorems. -/
set_option linter.unusedVariables false
set_option linter.unusedSimpArgs false
namespace Go.Proofs.YtomfmdfamlmfiaaGreat
open Go Go.Fw
set_option maxRecDepth 100000
theorem c_lwBig (bs : List A) : PCtr PP n_laws_lwBig [.sl false 1 bs] (boo (decide (1048576 < bs.length))) := by
  obtain ⟨Ω, hΩ⟩ : ∃ Ω, Ω = std := ⟨_, rfl⟩
  obtain ⟨r, hr⟩ : ∃ r, r = decide (1048576 < bs.length) := ⟨_, rfl⟩
  rw [← hr]
  have htab := tab
  refine PCtr.walk tab hΩ fn_laws_lwBig rfl ?_
  generalize PP = P at *
  cbv
  refine .of (congrArg boo ?_)
  subst hΩ
  show decide ((bs.length : Int) > 1048576) = r
  rw [hr, Bool.eq_iff_iff, decide_eq_true_eq, decide_eq_true_eq]; omega
end Go.Proofs.YtomfmdfamlmfiaaGreat

/- Ways: levels, the least way, the program's table of ways. Plain theorems. -/
set_option linter.unusedVariables false
set_option linter.unusedSimpArgs false
namespace Go.Proofs.YtomfmdfamlmfiaaGreat
/-- Which of two lists of numbers is less, as the reference tells it. -/
def lessL : List Int → List Int → Bool
  | a :: l, b :: m => if a = b then lessL l m else decide (a < b)
  | _, _ => false
theorem lessL_irr : ∀ l : List Int, lessL l l = false
  | [] => rfl
  | a :: l => by simp [lessL, lessL_irr l]
theorem lessL_asy : ∀ {l m : List Int}, lessL l m = true → lessL m l = false
  | [], _, h => by simp [lessL] at h
  | _ :: _, [], h => by simp [lessL] at h
  | a :: l, b :: m, h => by
    simp only [lessL] at h ⊢
    by_cases hab : a = b
    · subst hab
      simp only [if_pos] at h ⊢
      exact lessL_asy h
    · rw [if_neg hab] at h
      rw [if_neg (Ne.symm hab)]
      have : a < b := by simpa using h
      simpa using by omega
theorem lessL_trans : ∀ {l m n : List Int}, lessL l m = true → lessL m n = true → lessL l n = true
  | [], _, _, h, _ => by simp [lessL] at h
  | _ :: _, [], _, h, _ => by simp [lessL] at h
  | _ :: _, _ :: _, [], _, h => by simp [lessL] at h
  | a :: l, b :: m, c :: n, h1, h2 => by
    simp only [lessL] at h1 h2 ⊢
    by_cases hab : a = b
    · subst hab
      simp only [if_pos] at h1
      by_cases hac : a = c
      · subst hac
        simp only [if_pos] at h2 ⊢
        exact lessL_trans h1 h2
      · rw [if_neg hac] at h2 ⊢; exact h2
    · rw [if_neg hab] at h1
      have h1 : a < b := by simpa using h1
      by_cases hbc : b = c
      · subst hbc
        rw [if_neg hab]; simpa using h1
      · rw [if_neg hbc] at h2
        have h2 : b < c := by simpa using h2
        rw [if_neg (by omega)]
        simpa using by omega
theorem lessL_tot : ∀ {l m : List Int}, l.length = m.length → lessL l m = false → l = m ∨ lessL m l = true
  | [], [], _, _ => .inl rfl
  | [], _ :: _, h, _ => by simp at h
  | _ :: _, [], h, _ => by simp at h
  | a :: l, b :: m, hl, h => by
    simp only [lessL] at h ⊢
    by_cases hab : a = b
    · subst hab
      simp only [if_pos] at h ⊢
      rcases lessL_tot (by simpa using hl) h with h | h
      · exact .inl (by rw [h])
      · exact .inr h
    · rw [if_neg hab] at h
      rw [if_neg (Ne.symm hab)]
      have : ¬ a < b := by simpa using h
      exact .inr (by simpa using by omega)
theorem lessL_app : ∀ {l m : List Int} (x y : List Int), l.length = m.length → lessL l m = true → lessL (l ++ x) (m ++ y) = true
  | [], _, _, _, _, h => by simp [lessL] at h
  | _ :: _, [], _, _, h, _ => by simp at h
  | a :: l, b :: m, x, y, hl, h => by
    simp only [lessL, List.cons_append] at h ⊢
    by_cases hab : a = b
    · subst hab
      simp only [if_pos] at h ⊢
      exact lessL_app x y (by simpa using hl) h
    · rw [if_neg hab] at h ⊢; exact h
theorem lessL_same : ∀ (l : List Int) (a b : Int), a < b → lessL (l ++ [a]) (l ++ [b]) = true
  | [], a, b, h => by simp [lessL, show a ≠ b by omega, h]
  | c :: l, a, b, h => by simp [lessL, lessL_same l a b h]
/-- The least of some ways. -/
def bestW (p : Int → Bool) (W : Int → List Int) : List Int → List Int → List Int
  | b, [] => b
  | b, j :: js => bestW p W (if p j then (if b.length = 0 ∨ lessL (W j) b = true then W j else b) else b) js
structure BestOf (p : Int → Bool) (W : Int → List Int) (js : List Int) (b : List Int) : Prop where
  none : (∀ j ∈ js, p j = false) → b = []
  ex : (∃ j ∈ js, p j = true) → ∃ j ∈ js, p j = true ∧ b = W j
  le : ∀ j ∈ js, p j = true → b = W j ∨ lessL b (W j) = true
theorem bestW_of {p : Int → Bool} {W : Int → List Int} {n : Nat} (hn : ∀ j, p j = true → (W j).length = n + 1) : ∀ (js ds : List Int) (b : List Int), BestOf p W ds b → BestOf p W (ds ++ js) (bestW p W b js)
  | [], ds, b, h => by simpa [bestW] using h
  | j :: js, ds, b, h => by
    have key : BestOf p W (ds ++ [j]) (if p j then (if b.length = 0 ∨ lessL (W j) b = true then W j else b) else b) := by
      by_cases hp : p j = true
      · rw [if_pos hp]
        have hnone : ¬ (∀ i ∈ ds ++ [j], p i = false) := fun h => by
          have := h j (by simp)
          rw [hp] at this; cases this
        by_cases hb : b.length = 0 ∨ lessL (W j) b = true
        · rw [if_pos hb]
          refine ⟨fun h => absurd h hnone, fun _ => ⟨j, by simp, hp, rfl⟩, fun i hi hpi => ?_⟩
          rcases List.mem_append.1 hi with hi | hi
          · rcases hb with hb | hb
            · obtain ⟨i', hi', hp', e⟩ := h.ex ⟨i, hi, hpi⟩
              have := hn i' hp'
              rw [← e, hb] at this; cases this
            · rcases h.le i hi hpi with e | e
              · rw [← e]; exact .inr hb
              · exact .inr (lessL_trans hb e)
          · obtain rfl : i = j := by simpa using hi
            exact .inl rfl
        · rw [if_neg hb]
          have hb0 : b.length ≠ 0 := fun h => hb (.inl h)
          have hb1 : lessL (W j) b = false := by
            cases e : lessL (W j) b with
            | true => exact absurd (.inr e) hb
            | false => rfl
          have hex : ∃ i ∈ ds, p i = true := by
            rcases Classical.em (∃ i ∈ ds, p i = true) with h' | h'
            · exact h'
            · have := h.none fun i hi => by
                cases e : p i with
                | true => exact absurd ⟨i, hi, e⟩ h'
                | false => rfl
              rw [this] at hb0; exact absurd rfl hb0
          obtain ⟨i, hi, hpi, e⟩ := h.ex hex
          refine ⟨fun h => absurd h hnone, fun _ => ⟨i, by simp [hi], hpi, e⟩, fun i' hi' hpi' => ?_⟩
          rcases List.mem_append.1 hi' with hi' | hi'
          · exact h.le i' hi' hpi'
          · obtain rfl : i' = j := by simpa using hi'
            rcases lessL_tot (by rw [e, hn _ hp, hn _ hpi]) hb1 with e' | e'
            · exact .inl e'.symm
            · exact .inr e'
      · rw [if_neg hp]
        have hp' : p j = false := by simpa using hp
        refine ⟨fun h' => h.none fun i hi => h' i (by simp [hi]), fun ⟨i, hi, hpi⟩ => ?_, fun i hi hpi => ?_⟩
        · rcases List.mem_append.1 hi with hi | hi
          · obtain ⟨i', q1, q2, q3⟩ := h.ex ⟨i, hi, hpi⟩
            exact ⟨i', by simp [q1], q2, q3⟩
          · obtain rfl : i = j := by simpa using hi
            exact absurd hpi hp
        · rcases List.mem_append.1 hi with hi | hi
          · exact h.le i hi hpi
          · obtain rfl : i = j := by simpa using hi
            exact absurd hpi hp
    have := bestW_of hn js (ds ++ [j]) _ key
    rw [List.append_assoc] at this
    exact this
theorem bestW_ok {p : Int → Bool} {W : Int → List Int} {n : Nat} (hn : ∀ j, p j = true → (W j).length = n + 1) (js : List Int) : BestOf p W js (bestW p W [] js) := by
  simpa using bestW_of hn js [] [] ⟨fun _ => rfl, fun ⟨_, h, _⟩ => by simp at h, fun _ h => by simp at h⟩
section
variable (asks : Int → Bool) (lea : Int → Int → Bool) (set : List Int)
/-- Is k of level n; was it met up to level n. -/
def lvD : Nat → Int → Bool × Bool
  | 0, k => (asks k, asks k)
  | n + 1, k => (!(lvD n k).2 && set.any fun j => (lvD n j).1 && lea j k, (lvD n k).2 || (!(lvD n k).2 && set.any fun j => (lvD n j).1 && lea j k))
/-- The least way to k of level n. -/
def wayD : Nat → Int → List Int
  | 0, k => [k]
  | n + 1, k => bestW (fun j => (lvD asks lea set n j).1 && lea j k) (wayD n) [] set ++ [k]
/-- How far k is after n rounds. -/
def farV : Nat → Int → Int
  | 0, k => if asks k then 1 else -1
  | n + 1, k => if farV n k < 0 ∧ set.any (fun j => decide (farV n j = n + 1) && lea j k) = true then n + 2 else farV n k
end
section
variable {asks : Int → Bool} {lea : Int → Int → Bool} {set : List Int}
theorem lvD_seen : ∀ {n : Nat} {k : Int}, (lvD asks lea set n k).1 = true → (lvD asks lea set n k).2 = true
  | 0, k, h => h
  | n + 1, k, h => by simp only [lvD] at h ⊢; rw [h]; simp
theorem lvD_mono {n : Nat} {k : Int} (h : (lvD asks lea set n k).2 = true) : ∀ d : Nat, (lvD asks lea set (n + d) k).2 = true
  | 0 => h
  | d + 1 => by
    have := lvD_mono h d
    show (lvD asks lea set (n + d + 1) k).2 = true
    simp only [lvD, this, Bool.true_or]
theorem lvD_seen_iff : ∀ {n : Nat} {k : Int}, (lvD asks lea set n k).2 = true ↔ ∃ m, m ≤ n ∧ (lvD asks lea set m k).1 = true
  | 0, k => ⟨fun h => ⟨0, Nat.le_refl _, h⟩, fun ⟨m, hm, h⟩ => by
      obtain rfl : m = 0 := by omega
      exact lvD_seen h⟩
  | n + 1, k => by
    have ih := lvD_seen_iff (n := n) (k := k)
    constructor
    · intro h
      have h' : ((lvD asks lea set n k).2 || (lvD asks lea set (n + 1) k).1) = true := h
      rcases (Bool.or_eq_true _ _).mp h' with h' | h'
      · obtain ⟨m, h1, h2⟩ := ih.1 h'
        exact ⟨m, by omega, h2⟩
      · exact ⟨n + 1, Nat.le_refl _, h'⟩
    · rintro ⟨m, h1, h2⟩
      have := lvD_mono (lvD_seen h2) (n + 1 - m)
      rw [show m + (n + 1 - m) = n + 1 by omega] at this
      exact this
theorem lvD_one {m n : Nat} {k : Int} (h1 : (lvD asks lea set m k).1 = true) (h2 : (lvD asks lea set n k).1 = true) : m = n := by
  have key : ∀ {m n : Nat}, (lvD asks lea set m k).1 = true → (lvD asks lea set n k).1 = true → ¬ m < n := fun {m n} h1 h2 h => by
    obtain ⟨d, rfl⟩ : ∃ d, n = m + d + 1 := ⟨n - m - 1, by omega⟩
    have := lvD_mono (lvD_seen h1) d
    simp only [lvD, this, Bool.not_true, Bool.false_and] at h2
    cases h2
  have := key h1 h2
  have := key h2 h1
  omega
theorem wayD_len : ∀ {n : Nat} {k : Int}, (lvD asks lea set n k).1 = true → (wayD asks lea set n k).length = n + 1
  | 0, k, _ => rfl
  | n + 1, k, h => by
    have hb := bestW_ok (p := fun j => (lvD asks lea set n j).1 && lea j k) (W := wayD asks lea set n) (n := n) (fun j hj => wayD_len (by simp at hj; exact hj.1)) set
    simp only [lvD, Bool.and_eq_true, List.any_eq_true] at h
    obtain ⟨_, j, hj, hj2⟩ := h
    obtain ⟨i, hi, hp, e⟩ := hb.ex ⟨j, hj, by simpa using hj2⟩
    show (bestW _ _ [] set ++ [k]).length = _
    rw [e]
    have := wayD_len (n := n) (k := i) (by simp at hp; exact hp.1)
    simp [this]
theorem wayD_last (n : Nat) (k : Int) : (wayD asks lea set n k).getLast? = some k := by
  cases n with
  | zero => rfl
  | succ n => simp [wayD]
/-- A way goes on from one of the level ahead. -/
theorem wayD_succ {n : Nat} {k : Int} (h : (lvD asks lea set (n + 1) k).1 = true) : ∃ j ∈ set, (lvD asks lea set n j).1 = true ∧ lea j k = true ∧ wayD asks lea set (n + 1) k = wayD asks lea set n j ++ [k] := by
  have hb := bestW_ok (p := fun j => (lvD asks lea set n j).1 && lea j k) (W := wayD asks lea set n) (n := n) (fun j hj => wayD_len (by simp at hj; exact hj.1)) set
  simp only [lvD, Bool.and_eq_true, List.any_eq_true] at h
  obtain ⟨_, j, hj, hj2⟩ := h
  obtain ⟨i, hi, hp, e⟩ := hb.ex ⟨j, hj, by simpa using hj2⟩
  simp only [Bool.and_eq_true] at hp
  refine ⟨i, hi, hp.1, hp.2, ?_⟩
  show bestW _ _ [] set ++ [k] = _
  rw [e]
theorem farV_eq : ∀ {n : Nat} {k : Int}, (∀ m, m ≤ n → (farV asks lea set n k = m + 1 ↔ (lvD asks lea set m k).1 = true)) ∧ ((lvD asks lea set n k).2 = false → farV asks lea set n k = -1)
  | 0, k => by
    refine ⟨fun m hm => ?_, fun h => ?_⟩
    · obtain rfl : m = 0 := by omega
      simp only [farV, lvD]
      cases asks k <;> simp
    · have h : asks k = false := h
      simp [farV, h]
  | n + 1, k => by
    have ih := fun k => farV_eq (n := n) (k := k)
    have hany : set.any (fun j => decide (farV asks lea set n j = n + 1) && lea j k) = set.any (fun j => (lvD asks lea set n j).1 && lea j k) := by
      congr 1
      funext j
      have := (ih j).1 n (Nat.le_refl _)
      congr 1
      cases e : (lvD asks lea set n j).1 with
      | true => simpa using this.2 e
      | false => simpa using fun h => by rw [this.1 h] at e; cases e
    cases hs : (lvD asks lea set n k).2 with
    | true =>
      obtain ⟨m, hm, hd⟩ := lvD_seen_iff.1 hs
      have hf := ((ih k).1 m hm).2 hd
      have hfar : farV asks lea set (n + 1) k = m + 1 := by
        simp only [farV]
        rw [if_neg (fun h => by rw [hf] at h; omega), hf]
      refine ⟨fun m' hm' => ?_, fun h => ?_⟩
      · rw [hfar]
        constructor
        · intro h
          obtain rfl : m = m' := by omega
          exact hd
        · intro h
          obtain rfl := lvD_one hd h
          rfl
      · have := lvD_mono hs 1
        rw [this] at h; cases h
    | false =>
      have hf := (ih k).2 hs
      have hd1 : (lvD asks lea set (n + 1) k).1 = set.any (fun j => (lvD asks lea set n j).1 && lea j k) := by simp [lvD, hs]
      have hfar : farV asks lea set (n + 1) k = if (lvD asks lea set (n + 1) k).1 = true then ((n + 1 : Nat) : Int) + 1 else -1 := by
        simp only [farV]
        rw [hany, ← hd1, hf]
        by_cases h : (lvD asks lea set (n + 1) k).1 = true
        · rw [if_pos ⟨by omega, h⟩, if_pos h]; omega
        · rw [if_neg (fun h' => h h'.2), if_neg h]
      have hno : ∀ m, m ≤ n → (lvD asks lea set m k).1 = false := fun m hm => by
        cases e : (lvD asks lea set m k).1 with
        | false => rfl
        | true => rw [lvD_seen_iff.2 ⟨m, hm, e⟩] at hs; cases hs
      refine ⟨fun m hm => ?_, fun h => ?_⟩
      · rw [hfar]
        by_cases h : (lvD asks lea set (n + 1) k).1 = true
        · rw [if_pos h]
          constructor
          · intro h'
            obtain rfl : m = n + 1 := by omega
            exact h
          · intro h'
            rw [lvD_one h' h]
        · rw [if_neg h]
          constructor
          · intro h'; omega
          · intro h'
            exfalso
            rcases Nat.lt_or_ge n m with q | q
            · obtain rfl : m = n + 1 := by omega
              exact h h'
            · rw [hno m q] at h'; cases h'
      · rw [hfar, if_neg]
        intro h'
        rw [lvD_seen h'] at h; cases h
/-- A level has one of the set at the least. -/
theorem count_lt {p q : Int → Bool} : ∀ {l : List Int}, (∀ x ∈ l, p x = true → q x = true) → (∃ x ∈ l, q x = true ∧ p x = false) → (l.filter p).length + 1 ≤ (l.filter q).length
  | [], _, h => by obtain ⟨_, h, _⟩ := h; simp at h
  | y :: l, h1, h2 => by
    have mono : (l.filter p).length ≤ (l.filter q).length := by
      clear h2
      induction l with
      | nil => simp
      | cons z l ih =>
        have ih := ih fun x hx => h1 x (by rcases List.mem_cons.1 hx with rfl | hx <;> simp [*])
        simp only [List.filter_cons]
        cases hp : p z with
        | true => rw [if_pos rfl, if_pos (h1 z (by simp) hp)]; simpa using ih
        | false => rw [if_neg (by simp)]; split <;> simp <;> omega
    simp only [List.filter_cons]
    by_cases hy : q y = true ∧ p y = false
    · rw [if_pos hy.1, if_neg (by simp [hy.2])]; simp; omega
    · have h2' : ∃ x ∈ l, q x = true ∧ p x = false := by
        obtain ⟨x, hx, hq⟩ := h2
        rcases List.mem_cons.1 hx with rfl | hx
        · exact absurd hq hy
        · exact ⟨x, hx, hq⟩
      have ih := count_lt (l := l) (fun x hx => h1 x (.tail _ hx)) h2'
      cases hp : p y with
      | true => rw [if_pos rfl, if_pos (h1 y (by simp) hp)]; simp; omega
      | false => rw [if_neg (by simp)]; split <;> simp <;> omega
theorem lvD_count : ∀ {n : Nat}, (∃ k ∈ set, (lvD asks lea set n k).1 = true) → n + 1 ≤ (set.filter fun k => (lvD asks lea set n k).2).length
  | 0, ⟨k, hk, h⟩ => by
    have : k ∈ set.filter fun k => (lvD asks lea set 0 k).2 := by simp [hk, lvD_seen h]
    exact List.length_pos_of_mem this
  | n + 1, ⟨k, hk, h⟩ => by
    obtain ⟨j, hj, hd, _⟩ := wayD_succ h
    have ih := lvD_count (n := n) ⟨j, hj, hd⟩
    have := count_lt (l := set) (p := fun k => (lvD asks lea set n k).2) (q := fun k => (lvD asks lea set (n + 1) k).2) (fun x _ hx => lvD_mono hx 1) ⟨k, hk, lvD_seen h, by
      cases e : (lvD asks lea set n k).2 with
      | false => rfl
      | true => simp [lvD, e] at h⟩
    omega
theorem lvD_lt {n : Nat} {k : Int} (hk : k ∈ set) (h : (lvD asks lea set n k).1 = true) : n < set.length := by
  have h1 := lvD_count ⟨k, hk, h⟩
  have h2 := List.length_filter_le (fun k => (lvD asks lea set n k).2) set
  omega
theorem lvD_end {n : Nat} (h : ∀ k ∈ set, (lvD asks lea set n k).1 = false) : ∀ (d : Nat) (k : Int), k ∈ set → (lvD asks lea set (n + d) k).1 = false
  | 0, k, hk => h k hk
  | d + 1, k, hk => by
    cases e : (lvD asks lea set (n + (d + 1)) k).1 with
    | false => rfl
    | true =>
      obtain ⟨j, hj, hd, _⟩ := wayD_succ (n := n + d) e
      rw [lvD_end h d j hj] at hd; cases hd
end
/-- The end of a way. -/
def lastW (w : List Int) : Int := w.getLast?.getD 0
def getK : List (Int × List Int) → Int → Option (List Int)
  | [], _ => none
  | p :: l, k => if k = p.1 then some p.2 else getK l k
theorem getK_append : ∀ (a b : List (Int × List Int)) (k : Int), getK (a ++ b) k = (getK a k).or (getK b k)
  | [], b, k => rfl
  | p :: a, b, k => by
    simp only [List.cons_append, getK]
    split
    · rfl
    · exact getK_append a b k
theorem getK_map (f : Int → List Int) : ∀ (ks : List Int) (k : Int), getK (ks.map fun k => (k, f k)) k = if k ∈ ks then some (f k) else none
  | [], k => by simp [getK]
  | j :: ks, k => by
    simp only [List.map_cons, getK, getK_map f ks k, List.mem_cons]
    by_cases h : k = j
    · subst h; simp
    · simp [h]
/-- To whom a way goes on. -/
def newK (lea : Int → Int → Bool) (set : List Int) (out : List (Int × List Int)) (way : List Int) : List Int := set.filter fun k => (getK out k).isNone && lea (lastW way) k
def rowW (lea : Int → Int → Bool) (set : List Int) (st : List (Int × List Int) × List (List Int)) (way : List Int) : List (Int × List Int) × List (List Int) :=
  (st.1 ++ (newK lea set st.1 way).map (fun k => (k, way ++ [k])), st.2 ++ (newK lea set st.1 way).map (fun k => way ++ [k]))
/-- The program's table of ways and its level. -/
def tabW (asks : Int → Bool) (lea : Int → Int → Bool) (set : List Int) : Nat → List (Int × List Int) × List (List Int)
  | 0 => ((set.filter asks).map fun k => (k, [k]), (set.filter asks).map fun k => [k])
  | n + 1 => (tabW asks lea set n).2.foldl (rowW lea set) ((tabW asks lea set n).1, [])
def fstW (lea : Int → Int → Bool) (ws : List (List Int)) (k : Int) : Option (List Int) := ws.find? fun w => lea (lastW w) k
structure LInv (lea : Int → Int → Bool) (set : List Int) (out : List (Int × List Int)) (ws : List (List Int)) (st : List (Int × List Int) × List (List Int)) : Prop where
  get : ∀ k v, getK st.1 k = some v ↔ getK out k = some v ∨ (getK out k = none ∧ k ∈ set ∧ ∃ w, fstW lea ws k = some w ∧ v = w ++ [k])
  mem : ∀ v, v ∈ st.2 ↔ ∃ k, k ∈ set ∧ getK out k = none ∧ ∃ w, fstW lea ws k = some w ∧ v = w ++ [k]
  sort : st.2.Pairwise fun a b => lessL a b = true
section
variable {asks : Int → Bool} {lea : Int → Int → Bool} {set : List Int}
theorem LInv.nn {out : List (Int × List Int)} {ws : List (List Int)} {st : List (Int × List Int) × List (List Int)} (h : LInv lea set out ws st) (k : Int) (hk : k ∈ set) : getK st.1 k = none ↔ getK out k = none ∧ fstW lea ws k = none := by
  constructor
  · intro h0
    have h1 : getK out k = none := by
      cases e : getK out k with
      | none => rfl
      | some v => rw [(h.get k v).2 (.inl e)] at h0; cases h0
    refine ⟨h1, ?_⟩
    cases e : fstW lea ws k with
    | none => rfl
    | some w => rw [(h.get k _).2 (.inr ⟨h1, hk, w, e, rfl⟩)] at h0; cases h0
  · rintro ⟨h1, h2⟩
    cases e : getK st.1 k with
    | none => rfl
    | some v =>
      rcases (h.get k v).1 e with h3 | ⟨_, _, w, h3, _⟩
      · rw [h1] at h3; cases h3
      · rw [h2] at h3; cases h3
theorem fstW_snoc (ws : List (List Int)) (way : List Int) (k : Int) : fstW lea (ws ++ [way]) k = (fstW lea ws k).or (if lea (lastW way) k = true then some way else none) := by
  unfold fstW
  rw [List.find?_append]
  congr 1
  simp only [List.find?_cons, List.find?_nil]
  cases lea (lastW way) k <;> rfl
theorem LInv.step {out : List (Int × List Int)} {ws : List (List Int)} {way : List Int} {st : List (Int × List Int) × List (List Int)} (h : LInv lea set out ws st) (hset : set.Pairwise (· < ·)) {n : Nat} (hn : ∀ w ∈ ws ++ [way], w.length = n)
    (hs : (ws ++ [way]).Pairwise fun a b => lessL a b = true) : LInv lea set out (ws ++ [way]) (rowW lea set st way) := by
  have hnew : ∀ k, k ∈ newK lea set st.1 way ↔ k ∈ set ∧ (getK out k = none ∧ fstW lea ws k = none) ∧ lea (lastW way) k = true := fun k => by
    unfold newK
    rw [List.mem_filter, Bool.and_eq_true, Option.isNone_iff_eq_none]
    constructor
    · rintro ⟨a, b, c⟩; exact ⟨a, (h.nn k a).1 b, c⟩
    · rintro ⟨a, b, c⟩; exact ⟨a, (h.nn k a).2 b, c⟩
  refine ⟨fun k v => ?_, fun v => ?_, ?_⟩
  · show getK (st.1 ++ (newK lea set st.1 way).map (fun k => (k, way ++ [k]))) k = some v ↔ _
    rw [getK_append, getK_map (fun k => way ++ [k]), fstW_snoc]
    cases e : getK st.1 k with
    | some u =>
      have := (h.get k u).1 e
      simp only [Option.some_or, Option.some.injEq]
      constructor
      · rintro rfl
        rcases this with q | ⟨q1, q2, w, q3, q4⟩
        · exact .inl q
        · exact .inr ⟨q1, q2, w, by rw [q3]; rfl, q4⟩
      · intro hv
        rcases this with q | ⟨q1, q2, w, q3, q4⟩
        · rcases hv with hv | ⟨hv, _⟩
          · rw [q] at hv; exact Option.some.inj hv
          · rw [q] at hv; cases hv
        · rcases hv with hv | ⟨_, _, w', hv, rfl⟩
          · rw [q1] at hv; cases hv
          · rw [q3] at hv
            obtain rfl := Option.some.inj hv
            exact q4
    | none =>
      simp only [Option.none_or]
      by_cases hk : k ∈ newK lea set st.1 way
      · rw [if_pos hk]
        obtain ⟨a, ⟨b1, b2⟩, c⟩ := (hnew k).1 hk
        rw [b2, if_pos c, b1]
        simp [a, eq_comm]
      · rw [if_neg hk]
        constructor
        · intro h0; cases h0
        · rintro (h0 | ⟨h1, h2, w, h3, rfl⟩)
          · rw [(h.get k v).2 (.inl h0)] at e; cases e
          · exfalso
            have hn' := (h.nn k h2).1 e
            rw [hn'.2] at h3
            simp only [Option.none_or] at h3
            split at h3
            · rename_i hl; exact hk ((hnew k).2 ⟨h2, hn', hl⟩)
            · cases h3
  · show v ∈ st.2 ++ (newK lea set st.1 way).map (fun k => way ++ [k]) ↔ _
    rw [List.mem_append, h.mem v]
    constructor
    · rintro (⟨k, a, b, w, c, d⟩ | hv)
      · exact ⟨k, a, b, w, by rw [fstW_snoc, c]; rfl, d⟩
      · obtain ⟨k, hk, rfl⟩ := List.mem_map.1 hv
        obtain ⟨a, ⟨b1, b2⟩, c⟩ := (hnew k).1 hk
        exact ⟨k, a, b1, way, by rw [fstW_snoc, b2, if_pos c]; rfl, rfl⟩
    · rintro ⟨k, a, b, w, c, rfl⟩
      rw [fstW_snoc] at c
      cases e : fstW lea ws k with
      | some w' =>
        rw [e] at c
        obtain rfl := Option.some.inj c
        exact .inl ⟨k, a, b, _, e, rfl⟩
      | none =>
        rw [e] at c
        simp only [Option.none_or] at c
        split at c
        · rename_i hl
          obtain rfl := Option.some.inj c
          exact .inr (List.mem_map.2 ⟨k, (hnew k).2 ⟨a, ⟨b, e⟩, hl⟩, rfl⟩)
        · cases c
  · show (st.2 ++ (newK lea set st.1 way).map (fun k => way ++ [k])).Pairwise _
    rw [List.pairwise_append] at hs ⊢
    refine ⟨h.sort, ?_, ?_⟩
    · rw [List.pairwise_map]
      exact (hset.sublist List.filter_sublist).imp fun hab => lessL_same way _ _ hab
    · intro v hv u hu
      obtain ⟨k, _, _, w, hw, rfl⟩ := (h.mem v).1 hv
      obtain ⟨k', _, rfl⟩ := List.mem_map.1 hu
      have hwm : w ∈ ws := List.mem_of_find?_eq_some hw
      exact lessL_app _ _ (by rw [hn w (by simp [hwm]), hn way (by simp)]) (hs.2.2 w hwm way (by simp))
theorem LInv.all {out : List (Int × List Int)} (hset : set.Pairwise (· < ·)) {n : Nat} : ∀ (post ws : List (List Int)) (st : List (Int × List Int) × List (List Int)), LInv lea set out ws st → (∀ w ∈ ws ++ post, w.length = n) →
    (ws ++ post).Pairwise (fun a b => lessL a b = true) → LInv lea set out (ws ++ post) (post.foldl (rowW lea set) st)
  | [], ws, st, h, _, _ => by simpa using h
  | way :: post, ws, st, h, hn, hs => by
    have e : ws ++ way :: post = (ws ++ [way]) ++ post := by simp
    rw [e] at hn hs ⊢
    exact LInv.all hset post (ws ++ [way]) _ (h.step hset (fun w hw => hn w (by simp only [List.mem_append] at hw ⊢; exact .inl hw)) (List.pairwise_append.1 hs).1) hn hs
theorem LInv.init (out : List (Int × List Int)) : LInv lea set out [] (out, []) := by
  refine ⟨fun k v => ⟨.inl, ?_⟩, fun v => ⟨fun h => by simp at h, ?_⟩, by simp⟩
  · rintro (h | ⟨_, _, w, h, _⟩)
    · exact h
    · simp [fstW] at h
  · rintro ⟨_, _, _, w, h, _⟩
    simp [fstW] at h
theorem find_min {R : List Int → List Int → Prop} {p : List Int → Bool} {w : List Int} : ∀ {l : List (List Int)}, l.Pairwise R → l.find? p = some w → ∀ v ∈ l, p v = true → v = w ∨ R w v
  | [], _, h, _, _, _ => by simp at h
  | u :: l, hs, h, v, hv, hp => by
    rw [List.pairwise_cons] at hs
    rw [List.find?_cons] at h
    split at h
    · obtain rfl := Option.some.inj h
      rcases List.mem_cons.1 hv with rfl | hv
      · exact .inl rfl
      · exact .inr (hs.1 v hv)
    · rename_i hu
      rcases List.mem_cons.1 hv with rfl | hv
      · rw [hp] at hu; cases hu
      · exact find_min hs.2 h v hv hp
structure TabWOK (asks : Int → Bool) (lea : Int → Int → Bool) (set : List Int) (n : Nat) : Prop where
  sort : (tabW asks lea set n).2.Pairwise fun a b => lessL a b = true
  mem : ∀ v, v ∈ (tabW asks lea set n).2 ↔ ∃ k ∈ set, (lvD asks lea set n k).1 = true ∧ v = wayD asks lea set n k
  get : ∀ k v, getK (tabW asks lea set n).1 k = some v ↔ ∃ m, m ≤ n ∧ k ∈ set ∧ (lvD asks lea set m k).1 = true ∧ v = wayD asks lea set m k
theorem lastW_wayD (n : Nat) (k : Int) : lastW (wayD asks lea set n k) = k := by unfold lastW; rw [wayD_last]; rfl
theorem tabW_ok (hset : set.Pairwise (· < ·)) : ∀ n, TabWOK asks lea set n
  | 0 => by
    refine ⟨?_, fun v => ?_, fun k v => ?_⟩
    · show ((set.filter asks).map fun k => [k]).Pairwise _
      rw [List.pairwise_map]
      exact (hset.sublist List.filter_sublist).imp fun {a b} hab => by simpa using lessL_same [] a b hab
    · show v ∈ (set.filter asks).map (fun k => [k]) ↔ _
      simp only [List.mem_map, List.mem_filter, lvD, wayD]
      constructor
      · rintro ⟨k, ⟨a, b⟩, rfl⟩; exact ⟨k, a, b, rfl⟩
      · rintro ⟨k, a, b, rfl⟩; exact ⟨k, ⟨a, b⟩, rfl⟩
    · show getK ((set.filter asks).map fun k => (k, [k])) k = some v ↔ _
      rw [getK_map (fun k => [k])]
      constructor
      · intro h
        split at h
        · rename_i hk
          rw [List.mem_filter] at hk
          exact ⟨0, Nat.le_refl _, hk.1, hk.2, (Option.some.inj h).symm⟩
        · cases h
      · rintro ⟨m, hm, h1, h2, rfl⟩
        obtain rfl : m = 0 := by omega
        rw [if_pos (by rw [List.mem_filter]; exact ⟨h1, h2⟩)]
        rfl
  | n + 1 => by
    have ih := tabW_ok hset n
    have hlen : ∀ w ∈ [] ++ (tabW asks lea set n).2, w.length = n + 1 := fun w hw => by
      obtain ⟨k, hk, hd, rfl⟩ := (ih.mem w).1 (by simpa using hw)
      exact wayD_len hd
    have hl := LInv.all (out := (tabW asks lea set n).1) hset (n := n + 1) (tabW asks lea set n).2 [] _ (LInv.init (lea := lea) (set := set) _) hlen (by simpa using ih.sort)
    rw [List.nil_append] at hl
    have hnone : ∀ k ∈ set, (getK (tabW asks lea set n).1 k = none ↔ (lvD asks lea set n k).2 = false) := fun k hk => by
      constructor
      · intro h
        cases e : (lvD asks lea set n k).2 with
        | false => rfl
        | true =>
          obtain ⟨m, h1, h2⟩ := lvD_seen_iff.1 e
          rw [(ih.get k _).2 ⟨m, h1, hk, h2, rfl⟩] at h; cases h
      · intro h
        cases e : getK (tabW asks lea set n).1 k with
        | none => rfl
        | some v =>
          obtain ⟨m, h1, _, h2, _⟩ := (ih.get k v).1 e
          rw [lvD_seen_iff.2 ⟨m, h1, h2⟩] at h; cases h
    have key : ∀ k v, (k ∈ set ∧ getK (tabW asks lea set n).1 k = none ∧ ∃ w, fstW lea (tabW asks lea set n).2 k = some w ∧ v = w ++ [k]) ↔ (k ∈ set ∧ (lvD asks lea set (n + 1) k).1 = true ∧ v = wayD asks lea set (n + 1) k) := fun k v => by
      have hb := bestW_ok (p := fun j => (lvD asks lea set n j).1 && lea j k) (W := wayD asks lea set n) (n := n) (fun j hj => wayD_len (by simp at hj; exact hj.1)) set
      have hsame : ∀ w, fstW lea (tabW asks lea set n).2 k = some w → bestW (fun j => (lvD asks lea set n j).1 && lea j k) (wayD asks lea set n) [] set = w ∧ ∃ j ∈ set, ((lvD asks lea set n j).1 && lea j k) = true := fun w hw => by
        obtain ⟨j, hj, hd, e⟩ := (ih.mem w).1 (List.mem_of_find?_eq_some hw)
        have hl' : lea (lastW w) k = true := by
          unfold fstW at hw
          simpa using List.find?_some hw
        rw [e, lastW_wayD] at hl'
        have hp : ((lvD asks lea set n j).1 && lea j k) = true := by rw [hd, hl']; rfl
        refine ⟨?_, j, hj, hp⟩
        obtain ⟨i, hi, hpi, ei⟩ := hb.ex ⟨j, hj, hp⟩
        rw [Bool.and_eq_true] at hpi
        have h1 := find_min ih.sort hw (wayD asks lea set n i) ((ih.mem _).2 ⟨i, hi, hpi.1, rfl⟩) (by rw [lastW_wayD]; exact hpi.2)
        have h2 := hb.le j hj hp
        rw [← e] at h2
        rw [← ei] at h1
        rcases h1 with h1 | h1
        · exact h1
        · rcases h2 with h2 | h2
          · exact h2
          · rw [lessL_asy h1] at h2; cases h2
      constructor
      · rintro ⟨a, b, w, c, rfl⟩
        obtain ⟨q1, j, q2, q3⟩ := hsame w c
        refine ⟨a, ?_, ?_⟩
        · simp only [lvD, (hnone k a).1 b, Bool.not_false, Bool.true_and, List.any_eq_true]
          exact ⟨j, q2, q3⟩
        · show _ = bestW _ _ [] set ++ [k]
          rw [q1]
      · rintro ⟨a, b, rfl⟩
        have hs : (lvD asks lea set n k).2 = false := by
          cases e : (lvD asks lea set n k).2 with
          | false => rfl
          | true => simp [lvD, e] at b
        obtain ⟨j, hj, hd, hlj, e⟩ := wayD_succ b
        cases hf : fstW lea (tabW asks lea set n).2 k with
        | none =>
          have := List.find?_eq_none.1 hf (wayD asks lea set n j) ((ih.mem _).2 ⟨j, hj, hd, rfl⟩)
          rw [lastW_wayD] at this
          exact absurd hlj this
        | some w =>
          refine ⟨a, (hnone k a).2 hs, w, rfl, ?_⟩
          show bestW _ _ [] set ++ [k] = _
          rw [(hsame w hf).1]
    refine ⟨hl.sort, fun v => ?_, fun k v => ?_⟩
    · refine (hl.mem v).trans ⟨?_, ?_⟩
      · rintro ⟨k, h⟩; exact ⟨k, (key k v).1 h⟩
      · rintro ⟨k, h⟩; exact ⟨k, (key k v).2 h⟩
    · refine (hl.get k v).trans ?_
      rw [ih.get k v]
      constructor
      · rintro (⟨m, h1, h2, h3, h4⟩ | ⟨h1, h2, h3⟩)
        · exact ⟨m, by omega, h2, h3, h4⟩
        · obtain ⟨q1, q2, q3⟩ := (key k v).1 ⟨h2, h1, h3⟩
          exact ⟨n + 1, Nat.le_refl _, q1, q2, q3⟩
      · rintro ⟨m, h1, h2, h3, h4⟩
        rcases Nat.lt_or_ge n m with q | q
        · obtain rfl : m = n + 1 := by omega
          obtain ⟨q1, q2, q3⟩ := (key k v).2 ⟨h2, h3, h4⟩
          exact .inr ⟨q2, q1, q3⟩
        · exact .inl ⟨m, q, h2, h3, h4⟩
/-- As the reference tells the way to k: none is the empty one. -/
def whyV (asks : Int → Bool) (lea : Int → Int → Bool) (set : List Int) (k : Int) : List Int := if farV asks lea set set.length k < 0 then [] else wayD asks lea set (farV asks lea set set.length k - 1).toNat k
theorem whyV_of {k : Int} (hk : k ∈ set) {m : Nat} (h : (lvD asks lea set m k).1 = true) : whyV asks lea set k = wayD asks lea set m k := by
  have := ((farV_eq (asks := asks) (lea := lea) (set := set) (n := set.length) (k := k)).1 m (Nat.le_of_lt (lvD_lt hk h))).2 h
  unfold whyV
  rw [this, if_neg (by omega)]
  congr 1
  omega
theorem farV_neg {k : Int} (hk : k ∈ set) : farV asks lea set set.length k < 0 ↔ (∀ m, (lvD asks lea set m k).1 = false) := by
  have hf := farV_eq (asks := asks) (lea := lea) (set := set) (n := set.length) (k := k)
  constructor
  · intro h m
    cases e : (lvD asks lea set m k).1 with
    | false => rfl
    | true =>
      rw [(hf.1 m (Nat.le_of_lt (lvD_lt hk e))).2 e] at h
      omega
  · intro h
    rw [hf.2 ?_]
    · omega
    · cases e : (lvD asks lea set set.length k).2 with
      | false => rfl
      | true =>
        obtain ⟨m, _, hm⟩ := lvD_seen_iff.1 e
        rw [h m] at hm; cases hm
theorem whyV_nil {k : Int} (hk : k ∈ set) : (whyV asks lea set k).length = 0 ↔ farV asks lea set set.length k < 0 := by
  constructor
  · intro h
    rw [farV_neg hk]
    intro m
    cases e : (lvD asks lea set m k).1 with
    | false => rfl
    | true =>
      rw [whyV_of hk e, wayD_len e] at h
      cases h
  · intro h
    unfold whyV
    rw [if_pos h]; rfl
/-- The table at the end. -/
theorem getK_why (hset : set.Pairwise (· < ·)) {n : Nat} (he : (tabW asks lea set n).2 = []) {k : Int} (hk : k ∈ set) : (getK (tabW asks lea set n).1 k).getD [] = whyV asks lea set k := by
  have ht := tabW_ok (asks := asks) (lea := lea) hset n
  have h0 : ∀ k ∈ set, (lvD asks lea set n k).1 = false := fun k hk => by
    cases e : (lvD asks lea set n k).1 with
    | false => rfl
    | true =>
      have := (ht.mem _).2 ⟨k, hk, e, rfl⟩
      rw [he] at this
      simp at this
  cases e : getK (tabW asks lea set n).1 k with
  | some v =>
    obtain ⟨m, h1, h2, h3, rfl⟩ := (ht.get k v).1 e
    rw [whyV_of hk h3]; rfl
  | none =>
    have hneg : farV asks lea set set.length k < 0 := (farV_neg hk).2 fun m => by
      cases e2 : (lvD asks lea set m k).1 with
      | false => rfl
      | true =>
        have hm : m ≤ n := by
          rcases Nat.lt_or_ge n m with q | q
          · have := lvD_end h0 (m - n) k hk
            rw [show n + (m - n) = m by omega, e2] at this; cases this
          · exact q
        rw [(ht.get k _).2 ⟨m, hm, hk, e2, rfl⟩] at e; cases e
    unfold whyV
    rw [if_pos hneg]; rfl
theorem tabW_lt (hset : set.Pairwise (· < ·)) {n : Nat} (he : (tabW asks lea set n).2 ≠ []) : n < set.length := by
  have ht := tabW_ok (asks := asks) (lea := lea) hset n
  obtain ⟨v, hv⟩ := List.exists_mem_of_ne_nil _ he
  obtain ⟨k, hk, hd, _⟩ := (ht.mem v).1 hv
  exact lvD_lt hk hd
end
end Go.Proofs.YtomfmdfamlmfiaaGreat

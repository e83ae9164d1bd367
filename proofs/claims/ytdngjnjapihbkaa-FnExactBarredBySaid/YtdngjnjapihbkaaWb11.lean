/- Walks: sizes of packages. Plain theorems. -/
import Derived.Test.YtdngjnjapihbkaaWb10
set_option linter.unusedVariables false
set_option linter.unusedSimpArgs false
namespace Go.Proofs.Ytdngjnjapihbkaa
open Go Go.Fw
set_option maxRecDepth 100000
def szN (n : Nat) (l : Int) : Int := if l - n < 0 then -1 else l - n
def szT (t : Trm) (l : Int) : Int := szN t.n.length l
def szB (s : List UInt8) (l : Int) : Int := szN s.length l
def szP (o : Pck) (l : Int) : Int :=
  if szN o.n.length l < 0 then -1 else if szS szB o.p (szN o.n.length l) < 0 then -1 else
  if szS (szS szT) o.d (szS szB o.p (szN o.n.length l)) < 0 then -1 else
  if szS szT o.b (szS (szS szT) o.d (szS szB o.p (szN o.n.length l))) < 0 then -1 else szS szT o.b (szS (szS szT) o.d (szS szB o.p (szN o.n.length l)))
/-- What can stand in memory. -/
structure Pck.Fit (o : Pck) : Prop where
  n : o.n.length ≤ maxLen
  p : o.p.length ≤ maxLen ∧ ∀ s ∈ o.p, s.length ≤ maxLen
  d : o.d.length ≤ maxLen ∧ ∀ l ∈ o.d, l.length ≤ maxLen ∧ ∀ t ∈ l, t.n.length ≤ maxLen
  b : o.b.length ≤ maxLen ∧ ∀ t ∈ o.b, t.n.length ≤ maxLen
/-- f takes the cost g, or says -1. -/
def Costs {α : Type} (f : α → Int → Int) (g : α → Nat) : Prop := ∀ c l, f c l = if l - g c < 0 then -1 else l - g c
def costS {α : Type} (g : α → Nat) (cs : List α) : Nat := cs.length + (cs.map g).sum
theorem szLoop_cost {α : Type} {f : α → Int → Int} {g : α → Nat} (h : Costs f g) : ∀ (cs : List α) (l : Int), 0 ≤ l → szLoop f cs l = if l - (cs.map g).sum < 0 then -1 else l - (cs.map g).sum
  | [], l, h0 => by simp [szLoop]; omega
  | c :: cs, l, h0 => by
    rw [szLoop, h c l, List.map_cons, List.sum_cons]
    by_cases h1 : l - g c < 0
    · rw [if_pos h1, if_pos (by omega), if_pos (by omega)]
    · rw [if_neg h1, if_neg h1, szLoop_cost h cs _ (by omega)]
      by_cases h2 : l - g c - (cs.map g).sum < 0
      · rw [if_pos h2, if_pos (by omega)]
      · rw [if_neg h2, if_neg (by omega)]; omega
theorem szS_cost {α : Type} {f : α → Int → Int} {g : α → Nat} (h : Costs f g) : Costs (szS f) (costS g) := fun cs l => by
  unfold szS costS
  by_cases h1 : l - cs.length < 0
  · rw [if_pos h1, if_pos (by omega)]
  · rw [if_neg h1, szLoop_cost h cs _ (by omega)]
    by_cases h2 : l - cs.length - (cs.map g).sum < 0
    · rw [if_pos h2, if_pos (by omega)]
    · rw [if_neg h2, if_neg (by omega)]; omega
def cT (t : Trm) : Nat := t.n.length
def cB (s : List UInt8) : Nat := s.length
def cP (o : Pck) : Nat := o.n.length + (costS cB o.p + (costS (costS cT) o.d + costS cT o.b))
theorem szT_cost : Costs szT cT := fun _ _ => rfl
theorem szB_cost : Costs szB cB := fun _ _ => rfl
theorem szP_cost : Costs szP cP := fun o l => by
  unfold szP cP
  rw [show szN o.n.length l = if l - o.n.length < 0 then -1 else l - o.n.length from rfl, szS_cost (szS_cost szT_cost) o.d, szS_cost szT_cost o.b, szS_cost szB_cost o.p]
  generalize costS cB o.p = a
  generalize costS (costS cT) o.d = b
  generalize costS cT o.b = c
  generalize o.n.length = d
  repeat' split
  all_goals omega
theorem len_cost {α : Type} (g : α → Nat) (cs : List α) : cs.length ≤ costS g cs := by unfold costS; omega
theorem mem_cost {α : Type} (g : α → Nat) : ∀ (cs : List α), ∀ c ∈ cs, g c ≤ costS g cs
  | x :: cs, c, h => by
    unfold costS
    rw [List.map_cons, List.sum_cons, List.length_cons]
    rcases List.mem_cons.1 h with rfl | h
    · omega
    · have := mem_cost g cs c h; unfold costS at this; omega
theorem small_of {o : Pck} (h : cP o ≤ 1048576) : o.Small := by
  unfold cP at h
  refine ⟨?_, ?_, ?_, fun l hl => ?_⟩
  · have := len_cost cB o.p; omega
  · have := len_cost (costS cT) o.d; omega
  · have := len_cost cT o.b; omega
  · have h1 := mem_cost (costS cT) o.d l hl
    have h2 := len_cost cT l
    omega
theorem szN_w {n : Nat} {l : Int} (h0 : 0 ≤ l) (h1 : l ≤ 1048576) (hm : n ≤ maxLen) : IntKind.i64.wrap (l - n) = l - n := szw h0 h1 hm
theorem c_szTerm (t : Trm) (l : Int) (h0 : 0 ≤ l) (h1 : l ≤ 1048576) (hm : t.n.length ≤ maxLen) : PCtr PP n_laws_szTerm [t.enc, i64 l] (i64 (szT t l)) := by
  obtain ⟨Ω, hΩ⟩ : ∃ Ω, Ω = std := ⟨_, rfl⟩
  obtain ⟨r, hr⟩ : ∃ r, r = szT t l := ⟨_, rfl⟩
  rw [← hr]
  unfold szT szN at hr
  have hw := szN_w h0 h1 hm
  have htab := tab
  refine PCtr.walk tab hΩ fn_laws_szTerm rfl ?_
  generalize PP = P at *
  cbv
  refine br (fun h => ?_) (fun h => ?_) <;> cbv
  · refine .of (congrArg i64 ?_)
    subst hΩ
    have h : IntKind.i64.wrap (l - t.n.length) < 0 := lt_t h
    rw [hw] at h
    rw [hr, if_pos h]
  · refine .of (congrArg i64 ?_)
    subst hΩ
    have h : 0 ≤ IntKind.i64.wrap (l - t.n.length) := lt_f h
    show IntKind.i64.wrap (l - t.n.length) = r
    rw [hw] at h ⊢
    rw [hr, if_neg (by omega)]
theorem c_szTermS (cs : List (Trm)) (l : Int) (h0 : 0 ≤ l) (h1 : l ≤ 1048576) (hm : cs.length ≤ maxLen) (hc : ∀ c ∈ cs, c.n.length ≤ maxLen) : PCtr PP n_laws_szTermS [.sl false 7 (cs.map (Trm.enc)), i64 l] (i64 (szS szT cs l)) := by
  obtain ⟨Ω, hΩ⟩ : ∃ Ω, Ω = std := ⟨_, rfl⟩
  obtain ⟨r, hr⟩ : ∃ r, r = szS szT cs l := ⟨_, rfl⟩
  obtain ⟨xs, hxs⟩ : ∃ xs, xs = cs.map (Trm.enc) := ⟨_, rfl⟩
  have hlen : xs.length = cs.length := by rw [hxs, List.length_map]
  rw [← hxs, ← hr]
  have hel : ∀ c ∈ cs, ∀ y, 0 ≤ y → y ≤ 1048576 → PCtr PP n_laws_szTerm [c.enc, i64 y] (i64 (szT c y)) := fun c h y a b => c_szTerm c y a b (hc c h)
  have hle : ∀ c y, 0 ≤ szT c y → szT c y ≤ y := fun c y h => by
    have h2 := szT_cost c y
    rw [h2] at h ⊢
    split at h
    · omega
    · rename_i h3; rw [if_neg h3]; omega
  have htab := tab
  refine PCtr.walk tab hΩ fn_laws_szTermS rfl ?_
  generalize PP = P at *
  cbv
  refine br (fun h => ?_) (fun h => ?_)
  · replace h : r = -1 := by
      subst hΩ
      have h : IntKind.i64.wrap (l - xs.length) < 0 := lt_t h
      rw [hlen, szw h0 h1 hm] at h
      rw [hr, szS, if_pos h]
    cbv
    exact .of (congrArg i64 h.symm)
  obtain ⟨l', hl', h, hr⟩ : ∃ l', IntKind.i64.wrap (l - xs.length) = l' ∧ (0 ≤ l' ∧ l' ≤ 1048576) ∧ r = szLoop szT cs l' := by
    subst hΩ
    have h : 0 ≤ IntKind.i64.wrap (l - xs.length) := lt_f h
    rw [hlen, szw h0 h1 hm] at h ⊢
    exact ⟨_, rfl, ⟨h, by omega⟩, by rw [hr, szS, if_neg (by omega)]⟩
  cbv
  refine loopX htab hΩ (fun i : Nat × Int => ⟨[(0, .sl false 7 xs), (1, .sc (.int .i64 i.2)), (5, .sc (.int .i64 (Ω.int i.1)))], 27, []⟩) (fun i => i.1 ≤ cs.length ∧ (0 ≤ i.2 ∧ i.2 ≤ 1048576) ∧ r = szLoop szT (cs.drop i.1) i.2)
    (fun i => cs.length - i.1) (0, l') ⟨Nat.zero_le _, h, hr⟩ (Sbs.mk rfl rfl ⟨rfl, by subst hΩ; exact congrArg i64 hl', zeroI hΩ, trivial⟩) ?_
  rintro ⟨i, y⟩ ⟨hi, hy, he⟩
  dsimp only at hi hy he
  cbv
  refine br (fun h => ?_) (fun h => ?_)
  · replace h := ltI hΩ h
    obtain ⟨c, hcc⟩ := at_of (cs := cs) (by omega : i < cs.length)
    have hcm := List.mem_of_getElem? hcc
    rw [szLoop_at _ hcc] at he
    cbv
    have hcc' := hel c hcm y hy.1 hy.2
    refine ⟨⟨nnI hΩ⟩, _, rdI hΩ hxs hcc, ?_⟩
    cbv
    have hley := hle c y
    generalize szT c y = y' at he hcc' hley
    refine call_pure hΩ 3 hcc' rfl (fits _) rfl rfl ?_
    cbv
    refine br (fun h => ?_) (fun h => ?_) <;> cbv
    · exact .of (congrArg i64 (by rw [he, if_pos (ltI_t hΩ h)]))
    · have h := ltI_f hΩ h
      exact ⟨(i + 1, y'), ⟨by dsimp only; omega, ⟨h, by have := hley h; dsimp only; omega⟩, by rw [he, if_neg (by omega)]⟩, by dsimp only; omega, Sbs.mk rfl rfl ⟨rfl, rfl, incI hΩ (by simp only [maxLen] at hm; omega), trivial⟩⟩
  · replace h := geI hΩ h
    cbv
    exact .of (congrArg i64 (by rw [he, List.drop_of_length_le (by omega)]; rfl))
theorem c_szTermSS (cs : List (List Trm)) (l : Int) (h0 : 0 ≤ l) (h1 : l ≤ 1048576) (hm : cs.length ≤ maxLen) (hc : ∀ c ∈ cs, c.length ≤ maxLen ∧ ∀ t ∈ c, t.n.length ≤ maxLen) : PCtr PP n_laws_szTermSS [.sl false 1 (cs.map (encTs false)), i64 l] (i64 (szS (szS szT) cs l)) := by
  obtain ⟨Ω, hΩ⟩ : ∃ Ω, Ω = std := ⟨_, rfl⟩
  obtain ⟨r, hr⟩ : ∃ r, r = szS (szS szT) cs l := ⟨_, rfl⟩
  obtain ⟨xs, hxs⟩ : ∃ xs, xs = cs.map (encTs false) := ⟨_, rfl⟩
  have hlen : xs.length = cs.length := by rw [hxs, List.length_map]
  rw [← hxs, ← hr]
  have hel : ∀ c ∈ cs, ∀ y, 0 ≤ y → y ≤ 1048576 → PCtr PP n_laws_szTermS [.sl false 7 (c.map Trm.enc), i64 y] (i64 (szS szT c y)) := fun c h y a b => c_szTermS c y a b (hc c h).1 (hc c h).2
  have hle : ∀ c y, 0 ≤ (szS szT) c y → (szS szT) c y ≤ y := fun c y h => by
    have h2 := (szS_cost szT_cost) c y
    rw [h2] at h ⊢
    split at h
    · omega
    · rename_i h3; rw [if_neg h3]; omega
  have htab := tab
  refine PCtr.walk tab hΩ fn_laws_szTermSS rfl ?_
  generalize PP = P at *
  cbv
  refine br (fun h => ?_) (fun h => ?_)
  · replace h : r = -1 := by
      subst hΩ
      have h : IntKind.i64.wrap (l - xs.length) < 0 := lt_t h
      rw [hlen, szw h0 h1 hm] at h
      rw [hr, szS, if_pos h]
    cbv
    exact .of (congrArg i64 h.symm)
  obtain ⟨l', hl', h, hr⟩ : ∃ l', IntKind.i64.wrap (l - xs.length) = l' ∧ (0 ≤ l' ∧ l' ≤ 1048576) ∧ r = szLoop (szS szT) cs l' := by
    subst hΩ
    have h : 0 ≤ IntKind.i64.wrap (l - xs.length) := lt_f h
    rw [hlen, szw h0 h1 hm] at h ⊢
    exact ⟨_, rfl, ⟨h, by omega⟩, by rw [hr, szS, if_neg (by omega)]⟩
  cbv
  refine loopX htab hΩ (fun i : Nat × Int => ⟨[(0, .sl false 1 xs), (1, .sc (.int .i64 i.2)), (5, .sc (.int .i64 (Ω.int i.1)))], 27, []⟩) (fun i => i.1 ≤ cs.length ∧ (0 ≤ i.2 ∧ i.2 ≤ 1048576) ∧ r = szLoop (szS szT) (cs.drop i.1) i.2)
    (fun i => cs.length - i.1) (0, l') ⟨Nat.zero_le _, h, hr⟩ (Sbs.mk rfl rfl ⟨rfl, by subst hΩ; exact congrArg i64 hl', zeroI hΩ, trivial⟩) ?_
  rintro ⟨i, y⟩ ⟨hi, hy, he⟩
  dsimp only at hi hy he
  cbv
  refine br (fun h => ?_) (fun h => ?_)
  · replace h := ltI hΩ h
    obtain ⟨c, hcc⟩ := at_of (cs := cs) (by omega : i < cs.length)
    have hcm := List.mem_of_getElem? hcc
    rw [szLoop_at _ hcc] at he
    cbv
    have hcc' := hel c hcm y hy.1 hy.2
    obtain ⟨ts, hen2, hts⟩ : ∃ ts, encTs false c = .sl false 7 ts ∧ ts = c.map Trm.enc := ⟨_, rfl, rfl⟩
    rw [← hts] at hcc'
    refine ⟨⟨nnI hΩ⟩, _, (rdI hΩ hxs hcc).trans (congrArg some hen2), ?_⟩
    cbv
    have hley := hle c y
    generalize szS szT c y = y' at he hcc' hley
    refine call_pure hΩ 3 hcc' rfl (fits _) rfl rfl ?_
    cbv
    refine br (fun h => ?_) (fun h => ?_) <;> cbv
    · exact .of (congrArg i64 (by rw [he, if_pos (ltI_t hΩ h)]))
    · have h := ltI_f hΩ h
      exact ⟨(i + 1, y'), ⟨by dsimp only; omega, ⟨h, by have := hley h; dsimp only; omega⟩, by rw [he, if_neg (by omega)]⟩, by dsimp only; omega, Sbs.mk rfl rfl ⟨rfl, rfl, incI hΩ (by simp only [maxLen] at hm; omega), trivial⟩⟩
  · replace h := geI hΩ h
    cbv
    exact .of (congrArg i64 (by rw [he, List.drop_of_length_le (by omega)]; rfl))
theorem c_szStringS (cs : List (List UInt8)) (l : Int) (h0 : 0 ≤ l) (h1 : l ≤ 1048576) (hm : cs.length ≤ maxLen) (hc : ∀ c ∈ cs, c.length ≤ maxLen) : PCtr PP n_laws_szStringS [.sl false 1 (cs.map (str)), i64 l] (i64 (szS szB cs l)) := by
  obtain ⟨Ω, hΩ⟩ : ∃ Ω, Ω = std := ⟨_, rfl⟩
  obtain ⟨r, hr⟩ : ∃ r, r = szS szB cs l := ⟨_, rfl⟩
  obtain ⟨xs, hxs⟩ : ∃ xs, xs = cs.map (str) := ⟨_, rfl⟩
  have hlen : xs.length = cs.length := by rw [hxs, List.length_map]
  rw [← hxs, ← hr]
  have hel : ∀ c ∈ cs, ∀ y, 0 ≤ y → y ≤ 1048576 → True := fun _ _ _ _ _ => trivial
  have hle : ∀ c y, 0 ≤ szB c y → szB c y ≤ y := fun c y h => by
    have h2 := szB_cost c y
    rw [h2] at h ⊢
    split at h
    · omega
    · rename_i h3; rw [if_neg h3]; omega
  have htab := tab
  refine PCtr.walk tab hΩ fn_laws_szStringS rfl ?_
  generalize PP = P at *
  cbv
  refine br (fun h => ?_) (fun h => ?_)
  · replace h : r = -1 := by
      subst hΩ
      have h : IntKind.i64.wrap (l - xs.length) < 0 := lt_t h
      rw [hlen, szw h0 h1 hm] at h
      rw [hr, szS, if_pos h]
    cbv
    exact .of (congrArg i64 h.symm)
  obtain ⟨l', hl', h, hr⟩ : ∃ l', IntKind.i64.wrap (l - xs.length) = l' ∧ (0 ≤ l' ∧ l' ≤ 1048576) ∧ r = szLoop szB cs l' := by
    subst hΩ
    have h : 0 ≤ IntKind.i64.wrap (l - xs.length) := lt_f h
    rw [hlen, szw h0 h1 hm] at h ⊢
    exact ⟨_, rfl, ⟨h, by omega⟩, by rw [hr, szS, if_neg (by omega)]⟩
  cbv
  refine loopX htab hΩ (fun i : Nat × Int => ⟨[(0, .sl false 1 xs), (1, .sc (.int .i64 i.2)), (5, .sc (.int .i64 (Ω.int i.1)))], 28, []⟩) (fun i => i.1 ≤ cs.length ∧ (0 ≤ i.2 ∧ i.2 ≤ 1048576) ∧ r = szLoop szB (cs.drop i.1) i.2)
    (fun i => cs.length - i.1) (0, l') ⟨Nat.zero_le _, h, hr⟩ (Sbs.mk rfl rfl ⟨rfl, by subst hΩ; exact congrArg i64 hl', zeroI hΩ, trivial⟩) ?_
  rintro ⟨i, y⟩ ⟨hi, hy, he⟩
  dsimp only at hi hy he
  cbv
  refine br (fun h => ?_) (fun h => ?_)
  · replace h := ltI hΩ h
    obtain ⟨c, hcc⟩ := at_of (cs := cs) (by omega : i < cs.length)
    have hcm := List.mem_of_getElem? hcc
    rw [szLoop_at _ hcc] at he
    cbv
    obtain ⟨nc, hnc⟩ : ∃ nc : Int, (c.length : Int) = nc := ⟨_, rfl⟩
    have hn0 : 0 ≤ nc := by omega
    have hcw : IntKind.i64.wrap (y - nc) = y - nc := by rw [← hnc]; exact szw hy.1 hy.2 (hc c hcm)
    rw [show szB c y = if y - c.length < 0 then -1 else y - c.length from rfl, hnc] at he
    have hst : Ω.ar .sub .i64 y (Ω.int (Ω.lenS c)) = IntKind.i64.wrap (y - nc) := by subst hΩ; rw [← hnc]; rfl
    rw [hcw] at hst
    refine ⟨⟨nnI hΩ⟩, _, rdI hΩ hxs hcc, ?_⟩
    cbv
    refine br (fun h => ?_) (fun h => ?_) <;> cbv
    · refine .of (congrArg i64 ?_)
      have h : y - nc < 0 := by rw [← hst]; exact ltI_t hΩ h
      rw [he, if_pos h, if_pos (by omega)]
    · have h2 : 0 ≤ y - nc := by rw [← hst]; exact ltI_f hΩ h
      rw [if_neg (by omega), if_neg (by omega)] at he
      exact ⟨(i + 1, y - nc), ⟨by dsimp only; omega, ⟨h2, by dsimp only; omega⟩, he⟩, by dsimp only; omega, Sbs.mk rfl rfl ⟨rfl, congrArg i64 hst, incI hΩ (by simp only [maxLen] at hm; omega), trivial⟩⟩
  · replace h := geI hΩ h
    cbv
    exact .of (congrArg i64 (by rw [he, List.drop_of_length_le (by omega)]; rfl))
theorem c_szPack (o : Pck) (l : Int) (h0 : 0 ≤ l) (h1 : l ≤ 1048576) (hm : o.Fit) : PCtr PP n_laws_szPack [o.enc false, i64 l] (i64 (szP o l)) := by
  obtain ⟨Ω, hΩ⟩ : ∃ Ω, Ω = std := ⟨_, rfl⟩
  obtain ⟨r, hr⟩ : ∃ r, r = szP o l := ⟨_, rfl⟩
  rw [← hr]
  obtain ⟨ps, ds, bs, hen, hps, hds, hbs⟩ := enc_raw o
  rw [hen]
  have hw := szN_w h0 h1 hm.n
  have k1 : ∀ l, 0 ≤ l → l ≤ 1048576 → PCtr PP n_laws_szStringS [.sl false 1 ps, i64 l] (i64 (szS szB o.p l)) := fun l a b => by rw [hps]; exact c_szStringS o.p l a b hm.p.1 hm.p.2
  have k2 : ∀ l, 0 ≤ l → l ≤ 1048576 → PCtr PP n_laws_szTermSS [.sl false 1 ds, i64 l] (i64 (szS (szS szT) o.d l)) := fun l a b => by rw [hds]; exact c_szTermSS o.d l a b hm.d.1 hm.d.2
  have k3 : ∀ l, 0 ≤ l → l ≤ 1048576 → PCtr PP n_laws_szTermS [.sl false 7 bs, i64 l] (i64 (szS szT o.b l)) := fun l a b => by rw [hbs]; exact c_szTermS o.b l a b hm.b.1 hm.b.2
  have g1 : ∀ l, 0 ≤ szS szB o.p l → szS szB o.p l ≤ l := fun l h => by have := szS_cost szB_cost o.p l; split at this <;> omega
  have g2 : ∀ l, 0 ≤ szS (szS szT) o.d l → szS (szS szT) o.d l ≤ l := fun l h => by have := szS_cost (szS_cost szT_cost) o.d l; split at this <;> omega
  unfold szP at hr
  obtain ⟨nc, hnc⟩ : ∃ nc : Int, (o.n.length : Int) = nc := ⟨_, rfl⟩
  have hn0 : 0 ≤ nc := by omega
  rw [show szN o.n.length l = if l - o.n.length < 0 then -1 else l - o.n.length from rfl, hnc] at hr
  have hst : Ω.ar .sub .i64 l (Ω.int (Ω.lenS o.n)) = IntKind.i64.wrap (l - nc) := by subst hΩ; rw [← hnc]; rfl
  rw [hnc] at hw
  rw [hw] at hst
  generalize szS szB o.p = f1 at *
  generalize szS (szS szT) o.d = f2 at *
  generalize szS szT o.b = f3 at *
  have htab := tab
  refine PCtr.walk tab hΩ fn_laws_szPack rfl ?_
  generalize PP = P at *
  cbv
  refine br (fun h => ?_) (fun h => ?_) <;> cbv
  · refine .of (congrArg i64 ?_)
    have h : l - nc < 0 := by rw [← hst]; exact ltI_t hΩ h
    rw [hr, if_pos h]; rfl
  obtain ⟨l1, hl1, q0, q1, hr⟩ : ∃ l1, Ω.ar .sub .i64 l (Ω.int (Ω.lenS o.n)) = l1 ∧ 0 ≤ l1 ∧ l1 ≤ 1048576 ∧ r = if f1 l1 < 0 then -1 else if f2 (f1 l1) < 0 then -1 else if f3 (f2 (f1 l1)) < 0 then -1 else f3 (f2 (f1 l1)) := by
    have h : 0 ≤ l - nc := by rw [← hst]; exact ltI_f hΩ h
    have e : (if l - nc < 0 then -1 else l - nc) = l - nc := if_neg (by omega)
    refine ⟨l - nc, hst, h, by omega, ?_⟩
    rw [hr]
    simp only [e]
    rw [if_neg (by omega)]
  have k1' : PCtr P n_laws_szStringS [.sl false 1 ps, i64 (Ω.ar .sub .i64 l (Ω.int (Ω.lenS o.n)))] (i64 (f1 l1)) := by rw [hl1]; exact k1 l1 q0 q1
  have gg1 := g1 l1
  generalize f1 l1 = a1 at *
  refine call_pure hΩ 3 k1' rfl (fits _) rfl rfl ?_
  cbv
  refine br (fun h => ?_) (fun h => ?_) <;> cbv
  · exact .of (congrArg i64 (by rw [hr, if_pos (ltI_t hΩ h)]))
  have h := ltI_f hΩ h
  rw [if_neg (by omega)] at hr
  have k2' := k2 a1 h (by have := gg1 h; omega)
  have gg2 := g2 a1
  generalize f2 a1 = a2 at *
  refine call_pure hΩ 3 k2' rfl (fits _) rfl rfl ?_
  cbv
  refine br (fun h => ?_) (fun h => ?_) <;> cbv
  · exact .of (congrArg i64 (by rw [hr, if_pos (ltI_t hΩ h)]))
  have h' := ltI_f hΩ h
  rw [if_neg (by omega)] at hr
  have k3' := k3 a2 h' (by have := gg1 (by assumption); have := gg2 h'; omega)
  generalize f3 a2 = a3 at *
  refine call_pure hΩ 3 k3' rfl (fits _) rfl rfl ?_
  cbv
  refine br (fun h => ?_) (fun h => ?_) <;> cbv
  · exact .of (congrArg i64 (by rw [hr, if_pos (ltI_t hΩ h)]))
  have h3 := ltI_f hΩ h
  rw [if_neg (by omega)] at hr
  exact .of (congrArg i64 hr.symm)
theorem c_szPackS (cs : List (Pck)) (l : Int) (h0 : 0 ≤ l) (h1 : l ≤ 1048576) (hm : cs.length ≤ maxLen) (hc : ∀ c ∈ cs, c.Fit) : PCtr PP n_laws_szPackS [.sl false 8 (cs.map (Pck.enc false)), i64 l] (i64 (szS szP cs l)) := by
  obtain ⟨Ω, hΩ⟩ : ∃ Ω, Ω = std := ⟨_, rfl⟩
  obtain ⟨r, hr⟩ : ∃ r, r = szS szP cs l := ⟨_, rfl⟩
  obtain ⟨xs, hxs⟩ : ∃ xs, xs = cs.map (Pck.enc false) := ⟨_, rfl⟩
  have hlen : xs.length = cs.length := by rw [hxs, List.length_map]
  rw [← hxs, ← hr]
  have hel : ∀ c ∈ cs, ∀ y, 0 ≤ y → y ≤ 1048576 → PCtr PP n_laws_szPack [Pck.enc false c, i64 y] (i64 (szP c y)) := fun c h y a b => c_szPack c y a b (hc c h)
  have hle : ∀ c y, 0 ≤ szP c y → szP c y ≤ y := fun c y h => by
    have h2 := szP_cost c y
    rw [h2] at h ⊢
    split at h
    · omega
    · rename_i h3; rw [if_neg h3]; omega
  have htab := tab
  refine PCtr.walk tab hΩ fn_laws_szPackS rfl ?_
  generalize PP = P at *
  cbv
  refine br (fun h => ?_) (fun h => ?_)
  · replace h : r = -1 := by
      subst hΩ
      have h : IntKind.i64.wrap (l - xs.length) < 0 := lt_t h
      rw [hlen, szw h0 h1 hm] at h
      rw [hr, szS, if_pos h]
    cbv
    exact .of (congrArg i64 h.symm)
  obtain ⟨l', hl', h, hr⟩ : ∃ l', IntKind.i64.wrap (l - xs.length) = l' ∧ (0 ≤ l' ∧ l' ≤ 1048576) ∧ r = szLoop szP cs l' := by
    subst hΩ
    have h : 0 ≤ IntKind.i64.wrap (l - xs.length) := lt_f h
    rw [hlen, szw h0 h1 hm] at h ⊢
    exact ⟨_, rfl, ⟨h, by omega⟩, by rw [hr, szS, if_neg (by omega)]⟩
  cbv
  refine loopX htab hΩ (fun i : Nat × Int => ⟨[(0, .sl false 8 xs), (1, .sc (.int .i64 i.2)), (5, .sc (.int .i64 (Ω.int i.1)))], 27, []⟩) (fun i => i.1 ≤ cs.length ∧ (0 ≤ i.2 ∧ i.2 ≤ 1048576) ∧ r = szLoop szP (cs.drop i.1) i.2)
    (fun i => cs.length - i.1) (0, l') ⟨Nat.zero_le _, h, hr⟩ (Sbs.mk rfl rfl ⟨rfl, by subst hΩ; exact congrArg i64 hl', zeroI hΩ, trivial⟩) ?_
  rintro ⟨i, y⟩ ⟨hi, hy, he⟩
  dsimp only at hi hy he
  cbv
  refine br (fun h => ?_) (fun h => ?_)
  · replace h := ltI hΩ h
    obtain ⟨c, hcc⟩ := at_of (cs := cs) (by omega : i < cs.length)
    have hcm := List.mem_of_getElem? hcc
    rw [szLoop_at _ hcc] at he
    cbv
    have hcc' := hel c hcm y hy.1 hy.2
    obtain ⟨ps, ds, bs, hen, hps, hds, hbs⟩ := enc_raw c
    rw [hen] at hcc'
    refine ⟨⟨nnI hΩ⟩, _, (rdI hΩ hxs hcc).trans (congrArg some hen), ?_⟩
    cbv
    have hley := hle c y
    generalize szP c y = y' at he hcc' hley
    refine call_pure hΩ 3 hcc' rfl (fits _) rfl rfl ?_
    cbv
    refine br (fun h => ?_) (fun h => ?_) <;> cbv
    · exact .of (congrArg i64 (by rw [he, if_pos (ltI_t hΩ h)]))
    · have h := ltI_f hΩ h
      exact ⟨(i + 1, y'), ⟨by dsimp only; omega, ⟨h, by have := hley h; dsimp only; omega⟩, by rw [he, if_neg (by omega)]⟩, by dsimp only; omega, Sbs.mk rfl rfl ⟨rfl, rfl, incI hΩ (by simp only [maxLen] at hm; omega), trivial⟩⟩
  · replace h := geI hΩ h
    cbv
    exact .of (congrArg i64 (by rw [he, List.drop_of_length_le (by omega)]; rfl))
end Go.Proofs.Ytdngjnjapihbkaa

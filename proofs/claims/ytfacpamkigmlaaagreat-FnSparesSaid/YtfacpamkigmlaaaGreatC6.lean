/- Walks: do all of a set's asks hold? Plain theorems. -/
import Derived.Test.YtfacpamkigmlaaaGreatC5
import Derived.Deep.Slices
import Derived.ChangeStays
import Derived.OpenShut
import Derived.WalkKit
import Derived.ProofKit
set_option linter.unusedVariables false
set_option linter.unusedSimpArgs false
namespace Go.Proofs.YtfacpamkigmlaaaGreat
open Go Go.Fw
set_option maxRecDepth 100000
theorem c_implHoldsAll (l : List Pck) (s : List Int) (a : List Trm) (hl : l.length ≤ 1048576) (hs : s.length ≤ 1048576) (ha : a.length ≤ 1048576) (ho : ∀ o ∈ l, o.Small) :
    PCtr PP n_impl_HoldsAll [encP l, .sl false 1 (s.map i64), .sl false 7 (a.map Trm.enc)] (boo (decide (setF l s = 0) && (decide (firstF trmF a = 0) && holdB l s a))) := by
  obtain ⟨Ω, hΩ⟩ : ∃ Ω, Ω = std := ⟨_, rfl⟩
  have hc := c_implSetFault l s hl ho hs
  have ht := c_termsFault a (by omega)
  have hk : setF l s = 0 → PCtr PP n_impl_holds [encP l, .sl false 1 (s.map i64), .sl false 7 (a.map Trm.enc)] (boo (holdB l s a)) := fun h => c_holds l s a hl hs ha ho (setF_in h)
  obtain ⟨r, hr⟩ : ∃ r, r = (decide (setF l s = 0) && (decide (firstF trmF a = 0) && holdB l s a)) := ⟨_, rfl⟩
  rw [← hr]
  generalize setF l s = k at *
  generalize firstF trmF a = f at *
  generalize holdB l s a = b at *
  unfold encP at *
  generalize l.map (Pck.enc false) = xs at *
  generalize s.map i64 = ys at *
  generalize a.map Trm.enc = zs at *
  have htab := tab
  refine PCtr.walk tab hΩ fn_impl_HoldsAll rfl ?_
  generalize PP = P at *
  cbv
  refine call_pure hΩ 3 hc rfl (fits _) rfl rfl ?_
  cbv
  refine br (fun h => ?_) (fun h => ?_) <;> cbv
  · have h := eqI_t hΩ h
    replace hk := hk h
    repeat' (first | (refine br (fun h => ?_) (fun h => ?_) <;> cbv) | (refine call_pure hΩ 3 ht rfl (fits _) rfl rfl ?_; cbv) | (refine call_pure hΩ 3 hk rfl (fits _) rfl rfl ?_; cbv))
    all_goals (refine .of (congrArg boo ?_); subst hΩ; subst hr; simp_all [cmpIS])
  · have h := eqI_f hΩ h
    repeat' (first | (refine br (fun h => ?_) (fun h => ?_) <;> cbv))
    all_goals (refine .of (congrArg boo ?_); subst hΩ; subst hr; simp_all [cmpIS])
theorem c_specHoldsAll (l : List Pck) (s : List Int) (a : List Trm) (hl : l.length ≤ 1048576) (hs : s.length ≤ 1048576) (ha : a.length ≤ 1048576) (ho : ∀ o ∈ l, o.Small) (hf : firstF trmF a = 0) :
    PCtr PP n_spec_HoldsAll [encP l, .sl false 1 (s.map i64), .sl false 7 (a.map Trm.enc)] (boo (decide (setF l s = 0) && holdB l s a)) := by
  obtain ⟨Ω, hΩ⟩ : ∃ Ω, Ω = std := ⟨_, rfl⟩
  have hc := c_specConsistent l s hl hs ho
  have hk : (decide (setF l s = 0) && consB l s) = true → PCtr PP n_spec_l3Holds [encP l, .sl false 1 (s.map i64), .sl false 7 (a.map Trm.enc)] (boo (a.all fun t => s.any fun k => givesB (pk l k) t)) := fun h => by
    simp only [Bool.and_eq_true, decide_eq_true_eq] at h
    exact c_l3Holds l s a hl hs ha ho (setF_in h.1) hf
  obtain ⟨r, hr⟩ : ∃ r, r = (decide (setF l s = 0) && holdB l s a) := ⟨_, rfl⟩
  rw [← hr]
  unfold holdB at hr
  rw [← Bool.and_assoc] at hr
  generalize (decide (setF l s = 0) && consB l s) = k at *
  generalize (a.all fun t => s.any fun k => givesB (pk l k) t) = b at *
  unfold encP at *
  generalize l.map (Pck.enc false) = xs at *
  generalize s.map i64 = ys at *
  generalize a.map Trm.enc = zs at *
  have htab := tab
  refine PCtr.walk tab hΩ fn_spec_HoldsAll rfl ?_
  generalize PP = P at *
  cbv
  refine call_pure hΩ 3 hc rfl (fits _) rfl rfl ?_
  cbv
  refine br (fun h => ?_) (fun h => ?_) <;> cbv
  · refine call_pure hΩ 3 (hk h) rfl (fits _) rfl rfl ?_
    cbv
    refine .of (congrArg boo ?_); subst hΩ; subst hr; rw [show k = true from h]; rfl
  · refine .of (congrArg boo ?_); subst hΩ; subst hr; rw [show k = false from h]; rfl
theorem c_lwHas (l : List Int) (s : Int) (hl : l.length ≤ 4611686018427387904) : PCtr PP n_laws_lwHas [.sl false 1 (l.map i64), i64 s] (boo (l.any (· == s))) := by
  obtain ⟨Ω, hΩ⟩ : ∃ Ω, Ω = std := ⟨_, rfl⟩
  obtain ⟨r, hr⟩ : ∃ r, r = l.any (· == s) := ⟨_, rfl⟩
  rw [← hr]
  obtain ⟨xs, hxs⟩ : ∃ xs, xs = l.map i64 := ⟨_, rfl⟩
  have hlen : xs.length = l.length := by rw [hxs, List.length_map]
  rw [← hxs]
  have htab := tab
  have hmo := hmo
  refine PCtr.walk tab hΩ fn_laws_lwHas rfl ?_
  generalize PP = P at *
  cbv
  refine loopX htab hΩ (fun i : Nat => ⟨[(0, .sl false 1 xs), (1, .sc (.int .i64 s)), (5, .sc (.int .i64 (Ω.int i)))], 18, []⟩) (fun i => i ≤ l.length ∧ r = (l.drop i).any (· == s)) (fun i => l.length - i) 0
    ⟨Nat.zero_le _, hr⟩ (Sbs.mk rfl rfl ⟨rfl, rfl, zeroI hΩ, trivial⟩) ?_
  rintro i ⟨hi, he⟩
  cbv
  refine br (fun h => ?_) (fun h => ?_) <;> cbv
  · replace h := ltI hΩ h
    obtain ⟨c, hcc⟩ := at_of (cs := l) (by omega : i < l.length)
    rw [any_at _ hcc] at he
    refine ⟨⟨nnI hΩ⟩, _, rdI hΩ hxs hcc, ?_⟩
    cbv
    refine br (fun g => ?_) (fun g => ?_) <;> cbv
    · exact .of (congrArg boo (by rw [he, show (c == s) = true by simp [eqI_t hΩ g]]; rfl))
    · rw [show (c == s) = false by simp [eqI_f hΩ g], Bool.false_or] at he
      exact ⟨i + 1, ⟨by omega, he⟩, by omega, Sbs.mk rfl rfl ⟨rfl, rfl, incI hΩ (by omega), trivial⟩⟩
  · replace h := geI hΩ h
    exact .of (congrArg boo (by rw [he, List.drop_of_length_le (by omega)]; rfl))
theorem d_DrawSpareOf {bs : List A} (hb : Src bs) : XCtr PP n_spec_DrawSpareOf [.sl false 1 bs] (D0 bs csa) := by
  obtain ⟨Ω, hΩ⟩ : ∃ Ω, Ω = std := ⟨_, rfl⟩
  have hS := c_l1Source bs
  have hD := d_l13Draw hb 0 (by omega) (by omega)
  have htab := tab
  refine XCtr.walkO tab hΩ 3 fn_spec_DrawSpareOf rfl rfl ?_
  generalize PP = P at *
  cbv
  refine call_share hΩ 3 hS rfl (fits _) rfl ?_
  cbv
  refine call_dr false hΩ 3 hD rfl rfl rfl (fun q1 x q1a q1b hx => ?_)
  obtain ⟨l, s, ts, rfl, h1, h2, h3, h4⟩ := hx
  have hcsa : csa (.tup [encP l, .sl false 1 (s.map i64), .sl false 7 (ts.map Trm.enc)]) := ⟨l, s, ts, rfl, h1, h2, h3, h4⟩
  unfold encP at *
  generalize l.map (Pck.enc false) = xs at *
  generalize s.map i64 = ys at *
  generalize ts.map Trm.enc = zs at *
  cbv
  exact ⟨_, _, .same, .same, ⟨rfl, hcsa⟩, rfl⟩
theorem rise_of {s : List Int} (h : s.Pairwise (· < ·)) : ∀ (n i : Nat), s.length - i = n → riseAll s i (s.drop i) = true
  | 0, i, hn => by rw [List.drop_of_length_le (by omega)]; rfl
  | n + 1, i, hn => by
    have hi : i < s.length := by omega
    rw [riseAll_at (List.getElem?_eq_getElem hi), rise_of h n (i + 1) (by omega), Bool.and_true, Bool.or_eq_true]
    cases i with
    | zero => exact .inl rfl
    | succ i =>
      refine .inr (decide_eq_true ?_)
      rw [Nat.add_sub_cancel, List.getD_eq_getElem?_getD, List.getElem?_eq_getElem (by omega)]
      exact List.pairwise_iff_getElem.1 h i (i + 1) (by omega) (by omega) (by omega)
theorem setF_pw {c : List Pck} {s : List Int} (h : setF c s = 0) : s.Pairwise (· < ·) := by
  rw [List.pairwise_iff_getElem]
  intro i j hi hj hij
  exact setF_lt h (j - i - 1) i _ _ (List.getElem?_eq_getElem hi) (by rw [show i + (j - i - 1) + 1 = j by omega]; exact List.getElem?_eq_getElem hj)
theorem setF_sub {c : List Pck} {s : List Int} (h : setF c s = 0) (k : Int) : setF c (butF s k) = 0 := by
  have h1 : (butF s k).Pairwise (· < ·) := (setF_pw h).filter _
  have h2 : ∀ o ∈ butF s k, inB o 0 ((c.length : Int) - 1) = true := fun o ho => setF_in h o (List.mem_filter.1 ho).1
  have h3 : catF c = 0 := by
    unfold setF at h
    split at h
    · rename_i h0; exact absurd h h0
    · rename_i h0; exact Decidable.not_not.1 h0
  unfold setF
  rw [if_neg (by simp [h3]), if_pos]
  rw [setOk_eq, Bool.and_eq_true]
  exact ⟨by simpa using rise_of h1 _ 0 rfl, List.all_eq_true.2 h2⟩
end Go.Proofs.YtfacpamkigmlaaaGreat

/- The law of sets in which nobody is barred, walked; what it says of plain data. Plain theorems. -/
set_option linter.unusedVariables false
set_option linter.unusedSimpArgs false
namespace Go.Proofs.YtfacpamkigmlaaaGreat
open Go Go.Fw
set_option maxRecDepth 100000
theorem c_lwBig (bs : List A) : PCtr PP n_laws_lwBig [.sl false 1 bs] (boo (decide (1048576 < bs.length))) := by
  obtain ⟨Ω, hΩ⟩ : ∃ Ω, Ω = std := ⟨_, rfl⟩
  obtain ⟨r, hr⟩ : ∃ r, r = decide (1048576 < bs.length) := ⟨_, rfl⟩
  rw [← hr]
  have htab := tab
  refine PCtr.walk tab hΩ fn_laws_lwBig rfl ?_
  generalize PP = P at *
  cbv
  refine .of (congrArg boo ?_)
  subst hΩ
  show decide ((bs.length : Int) > 1048576) = r
  rw [hr, Bool.eq_iff_iff, decide_eq_true_eq, decide_eq_true_eq]; omega
end Go.Proofs.YtfacpamkigmlaaaGreat

/- The law of what can be spared, walked; what it says of plain data. Plain theorems. -/
set_option linter.unusedVariables false
set_option linter.unusedSimpArgs false
namespace Go.Proofs.YtfacpamkigmlaaaGreat
open Go Go.Fw
set_option maxRecDepth 100000
theorem spr_has {c : List Pck} {s : List Int} {a : List Trm} (h0 : askC c s a = 0) (h : holdB c s a = true) {i : Nat} {k : Int} (hk : s[i]? = some k) : (sprS c s a).any (· == k) = holdB c (butF s k) a := by
  unfold sprS
  rw [if_neg (by simp [h0]), if_pos h, Bool.eq_iff_iff, List.any_eq_true]
  have hm := List.mem_of_getElem? hk
  constructor
  · rintro ⟨x, hx, he⟩
    have : x = k := by simpa using he
    subst this
    exact (List.mem_filter.1 hx).2
  · intro h
    exact ⟨k, List.mem_filter.2 ⟨hm, h⟩, by simp⟩
theorem c_lawSpares (bs : List A) (hby : ∀ i, i < bs.length → ∃ c : UInt8, bs[i]? = some (.sc (.int .u8 (c.toNat : Int)))) : PCtr PP n_laws_FnSpares [.sl false 1 bs] (boo true) := by
  obtain ⟨Ω, hΩ⟩ : ∃ Ω, Ω = std := ⟨_, rfl⟩
  have hbig := c_lwBig bs
  have hdr : bs.length ≤ 1048576 → _ := fun h => d_DrawSpareOf (bs := bs) ⟨h, hby⟩
  have his := fun (l : List Pck) (s : List Int) (a : List Trm) (o : ∀ o ∈ l, o.Small) (b : l.length ≤ 40) (c : s.length ≤ 1048576) (d : a.length ≤ 1048576) => c_implSpareOf l s a (by omega) o c d
  have hss := fun (l : List Pck) (s : List Int) (a : List Trm) (o : ∀ o ∈ l, o.Small) (b : l.length ≤ 40) (c : s.length ≤ 1048576) (d : a.length ≤ 1048576) => c_specSpareOf l s a (by omega) o c d
  have hih := fun (l : List Pck) (s : List Int) (a : List Trm) (o : ∀ o ∈ l, o.Small) (b : l.length ≤ 40) (c : s.length ≤ 1048576) (d : a.length ≤ 1048576) => c_implHoldsAll l s a (by omega) c d o
  have hsh := fun (l : List Pck) (s : List Int) (a : List Trm) (o : ∀ o ∈ l, o.Small) (b : l.length ≤ 40) (c : s.length ≤ 1048576) (d : a.length ≤ 1048576) => c_specHoldsAll l s a (by omega) c d o
  have hlw := fun (l : List Int) (s : Int) (a : l.length ≤ 1048576) => c_lwHas l s (by omega)
  obtain ⟨g, hg⟩ : ∃ g, g = decide (1048576 < bs.length) := ⟨_, rfl⟩
  have hdr' : g = false → _ := fun h => hdr (by rw [hg] at h; simpa using h)
  clear hdr
  rw [← hg] at hbig
  clear hg
  have htab := tab
  have hmo := hmo
  refine PCtr.walk tab hΩ fn_laws_FnSpares rfl ?_
  generalize PP = P at *
  cbv
  refine call_pure hΩ 3 hbig rfl (fits _) rfl rfl ?_
  cbv
  refine br (fun h => ?_) (fun h => ?_) <;> cbv
  · exact .same
  refine call_d0 hΩ 3 (hdr' h) rfl rfl ?_
  rintro x o ⟨ho, l, s, a, rfl, hl, hll, hsl, hal⟩
  refine ⟨ho, ?_⟩
  have his := (his l s a hl hll hsl hal)
  have hss := (hss l s a hl hll hsl hal)
  have hih0 := hih l s a hl hll hsl hal
  have hsh := hsh l s a hl hll hsl hal
  have hspl : (sprS l s a).length ≤ 1048576 := Nat.le_trans (sprS_le l s a) hsl
  have hlw := fun k => hlw (sprS l s a) k hspl
  have hz : askC l s a = 0 → ((decide (setF l s = 0) && (decide (firstF trmF a = 0) && holdB l s a)) = holdB l s a ∧ PCtr P n_spec_HoldsAll [encP l, .sl false 1 (s.map i64), .sl false 7 (a.map Trm.enc)] (boo (holdB l s a))) ∧
      (holdB l s a = false → sprS l s a = []) := fun h => by
    obtain ⟨e1, e2⟩ := askC_set h
    have := hsh e2
    rw [e1] at this
    refine ⟨⟨by simp [e1, e2], by simpa using this⟩, fun hb => ?_⟩
    unfold sprS; rw [if_neg (by simp [h]), if_neg (by simp [hb])]
  have hstep : askC l s a = 0 → holdB l s a = true → ∀ i k, s[i]? = some k → ∃ b, PCtr P n_impl_HoldsAll [encP l, .sl false 1 ((s.take i ++ s.drop (i + 1)).map i64), .sl false 7 (a.map Trm.enc)] (boo b) ∧ PCtr P n_laws_lwHas [.sl false 1 ((sprS l s a).map i64), i64 k] (boo b) := fun h hb i k hk => by
    obtain ⟨e1, e2⟩ := askC_set h
    have h1 := hlw k
    rw [spr_has h hb hk] at h1
    refine ⟨_, ?_, h1⟩
    have h2 := hih l (butF s k) a hl hll (Nat.le_trans (List.length_filter_le _ _) hsl) hal
    rw [setF_sub e1 k, e2] at h2
    rw [setF_but e1 hk] at h2 ⊢
    simpa using h2
  obtain ⟨as_, has_⟩ : ∃ c, c = askC l s a := ⟨_, rfl⟩
  rw [← has_] at his hss hz hstep
  obtain ⟨cs, hcs⟩ : ∃ cs, cs = l.map (Pck.enc false) := ⟨_, rfl⟩
  obtain ⟨xs, hxs⟩ : ∃ ss, ss = s.map i64 := ⟨_, rfl⟩
  obtain ⟨zs, hzs⟩ : ∃ zs, zs = a.map Trm.enc := ⟨_, rfl⟩
  obtain ⟨rs, hrs⟩ : ∃ rs, rs = (sprS l s a).map i64 := ⟨_, rfl⟩
  have hrl : rs.length = (sprS l s a).length := by rw [hrs, List.length_map]
  have hrz : rs.map frz = rs := by rw [hrs]; exact frz_I _
  have hrlm : Ω.len rs = rs.length := by subst hΩ; rfl
  have hrr : roFree (.agg [i64 as_, i64 0, .sl true 1 rs]) = true := by rw [hrs]; exact roF_setR _ _ _
  have hxl : xs.length = s.length := by rw [hxs, List.length_map]
  unfold setR encP at *
  rw [← hcs, ← hxs, ← hzs] at his hss hih0 ⊢
  rw [← hrs] at his hss hstep
  rw [← hcs, ← hzs] at hz hstep
  rw [← hxs] at hz
  generalize holdB l s a = H at *
  generalize (decide (setF l s = 0) && (decide (firstF trmF a = 0) && H)) = H0 at *
  clear hsh hlw hih
  cbv
  refine call_pure hΩ 3 his rfl (fits _) hrr rfl ?_
  cbv
  refine br (fun h => ?_) (fun h => ?_) <;> cbv
  · refine ⟨VC_lord htab hΩ hmo [0, 1, 2, 5, 6] (.step 3 (.step 4 (.step 7 (.step 8 .fin)))) [0, 1] [] (by kernel_rfl) ?_⟩
    cbv
    intro vs
    refine call_pure hΩ 3 hss rfl (fits _) hrr rfl ?_
    cbv
    exact .of (congrArg boo (by subst hΩ; exact decide_eq_true rfl))
  · have h := neI_f hΩ h
    obtain ⟨⟨e1, hsh⟩, hsp⟩ := hz h
    replace hstep := hstep h
    subst e1
    refine call_pure hΩ 3 hih0 rfl (fits _) rfl rfl ?_
    cbv
    refine br (fun h1 => ?_) (fun h1 => ?_) <;> cbv
    · have h1 := notT' hΩ h1
      have hl0 : Ω.int (Ω.len rs) = 0 := by rw [hrs, hsp h1]; subst hΩ; rfl
      refine br (fun h2 => ?_) (fun h2 => ?_) <;> cbv
      · refine call_pure hΩ 3 hsh rfl (fits _) rfl rfl ?_
        cbv
        exact .of (congrArg boo (by rw [h1]; subst hΩ; rfl))
      · exact absurd hl0 (eqI_f hΩ h2)
    have h1 := notF' hΩ h1
    replace hstep := hstep h1
    refine loopX htab hΩ (fun i : Nat => ⟨[(3, .sl false 8 cs), (4, .sl false 1 xs), (5, .sl false 7 zs), (6, .pt 1 0 0), (8, i64 (Ω.int i))], 78, [some ⟨1, rs, false⟩, some ⟨3, [.agg [i64 as_, i64 0, .vw 0 0 (Ω.len rs)]], true⟩]⟩) (fun i => i ≤ s.length) (fun i => s.length - i) 0 (Nat.zero_le _)
      (Sbs.mk rfl rfl ⟨rfl, rfl, rfl, rfl, zeroI hΩ, trivial⟩) ?_
    intro i hi
    have hok := ints_ok s
    rw [← hxs] at hok
    have hinc : Ω.nat (Ω.ar .add .i64 (Ω.int i) 1) = i + 1 ∧ 0 ≤ Ω.ar .add .i64 (Ω.int i) 1 := by
      subst hΩ
      have e : std.ar .add .i64 (std.int i) 1 = ((i + 1 : Nat) : Int) := inc64 (by omega)
      rw [e]
      exact ⟨rfl, Int.natCast_nonneg _⟩
    have q1 := segOK hΩ hok.1 hok.2 0 (Ω.nat (Ω.int i))
    have q2 := segOK hΩ hok.1 hok.2 (Ω.nat (Ω.ar .add .i64 (Ω.int i) 1)) (Ω.len xs)
    have z1 : Ω.seg 0 (Ω.nat (Ω.int i)) xs = xs.take i := by subst hΩ; rfl
    have z2 : Ω.seg (Ω.nat (Ω.ar .add .i64 (Ω.int i) 1)) (Ω.len xs) xs = xs.drop (i + 1) := by rw [hinc.1]; subst hΩ; show (xs.take xs.length).drop (i + 1) = _; rw [List.take_length]
    have l1 : (Ω.seg 0 (Ω.nat (Ω.int i)) xs).length = i := by rw [z1, List.length_take]; omega
    have l2 : (Ω.seg (Ω.nat (Ω.ar .add .i64 (Ω.int i) 1)) (Ω.len xs) xs).length ≤ s.length := by rw [z2, List.length_drop]; omega
    have l3 : Ω.plus 0 (Ω.len (Ω.seg 0 (Ω.nat (Ω.int i)) xs)) = i := by rw [z1]; subst hΩ; show 0 + (xs.take i).length = i; rw [List.length_take]; omega
    obtain ⟨bf, hbf⟩ : ∃ bf, bf = (s.take i ++ s.drop (i + 1)).map i64 := ⟨_, rfl⟩
    have hbz : bf.map frz = bf := by rw [hbf]; exact frz_I _
    have hbx : bf = xs.take i ++ xs.drop (i + 1) := by rw [hbf, hxs, List.map_append, List.map_take, List.map_drop]
    have hL : Ω.app (Ω.take (Ω.plus 0 (Ω.len (Ω.seg 0 (Ω.nat (Ω.int i)) xs))) (Ω.app (Ω.take 0 []) (Ω.seg 0 (Ω.nat (Ω.int i)) xs))) (Ω.seg (Ω.nat (Ω.ar .add .i64 (Ω.int i) 1)) (Ω.len xs) xs) = bf := by
      rw [z1, z2, hbx]
      subst hΩ
      show ([].take 0 ++ xs.take i).take (0 + (xs.take i).length) ++ _ = _
      rw [List.take_of_length_le (by simp)]
      rfl
    have hLl : Ω.plus (Ω.plus 0 (Ω.len (Ω.seg 0 (Ω.nat (Ω.int i)) xs))) (Ω.len (Ω.seg (Ω.nat (Ω.ar .add .i64 (Ω.int i) 1)) (Ω.len xs) xs)) = bf.length := by
      rw [z1, z2, hbx, List.length_append]
      subst hΩ
      show 0 + (xs.take i).length + _ = _
      rw [Nat.zero_add]
      rfl
    have hstep : i < s.length → ∃ k b, s[i]? = some k ∧ PCtr P n_impl_HoldsAll [.sl false 8 cs, .sl false 1 bf, .sl false 7 zs] (boo b) ∧ PCtr P n_laws_lwHas [.sl false 1 rs, i64 k] (boo b) := fun h => by
      obtain ⟨k, hk⟩ := at_of (cs := s) h
      obtain ⟨b, hb⟩ := hstep i k hk
      rw [← hbf] at hb
      exact ⟨k, b, hk, hb⟩
    clear hbf hbx
    cbv
    refine br (fun h => ?_) (fun h => ?_) <;> cbv
    · replace h := ltI hΩ h
      obtain ⟨k, b, hk, hg1, hg2⟩ := hstep (by omega)
      refine ⟨VC_held htab hΩ hmo [1, 2, 3, 5, 6, 7, 8] [0, 4, 9, 10] (by kernel_rfl) ?_⟩
      cbv
      refine ⟨⟨⟨trivial, (nnI hΩ), Nat.zero_le _, by subst hΩ; show ((i : Int)).toNat ≤ xs.length; omega⟩⟩, ⟨⟨hinc.2, trivial, by have := hinc.1; have e : Ω.len xs = xs.length := (by subst hΩ; rfl); show Ω.nat (Ω.ar .add .i64 (Ω.int i) 1) ≤ Ω.len xs; omega, by have e : Ω.len xs = xs.length := (by subst hΩ; rfl); show Ω.len xs ≤ xs.length; omega⟩⟩,
        ⟨⟨q1.1, q1.2, by show (0 + (Ω.seg 0 (Ω.nat (Ω.int i)) xs).length) * 8 ≤ 140737488355328; omega, by show 0 + (Ω.seg 0 (Ω.nat (Ω.int i)) xs).length ≤ 9223372036854775807; omega⟩⟩,
        ⟨⟨q2.1, q2.2, by show (Ω.plus 0 (Ω.len (Ω.seg 0 (Ω.nat (Ω.int i)) xs)) + (Ω.seg (Ω.nat (Ω.ar .add .i64 (Ω.int i) 1)) (Ω.len xs) xs).length) * 8 ≤ 140737488355328; rw [l3]; omega, by show Ω.plus 0 (Ω.len (Ω.seg 0 (Ω.nat (Ω.int i)) xs)) + (Ω.seg (Ω.nat (Ω.ar .add .i64 (Ω.int i) 1)) (Ω.len xs) xs).length ≤ 9223372036854775807; rw [l3]; omega⟩⟩, ?_⟩
      refine ⟨VC_drawn htab hΩ hmo (by kernel_rfl) ?_⟩
      cbv
      refine QCall_pure (k := 3) hg1 (mapO3 rfl (ro_vw rfl (hLl.trans (congrArg List.length hL.symm)) ((congrArg (List.map frz) hL).trans hbz)) rfl) (fits _) rfl ?_
      cbv
      refine ⟨⟨nnI hΩ⟩, _, rdI hΩ hxs hk, ?_⟩
      cbv
      refine QCall_pure (k := 3) hg2 (mapO2 (ro_vw rfl hrlm hrz) rfl) (fits _) rfl ?_
      cbv
      refine br (fun h => ?_) (fun h => ?_) <;> cbv
      · exact (by subst hΩ; cases b <;> cases h)
      · exact ⟨i + 1, by omega, by omega, (Sbs.cut 2 rfl).trans (Sbs.mk rfl rfl ⟨rfl, rfl, rfl, rfl, incI hΩ (by omega), trivial⟩)⟩
    · exact .same
end Go.Proofs.YtfacpamkigmlaaaGreat

/- What a reading of an argument says of it: it is read-only plain data. Plain theorems, no condition. -/
set_option linter.unusedVariables false
set_option linter.unusedSimpArgs false
namespace Go.Fw
/-- Types of plain data. -/
inductive Ty where
  | int (k : IntKind)
  | bool
  | str
  | sl (e : Ty)
  | st (fs : List Ty)
mutual
def Ty.n : Ty → Nat
  | .st fs => Ty.nL fs
  | .int _ => 1
  | .bool => 1
  | .str => 1
  | .sl _ => 1
def Ty.nL : List Ty → Nat
  | [] => 0
  | x :: xs => x.n + Ty.nL xs
end
def Ty.elem (e : Ty) (cs : List A) : A :=
  match e with
  | .st _ => .agg cs
  | _ => cs.headD .un
mutual
def TyOK (P : Program) : Ty → TypeId → Prop
  | .int k, t => P.underlying t = some (.int k)
  | .bool, t => P.underlying t = some .bool
  | .str, t => P.underlying t = some .string
  | .sl e, t => ∃ te, P.underlying t = some (.slice te) ∧ P.cellsOf te = e.n ∧ Nat.ble 1 e.n = true ∧ TyOK P e te
  | .st fs, t => ∃ f, P.underlying t = some (.struct f) ∧ P.cellsOf t = Ty.nL fs ∧ TysOK P 0 fs f.toList
def TysOK (P : Program) : Nat → List Ty → List Field → Prop
  | _, [], [] => True
  | o, x :: xs, f :: fs => f.offset = o ∧ P.cellsOf f.type = x.n ∧ TyOK P x f.type ∧ TysOK P (o + x.n) xs fs
  | _, _, _ => False
end
mutual
inductive Shp : Ty → List A → Prop
  | int {k : IntKind} {n : Int} (h : (Lit.int k n).wf = true) : Shp (.int k) [.sc (.int k n)]
  | bool {b : Bool} : Shp .bool [.sc (.bool b)]
  | str {s : List UInt8} (h : s.length ≤ maxLen) : Shp .str [.sc (.string (mkS s))]
  | sl {e : Ty} {ys : List A} (h : ∀ y ∈ ys, Shp e y.cells) (h2 : ∀ y ∈ ys, y = e.elem y.cells) (hl : ys.length ≤ maxLen) : Shp (.sl e) [.sl false e.n ys]
  | st {fs : List Ty} {xs : List A} (h : ShpL fs xs) : Shp (.st fs) xs
inductive ShpL : List Ty → List A → Prop
  | nil : ShpL [] []
  | cons {t : Ty} {ts : List Ty} {xs ys : List A} (h : Shp t xs) (hl : ShpL ts ys) : ShpL (t :: ts) (xs ++ ys)
end
mutual
theorem Shp.length : ∀ {t : Ty} {xs : List A}, Shp t xs → xs.length = t.n
  | _, _, .int _ => rfl
  | _, _, .bool => rfl
  | _, _, .str _ => rfl
  | _, _, .sl _ _ _ => rfl
  | _, _, .st h => by rw [Ty.n]; exact h.length
theorem ShpL.length : ∀ {ts : List Ty} {xs : List A}, ShpL ts xs → xs.length = Ty.nL ts
  | _, _, .nil => rfl
  | _, _, .cons h hl => by rw [List.length_append, h.length, hl.length, Ty.nL]
end
theorem elem_cells {e : Ty} {cs : List A} (h : Shp e cs) : (e.elem cs).cells = cs := by
  cases h <;> rfl
theorem cells_list {w : World} {base : Nat} {a : Addr} {n : Nat} {cs : List Value} (h : w.cells? base a n = some cs) (hn : 0 < n) :
    ∃ cur e fr, w.heap[a.block]? = some (.cells cur e fr) ∧ a.spot = none ∧ cs = (cur.toList.drop a.off).take n ∧ cs.length = n := by
  unfold World.cells? at h
  split at h <;> try simp at h
  have hget : ∀ (l : List Nat) (r : List Value), l.mapM (fun i => w.cell? (a.add i)) = some r → r.length = l.length ∧ ∀ (j i : Nat), l[j]? = some i → ∃ v, r[j]? = some v ∧ w.cell? (a.add i) = some v := by
    intro l
    induction l with
    | nil => intro r h; simp at h; subst h; simp
    | cons x l ih =>
      intro r h
      simp only [List.mapM_cons, Option.bind_eq_bind, Option.pure_def, Option.bind_eq_some_iff, Option.some.injEq] at h
      obtain ⟨v, hv, r', hr', rfl⟩ := h
      obtain ⟨h1, h2⟩ := ih r' hr'
      refine ⟨by simp [h1], fun j i hj => ?_⟩
      cases j with
      | zero => simp at hj; subst hj; exact ⟨v, rfl, hv⟩
      | succ j => simpa using h2 j i (by simpa using hj)
  obtain ⟨hl, hat⟩ := hget _ _ h
  rw [List.length_range] at hl
  obtain ⟨v0, _, hv0⟩ := hat 0 0 (by rw [List.getElem?_range hn])
  have hblk : ∀ i, (a.add i).block = a.block := fun i => by unfold Addr.add; split <;> rfl
  unfold World.cell? at hv0
  rw [hblk] at hv0
  split at hv0 <;> try simp at hv0
  rename_i cur e fr hh
  have hsp : a.spot = none := by
    cases hs : a.spot with
    | none => rfl
    | some s => simp [Addr.add, hs] at hv0
  refine ⟨cur, e, fr, hh, hsp, ?_, hl⟩
  have ha : a = ⟨a.block, a.off, none⟩ := by cases a; simp at hsp; subst hsp; rfl
  have hcell : ∀ i, w.cell? (a.add i) = cur[a.off + i]? := fun i => by rw [ha, add_none, cell_at hh]
  have hlen : a.off + n ≤ cur.size := by
    obtain ⟨v, _, hv⟩ := hat (n - 1) (n - 1) (by rw [List.getElem?_range (by omega)])
    rw [hcell] at hv
    have := (Array.getElem?_eq_some_iff.1 hv).1
    omega
  apply List.ext_getElem?
  intro j
  by_cases hj : j < n
  · obtain ⟨v, hv1, hv2⟩ := hat j j (by rw [List.getElem?_range hj])
    rw [hv1, List.getElem?_take_of_lt hj, List.getElem?_drop]
    rw [hcell] at hv2
    simpa using hv2.symm
  · rw [List.getElem?_eq_none (by omega), List.getElem?_eq_none (by simp; omega)]
theorem add_block (a : Addr) (i : Nat) : (a.add i).block = a.block := by unfold Addr.add; split <;> rfl
theorem rows_rel {w : World} {G : Nat → Prop} {n : Nat} {X : Nat → List A} {l : List Value} : ∀ len : Nat, (∀ i, i < len → RelL w G (X i) ((l.drop (i * n)).take n) []) → RelL w G ((List.range len).flatMap X) (l.take (len * n)) []
  | 0, _ => by simpa using RelL.nil
  | len + 1, h => by
    have h1 := rows_rel (X := X) len fun i hi => h i (by omega)
    have h2 := h1.append (h len (by omega))
    rw [List.range_succ, List.flatMap_append, Nat.succ_mul, List.take_add]
    simpa using h2
mutual
theorem trod_rel {H : Type} {enc : TypeId × Value → H} {P : Program} {w : World} {base : Nat} {sp : Nat → Bool} {held : Bool} (hsp : ∀ b, sp b = true) :
    ∀ (ty : Ty) (t : TypeId) (fuel : Nat) (cs : List Value) (x : DataW H × List MemPlace), TyOK P ty t → DataW.trod enc P w base sp held fuel t cs = some x → ∃ xs, RelL w (Old w) xs cs [] ∧ Shp ty xs
  | .int k, t, 0, cs, x, hu, h => by simp [DataW.trod] at h
  | .int k, t, fuel + 1, cs, x, hu, h => by
    have hu : P.underlying t = some (.int k) := hu
    unfold DataW.trod at h
    rw [hu] at h
    split at h <;> try simp_all
    obtain ⟨⟨rfl, hw⟩, _⟩ := h
    exact ⟨_, .cons (F := []) (Fs := []) (.sc rfl) .nil, .int hw⟩
  | .bool, t, 0, cs, x, hu, h => by simp [DataW.trod] at h
  | .bool, t, fuel + 1, cs, x, hu, h => by
    have hu : P.underlying t = some .bool := hu
    unfold DataW.trod at h
    rw [hu] at h
    split at h <;> try simp_all
    exact ⟨_, .cons (F := []) (Fs := []) (.sc rfl) .nil, .bool⟩
  | .str, t, 0, cs, x, hu, h => by simp [DataW.trod] at h
  | .str, t, fuel + 1, cs, x, hu, h => by
    have hu : P.underlying t = some .string := hu
    unfold DataW.trod at h
    rw [hu] at h
    split at h <;> try simp_all
    rename_i s
    refine ⟨[.sc (.string (mkS (bs s)))], .cons (F := []) (Fs := []) (.sc rfl) .nil, .str ?_⟩
    rw [bs_length]; exact h.1
  | .sl e, t, fuel, cs, x, hu, h => by
    obtain ⟨te, hu, hc, hpos, hte⟩ := hu
    have hpos := Nat.le_of_ble_eq_true hpos
    rcases Go.Deep.open_slice hu h with ⟨rfl, _⟩ | ⟨a, len, cap, m, n, D, Pl, rfl, _, hl, hm, hmm, _, hel⟩
    · exact ⟨[.sl false e.n []], .cons (F := []) (Fs := []) .nils .nil, .sl (by simp) (by simp) (by simp)⟩
    · rw [hsp, if_pos rfl] at hmm
      subst hmm
      rw [hc] at hel
      by_cases hm0 : m = 0
      · subst hm0
        have : len = 0 := by omega
        subst this
        exact ⟨[.sl false e.n []], .cons (F := []) (Fs := []) .roz .nil, .sl (by simp) (by simp) (by simp)⟩
      · obtain ⟨cs0, hc0, _⟩ := hel 0 (by omega)
        obtain ⟨cur, et, fr, hh, hspot, _, _⟩ := cells_list hc0 hpos
        rw [add_block] at hh
        have hspot' : a.spot = none := by
          cases hs : a.spot with
          | none => rfl
          | some s => simp [Addr.add, hs] at hspot
        have ha : a = ⟨a.block, a.off, none⟩ := by cases a; simp at hspot'; subst hspot'; rfl
        have hX : ∀ i, i < m → ∃ xs, RelL w (Old w) xs ((cur.toList.drop (a.off + i * e.n)).take e.n) [] ∧ Shp e xs := fun i hi => by
          obtain ⟨csi, hci, hti⟩ := hel i hi
          obtain ⟨cur', et', fr', hh', _, hcs, _⟩ := cells_list hci hpos
          rw [add_block, hh] at hh'
          simp only [Option.some.injEq, Obj.cells.injEq] at hh'
          obtain ⟨rfl, _, _⟩ := hh'
          obtain ⟨xs, h1, h2⟩ := trod_rel hsp e te n csi _ hte hti
          refine ⟨xs, ?_, h2⟩
          rw [hcs] at h1
          have : (a.add (i * e.n)).off = a.off + i * e.n := by rw [ha, add_none]
          rw [this] at h1
          exact h1
        let X : Nat → List A := fun i => if h : i < m then Classical.choose (hX i h) else []
        have hX1 : ∀ i, i < m → RelL w (Old w) (X i) ((cur.toList.drop (a.off + i * e.n)).take e.n) [] ∧ Shp e (X i) := fun i hi => by
          have : X i = Classical.choose (hX i hi) := by simp only [X]; rw [dif_pos hi]
          rw [this]; exact Classical.choose_spec (hX i hi)
        have hmem : ∀ y ∈ (List.range len).map fun i => e.elem (X i), Shp e y.cells ∧ y = e.elem y.cells := fun y hy => by
          obtain ⟨i, hi, rfl⟩ := List.mem_map.1 hy
          have hi := List.mem_range.1 hi
          have hs := (hX1 i (by omega)).2
          rw [elem_cells hs]
          exact ⟨hs, rfl⟩
        refine ⟨[.sl false e.n ((List.range len).map fun i => e.elem (X i))], .cons (F := []) (Fs := []) ?_ .nil, .sl (fun y hy => (hmem y hy).1) (fun y hy => (hmem y hy).2) (by simp; omega)⟩
        have hlt : a.block < w.heap.size := (Array.getElem?_eq_some_iff.1 hh).1
        rw [ha]
        refine .ro hh hlt (fun y hy => ?_) (by simp) rfl ?_ (by omega) (by omega)
        · have := (hmem y hy).1.length
          exact this
        · have hf : flat ((List.range len).map fun i => e.elem (X i)) = (List.range len).flatMap X := by
            unfold flat
            rw [List.flatMap_map]
            have : ∀ l : List Nat, (∀ i ∈ l, i < m) → l.flatMap (fun i => (e.elem (X i)).cells) = l.flatMap X := by
              intro l
              induction l with
              | nil => intro _; rfl
              | cons i l ih =>
                intro hl
                rw [List.flatMap_cons, List.flatMap_cons, ih fun j hj => hl j (by simp [hj]), elem_cells (hX1 i (hl i (by simp))).2]
            exact this _ fun i hi => by have := List.mem_range.1 hi; omega
          rw [hf]
          refine rows_rel len fun i hi => ?_
          have := (hX1 i (by omega)).1
          rw [← List.drop_drop] at this
          exact this
  | .st fs, t, 0, cs, x, hu, h => by simp [DataW.trod] at h
  | .st fs, t, fuel + 1, cs, x, hu, h => by
    obtain ⟨f, hu, hc, hfs⟩ := hu
    unfold DataW.trod at h
    rw [hu] at h
    simp only at h
    split at h <;> try simp at h
    rename_i hlen
    obtain ⟨ys, hys, _⟩ := h
    obtain ⟨xs, h1, h2⟩ := trod_rels hsp fs f.toList fuel 0 cs ys hfs (by rw [hlen, hc]; omega) hys
    exact ⟨xs, by simpa using h1, .st h2⟩
theorem trod_rels {H : Type} {enc : TypeId × Value → H} {P : Program} {w : World} {base : Nat} {sp : Nat → Bool} {held : Bool} (hsp : ∀ b, sp b = true) :
    ∀ (tys : List Ty) (fs : List Field) (fuel o : Nat) (cs : List Value) (ys : List (DataW H × List MemPlace)), TysOK P o tys fs → cs.length = o + Ty.nL tys →
      fs.mapM (fun f => DataW.trod enc P w base sp held fuel f.type ((cs.drop f.offset).take (P.cellsOf f.type))) = some ys → ∃ xs, RelL w (Old w) xs (cs.drop o) [] ∧ ShpL tys xs
  | [], [], fuel, o, cs, ys, _, hl, _ => ⟨[], by rw [List.drop_eq_nil_of_le (by rw [hl, Ty.nL]; omega)]; exact .nil, .nil⟩
  | [], _ :: _, fuel, o, cs, ys, hu, hl, h => hu.elim
  | _ :: _, [], fuel, o, cs, ys, hu, hl, h => hu.elim
  | ty :: tys, f :: fs, fuel, o, cs, ys, hu, hl, h => by
    obtain ⟨ho, hc, ht, hts⟩ := hu
    simp only [List.mapM_cons, Option.bind_eq_bind, Option.pure_def, Option.bind_eq_some_iff, Option.some.injEq] at h
    obtain ⟨y, hy, ys', hys', _⟩ := h
    rw [ho, hc] at hy
    obtain ⟨xs1, h1, h2⟩ := trod_rel hsp ty f.type fuel _ _ ht hy
    rw [Ty.nL] at hl
    obtain ⟨xs2, h3, h4⟩ := trod_rels hsp tys fs fuel (o + ty.n) cs ys' hts (by omega) hys'
    refine ⟨xs1 ++ xs2, ?_, .cons h2 h4⟩
    have := h1.append h3
    rw [← List.drop_drop, List.take_append_drop] at this
    simpa using this
end
end Go.Fw

/- The closing of a law's row. Plain theorems, no condition. -/
set_option linter.unusedVariables false
set_option linter.unusedSimpArgs false
namespace Go.Fw
open Go.ChangeShapes Go.WideShapes Go.ChangeAt Go.RowKit
def PlainT (P : Program) (t : TypeId) : Prop := ∃ ty, TyOK P ty t
theorem tys_fields {P : Program} : ∀ {tys : List Ty} {fs : List Field} {o : Nat}, TysOK P o tys fs → (∀ f ∈ fs, PlainT P f.type) ∧ Ty.nL tys = (fs.map fun f => P.cellsOf f.type).sum ∧
    ∀ (j : Nat) f, fs[j]? = some f → f.offset = o + ((fs.take j).map fun f => P.cellsOf f.type).sum
  | [], [], o, _ => ⟨by simp, rfl, by simp⟩
  | [], _ :: _, o, h => h.elim
  | _ :: _, [], o, h => h.elim
  | ty :: tys, f :: fs, o, h => by
    obtain ⟨h1, h2, h3, h4⟩ := h
    obtain ⟨g1, g2, g3⟩ := tys_fields h4
    refine ⟨fun f' hf => ?_, by rw [Ty.nL, g2, ← h2]; simp, fun j f' hj => ?_⟩
    · rcases List.mem_cons.1 hf with rfl | hf
      · exact ⟨ty, h3⟩
      · exact g1 f' hf
    · cases j with
      | zero => simp at hj; subst hj; simp [h1]
      | succ j =>
        have := g3 j f' (by simpa using hj)
        rw [this, ← h2]; simp; omega
theorem kids (P : Program) : Kids P (PlainT P) := by
  refine ⟨?_, ?_, ?_, ?_, ?_⟩
  · rintro t e ⟨ty, h⟩ hu
    cases ty with
    | sl _ => obtain ⟨te, h, _⟩ := h; rw [hu] at h; simp at h
    | st _ => obtain ⟨f, h, _⟩ := h; rw [hu] at h; simp at h
    | _ => rw [TyOK, hu] at h; simp at h
  · rintro t e ⟨ty, h⟩ hu
    cases ty with
    | sl e' => obtain ⟨te, h, _, _, h2⟩ := h; rw [hu] at h; simp at h; subst h; exact ⟨e', h2⟩
    | st _ => obtain ⟨f, h, _⟩ := h; rw [hu] at h; simp at h
    | _ => rw [TyOK, hu] at h; simp at h
  · rintro t e n ⟨ty, h⟩ hu
    cases ty with
    | sl _ => obtain ⟨te, h, _⟩ := h; rw [hu] at h; simp at h
    | st _ => obtain ⟨f, h, _⟩ := h; rw [hu] at h; simp at h
    | _ => rw [TyOK, hu] at h; simp at h
  · rintro t fs ⟨ty, h⟩ hu
    cases ty with
    | sl _ => obtain ⟨te, h, _⟩ := h; rw [hu] at h; simp at h
    | st tys =>
      obtain ⟨f, h, hc, hts⟩ := h
      rw [hu] at h
      simp at h
      subst h
      obtain ⟨g1, g2, g3⟩ := tys_fields hts
      exact ⟨g1, by rw [hc, g2], fun j f hj => by rw [g3 j f hj, Nat.zero_add]⟩
    | _ => rw [TyOK, hu] at h; simp at h
  · rintro t k e ⟨ty, h⟩ hu
    cases ty with
    | sl _ => obtain ⟨te, h, _⟩ := h; rw [hu] at h; simp at h
    | st _ => obtain ⟨f, h, _⟩ := h; rw [hu] at h; simp at h
    | _ => rw [TyOK, hu] at h; simp at h
theorem plain_sz {P : Program} {t e : TypeId} (h : PlainT P t) (hu : P.underlying t = some (.slice e)) : 0 < P.cellsOf e := by
  obtain ⟨ty, h⟩ := h
  cases ty with
  | sl _ => obtain ⟨te, h, hc, hb, _⟩ := h; rw [hu] at h; simp at h; subst h; rw [hc]; exact Nat.le_of_ble_eq_true hb
  | st _ => obtain ⟨f, h, _⟩ := h; rw [hu] at h; simp at h
  | _ => rw [TyOK, hu] at h; simp at h
section
variable {H : Type} {enc : TypeId × Value → H} {P : Program}
theorem stays_all {W W' : World} {sp' : Nat → Bool} : ∀ {ts : List TypeId} {vs : List Value} {ds : List (DataW H)} {ps : List MemPlace}, (∀ t ∈ ts, PlainT P t) → DataW.TrodAll enc P W 0 (fun _ => true) true ts vs ds ps →
    (∀ p ∈ ps, W.sameAt W' p) → (∀ p ∈ ps, sp' p.block = true) → DataW.TrodAll enc P W' 0 sp' true ts vs ds ps
  | [], [], [], ps, _, h, _, _ => h
  | t :: ts, v :: vs, d :: ds, ps, ht, h, hsame, hs => by
    obtain ⟨p, q, ⟨n, hn⟩, hl, rfl⟩ := h
    refine ⟨p, q, ⟨n, ?_⟩, stays_all (fun t h => ht t (by simp [h])) hl (fun x hx => hsame x (by simp [hx])) (fun x hx => hs x (by simp [hx])), rfl⟩
    exact DataW.trod_stays (kids P) plain_sz (by simp) (ht t (by simp)) hn (fun x hx => hsame x (by simp [hx])) (fun x hx => hs x (by simp [hx]))
theorem post_law {f : Func} {s : ChangeSpec} {apart fresh handsOn again : Bool} {W W' : World} {args : Array Value} {ds gs : List (DataW H)} {before : List MemPlace} {tb : TypeId} (hsv : s.vars = [])
    (hW : DataW.Whole enc P f.params.toList s.vars apart W args.toList ds gs before) (htys : ∀ t ∈ f.params.toList, PlainT P t) (hrt : f.resultTypes = #[tb]) (hub : P.underlying tb = some .bool)
    (hfn : s.fn H (ds ++ gs) = { results := [.lit (.bool true)], args := ds }) (hb : Below W.heap.size W W') : s.post enc P f apart fresh handsOn again W args (.bool true) W' := by
  have hW0 := hW
  obtain ⟨p, q, hA, hV, rfl, hfz, hnd⟩ := hW
  rw [hsv] at hV
  obtain ⟨rfl, rfl⟩ := trodVars_none hV
  rw [List.append_nil] at hfz hnd hW0
  have hlt := hW0.lt
  have hsame : ∀ x ∈ p, W.sameAt W' x := fun x hx => hb.same (hlt x hx)
  have hres : ∀ (b : Nat) (sp : Nat → Bool) (hd : Bool), DataW.TrodAll enc P W' b sp hd f.resultTypes.toList ((Value.bool true).resultList f.resultTypes.size) (s.fn H (ds ++ [])).results [] := fun b sp hd => by
    rw [hfn, hrt]
    exact trodAll_cons_mk (shut_bool hub _) trodAll_mk0
  have hargs : ∀ sp : Nat → Bool, (∀ x ∈ p, sp x.block = true) → DataW.TrodAll enc P W' 0 sp true f.params.toList args.toList (s.fn H (ds ++ [])).args p := fun sp hs => by
    rw [hfn]; exact stays_all htys hA hsame hs
  have hvars : ∀ sp : Nat → Bool, DataW.TrodVars enc P W' sp s.vars (s.fn H (ds ++ [])).vars [] := fun sp => by rw [hfn, hsv]; rfl
  have hold : ∀ x ∈ p, (fun b => decide (b < W.heap.size)) x.block = true := fun x hx => by simpa using hlt x hx
  refine ⟨ds, [], p, [], p, [], hW0, hres _ _ _, hargs _ hold, hvars _, World.keptBut_mono (fun x hx => ⟨hx, .inr (.inl hx)⟩) (hb.frame (· ∈ p)), fun _ => ?_⟩
  refine ⟨?_, _, _, ([] ++ p) ++ [], ⟨[] ++ p, [], trodAll_append (hargs _ (fun _ _ => rfl)) (hres 0 (fun _ => true) true), hvars _, rfl, ?_, ?_⟩, ?_⟩
  · intro j t r h1 h2
    exact ok_one (v := .bool true) hrt rfl (okWide_bool_mk hub true) j t r h1 h2
  · intro b off hp
    have hp' : MemPlace.cell b off ∈ p := by simpa using hp
    rw [hb.frozen (p := ⟨b, off, none⟩) (hlt _ hp')]
    exact hfz b off hp'
  · intro ha
    simpa using hnd ha
  · intro x hx _
    simpa using hx
end
mutual
def tyChk (P : Program) : Ty → TypeId → Bool
  | .int k, t => match P.underlying t with | some (.int k') => decide (k' = k) | _ => false
  | .bool, t => match P.underlying t with | some .bool => true | _ => false
  | .str, t => match P.underlying t with | some .string => true | _ => false
  | .sl e, t => match P.underlying t with | some (.slice te) => P.cellsOf te == e.n && (Nat.ble 1 e.n && tyChk P e te) | _ => false
  | .st fs, t => match P.underlying t with | some (.struct f) => P.cellsOf t == Ty.nL fs && tysChk P 0 fs f.toList | _ => false
def tysChk (P : Program) : Nat → List Ty → List Field → Bool
  | _, [], [] => true
  | o, x :: xs, f :: fs => f.offset == o && (P.cellsOf f.type == x.n && (tyChk P x f.type && tysChk P (o + x.n) xs fs))
  | _, _, _ => false
end
mutual
theorem tyChk_ok {P : Program} : ∀ (ty : Ty) (t : TypeId), tyChk P ty t = true → TyOK P ty t
  | .int k, t, h => by
    rw [tyChk] at h; split at h <;> try simp at h
    rename_i hu; subst h; rw [TyOK]; exact hu
  | .bool, t, h => by
    rw [tyChk] at h; split at h <;> try simp at h
    rename_i hu; rw [TyOK]; exact hu
  | .str, t, h => by
    rw [tyChk] at h; split at h <;> try simp at h
    rename_i hu; rw [TyOK]; exact hu
  | .sl e, t, h => by
    rw [tyChk] at h; split at h <;> try simp at h
    rename_i te hu; rw [TyOK]
    exact ⟨te, hu, h.1, by simpa using h.2.1, tyChk_ok e te h.2.2⟩
  | .st fs, t, h => by
    rw [tyChk] at h; split at h <;> try simp at h
    rename_i f hu; rw [TyOK]
    exact ⟨f, hu, h.1, tysChk_ok fs _ _ h.2⟩
theorem tysChk_ok {P : Program} : ∀ (tys : List Ty) (o : Nat) (fs : List Field), tysChk P o tys fs = true → TysOK P o tys fs
  | [], _, [], _ => by rw [TysOK]; trivial
  | [], _, _ :: _, h => by simp [tysChk] at h
  | _ :: _, _, [], h => by simp [tysChk] at h
  | x :: xs, o, f :: fs, h => by
    rw [tysChk] at h
    simp only [Bool.and_eq_true, beq_iff_eq] at h
    rw [TysOK]
    exact ⟨h.1, h.2.1, tyChk_ok x _ h.2.2.1, tysChk_ok xs _ fs h.2.2.2⟩
end
theorem slice_cells {P : Program} {W : World} {base : Nat} {t e : TypeId} {v : Value} (hu : P.underlying t = some (.slice e)) (h : Value.okWide P W .any base t v) : v.cells.toList = [v] := by
  unfold Value.okWide at h
  rw [hu] at h
  simp only at h
  unfold Cell.okWide at h
  rw [hu] at h
  cases v <;> first | rfl | (simp [Cell.ok, hu] at h)
end Go.Fw

/- Shapes of arguments. Plain theorems. -/
set_option linter.unusedVariables false
set_option linter.unusedSimpArgs false
namespace Go.Proofs.YtfacpamkigmlaaaGreat
open Go Go.Fw
open Go.ChangeShapes Go.WideShapes Go.ChangeAt Go.RowKit
/-- Bytes. -/
theorem shp_bytes {xs : List A} (h : Shp (.sl (.int .u8)) xs) : ∃ bs : List A, xs = [.sl false 1 bs] ∧ bs.length ≤ Go.maxLen ∧ ∀ i, i < bs.length → ∃ c : UInt8, bs[i]? = some (.sc (.int .u8 (c.toNat : Int))) := by
  cases h with | sl h1 h2 hl =>
  rename_i ys
  refine ⟨ys, rfl, hl, fun i hi => ?_⟩
  obtain ⟨y, hy⟩ : ∃ y, ys[i]? = some y := ⟨_, List.getElem?_eq_getElem hi⟩
  have hm := List.mem_of_getElem? hy
  have e := h2 y hm
  have s := h1 y hm
  generalize y.cells = cs at *
  cases s with
  | int hwf =>
    rename_i n
    have hb : 0 ≤ n ∧ n < 256 := by
      simp only [Lit.wf, Bool.and_eq_true, decide_eq_true_eq] at hwf
      have h3 : IntKind.u8.min = 0 := by decide
      have h4 : IntKind.u8.max = 255 := by decide
      omega
    refine ⟨UInt8.ofNat n.toNat, ?_⟩
    rw [hy, e]
    show some (A.sc (.int .u8 n)) = _
    have : ((UInt8.ofNat n.toNat).toNat : Int) = n := by simp; omega
    rw [this]
end Go.Proofs.YtfacpamkigmlaaaGreat

/- Walks: the text of a machine, the program's. Plain theorems. -/
import Derived.Test.YtgcnggefeapalaaGreatDoorC6
import Derived.Deep.Slices
import Derived.ChangeStays
import Derived.OpenShut
import Derived.WalkKit
import Derived.ProofKit
set_option linter.unusedVariables false
set_option linter.unusedSimpArgs false
namespace Go.Proofs.YtgcnggefeapalaaGreatDoor
open Go Go.Fw
set_option maxRecDepth 100000
/-- What the text of a sound machine is made of. -/
structure FmtB (c : List Pck) (x : Dsk) (ts : List Trm) (ss : List Int) (U0 U : List UInt8) (G1 G2 G3 : Nat → List UInt8) : Prop where
  r : fmtY c x = G3 x.f.length
  a0 : U0 = [103, 101, 110, 32] ++ Lib.itoa (curF x.f) ++ [10]
  at' : x.dn = true → U0 ++ [100, 111, 119, 110, 10] = U
  af : x.dn = false → U0 = U
  al : U0.length ≤ 12
  g1 : U = G1 0
  g2 : G1 ts.length = G2 0
  g3 : G2 ss.length = G3 0
  s1 : ∀ i t, ts[i]? = some t → (G1 i).length ≤ 2000 ∧ trmF t = 0 ∧ (trmT t).length ≤ 40 ∧ G1 (i + 1) = G1 i ++ linR t
  s2 : ∀ i k, ss[i]? = some k → ∃ o : Pck, (0 ≤ k ∧ (c.map (Pck.enc false))[k.toNat]? = some (o.enc false)) ∧ (G2 i).length ≤ 2000 ∧ o.n.length ≤ 12 ∧ verF o.v = 0 ∧ (verT o.v).length ≤ 11 ∧ G2 (i + 1) = G2 i ++ ([104, 97, 115, 32] ++ ((o.n ++ [32] ++ verT o.v) ++ [10]))
  s3 : ∀ i f, x.f[i]? = some f → (G3 i).length ≤ 200000 ∧ f.p.length ≤ 40 ∧ f.d.length ≤ 4000 ∧ (Lib.itoa f.d.length).length ≤ 7 ∧ (0 ≤ sumB f.d 7 ∧ sumB f.d 7 < 1000003) ∧ (Lib.itoa (sumB f.d 7)).length ≤ 7 ∧ G3 (i + 1) = G3 i ++ linF f
  tl : ts.length ≤ 8
  sl : ss.length ≤ 24
  cur : 0 ≤ curF x.f ∧ curF x.f ≤ 999999
theorem pathF_len {p : List UInt8} (h : pathF p = 0) : p.length ≤ 40 := by
  unfold pathF at h
  split at h
  · cases h
  · omega
theorem curF_in (l : List Fil) : 0 ≤ curF l ∧ curF l ≤ 999999 := by
  by_cases h : curF l = 0
  · omega
  · have hk : curK (datF l curP) (hasF l curP) (gensF l) = true := by
      cases g : curK (datF l curP) (hasF l curP) (gensF l) with
      | true => rfl
      | false => exact absurd (curF_zero.2 g) h
    have hv : curF l = numM 6 (datF l curP) := by unfold curF curV; rw [if_pos hk]
    have h2 := (Bool.and_eq_true _ _ ▸ hk : _ ∧ _).2
    obtain ⟨n, hn, he⟩ := List.any_eq_true.1 h2
    have := gensF_ge hn
    rw [beq_iff_eq.1 he] at this
    omega
theorem fmtB (c : List Pck) (x : Dsk) (hx : x.Fit) (h : sysF c x = 0) : ∃ ts ss U0 U G1 G2 G3, ts = (rtsS (datF x.f rtsN)).1 ∧ ss = (shnW c x.f).2 ∧ FmtB c x ts ss U0 U G1 G2 G3 ∧ rtsI (datF x.f rtsN) = (0, ts) ∧ (rtsS (datF x.f rtsN)).2 = true := by
  obtain ⟨hc, hk, h0⟩ := sys_known hx h
  have hb : bthC c x = 0 := Decidable.byContradiction fun g => by rw [(sysF_facts c x).1 g] at h; exact g h
  have hr : (rtsI (datF x.f rtsN)).1 = 0 := by
    cases hw : whlB c x.f (shnW c x.f).2 with
    | false => rw [(sysF_facts c x).2.2.1 hb h0 hw] at h; cases h
    | true => rw [(sysF_facts c x).2.2.2 hb h0 hw] at h; exact h
  have hr2 : (rtsS (datF x.f rtsN)).2 = true := by
    rw [rts_eq] at hr
    cases g : (rtsS (datF x.f rtsN)).2 with
    | true => rfl
    | false => rw [g] at hr; cases hr
  have hri : rtsI (datF x.f rtsN) = (0, (rtsS (datF x.f rtsN)).1) := by rw [rts_eq, hr2]; rfl
  have hts : ∀ t ∈ (rtsS (datF x.f rtsN)).1, trmF t = 0 := rdS_ok _ [] (fun _ h => by cases h)
  have htl : (rtsS (datF x.f rtsN)).1.length ≤ 8 := by
    have : ((rdS [] (linesP (datF x.f rtsN))).2 && (decide ((rdS [] (linesP (datF x.f rtsN))).1.length ≤ 8) && decide (rtsT (rdS [] (linesP (datF x.f rtsN))).1 = datF x.f rtsN))) = true := hr2
    simp only [Bool.and_eq_true, decide_eq_true_eq] at this
    exact this.2.1
  have ht := shnW_told c x.f
  have hsl := ht.len
  have hcl := (cat_ok hc).1
  have hcu := curF_in x.f
  have hil := itoa_len6 hcu.1 (by omega)
  generalize hT : (rtsS (datF x.f rtsN)).1 = ts at *
  generalize hS : (shnW c x.f).2 = ss at *
  obtain ⟨G1, ⟨a1, a0⟩, aa⟩ := catG_steps linR 46 (fmt0 x) ts fun t h => linR_len (hts t h)
  obtain ⟨G2, ⟨b1, b0⟩, bs⟩ := catG_steps (linH c) 29 (catG linR (fmt0 x) ts) ss fun k h => linH_len hc (ht.2 k h)
  obtain ⟨G3, ⟨c1, c0⟩, cs⟩ := catG_steps linF 1100 (catG (linH c) (catG linR (fmt0 x) ts) ss) x.f fun f hf => linF_len (by have := pathF_len (hk.pf f hf); omega) (hk.d4 f hf)
  have l0 : (fmt0 x).length ≤ 20 := by unfold fmt0; simp; split <;> simp <;> omega
  have l1 : (catG linR (fmt0 x) ts).length ≤ 400 := by have := catG_len (f := linR) (b := fmt0 x) (l := ts) fun t h => linR_len (hts t h); omega
  have l2 : (catG (linH c) (catG linR (fmt0 x) ts) ss).length ≤ 1100 := by have := catG_len (f := linH c) (b := catG linR (fmt0 x) ts) (l := ss) fun k h => linH_len hc (ht.2 k h); omega
  have h120 := hk.n120
  refine ⟨ts, ss, [103, 101, 110, 32] ++ Lib.itoa (curF x.f) ++ [10], fmt0 x, G1, G2, G3, rfl, rfl, ⟨?_, rfl, fun e => ?_, fun e => ?_, by simp; omega, a0, by rw [← a1]; exact b0, by rw [← b1]; exact c0, fun i t h => ?_, fun i k h => ?_, fun i f h => ?_, htl, by omega, hcu⟩, hri, hr2⟩
  · unfold fmtY; rw [if_neg (by simp [h]), hT, hS]; exact c1
  · unfold fmt0; rw [e]; simp
  · unfold fmt0; rw [e]; simp
  · obtain ⟨q1, q2, q3⟩ := aa i t h
    have := hts t (List.mem_of_getElem? h)
    exact ⟨by omega, this, trmT_len this, q3⟩
  · obtain ⟨q1, q2, q3⟩ := bs i k h
    obtain ⟨k0, hat, hn, hv, -, -⟩ := pk_facts hc (ht.2 k (List.mem_of_getElem? h))
    exact ⟨pk c k, ⟨k0, hat⟩, by omega, hn, hv, verT_len hv, q3⟩
  · obtain ⟨q1, q2, q3⟩ := cs i f h
    have hm := List.mem_of_getElem? h
    have w1 := hk.d4 f hm
    have w2 := sumB_in f.d 7 (by omega) (by omega)
    exact ⟨by omega, pathF_len (hk.pf f hm), w1, itoa_len6 (by omega) (by omega), w2, itoa_len6 w2.1 (by omega), q3⟩


set_option maxHeartbeats 1000000 in
theorem c_implFormatSystem (c : List Pck) (x : Dsk) (hl : c.length ≤ 1048576) (ho : ∀ o ∈ c, o.Small) (hx : x.Fit) : PCtr PP n_impl_FormatSystem [sysE false false c x] (str (fmtY c x)) := by
  obtain ⟨Ω, hΩ⟩ : ∃ Ω, Ω = std := ⟨_, rfl⟩
  obtain ⟨R, hR⟩ : ∃ R, R = fmtY c x := ⟨_, rfl⟩
  have k1 := c_implSystemFault c x hl ho hx
  have r1 : sysF c x ≠ 0 → R = [] := fun h => by rw [hR]; unfold fmtY; rw [if_pos h]
  rw [← hR]
  by_cases h : sysF c x = 0
  · obtain ⟨ts, ss, U0, U, G1, G2, G3, hts, hss, ⟨b1, b2, b3, b4, b5, b6, b7, b8, b9, b10, b11, b12, b14, b13⟩, hri, -⟩ := fmtB c x hx h
    rw [h] at k1
    rw [← hR] at b1
    obtain ⟨hc, hk, h0⟩ := sys_known hx h
    have k2 := c_current x hk
    have k3 := c_roots x hk
    rw [hri] at k3
    have k4 := c_shown c x hl ho hc hk
    rw [h0, ← hss] at k4
    have k5 := c_dec (curF x.f) (by omega) (by omega)
    have k6 := c_FormatTerm
    have k7 := fun v h => c_text v h
    have j3 : ∀ a b : List UInt8, a.length + b.length ≤ 1000 → PCtr PP n_impl_joined [.sl false 1 [str [104, 97, 115], str a, str b]] (str ([104, 97, 115] ++ [32] ++ a ++ [32] ++ b)) := fun a b h => by
      have := c_joined [[104, 97, 115], a, b] (by show 3 ≤ _; omega) (by rw [join3]; simp; omega)
      rw [join3] at this
      exact this
    have j4 : ∀ a b d : List UInt8, a.length + b.length + d.length ≤ 1000 → PCtr PP n_impl_joined [.sl false 1 [str [102, 105, 108, 101], str a, str b, str d]] (str ([102, 105, 108, 101] ++ [32] ++ a ++ [32] ++ b ++ [32] ++ d)) := fun a b d h => by
      have := c_joined [[102, 105, 108, 101], a, b, d] (by show 4 ≤ _; omega) (by rw [join4]; simp; omega)
      rw [join4] at this
      exact this
    clear hR hts hss r1
    have rz : roFree (rtsA (0, ts)) = true := by
      unfold rtsA
      rw [roFree_tup]
      have h : roFree (.sl true 7 (ts.map Trm.enc)) = true := roFTs _
      simp only [List.all_cons, List.all_nil]; rw [h]; rfl
    have fz : frz (rtsA (0, ts)) = .tup [.sl false 7 (ts.map Trm.enc), i64 0] := by
      unfold rtsA
      rw [frz_tup]; simp only [List.map_cons, List.map_nil, frz_sl]
      rw [show (ts.map Trm.enc).map frz = ts.map Trm.enc by rw [List.map_map]; exact List.map_congr_left fun c _ => rfl]; rfl
    have rw4 : roFree (.tup [.sl true 1 (ss.map i64), i64 0]) = true := by rw [roFree_tup]; simp only [List.all_cons, List.all_nil]; rw [roF_I]; rfl
    have fw4 : frz (.tup [.sl true 1 (ss.map i64), i64 0]) = .tup [.sl false 1 (ss.map i64), i64 0] := by rw [frz_tup]; simp only [List.map_cons, List.map_nil, frz_sl]; rw [frz_I]; rfl
    generalize hz : rtsA (0, ts) = z at *
    obtain ⟨tA, htA⟩ : ∃ tA, tA = ts.map Trm.enc := ⟨_, rfl⟩
    obtain ⟨sA, hsA⟩ : ∃ sA, sA = ss.map i64 := ⟨_, rfl⟩
    obtain ⟨fA, hfA⟩ : ∃ fA, fA = x.f.map (Fil.enc false) := ⟨_, rfl⟩
    have ltA : tA.length = ts.length := by rw [htA, List.length_map]
    have lsA : sA.length = ss.length := by rw [hsA, List.length_map]
    have lfA : fA.length = x.f.length := by rw [hfA, List.length_map]
    have hfat : ∀ i f, x.f[i]? = some f → ∃ (ds : List Fw.A) (n sm : Int) (i1 i2 : List UInt8), (fA[(Ω.int i).toNat]? = some (.agg [str f.p, .sl false 1 ds]) ∧ i64 (Ω.int (Ω.len ds)) = i64 n) ∧ (PCtr PP n_impl_dec [i64 n] (str i1) ∧ PCtr PP n_impl_SumOf [.sl false 1 ds] (i64 sm) ∧ PCtr PP n_impl_dec [i64 sm] (str i2)) ∧
        (G3 i).length ≤ 200000 ∧ f.p.length ≤ 40 ∧ i1.length ≤ 7 ∧ i2.length ≤ 7 ∧ G3 (i + 1) = G3 i ++ ([102, 105, 108, 101, 32] ++ (f.p ++ ([32] ++ (i1 ++ ([32] ++ (i2 ++ [10])))))) := fun i f h => by
      obtain ⟨q1, q2, q3, q4, q5, q6, q7⟩ := b11 i f h
      exact ⟨f.d.map byteA, f.d.length, sumB f.d 7, Lib.itoa f.d.length, Lib.itoa (sumB f.d 7), ⟨(rdI (f := Fil.enc false) hΩ hfA h).trans rfl, by subst hΩ; show i64 (((f.d.map byteA).length : Nat) : Int) = _; rw [List.length_map]⟩,
        ⟨c_dec _ (by omega) (by omega), c_SumOf f.d (by omega), c_dec _ (by omega) (by omega)⟩, q1, q2, q4, q6, q7⟩
    clear b11
    rw [← htA] at fz
    rw [← hsA] at rw4 fw4 k4
    have hn := hx.n
    have hss24 : ss.length ≤ 1048576 ∨ True := .inr trivial
    clear hz
    unfold sysE encP Dsk.enc at *
    rw [← hfA] at k1 k2 k3 k4 ⊢
    generalize c.map (Pck.enc false) = cs at *
    generalize hxf : x.f = xf at *
    clear hfA
    generalize x.bg = v1 at *
    generalize x.wr = v2 at *
    generalize x.st = v3 at *
    generalize x.dn = v4 at *
    generalize curF xf = cv at *
    generalize Lib.itoa cv = ic at *
    have htab := tab
    have hmo := hmo
    refine PCtr.walk tab hΩ fn_impl_FormatSystem rfl ?_
    generalize PP = P at *
    cbv
    refine call_pure hΩ 4 k1 rfl (fits _) rfl rfl ?_
    cbv
    refine brF (neF hΩ rfl) ?_
    cbv
    refine call_pure hΩ 4 k2 rfl (fits _) rfl rfl ?_
    cbv
    refine call_pure hΩ 4 k5 rfl (fits _) rfl rfl ?_
    cbv
    have u1 : v4 = true → Ω.cat (Ω.cat (Ω.cat [103, 101, 110, 32] ic) [10]) [100, 111, 119, 110, 10] = G1 0 := fun e => by rw [← b6, ← b3 e, b2]; subst hΩ; rfl
    have u0 : v4 = false → Ω.cat (Ω.cat [103, 101, 110, 32] ic) [10] = G1 0 := fun e => by rw [← b6, ← b4 e, b2]; subst hΩ; rfl
    have uL : ic.length ≤ 12 := by rw [b2] at b5; simp at b5; omega
    clear b2 b3 b4 b5 b6
    refine ⟨⟨obC (by simp; omega)⟩, ⟨obC (by (repeat rw [catL hΩ]); simp; omega)⟩, ?_⟩
    refine br (fun g => ?_) (fun g => ?_) <;> cbv
    · refine ⟨⟨obC (by (repeat rw [catL hΩ]); simp; omega)⟩, ?_⟩
      replace u1 := u1 g
      refine call_pf hΩ 4 k3 rfl (fits _) rz fz rfl ?_
      cbv
      refine loopX htab hΩ (fun i : Nat => ⟨[(1, .rp [.sl false 8 cs, .sl false 2 fA, i64 v1, i64 v2, i64 v3, boo v4]), (3, .rp [.sl false 2 fA, i64 v1, i64 v2, i64 v3, boo v4]), (6, str (G1 i)), (40, .sl false 7 tA), (41, i64 (Ω.int (Ω.len tA))), (42, i64 (Ω.int i))], 109, [none, none]⟩) (fun i => i ≤ ts.length) (fun i => ts.length - i) 0
        (Nat.zero_le _) ((((Sbs.unlk (r := 0) rfl rfl).trans (Sbs.thaw0 (r := 0) rfl rfl rfl)).trans ((Sbs.unlk (r := 1) rfl rfl).trans (Sbs.thaw0 (r := 1) rfl rfl rfl))).trans (Sbs.mk rfl rfl ⟨rfl, rfl, congrArg str u1, rfl, rfl, zeroI hΩ, trivial⟩)) ?_
      intro i hi
      cbv
      refine br (fun h => ?_) (fun h => ?_) <;> cbv
      · replace h := ltI hΩ h
        obtain ⟨t, ht⟩ := at_of (cs := ts) (by omega : i < ts.length)
        obtain ⟨q1, q2, q3, q4⟩ := b9 i t ht
        have k6 := k6 t
        rw [show fmtT t = trmT t by unfold fmtT; rw [if_pos q2]] at k6
        unfold linR at q4
        generalize trmT t = w at *
        refine ⟨⟨nnI hΩ⟩, _, rdI hΩ htA ht, ?_⟩
        cbv
        refine call_pure hΩ 4 k6 rfl (fits _) rfl rfl ?_
        cbv
        refine ⟨⟨obC (by simp; omega)⟩, ⟨obC (by (repeat rw [catL hΩ]); simp; omega)⟩, ⟨obC (by (repeat rw [catL hΩ]); simp; omega)⟩, ?_⟩
        refine ⟨i + 1, by omega, by omega, (Sbs.cut 2 rfl).trans (Sbs.mk rfl rfl ⟨rfl, rfl, congrArg str ?_, rfl, rfl, incI hΩ (by omega), trivial⟩)⟩
        rw [q4]; subst hΩ; rfl
      replace h := geI hΩ h
      have hi : i = ts.length := by omega
      subst hi
      rw [b7]
      refine call_pf hΩ 4 k4 rfl (fits _) rw4 fw4 rfl ?_
      cbv
      refine loopX htab hΩ (fun i : Nat => ⟨[(1, .rp [.sl false 8 cs, .sl false 2 fA, i64 v1, i64 v2, i64 v3, boo v4]), (3, .rp [.sl false 2 fA, i64 v1, i64 v2, i64 v3, boo v4]), (6, str (G2 i)), (60, .sl false 1 sA), (61, i64 (Ω.int (Ω.len sA))), (62, i64 (Ω.int i))], 109, [none, none]⟩) (fun i => i ≤ ss.length) (fun i => ss.length - i) 0
        (Nat.zero_le _) (Sbs.mk rfl rfl ⟨rfl, rfl, rfl, rfl, rfl, zeroI hΩ, trivial⟩) ?_
      intro i hi
      cbv
      refine br (fun h => ?_) (fun h => ?_) <;> cbv
      · replace h := ltI hΩ h
        obtain ⟨k, hki⟩ := at_of (cs := ss) (by omega : i < ss.length)
        obtain ⟨o, ⟨q0, hat⟩, q1, q2, q3, q5, q4⟩ := b10 i k hki
        have k7 := k7 o.v q3
        have j3 := j3 o.n (verT o.v) (by omega)
        obtain ⟨ps, dd, bb, hen, -, -, -⟩ := enc_raw o
        rw [hen] at hat
        generalize verT o.v = w at *
        generalize o.n = nm at *
        obtain ⟨j, hjj⟩ : ∃ j, j = [104, 97, 115] ++ [32] ++ nm ++ [32] ++ w := ⟨_, rfl⟩
        have hjl : j.length ≤ 30 := by rw [hjj]; simp; omega
        have q4 : G2 (i + 1) = G2 i ++ (j ++ [10]) := by rw [q4, hjj]; simp
        rw [← hjj] at j3
        refine ⟨⟨nnI hΩ⟩, _, rdI hΩ hsA hki, ?_⟩
        cbv
        refine ⟨VC_pl htab hΩ hmo (.qs [0, 1, 2, 3, 4, 5, 6, 7, 8, 9, 10, 11, 12] (.s 13 (.s 14 (.s 15 (.s 16 (.s 17 (.q 18 .fin))))))) (by kernel_rfl) ?_⟩
        cbv
        refine ⟨⟨q0⟩, _, hat, ?_⟩
        cbv
        refine ⟨⟨q0⟩, _, hat, ?_⟩
        cbv
        refine call_pure hΩ 4 k7 rfl (fits _) rfl rfl ?_
        cbv
        refine call_pure hΩ 4 j3 rfl (fits _) rfl rfl ?_
        cbv
        refine ⟨⟨obC (by simp; omega)⟩, ⟨obC (by (repeat rw [catL hΩ]); simp; omega)⟩, ?_⟩
        refine ⟨i + 1, by omega, by omega, (Sbs.cut 2 rfl).trans (Sbs.mk rfl rfl ⟨rfl, rfl, congrArg str ?_, rfl, rfl, incI hΩ (by omega), trivial⟩)⟩
        rw [q4]; subst hΩ; rfl
      replace h := geI hΩ h
      have hi : i = ss.length := by omega
      subst hi
      rw [b8]
      refine loopX htab hΩ (fun i : Nat => ⟨[(6, str (G3 i)), (86, .sl false 2 fA), (87, i64 (Ω.int (Ω.len fA))), (88, i64 (Ω.int i))], 109, [none, none]⟩) (fun i => i ≤ xf.length) (fun i => xf.length - i) 0
        (Nat.zero_le _) (Sbs.mk rfl rfl ⟨rfl, rfl, rfl, zeroI hΩ, trivial⟩) ?_
      intro i hi
      cbv
      refine br (fun h => ?_) (fun h => ?_) <;> cbv
      · replace h := ltI hΩ h
        obtain ⟨f, hf⟩ := at_of (cs := xf) (by omega : i < xf.length)
        obtain ⟨ds, n, sm, i1, i2, ⟨hfa, hld⟩, ⟨k8a, k9, k8b⟩, q1, q2, q4, q6, q7⟩ := hfat i f hf
        generalize f.p = fp at *
        have j4 := j4 fp i1 i2 (by omega)
        obtain ⟨j, hjj⟩ : ∃ j, j = [102, 105, 108, 101] ++ [32] ++ fp ++ [32] ++ i1 ++ [32] ++ i2 := ⟨_, rfl⟩
        have hjl : j.length ≤ 70 := by rw [hjj]; simp; omega
        have q7 : G3 (i + 1) = G3 i ++ (j ++ [10]) := by rw [q7, hjj]; simp
        rw [← hjj] at j4
        refine ⟨⟨nnI hΩ⟩, _, hfa, ?_⟩
        cbv
        refine ⟨VC.sub (VC_pl htab hΩ hmo (.qs [0, 1, 2, 3, 4, 7, 8] (.s 5 (.s 6 (.s 9 (.s 10 (.s 11 (.s 12 (.s 13 (.s 14 (.q 15 .fin)))))))))) (by kernel_rfl) ?_) ((Sbs.unlk (r := 2) rfl rfl).trans (Sbs.thaw0 (r := 2) rfl rfl rfl))⟩
        cbv
        refine call_pure hΩ 4 k8a rfl (fitsE (congrArg (fun z => [z]) hld)) rfl rfl ?_
        cbv
        refine call_pure hΩ 4 k9 rfl (fits _) rfl rfl ?_
        cbv
        refine call_pure hΩ 4 k8b rfl (fits _) rfl rfl ?_
        cbv
        refine call_pure hΩ 4 j4 rfl (fits _) rfl rfl ?_
        cbv
        refine ⟨⟨obC (by simp; omega)⟩, ⟨obC (by (repeat rw [catL hΩ]); simp; omega)⟩, ?_⟩
        refine ⟨i + 1, by omega, by omega, (Sbs.cut 2 rfl).trans (Sbs.mk rfl rfl ⟨congrArg str ?_, rfl, rfl, incI hΩ (by omega), trivial⟩)⟩
        rw [q7]; subst hΩ; rfl
      replace h := geI hΩ h
      have hi : i = xf.length := by omega
      subst hi
      rw [b1]
      exact .same
    · replace u0 := u0 g
      refine call_pf hΩ 4 k3 rfl (fits _) rz fz rfl ?_
      cbv
      refine loopX htab hΩ (fun i : Nat => ⟨[(1, .rp [.sl false 8 cs, .sl false 2 fA, i64 v1, i64 v2, i64 v3, boo v4]), (3, .rp [.sl false 2 fA, i64 v1, i64 v2, i64 v3, boo v4]), (6, str (G1 i)), (40, .sl false 7 tA), (41, i64 (Ω.int (Ω.len tA))), (42, i64 (Ω.int i))], 109, [none, none]⟩) (fun i => i ≤ ts.length) (fun i => ts.length - i) 0
        (Nat.zero_le _) ((((Sbs.unlk (r := 0) rfl rfl).trans (Sbs.thaw0 (r := 0) rfl rfl rfl)).trans ((Sbs.unlk (r := 1) rfl rfl).trans (Sbs.thaw0 (r := 1) rfl rfl rfl))).trans (Sbs.mk rfl rfl ⟨rfl, rfl, congrArg str u0, rfl, rfl, zeroI hΩ, trivial⟩)) ?_
      intro i hi
      cbv
      refine br (fun h => ?_) (fun h => ?_) <;> cbv
      · replace h := ltI hΩ h
        obtain ⟨t, ht⟩ := at_of (cs := ts) (by omega : i < ts.length)
        obtain ⟨q1, q2, q3, q4⟩ := b9 i t ht
        have k6 := k6 t
        rw [show fmtT t = trmT t by unfold fmtT; rw [if_pos q2]] at k6
        unfold linR at q4
        generalize trmT t = w at *
        refine ⟨⟨nnI hΩ⟩, _, rdI hΩ htA ht, ?_⟩
        cbv
        refine call_pure hΩ 4 k6 rfl (fits _) rfl rfl ?_
        cbv
        refine ⟨⟨obC (by simp; omega)⟩, ⟨obC (by (repeat rw [catL hΩ]); simp; omega)⟩, ⟨obC (by (repeat rw [catL hΩ]); simp; omega)⟩, ?_⟩
        refine ⟨i + 1, by omega, by omega, (Sbs.cut 2 rfl).trans (Sbs.mk rfl rfl ⟨rfl, rfl, congrArg str ?_, rfl, rfl, incI hΩ (by omega), trivial⟩)⟩
        rw [q4]; subst hΩ; rfl
      replace h := geI hΩ h
      have hi : i = ts.length := by omega
      subst hi
      rw [b7]
      refine call_pf hΩ 4 k4 rfl (fits _) rw4 fw4 rfl ?_
      cbv
      refine loopX htab hΩ (fun i : Nat => ⟨[(1, .rp [.sl false 8 cs, .sl false 2 fA, i64 v1, i64 v2, i64 v3, boo v4]), (3, .rp [.sl false 2 fA, i64 v1, i64 v2, i64 v3, boo v4]), (6, str (G2 i)), (60, .sl false 1 sA), (61, i64 (Ω.int (Ω.len sA))), (62, i64 (Ω.int i))], 109, [none, none]⟩) (fun i => i ≤ ss.length) (fun i => ss.length - i) 0
        (Nat.zero_le _) (Sbs.mk rfl rfl ⟨rfl, rfl, rfl, rfl, rfl, zeroI hΩ, trivial⟩) ?_
      intro i hi
      cbv
      refine br (fun h => ?_) (fun h => ?_) <;> cbv
      · replace h := ltI hΩ h
        obtain ⟨k, hki⟩ := at_of (cs := ss) (by omega : i < ss.length)
        obtain ⟨o, ⟨q0, hat⟩, q1, q2, q3, q5, q4⟩ := b10 i k hki
        have k7 := k7 o.v q3
        have j3 := j3 o.n (verT o.v) (by omega)
        obtain ⟨ps, dd, bb, hen, -, -, -⟩ := enc_raw o
        rw [hen] at hat
        generalize verT o.v = w at *
        generalize o.n = nm at *
        obtain ⟨j, hjj⟩ : ∃ j, j = [104, 97, 115] ++ [32] ++ nm ++ [32] ++ w := ⟨_, rfl⟩
        have hjl : j.length ≤ 30 := by rw [hjj]; simp; omega
        have q4 : G2 (i + 1) = G2 i ++ (j ++ [10]) := by rw [q4, hjj]; simp
        rw [← hjj] at j3
        refine ⟨⟨nnI hΩ⟩, _, rdI hΩ hsA hki, ?_⟩
        cbv
        refine ⟨VC_pl htab hΩ hmo (.qs [0, 1, 2, 3, 4, 5, 6, 7, 8, 9, 10, 11, 12] (.s 13 (.s 14 (.s 15 (.s 16 (.s 17 (.q 18 .fin))))))) (by kernel_rfl) ?_⟩
        cbv
        refine ⟨⟨q0⟩, _, hat, ?_⟩
        cbv
        refine ⟨⟨q0⟩, _, hat, ?_⟩
        cbv
        refine call_pure hΩ 4 k7 rfl (fits _) rfl rfl ?_
        cbv
        refine call_pure hΩ 4 j3 rfl (fits _) rfl rfl ?_
        cbv
        refine ⟨⟨obC (by simp; omega)⟩, ⟨obC (by (repeat rw [catL hΩ]); simp; omega)⟩, ?_⟩
        refine ⟨i + 1, by omega, by omega, (Sbs.cut 2 rfl).trans (Sbs.mk rfl rfl ⟨rfl, rfl, congrArg str ?_, rfl, rfl, incI hΩ (by omega), trivial⟩)⟩
        rw [q4]; subst hΩ; rfl
      replace h := geI hΩ h
      have hi : i = ss.length := by omega
      subst hi
      rw [b8]
      refine loopX htab hΩ (fun i : Nat => ⟨[(6, str (G3 i)), (86, .sl false 2 fA), (87, i64 (Ω.int (Ω.len fA))), (88, i64 (Ω.int i))], 109, [none, none]⟩) (fun i => i ≤ xf.length) (fun i => xf.length - i) 0
        (Nat.zero_le _) (Sbs.mk rfl rfl ⟨rfl, rfl, rfl, zeroI hΩ, trivial⟩) ?_
      intro i hi
      cbv
      refine br (fun h => ?_) (fun h => ?_) <;> cbv
      · replace h := ltI hΩ h
        obtain ⟨f, hf⟩ := at_of (cs := xf) (by omega : i < xf.length)
        obtain ⟨ds, n, sm, i1, i2, ⟨hfa, hld⟩, ⟨k8a, k9, k8b⟩, q1, q2, q4, q6, q7⟩ := hfat i f hf
        generalize f.p = fp at *
        have j4 := j4 fp i1 i2 (by omega)
        obtain ⟨j, hjj⟩ : ∃ j, j = [102, 105, 108, 101] ++ [32] ++ fp ++ [32] ++ i1 ++ [32] ++ i2 := ⟨_, rfl⟩
        have hjl : j.length ≤ 70 := by rw [hjj]; simp; omega
        have q7 : G3 (i + 1) = G3 i ++ (j ++ [10]) := by rw [q7, hjj]; simp
        rw [← hjj] at j4
        refine ⟨⟨nnI hΩ⟩, _, hfa, ?_⟩
        cbv
        refine ⟨VC.sub (VC_pl htab hΩ hmo (.qs [0, 1, 2, 3, 4, 7, 8] (.s 5 (.s 6 (.s 9 (.s 10 (.s 11 (.s 12 (.s 13 (.s 14 (.q 15 .fin)))))))))) (by kernel_rfl) ?_) ((Sbs.unlk (r := 2) rfl rfl).trans (Sbs.thaw0 (r := 2) rfl rfl rfl))⟩
        cbv
        refine call_pure hΩ 4 k8a rfl (fitsE (congrArg (fun z => [z]) hld)) rfl rfl ?_
        cbv
        refine call_pure hΩ 4 k9 rfl (fits _) rfl rfl ?_
        cbv
        refine call_pure hΩ 4 k8b rfl (fits _) rfl rfl ?_
        cbv
        refine call_pure hΩ 4 j4 rfl (fits _) rfl rfl ?_
        cbv
        refine ⟨⟨obC (by simp; omega)⟩, ⟨obC (by (repeat rw [catL hΩ]); simp; omega)⟩, ?_⟩
        refine ⟨i + 1, by omega, by omega, (Sbs.cut 2 rfl).trans (Sbs.mk rfl rfl ⟨congrArg str ?_, rfl, rfl, incI hΩ (by omega), trivial⟩)⟩
        rw [q7]; subst hΩ; rfl
      replace h := geI hΩ h
      have hi : i = xf.length := by omega
      subst hi
      rw [b1]
      exact .same
  · rw [r1 h]
    clear hR r1
    generalize sysF c x = b at *
    unfold sysE at *
    generalize x.f.map (Fil.enc false) = xs at *
    generalize c.map (Pck.enc false) = cs at *
    have htab := tab
    have hmo := hmo
    refine PCtr.walk tab hΩ fn_impl_FormatSystem rfl ?_
    generalize PP = P at *
    cbv
    refine call_pure hΩ 4 k1 rfl (fits _) rfl rfl ?_
    cbv
    refine brT (neT hΩ h) ?_
    cbv
    exact .same
end Go.Proofs.YtgcnggefeapalaaGreatDoor

/- Walks: the text of a machine, the reference's. Plain theorems. -/
set_option linter.unusedVariables false
set_option linter.unusedSimpArgs false
namespace Go.Proofs.YtgcnggefeapalaaGreatDoor
open Go Go.Fw
set_option maxRecDepth 100000


set_option maxHeartbeats 1000000 in
theorem c_specFormatSystem (c : List Pck) (x : Dsk) (hl : c.length ≤ 1048576) (ho : ∀ o ∈ c, o.Small) (hx : x.Fit) : PCtr PP n_spec_FormatSystem [sysE false false c x] (str (fmtY c x)) := by
  obtain ⟨Ω, hΩ⟩ : ∃ Ω, Ω = std := ⟨_, rfl⟩
  obtain ⟨R, hR⟩ : ∃ R, R = fmtY c x := ⟨_, rfl⟩
  have k1 := c_specSystemFault c x hl ho hx
  have r1 : sysF c x ≠ 0 → R = [] := fun h => by rw [hR]; unfold fmtY; rw [if_pos h]
  rw [← hR]
  by_cases h : sysF c x = 0
  · obtain ⟨ts, ss, U0, U, G1, G2, G3, hts, hss, ⟨b1, b2, b3, b4, b5, b6, b7, b8, b9, b10, b11, b12, b14, b13⟩, -, hr2⟩ := fmtB c x hx h
    rw [h] at k1
    rw [← hR] at b1
    obtain ⟨hc, hk, h0⟩ := sys_known hx h
    have k2 := c_l8Current x hk.toFit hk.o
    have k3 := c_l8Asks x hk
    have e3 : rtsS (datF x.f rtsN) = (ts, true) := by rw [hts, ← hr2]
    rw [e3] at k3
    have k4 := c_l8Shown c x hl hk
    rw [h0, ← hss] at k4
    have k6 := c_specFormatTerm
    have k7 := fun v h => c_specFormatVersion v h
    have k5 : PCtr PP n_spec_l12Line [str [103, 101, 110], .sl false 1 [i64 (curF x.f)]] (str ([103, 101, 110, 32] ++ Lib.itoa (curF x.f))) := by
      have := c_l12Line [103, 101, 110] [(curF x.f).toNat] (by show 3 ≤ _; omega) (by show 1 ≤ _; omega) (fun n hn => by simp at hn; omega)
      simp only [List.map_cons, List.map_nil] at this
      rw [show (((curF x.f).toNat : Nat) : Int) = curF x.f by omega] at this
      rw [itoa_dec b13.1]
      simpa [l12P, catG] using this
    clear hR hts hss r1 e3 hr2
    have rz : roFree (rtsB (ts, true)) = true := roF_rtsB _
    have fz : frz (rtsB (ts, true)) = .tup [.sl false 7 (ts.map Trm.enc), boo true] := by
      unfold rtsB
      rw [frz_tup]; simp only [List.map_cons, List.map_nil, frz_sl]
      rw [show (ts.map Trm.enc).map frz = ts.map Trm.enc by rw [List.map_map]; exact List.map_congr_left fun c _ => rfl]; rfl
    have rw4 : roFree (setR 0 0 ss) = true := roFI3 _ _ _
    have fw4 : frz (setR 0 0 ss) = .agg [i64 0, i64 0, .sl false 1 (ss.map i64)] := by unfold setR; rw [frz_agg]; simp only [List.map_cons, List.map_nil, frz_sl]; rw [frz_I]; rfl
    generalize hz : rtsB (ts, true) = z at *
    obtain ⟨tA, htA⟩ : ∃ tA, tA = ts.map Trm.enc := ⟨_, rfl⟩
    obtain ⟨sA, hsA⟩ : ∃ sA, sA = ss.map i64 := ⟨_, rfl⟩
    obtain ⟨fA, hfA⟩ : ∃ fA, fA = x.f.map (Fil.enc false) := ⟨_, rfl⟩
    have ltA : tA.length = ts.length := by rw [htA, List.length_map]
    have lsA : sA.length = ss.length := by rw [hsA, List.length_map]
    have lfA : fA.length = x.f.length := by rw [hfA, List.length_map]
    have hfat : ∀ i f, x.f[i]? = some f → ∃ (ds : List Fw.A) (n sm : Int) (i1 i2 : List UInt8), (fA[(Ω.int i).toNat]? = some (.agg [str f.p, .sl false 1 ds]) ∧ i64 (Ω.int (Ω.len ds)) = i64 n) ∧ (PCtr PP n_spec_SumOf [.sl false 1 ds] (i64 sm) ∧ PCtr PP n_spec_l12Line [str ([102, 105, 108, 101, 32] ++ f.p), .sl false 1 [i64 n, i64 sm]] (str ([102, 105, 108, 101, 32] ++ f.p ++ [32] ++ i1 ++ [32] ++ i2))) ∧
        (G3 i).length ≤ 200000 ∧ f.p.length ≤ 40 ∧ i1.length ≤ 7 ∧ i2.length ≤ 7 ∧ G3 (i + 1) = G3 i ++ ([102, 105, 108, 101, 32] ++ (f.p ++ ([32] ++ (i1 ++ ([32] ++ (i2 ++ [10])))))) := fun i f h => by
      obtain ⟨q1, q2, q3, q4, q5, q6, q7⟩ := b11 i f h
      refine ⟨f.d.map byteA, f.d.length, sumB f.d 7, Lib.itoa f.d.length, Lib.itoa (sumB f.d 7), ⟨(rdI (f := Fil.enc false) hΩ hfA h).trans rfl, by subst hΩ; show i64 (((f.d.map byteA).length : Nat) : Int) = _; rw [List.length_map]⟩,
        ⟨c_specSumOf f.d (by omega), ?_⟩, q1, q2, q4, q6, q7⟩
      have := c_l12Line ([102, 105, 108, 101, 32] ++ f.p) [f.d.length, (sumB f.d 7).toNat] (by simp; omega) (by show 2 ≤ _; omega) (fun n hn => by simp at hn; omega)
      simp only [List.map_cons, List.map_nil] at this
      rw [show (((sumB f.d 7).toNat : Nat) : Int) = sumB f.d 7 by omega] at this
      rw [itoa_dec (n := (f.d.length : Int)) (by omega), itoa_dec q5.1]
      simpa [l12P, catG] using this
    clear b11
    rw [← htA] at fz
    rw [← hsA] at fw4
    have hn := hx.n
    clear hz
    generalize setR 0 0 ss = z4 at *
    unfold sysE encP Dsk.see at *
    rw [← hfA] at k1 k2 k3 k4 ⊢
    generalize c.map (Pck.enc false) = cs at *
    generalize hxf : x.f = xf at *
    clear hfA
    generalize x.bg = v1 at *
    generalize x.wr = v2 at *
    generalize x.st = v3 at *
    generalize x.dn = v4 at *
    generalize curF xf = cv at *
    generalize Lib.itoa cv = ic at *
    have u1 : v4 = true → Ω.cat (Ω.cat ([103, 101, 110, 32] ++ ic) [10]) [100, 111, 119, 110, 10] = G1 0 := fun e => by rw [← b6, ← b3 e, b2]; subst hΩ; rfl
    have u0 : v4 = false → Ω.cat ([103, 101, 110, 32] ++ ic) [10] = G1 0 := fun e => by rw [← b6, ← b4 e, b2]; subst hΩ; rfl
    have uL : ([103, 101, 110, 32] ++ ic).length ≤ 12 := by rw [b2] at b5; simp at b5 ⊢; omega
    clear b2 b3 b4 b5 b6
    generalize [103, 101, 110, 32] ++ ic = gi at *
    have htab := tab
    have hmo := hmo
    refine PCtr.walk tab hΩ fn_spec_FormatSystem rfl ?_
    generalize PP = P at *
    cbv
    refine call_pure hΩ 4 k1 rfl (fits _) rfl rfl ?_
    cbv
    refine brF (neF hΩ rfl) ?_
    cbv
    refine call_pure hΩ 5 k2 rfl (fits _) rfl rfl ?_
    cbv
    refine call_pure hΩ 5 k5 rfl (fits _) rfl rfl ?_
    cbv
    refine ⟨⟨obC (by simp; omega)⟩, ?_⟩
    refine br (fun g => ?_) (fun g => ?_) <;> cbv
    · refine ⟨⟨obC (by (repeat rw [catL hΩ]); simp; omega)⟩, ?_⟩
      replace u1 := u1 g
      refine call_pf hΩ 5 k3 rfl (fits _) rz fz rfl ?_
      cbv
      refine loopX htab hΩ (fun i : Nat => ⟨[(1, .rp [.sl false 8 cs, .sl false 2 fA, i64 v1, i64 v2, i64 v3, boo v4]), (3, str (G1 i)), (4, .sl false 7 tA), (6, i64 (Ω.int i))], 109, [none]⟩) (fun i => i ≤ ts.length) (fun i => ts.length - i) 0
        (Nat.zero_le _) (((Sbs.unlk (r := 0) rfl rfl).trans (Sbs.thaw0 (r := 0) rfl rfl rfl)).trans ((Sbs.cut 1 rfl).trans (Sbs.mk rfl rfl ⟨rfl, congrArg str u1, rfl, zeroI hΩ, trivial⟩))) ?_
      intro i hi
      cbv
      refine br (fun h => ?_) (fun h => ?_) <;> cbv
      · replace h := ltI hΩ h
        obtain ⟨t, ht⟩ := at_of (cs := ts) (by omega : i < ts.length)
        obtain ⟨q1, q2, q3, q4⟩ := b9 i t ht
        have k6 := k6 t
        rw [show fmtT t = trmT t by unfold fmtT; rw [if_pos q2]] at k6
        unfold linR at q4
        generalize trmT t = w at *
        refine ⟨⟨obC (by simp; omega)⟩, ⟨nnI hΩ⟩, _, rdI hΩ htA ht, ?_⟩
        cbv
        refine call_pure hΩ 4 k6 rfl (fits _) rfl rfl ?_
        cbv
        refine ⟨⟨obC (by (repeat rw [catL hΩ]); simp; omega)⟩, ⟨obC (by (repeat rw [catL hΩ]); simp; omega)⟩, ?_⟩
        refine ⟨i + 1, by omega, by omega, (Sbs.cut 1 rfl).trans (Sbs.mk rfl rfl ⟨rfl, congrArg str ?_, rfl, incI hΩ (by omega), trivial⟩)⟩
        rw [q4]; subst hΩ; show G1 i ++ [114, 111, 111, 116, 32] ++ w ++ [10] = _; simp
      replace h := geI hΩ h
      have hi : i = ts.length := by omega
      subst hi
      rw [b7]
      refine call_pf hΩ 5 k4 rfl (fits _) rw4 fw4 rfl ?_
      cbv
      refine loopX htab hΩ (fun i : Nat => ⟨[(1, .rp [.sl false 8 cs, .sl false 2 fA, i64 v1, i64 v2, i64 v3, boo v4]), (3, str (G2 i)), (7, .sl false 1 sA), (8, i64 (Ω.int i))], 109, [none]⟩) (fun i => i ≤ ss.length) (fun i => ss.length - i) 0
        (Nat.zero_le _) ((Sbs.cut 1 rfl).trans (Sbs.mk rfl rfl ⟨rfl, rfl, rfl, zeroI hΩ, trivial⟩)) ?_
      intro i hi
      cbv
      refine br (fun h => ?_) (fun h => ?_) <;> cbv
      · replace h := ltI hΩ h
        obtain ⟨k, hki⟩ := at_of (cs := ss) (by omega : i < ss.length)
        obtain ⟨o, ⟨q0, hat⟩, q1, q2, q3, q5, q4⟩ := b10 i k hki
        have k7 := k7 o.v q3
        obtain ⟨ps, dd, bb, hen, -, -, -⟩ := enc_raw o
        rw [hen] at hat
        generalize verT o.v = w at *
        generalize o.n = nm at *
        have e : str (Ω.cat (Ω.cat (Ω.cat (Ω.cat (Ω.cat (G2 i) [104, 97, 115, 32]) nm) [32]) w) [10]) = str (G2 (i + 1)) := by rw [q4]; subst hΩ; exact congrArg str (by show G2 i ++ [104, 97, 115, 32] ++ nm ++ [32] ++ w ++ [10] = _; simp)
        refine ⟨VC_pl htab hΩ hmo (.qs [0, 1, 2, 3, 4, 5, 6, 7, 8, 9, 10, 11, 12, 13, 14, 15, 16, 17, 18, 19, 20, 21] (.s 22 (.s 23 (.s 24 (.q 25 .fin))))) (by kernel_rfl) ?_⟩
        cbv
        repeat' (first
          | (refine call_pure hΩ 4 k7 rfl (fits _) rfl rfl ?_; cbv)
          | exact ⟨i + 1, by omega, by omega, (Sbs.cut 1 rfl).trans (Sbs.mk rfl rfl ⟨rfl, e, rfl, incI hΩ (by omega), trivial⟩)⟩
          | exact ⟨obC (by omega)⟩
          | exact ⟨obC (by simp; omega)⟩
          | exact ⟨obC (by (repeat rw [catL hΩ]); simp; omega)⟩
          | exact ⟨nnI hΩ⟩
          | exact ⟨q0⟩
          | (refine ⟨_, rdI hΩ hsA hki, ?_⟩; cbv)
          | (refine ⟨_, hat, ?_⟩; cbv)
          | (refine And.intro ?_ ?_))
      replace h := geI hΩ h
      have hi : i = ss.length := by omega
      subst hi
      rw [b8]
      refine loopX htab hΩ (fun i : Nat => ⟨[(1, .rp [.sl false 8 cs, .sl false 2 fA, i64 v1, i64 v2, i64 v3, boo v4]), (3, str (G3 i)), (9, i64 (Ω.int i))], 109, [none]⟩) (fun i => i ≤ xf.length) (fun i => xf.length - i) 0
        (Nat.zero_le _) (Sbs.mk rfl rfl ⟨rfl, rfl, zeroI hΩ, trivial⟩) ?_
      intro i hi
      cbv
      refine br (fun h => ?_) (fun h => ?_) <;> cbv
      · replace h := ltI hΩ h
        obtain ⟨f, hf⟩ := at_of (cs := xf) (by omega : i < xf.length)
        obtain ⟨ds, n, sm, i1, i2, ⟨hfa, hld⟩, ⟨k9, k8⟩, q1, q2, q4, q6, q7⟩ := hfat i f hf
        generalize f.p = fp at *
        obtain ⟨j, hjj⟩ : ∃ j, j = [102, 105, 108, 101, 32] ++ fp ++ [32] ++ i1 ++ [32] ++ i2 := ⟨_, rfl⟩
        have hjl : j.length ≤ 70 := by rw [hjj]; simp; omega
        have e : str (Ω.cat (Ω.cat (G3 i) j) [10]) = str (G3 (i + 1)) := by rw [q7, hjj]; subst hΩ; exact congrArg str (by show G3 i ++ _ ++ [10] = _; simp)
        rw [← hjj] at k8
        obtain ⟨fc, hfc⟩ : ∃ fc, fc = Ω.cat [102, 105, 108, 101, 32] fp := ⟨_, rfl⟩
        rw [show [102, 105, 108, 101, 32] ++ fp = fc by rw [hfc]; subst hΩ; rfl] at k8
        have hE : [str (Ω.cat [102, 105, 108, 101, 32] fp), Fw.A.sl false 1 [i64 (Ω.int (Ω.len ds)), i64 sm]] = [str fc, .sl false 1 [i64 n, i64 sm]] := by rw [hfc, hld]
        refine ⟨⟨nnI hΩ⟩, _, hfa, ?_⟩
        cbv
        refine ⟨VC.sub (VC_pl htab hΩ hmo (.qs [0, 1, 2, 3, 4, 5, 7, 8] (.two 6 (.s 9 (.s 10 (.s 11 (.s 12 (.s 13 (.q 14 .fin)))))) 9 (.s 6 (.s 10 (.s 11 (.s 12 (.s 13 (.q 14 .fin)))))))) (by kernel_rfl) ?_) ((Sbs.unlk (r := 1) rfl rfl).trans (Sbs.thaw0 (r := 1) rfl rfl rfl))⟩
        cbv
        repeat' (first
          | (refine call_pure hΩ 4 k9 rfl (fits _) rfl rfl ?_; cbv)
          | (refine call_pure hΩ 4 k8 (mapO2 rfl (ro_vw rfl rfl rfl)) (fitsE hE) rfl rfl ?_; cbv)
          | exact ⟨i + 1, by omega, by omega, (Sbs.cut 1 rfl).trans (Sbs.mk rfl rfl ⟨rfl, e, incI hΩ (by omega), trivial⟩)⟩
          | exact ⟨obC (by omega)⟩
          | exact ⟨obC (by simp; omega)⟩
          | exact ⟨obC (by (repeat rw [catL hΩ]); simp; omega)⟩
          | (refine And.intro ?_ ?_))
      replace h := geI hΩ h
      have hi : i = xf.length := by omega
      subst hi
      rw [b1]
      exact .same
    · replace u0 := u0 g
      refine call_pf hΩ 5 k3 rfl (fits _) rz fz rfl ?_
      cbv
      refine loopX htab hΩ (fun i : Nat => ⟨[(1, .rp [.sl false 8 cs, .sl false 2 fA, i64 v1, i64 v2, i64 v3, boo v4]), (3, str (G1 i)), (4, .sl false 7 tA), (6, i64 (Ω.int i))], 109, [none]⟩) (fun i => i ≤ ts.length) (fun i => ts.length - i) 0
        (Nat.zero_le _) (((Sbs.unlk (r := 0) rfl rfl).trans (Sbs.thaw0 (r := 0) rfl rfl rfl)).trans ((Sbs.cut 1 rfl).trans (Sbs.mk rfl rfl ⟨rfl, congrArg str u0, rfl, zeroI hΩ, trivial⟩))) ?_
      intro i hi
      cbv
      refine br (fun h => ?_) (fun h => ?_) <;> cbv
      · replace h := ltI hΩ h
        obtain ⟨t, ht⟩ := at_of (cs := ts) (by omega : i < ts.length)
        obtain ⟨q1, q2, q3, q4⟩ := b9 i t ht
        have k6 := k6 t
        rw [show fmtT t = trmT t by unfold fmtT; rw [if_pos q2]] at k6
        unfold linR at q4
        generalize trmT t = w at *
        refine ⟨⟨obC (by simp; omega)⟩, ⟨nnI hΩ⟩, _, rdI hΩ htA ht, ?_⟩
        cbv
        refine call_pure hΩ 4 k6 rfl (fits _) rfl rfl ?_
        cbv
        refine ⟨⟨obC (by (repeat rw [catL hΩ]); simp; omega)⟩, ⟨obC (by (repeat rw [catL hΩ]); simp; omega)⟩, ?_⟩
        refine ⟨i + 1, by omega, by omega, (Sbs.cut 1 rfl).trans (Sbs.mk rfl rfl ⟨rfl, congrArg str ?_, rfl, incI hΩ (by omega), trivial⟩)⟩
        rw [q4]; subst hΩ; show G1 i ++ [114, 111, 111, 116, 32] ++ w ++ [10] = _; simp
      replace h := geI hΩ h
      have hi : i = ts.length := by omega
      subst hi
      rw [b7]
      refine call_pf hΩ 5 k4 rfl (fits _) rw4 fw4 rfl ?_
      cbv
      refine loopX htab hΩ (fun i : Nat => ⟨[(1, .rp [.sl false 8 cs, .sl false 2 fA, i64 v1, i64 v2, i64 v3, boo v4]), (3, str (G2 i)), (7, .sl false 1 sA), (8, i64 (Ω.int i))], 109, [none]⟩) (fun i => i ≤ ss.length) (fun i => ss.length - i) 0
        (Nat.zero_le _) ((Sbs.cut 1 rfl).trans (Sbs.mk rfl rfl ⟨rfl, rfl, rfl, zeroI hΩ, trivial⟩)) ?_
      intro i hi
      cbv
      refine br (fun h => ?_) (fun h => ?_) <;> cbv
      · replace h := ltI hΩ h
        obtain ⟨k, hki⟩ := at_of (cs := ss) (by omega : i < ss.length)
        obtain ⟨o, ⟨q0, hat⟩, q1, q2, q3, q5, q4⟩ := b10 i k hki
        have k7 := k7 o.v q3
        obtain ⟨ps, dd, bb, hen, -, -, -⟩ := enc_raw o
        rw [hen] at hat
        generalize verT o.v = w at *
        generalize o.n = nm at *
        have e : str (Ω.cat (Ω.cat (Ω.cat (Ω.cat (Ω.cat (G2 i) [104, 97, 115, 32]) nm) [32]) w) [10]) = str (G2 (i + 1)) := by rw [q4]; subst hΩ; exact congrArg str (by show G2 i ++ [104, 97, 115, 32] ++ nm ++ [32] ++ w ++ [10] = _; simp)
        refine ⟨VC_pl htab hΩ hmo (.qs [0, 1, 2, 3, 4, 5, 6, 7, 8, 9, 10, 11, 12, 13, 14, 15, 16, 17, 18, 19, 20, 21] (.s 22 (.s 23 (.s 24 (.q 25 .fin))))) (by kernel_rfl) ?_⟩
        cbv
        repeat' (first
          | (refine call_pure hΩ 4 k7 rfl (fits _) rfl rfl ?_; cbv)
          | exact ⟨i + 1, by omega, by omega, (Sbs.cut 1 rfl).trans (Sbs.mk rfl rfl ⟨rfl, e, rfl, incI hΩ (by omega), trivial⟩)⟩
          | exact ⟨obC (by omega)⟩
          | exact ⟨obC (by simp; omega)⟩
          | exact ⟨obC (by (repeat rw [catL hΩ]); simp; omega)⟩
          | exact ⟨nnI hΩ⟩
          | exact ⟨q0⟩
          | (refine ⟨_, rdI hΩ hsA hki, ?_⟩; cbv)
          | (refine ⟨_, hat, ?_⟩; cbv)
          | (refine And.intro ?_ ?_))
      replace h := geI hΩ h
      have hi : i = ss.length := by omega
      subst hi
      rw [b8]
      refine loopX htab hΩ (fun i : Nat => ⟨[(1, .rp [.sl false 8 cs, .sl false 2 fA, i64 v1, i64 v2, i64 v3, boo v4]), (3, str (G3 i)), (9, i64 (Ω.int i))], 109, [none]⟩) (fun i => i ≤ xf.length) (fun i => xf.length - i) 0
        (Nat.zero_le _) (Sbs.mk rfl rfl ⟨rfl, rfl, zeroI hΩ, trivial⟩) ?_
      intro i hi
      cbv
      refine br (fun h => ?_) (fun h => ?_) <;> cbv
      · replace h := ltI hΩ h
        obtain ⟨f, hf⟩ := at_of (cs := xf) (by omega : i < xf.length)
        obtain ⟨ds, n, sm, i1, i2, ⟨hfa, hld⟩, ⟨k9, k8⟩, q1, q2, q4, q6, q7⟩ := hfat i f hf
        generalize f.p = fp at *
        obtain ⟨j, hjj⟩ : ∃ j, j = [102, 105, 108, 101, 32] ++ fp ++ [32] ++ i1 ++ [32] ++ i2 := ⟨_, rfl⟩
        have hjl : j.length ≤ 70 := by rw [hjj]; simp; omega
        have e : str (Ω.cat (Ω.cat (G3 i) j) [10]) = str (G3 (i + 1)) := by rw [q7, hjj]; subst hΩ; exact congrArg str (by show G3 i ++ _ ++ [10] = _; simp)
        rw [← hjj] at k8
        obtain ⟨fc, hfc⟩ : ∃ fc, fc = Ω.cat [102, 105, 108, 101, 32] fp := ⟨_, rfl⟩
        rw [show [102, 105, 108, 101, 32] ++ fp = fc by rw [hfc]; subst hΩ; rfl] at k8
        have hE : [str (Ω.cat [102, 105, 108, 101, 32] fp), Fw.A.sl false 1 [i64 (Ω.int (Ω.len ds)), i64 sm]] = [str fc, .sl false 1 [i64 n, i64 sm]] := by rw [hfc, hld]
        refine ⟨⟨nnI hΩ⟩, _, hfa, ?_⟩
        cbv
        refine ⟨VC.sub (VC_pl htab hΩ hmo (.qs [0, 1, 2, 3, 4, 5, 7, 8] (.two 6 (.s 9 (.s 10 (.s 11 (.s 12 (.s 13 (.q 14 .fin)))))) 9 (.s 6 (.s 10 (.s 11 (.s 12 (.s 13 (.q 14 .fin)))))))) (by kernel_rfl) ?_) ((Sbs.unlk (r := 1) rfl rfl).trans (Sbs.thaw0 (r := 1) rfl rfl rfl))⟩
        cbv
        repeat' (first
          | (refine call_pure hΩ 4 k9 rfl (fits _) rfl rfl ?_; cbv)
          | (refine call_pure hΩ 4 k8 (mapO2 rfl (ro_vw rfl rfl rfl)) (fitsE hE) rfl rfl ?_; cbv)
          | exact ⟨i + 1, by omega, by omega, (Sbs.cut 1 rfl).trans (Sbs.mk rfl rfl ⟨rfl, e, incI hΩ (by omega), trivial⟩)⟩
          | exact ⟨obC (by omega)⟩
          | exact ⟨obC (by simp; omega)⟩
          | exact ⟨obC (by (repeat rw [catL hΩ]); simp; omega)⟩
          | (refine And.intro ?_ ?_))
      replace h := geI hΩ h
      have hi : i = xf.length := by omega
      subst hi
      rw [b1]
      exact .same
  · rw [r1 h]
    clear hR r1
    generalize sysF c x = b at *
    unfold sysE at *
    generalize x.f.map (Fil.enc false) = xs at *
    generalize c.map (Pck.enc false) = cs at *
    have htab := tab
    have hmo := hmo
    refine PCtr.walk tab hΩ fn_spec_FormatSystem rfl ?_
    generalize PP = P at *
    cbv
    refine call_pure hΩ 4 k1 rfl (fits _) rfl rfl ?_
    cbv
    refine brT (neT hΩ h) ?_
    cbv
    exact .same
end Go.Proofs.YtgcnggefeapalaaGreatDoor

/- The law of FormatSystem, walked. Plain theorems. -/
set_option linter.unusedVariables false
set_option linter.unusedSimpArgs false
namespace Go.Proofs.YtgcnggefeapalaaGreatDoor
open Go Go.Fw
set_option maxRecDepth 100000
theorem c_lawFormatSystem (c : List Pck) (x : Dsk) (hm : c.length ≤ maxLen) (hf : ∀ o ∈ c, o.Fit) (hxm : x.f.length ≤ maxLen) (hxf : ∀ f ∈ x.f, f.Fit) : PCtr PP n_laws_FnExactFormatSystem [sysE false false c x] (boo true) := by
  obtain ⟨Ω, hΩ⟩ : ∃ Ω, Ω = std := ⟨_, rfl⟩
  have h1 := c_szSystem c x 1048576 (by omega) (by omega) hm hf hxm hxf
  have H : 0 ≤ szY c x 1048576 → PCtr PP n_laws_toSystem [sysE false false c x] (sysE true true c x) ∧ (PCtr PP n_spec_FormatSystem [sysE false false c x] (str (fmtY c x)) ∧ PCtr PP n_impl_FormatSystem [sysE false false c x] (str (fmtY c x))) ∧ PCtr PP n_laws_eqSystem [sysE false false c x, sysE false false c x] (boo true) := fun h => by
    obtain ⟨⟨k1, k2, -⟩, ⟨k3, -⟩, -⟩ := szY_facts (by omega) h
    exact ⟨c_toSystem c x k1 k2 k3, ⟨c_specFormatSystem c x k1 k2 k3, c_implFormatSystem c x k1 k2 k3⟩, c_eqSystem c x k1 k2 k3⟩
  have ry := roFY c x
  have hof := frz_Pcks c
  have hgf := frz_Fils x.f
  generalize szY c x 1048576 = l at *
  generalize fmtY c x = tx at *
  unfold sysE at *
  generalize x.f.map (Fil.enc false) = fs at *
  generalize c.map (Pck.enc false) = xs at *
  generalize x.f.map (Fil.enc true) = gs at *
  generalize c.map (Pck.enc true) = os at *
  generalize x.bg = v1 at *
  generalize x.wr = v2 at *
  generalize x.st = v3 at *
  generalize x.dn = v4 at *
  have lo : Ω.len os = os.length := by subst hΩ; rfl
  have lg : Ω.len gs = gs.length := by subst hΩ; rfl
  have e1 : ∀ {S : State} {r q : Nat}, Fw.rowAt S.rows r = some ⟨8, os, false⟩ → Fw.rowAt S.rows q = some ⟨2, gs, false⟩ → roO S 5 (.agg [.vw r 0 (Ω.len os), .vw q 0 (Ω.len gs), i64 v1, i64 v2, i64 v3, boo v4]) = some (.agg [.sl false 8 xs, .sl false 2 fs, i64 v1, i64 v2, i64 v3, boo v4]) := fun h1 h2 => ro_agg6 (ro_vw h1 lo hof) (ro_vw h2 lg hgf) rfl rfl rfl rfl
  refine PCtr.walk tab hΩ fn_laws_FnExactFormatSystem rfl ?_
  have htab := tab
  have hmo := hmo
  generalize PP = P at *
  cbv
  refine call_pure hΩ 4 h1 rfl (fits _) rfl rfl ?_
  cbv
  refine br (fun h => ?_) (fun h => ?_) <;> cbv
  · exact .same
  obtain ⟨a1, ⟨a3, a4⟩, a6⟩ := H (ltI_f hΩ h)
  repeat' (first
    | (refine call_pure hΩ 5 a1 rfl (fits _) ry rfl ?_; cbv)
    | (refine call_pure hΩ 5 a3 (mapO1 (e1 rfl rfl)) (fits _) rfl rfl ?_; cbv)
    | (refine call_pure hΩ 5 a4 (mapO1 (e1 rfl rfl)) (fits _) rfl rfl ?_; cbv)
    | (refine br (fun h => (sne_self hΩ h).elim) (fun h => ?_); cbv)
    | (refine call_pure hΩ 5 a6 (mapO2 (e1 rfl rfl) (e1 rfl rfl)) (fits _) rfl rfl ?_; cbv)
    | (refine br (fun h => (notT hΩ h).elim) (fun h => ?_); cbv))
  refine ⟨VC.sub (VC_pl htab hΩ hmo (.q 1 (.two 0 (.s 2 (.s 3 (.s 4 .fin))) 2 (.s 0 (.s 3 (.s 4 .fin))))) (by kernel_rfl) ?_) ((Sbs.unlk (r := 0) rfl rfl).trans (Sbs.thaw0 (r := 0) rfl rfl rfl))⟩
  cbv
  repeat' (first
    | (refine call_pure hΩ 5 a1 rfl (fits _) ry rfl ?_; cbv)
    | (refine call_pure hΩ 5 a6 (mapO2 (e1 rfl rfl) (e1 rfl rfl)) (fits _) rfl rfl ?_; cbv)
    | (refine br (fun h => (notT hΩ h).elim) (fun h => ?_); cbv)
    | exact FitX.same
    | (refine And.intro ?_ ?_))
end Go.Proofs.YtgcnggefeapalaaGreatDoor

/- What a reading of an argument says of it: it is read-only plain data. Plain theorems, no condition. -/
set_option linter.unusedVariables false
set_option linter.unusedSimpArgs false
namespace Go.Fw
/-- Types of plain data. -/
inductive Ty where
  | int (k : IntKind)
  | bool
  | str
  | sl (e : Ty)
  | st (fs : List Ty)
mutual
def Ty.n : Ty → Nat
  | .st fs => Ty.nL fs
  | .int _ => 1
  | .bool => 1
  | .str => 1
  | .sl _ => 1
def Ty.nL : List Ty → Nat
  | [] => 0
  | x :: xs => x.n + Ty.nL xs
end
def Ty.elem (e : Ty) (cs : List A) : A :=
  match e with
  | .st _ => .agg cs
  | _ => cs.headD .un
mutual
def TyOK (P : Program) : Ty → TypeId → Prop
  | .int k, t => P.underlying t = some (.int k)
  | .bool, t => P.underlying t = some .bool
  | .str, t => P.underlying t = some .string
  | .sl e, t => ∃ te, P.underlying t = some (.slice te) ∧ P.cellsOf te = e.n ∧ Nat.ble 1 e.n = true ∧ TyOK P e te
  | .st fs, t => ∃ f, P.underlying t = some (.struct f) ∧ P.cellsOf t = Ty.nL fs ∧ TysOK P 0 fs f.toList
def TysOK (P : Program) : Nat → List Ty → List Field → Prop
  | _, [], [] => True
  | o, x :: xs, f :: fs => f.offset = o ∧ P.cellsOf f.type = x.n ∧ TyOK P x f.type ∧ TysOK P (o + x.n) xs fs
  | _, _, _ => False
end
mutual
inductive Shp : Ty → List A → Prop
  | int {k : IntKind} {n : Int} (h : (Lit.int k n).wf = true) : Shp (.int k) [.sc (.int k n)]
  | bool {b : Bool} : Shp .bool [.sc (.bool b)]
  | str {s : List UInt8} (h : s.length ≤ maxLen) : Shp .str [.sc (.string (mkS s))]
  | sl {e : Ty} {ys : List A} (h : ∀ y ∈ ys, Shp e y.cells) (h2 : ∀ y ∈ ys, y = e.elem y.cells) (hl : ys.length ≤ maxLen) : Shp (.sl e) [.sl false e.n ys]
  | st {fs : List Ty} {xs : List A} (h : ShpL fs xs) : Shp (.st fs) xs
inductive ShpL : List Ty → List A → Prop
  | nil : ShpL [] []
  | cons {t : Ty} {ts : List Ty} {xs ys : List A} (h : Shp t xs) (hl : ShpL ts ys) : ShpL (t :: ts) (xs ++ ys)
end
mutual
theorem Shp.length : ∀ {t : Ty} {xs : List A}, Shp t xs → xs.length = t.n
  | _, _, .int _ => rfl
  | _, _, .bool => rfl
  | _, _, .str _ => rfl
  | _, _, .sl _ _ _ => rfl
  | _, _, .st h => by rw [Ty.n]; exact h.length
theorem ShpL.length : ∀ {ts : List Ty} {xs : List A}, ShpL ts xs → xs.length = Ty.nL ts
  | _, _, .nil => rfl
  | _, _, .cons h hl => by rw [List.length_append, h.length, hl.length, Ty.nL]
end
theorem elem_cells {e : Ty} {cs : List A} (h : Shp e cs) : (e.elem cs).cells = cs := by
  cases h <;> rfl
theorem cells_list {w : World} {base : Nat} {a : Addr} {n : Nat} {cs : List Value} (h : w.cells? base a n = some cs) (hn : 0 < n) :
    ∃ cur e fr, w.heap[a.block]? = some (.cells cur e fr) ∧ a.spot = none ∧ cs = (cur.toList.drop a.off).take n ∧ cs.length = n := by
  unfold World.cells? at h
  split at h <;> try simp at h
  have hget : ∀ (l : List Nat) (r : List Value), l.mapM (fun i => w.cell? (a.add i)) = some r → r.length = l.length ∧ ∀ (j i : Nat), l[j]? = some i → ∃ v, r[j]? = some v ∧ w.cell? (a.add i) = some v := by
    intro l
    induction l with
    | nil => intro r h; simp at h; subst h; simp
    | cons x l ih =>
      intro r h
      simp only [List.mapM_cons, Option.bind_eq_bind, Option.pure_def, Option.bind_eq_some_iff, Option.some.injEq] at h
      obtain ⟨v, hv, r', hr', rfl⟩ := h
      obtain ⟨h1, h2⟩ := ih r' hr'
      refine ⟨by simp [h1], fun j i hj => ?_⟩
      cases j with
      | zero => simp at hj; subst hj; exact ⟨v, rfl, hv⟩
      | succ j => simpa using h2 j i (by simpa using hj)
  obtain ⟨hl, hat⟩ := hget _ _ h
  rw [List.length_range] at hl
  obtain ⟨v0, _, hv0⟩ := hat 0 0 (by rw [List.getElem?_range hn])
  have hblk : ∀ i, (a.add i).block = a.block := fun i => by unfold Addr.add; split <;> rfl
  unfold World.cell? at hv0
  rw [hblk] at hv0
  split at hv0 <;> try simp at hv0
  rename_i cur e fr hh
  have hsp : a.spot = none := by
    cases hs : a.spot with
    | none => rfl
    | some s => simp [Addr.add, hs] at hv0
  refine ⟨cur, e, fr, hh, hsp, ?_, hl⟩
  have ha : a = ⟨a.block, a.off, none⟩ := by cases a; simp at hsp; subst hsp; rfl
  have hcell : ∀ i, w.cell? (a.add i) = cur[a.off + i]? := fun i => by rw [ha, add_none, cell_at hh]
  have hlen : a.off + n ≤ cur.size := by
    obtain ⟨v, _, hv⟩ := hat (n - 1) (n - 1) (by rw [List.getElem?_range (by omega)])
    rw [hcell] at hv
    have := (Array.getElem?_eq_some_iff.1 hv).1
    omega
  apply List.ext_getElem?
  intro j
  by_cases hj : j < n
  · obtain ⟨v, hv1, hv2⟩ := hat j j (by rw [List.getElem?_range hj])
    rw [hv1, List.getElem?_take_of_lt hj, List.getElem?_drop]
    rw [hcell] at hv2
    simpa using hv2.symm
  · rw [List.getElem?_eq_none (by omega), List.getElem?_eq_none (by simp; omega)]
theorem add_block (a : Addr) (i : Nat) : (a.add i).block = a.block := by unfold Addr.add; split <;> rfl
theorem rows_rel {w : World} {G : Nat → Prop} {n : Nat} {X : Nat → List A} {l : List Value} : ∀ len : Nat, (∀ i, i < len → RelL w G (X i) ((l.drop (i * n)).take n) []) → RelL w G ((List.range len).flatMap X) (l.take (len * n)) []
  | 0, _ => by simpa using RelL.nil
  | len + 1, h => by
    have h1 := rows_rel (X := X) len fun i hi => h i (by omega)
    have h2 := h1.append (h len (by omega))
    rw [List.range_succ, List.flatMap_append, Nat.succ_mul, List.take_add]
    simpa using h2
mutual
theorem trod_rel {H : Type} {enc : TypeId × Value → H} {P : Program} {w : World} {base : Nat} {sp : Nat → Bool} {held : Bool} (hsp : ∀ b, sp b = true) :
    ∀ (ty : Ty) (t : TypeId) (fuel : Nat) (cs : List Value) (x : DataW H × List MemPlace), TyOK P ty t → DataW.trod enc P w base sp held fuel t cs = some x → ∃ xs, RelL w (Old w) xs cs [] ∧ Shp ty xs
  | .int k, t, 0, cs, x, hu, h => by simp [DataW.trod] at h
  | .int k, t, fuel + 1, cs, x, hu, h => by
    have hu : P.underlying t = some (.int k) := hu
    unfold DataW.trod at h
    rw [hu] at h
    split at h <;> try simp_all
    obtain ⟨⟨rfl, hw⟩, _⟩ := h
    exact ⟨_, .cons (F := []) (Fs := []) (.sc rfl) .nil, .int hw⟩
  | .bool, t, 0, cs, x, hu, h => by simp [DataW.trod] at h
  | .bool, t, fuel + 1, cs, x, hu, h => by
    have hu : P.underlying t = some .bool := hu
    unfold DataW.trod at h
    rw [hu] at h
    split at h <;> try simp_all
    exact ⟨_, .cons (F := []) (Fs := []) (.sc rfl) .nil, .bool⟩
  | .str, t, 0, cs, x, hu, h => by simp [DataW.trod] at h
  | .str, t, fuel + 1, cs, x, hu, h => by
    have hu : P.underlying t = some .string := hu
    unfold DataW.trod at h
    rw [hu] at h
    split at h <;> try simp_all
    rename_i s
    refine ⟨[.sc (.string (mkS (bs s)))], .cons (F := []) (Fs := []) (.sc rfl) .nil, .str ?_⟩
    rw [bs_length]; exact h.1
  | .sl e, t, fuel, cs, x, hu, h => by
    obtain ⟨te, hu, hc, hpos, hte⟩ := hu
    have hpos := Nat.le_of_ble_eq_true hpos
    rcases Go.Deep.open_slice hu h with ⟨rfl, _⟩ | ⟨a, len, cap, m, n, D, Pl, rfl, _, hl, hm, hmm, _, hel⟩
    · exact ⟨[.sl false e.n []], .cons (F := []) (Fs := []) .nils .nil, .sl (by simp) (by simp) (by simp)⟩
    · rw [hsp, if_pos rfl] at hmm
      subst hmm
      rw [hc] at hel
      by_cases hm0 : m = 0
      · subst hm0
        have : len = 0 := by omega
        subst this
        exact ⟨[.sl false e.n []], .cons (F := []) (Fs := []) .roz .nil, .sl (by simp) (by simp) (by simp)⟩
      · obtain ⟨cs0, hc0, _⟩ := hel 0 (by omega)
        obtain ⟨cur, et, fr, hh, hspot, _, _⟩ := cells_list hc0 hpos
        rw [add_block] at hh
        have hspot' : a.spot = none := by
          cases hs : a.spot with
          | none => rfl
          | some s => simp [Addr.add, hs] at hspot
        have ha : a = ⟨a.block, a.off, none⟩ := by cases a; simp at hspot'; subst hspot'; rfl
        have hX : ∀ i, i < m → ∃ xs, RelL w (Old w) xs ((cur.toList.drop (a.off + i * e.n)).take e.n) [] ∧ Shp e xs := fun i hi => by
          obtain ⟨csi, hci, hti⟩ := hel i hi
          obtain ⟨cur', et', fr', hh', _, hcs, _⟩ := cells_list hci hpos
          rw [add_block, hh] at hh'
          simp only [Option.some.injEq, Obj.cells.injEq] at hh'
          obtain ⟨rfl, _, _⟩ := hh'
          obtain ⟨xs, h1, h2⟩ := trod_rel hsp e te n csi _ hte hti
          refine ⟨xs, ?_, h2⟩
          rw [hcs] at h1
          have : (a.add (i * e.n)).off = a.off + i * e.n := by rw [ha, add_none]
          rw [this] at h1
          exact h1
        let X : Nat → List A := fun i => if h : i < m then Classical.choose (hX i h) else []
        have hX1 : ∀ i, i < m → RelL w (Old w) (X i) ((cur.toList.drop (a.off + i * e.n)).take e.n) [] ∧ Shp e (X i) := fun i hi => by
          have : X i = Classical.choose (hX i hi) := by simp only [X]; rw [dif_pos hi]
          rw [this]; exact Classical.choose_spec (hX i hi)
        have hmem : ∀ y ∈ (List.range len).map fun i => e.elem (X i), Shp e y.cells ∧ y = e.elem y.cells := fun y hy => by
          obtain ⟨i, hi, rfl⟩ := List.mem_map.1 hy
          have hi := List.mem_range.1 hi
          have hs := (hX1 i (by omega)).2
          rw [elem_cells hs]
          exact ⟨hs, rfl⟩
        refine ⟨[.sl false e.n ((List.range len).map fun i => e.elem (X i))], .cons (F := []) (Fs := []) ?_ .nil, .sl (fun y hy => (hmem y hy).1) (fun y hy => (hmem y hy).2) (by simp; omega)⟩
        have hlt : a.block < w.heap.size := (Array.getElem?_eq_some_iff.1 hh).1
        rw [ha]
        refine .ro hh hlt (fun y hy => ?_) (by simp) rfl ?_ (by omega) (by omega)
        · have := (hmem y hy).1.length
          exact this
        · have hf : flat ((List.range len).map fun i => e.elem (X i)) = (List.range len).flatMap X := by
            unfold flat
            rw [List.flatMap_map]
            have : ∀ l : List Nat, (∀ i ∈ l, i < m) → l.flatMap (fun i => (e.elem (X i)).cells) = l.flatMap X := by
              intro l
              induction l with
              | nil => intro _; rfl
              | cons i l ih =>
                intro hl
                rw [List.flatMap_cons, List.flatMap_cons, ih fun j hj => hl j (by simp [hj]), elem_cells (hX1 i (hl i (by simp))).2]
            exact this _ fun i hi => by have := List.mem_range.1 hi; omega
          rw [hf]
          refine rows_rel len fun i hi => ?_
          have := (hX1 i (by omega)).1
          rw [← List.drop_drop] at this
          exact this
  | .st fs, t, 0, cs, x, hu, h => by simp [DataW.trod] at h
  | .st fs, t, fuel + 1, cs, x, hu, h => by
    obtain ⟨f, hu, hc, hfs⟩ := hu
    unfold DataW.trod at h
    rw [hu] at h
    simp only at h
    split at h <;> try simp at h
    rename_i hlen
    obtain ⟨ys, hys, _⟩ := h
    obtain ⟨xs, h1, h2⟩ := trod_rels hsp fs f.toList fuel 0 cs ys hfs (by rw [hlen, hc]; omega) hys
    exact ⟨xs, by simpa using h1, .st h2⟩
theorem trod_rels {H : Type} {enc : TypeId × Value → H} {P : Program} {w : World} {base : Nat} {sp : Nat → Bool} {held : Bool} (hsp : ∀ b, sp b = true) :
    ∀ (tys : List Ty) (fs : List Field) (fuel o : Nat) (cs : List Value) (ys : List (DataW H × List MemPlace)), TysOK P o tys fs → cs.length = o + Ty.nL tys →
      fs.mapM (fun f => DataW.trod enc P w base sp held fuel f.type ((cs.drop f.offset).take (P.cellsOf f.type))) = some ys → ∃ xs, RelL w (Old w) xs (cs.drop o) [] ∧ ShpL tys xs
  | [], [], fuel, o, cs, ys, _, hl, _ => ⟨[], by rw [List.drop_eq_nil_of_le (by rw [hl, Ty.nL]; omega)]; exact .nil, .nil⟩
  | [], _ :: _, fuel, o, cs, ys, hu, hl, h => hu.elim
  | _ :: _, [], fuel, o, cs, ys, hu, hl, h => hu.elim
  | ty :: tys, f :: fs, fuel, o, cs, ys, hu, hl, h => by
    obtain ⟨ho, hc, ht, hts⟩ := hu
    simp only [List.mapM_cons, Option.bind_eq_bind, Option.pure_def, Option.bind_eq_some_iff, Option.some.injEq] at h
    obtain ⟨y, hy, ys', hys', _⟩ := h
    rw [ho, hc] at hy
    obtain ⟨xs1, h1, h2⟩ := trod_rel hsp ty f.type fuel _ _ ht hy
    rw [Ty.nL] at hl
    obtain ⟨xs2, h3, h4⟩ := trod_rels hsp tys fs fuel (o + ty.n) cs ys' hts (by omega) hys'
    refine ⟨xs1 ++ xs2, ?_, .cons h2 h4⟩
    have := h1.append h3
    rw [← List.drop_drop, List.take_append_drop] at this
    simpa using this
end
end Go.Fw

/- The closing of a law's row. Plain theorems, no condition. -/
set_option linter.unusedVariables false
set_option linter.unusedSimpArgs false
namespace Go.Fw
open Go.ChangeShapes Go.WideShapes Go.ChangeAt Go.RowKit
def PlainT (P : Program) (t : TypeId) : Prop := ∃ ty, TyOK P ty t
theorem tys_fields {P : Program} : ∀ {tys : List Ty} {fs : List Field} {o : Nat}, TysOK P o tys fs → (∀ f ∈ fs, PlainT P f.type) ∧ Ty.nL tys = (fs.map fun f => P.cellsOf f.type).sum ∧
    ∀ (j : Nat) f, fs[j]? = some f → f.offset = o + ((fs.take j).map fun f => P.cellsOf f.type).sum
  | [], [], o, _ => ⟨by simp, rfl, by simp⟩
  | [], _ :: _, o, h => h.elim
  | _ :: _, [], o, h => h.elim
  | ty :: tys, f :: fs, o, h => by
    obtain ⟨h1, h2, h3, h4⟩ := h
    obtain ⟨g1, g2, g3⟩ := tys_fields h4
    refine ⟨fun f' hf => ?_, by rw [Ty.nL, g2, ← h2]; simp, fun j f' hj => ?_⟩
    · rcases List.mem_cons.1 hf with rfl | hf
      · exact ⟨ty, h3⟩
      · exact g1 f' hf
    · cases j with
      | zero => simp at hj; subst hj; simp [h1]
      | succ j =>
        have := g3 j f' (by simpa using hj)
        rw [this, ← h2]; simp; omega
theorem kids (P : Program) : Kids P (PlainT P) := by
  refine ⟨?_, ?_, ?_, ?_, ?_⟩
  · rintro t e ⟨ty, h⟩ hu
    cases ty with
    | sl _ => obtain ⟨te, h, _⟩ := h; rw [hu] at h; simp at h
    | st _ => obtain ⟨f, h, _⟩ := h; rw [hu] at h; simp at h
    | _ => rw [TyOK, hu] at h; simp at h
  · rintro t e ⟨ty, h⟩ hu
    cases ty with
    | sl e' => obtain ⟨te, h, _, _, h2⟩ := h; rw [hu] at h; simp at h; subst h; exact ⟨e', h2⟩
    | st _ => obtain ⟨f, h, _⟩ := h; rw [hu] at h; simp at h
    | _ => rw [TyOK, hu] at h; simp at h
  · rintro t e n ⟨ty, h⟩ hu
    cases ty with
    | sl _ => obtain ⟨te, h, _⟩ := h; rw [hu] at h; simp at h
    | st _ => obtain ⟨f, h, _⟩ := h; rw [hu] at h; simp at h
    | _ => rw [TyOK, hu] at h; simp at h
  · rintro t fs ⟨ty, h⟩ hu
    cases ty with
    | sl _ => obtain ⟨te, h, _⟩ := h; rw [hu] at h; simp at h
    | st tys =>
      obtain ⟨f, h, hc, hts⟩ := h
      rw [hu] at h
      simp at h
      subst h
      obtain ⟨g1, g2, g3⟩ := tys_fields hts
      exact ⟨g1, by rw [hc, g2], fun j f hj => by rw [g3 j f hj, Nat.zero_add]⟩
    | _ => rw [TyOK, hu] at h; simp at h
  · rintro t k e ⟨ty, h⟩ hu
    cases ty with
    | sl _ => obtain ⟨te, h, _⟩ := h; rw [hu] at h; simp at h
    | st _ => obtain ⟨f, h, _⟩ := h; rw [hu] at h; simp at h
    | _ => rw [TyOK, hu] at h; simp at h
theorem plain_sz {P : Program} {t e : TypeId} (h : PlainT P t) (hu : P.underlying t = some (.slice e)) : 0 < P.cellsOf e := by
  obtain ⟨ty, h⟩ := h
  cases ty with
  | sl _ => obtain ⟨te, h, hc, hb, _⟩ := h; rw [hu] at h; simp at h; subst h; rw [hc]; exact Nat.le_of_ble_eq_true hb
  | st _ => obtain ⟨f, h, _⟩ := h; rw [hu] at h; simp at h
  | _ => rw [TyOK, hu] at h; simp at h
section
variable {H : Type} {enc : TypeId × Value → H} {P : Program}
theorem stays_all {W W' : World} {sp' : Nat → Bool} : ∀ {ts : List TypeId} {vs : List Value} {ds : List (DataW H)} {ps : List MemPlace}, (∀ t ∈ ts, PlainT P t) → DataW.TrodAll enc P W 0 (fun _ => true) true ts vs ds ps →
    (∀ p ∈ ps, W.sameAt W' p) → (∀ p ∈ ps, sp' p.block = true) → DataW.TrodAll enc P W' 0 sp' true ts vs ds ps
  | [], [], [], ps, _, h, _, _ => h
  | t :: ts, v :: vs, d :: ds, ps, ht, h, hsame, hs => by
    obtain ⟨p, q, ⟨n, hn⟩, hl, rfl⟩ := h
    refine ⟨p, q, ⟨n, ?_⟩, stays_all (fun t h => ht t (by simp [h])) hl (fun x hx => hsame x (by simp [hx])) (fun x hx => hs x (by simp [hx])), rfl⟩
    exact DataW.trod_stays (kids P) plain_sz (by simp) (ht t (by simp)) hn (fun x hx => hsame x (by simp [hx])) (fun x hx => hs x (by simp [hx]))
theorem post_law {f : Func} {s : ChangeSpec} {apart fresh handsOn again : Bool} {W W' : World} {args : Array Value} {ds gs : List (DataW H)} {before : List MemPlace} {tb : TypeId} (hsv : s.vars = [])
    (hW : DataW.Whole enc P f.params.toList s.vars apart W args.toList ds gs before) (htys : ∀ t ∈ f.params.toList, PlainT P t) (hrt : f.resultTypes = #[tb]) (hub : P.underlying tb = some .bool)
    (hfn : s.fn H (ds ++ gs) = { results := [.lit (.bool true)], args := ds }) (hb : Below W.heap.size W W') : s.post enc P f apart fresh handsOn again W args (.bool true) W' := by
  have hW0 := hW
  obtain ⟨p, q, hA, hV, rfl, hfz, hnd⟩ := hW
  rw [hsv] at hV
  obtain ⟨rfl, rfl⟩ := trodVars_none hV
  rw [List.append_nil] at hfz hnd hW0
  have hlt := hW0.lt
  have hsame : ∀ x ∈ p, W.sameAt W' x := fun x hx => hb.same (hlt x hx)
  have hres : ∀ (b : Nat) (sp : Nat → Bool) (hd : Bool), DataW.TrodAll enc P W' b sp hd f.resultTypes.toList ((Value.bool true).resultList f.resultTypes.size) (s.fn H (ds ++ [])).results [] := fun b sp hd => by
    rw [hfn, hrt]
    exact trodAll_cons_mk (shut_bool hub _) trodAll_mk0
  have hargs : ∀ sp : Nat → Bool, (∀ x ∈ p, sp x.block = true) → DataW.TrodAll enc P W' 0 sp true f.params.toList args.toList (s.fn H (ds ++ [])).args p := fun sp hs => by
    rw [hfn]; exact stays_all htys hA hsame hs
  have hvars : ∀ sp : Nat → Bool, DataW.TrodVars enc P W' sp s.vars (s.fn H (ds ++ [])).vars [] := fun sp => by rw [hfn, hsv]; rfl
  have hold : ∀ x ∈ p, (fun b => decide (b < W.heap.size)) x.block = true := fun x hx => by simpa using hlt x hx
  refine ⟨ds, [], p, [], p, [], hW0, hres _ _ _, hargs _ hold, hvars _, World.keptBut_mono (fun x hx => ⟨hx, .inr (.inl hx)⟩) (hb.frame (· ∈ p)), fun _ => ?_⟩
  refine ⟨?_, _, _, ([] ++ p) ++ [], ⟨[] ++ p, [], trodAll_append (hargs _ (fun _ _ => rfl)) (hres 0 (fun _ => true) true), hvars _, rfl, ?_, ?_⟩, ?_⟩
  · intro j t r h1 h2
    exact ok_one (v := .bool true) hrt rfl (okWide_bool_mk hub true) j t r h1 h2
  · intro b off hp
    have hp' : MemPlace.cell b off ∈ p := by simpa using hp
    rw [hb.frozen (p := ⟨b, off, none⟩) (hlt _ hp')]
    exact hfz b off hp'
  · intro ha
    simpa using hnd ha
  · intro x hx _
    simpa using hx
end
mutual
def tyChk (P : Program) : Ty → TypeId → Bool
  | .int k, t => match P.underlying t with | some (.int k') => decide (k' = k) | _ => false
  | .bool, t => match P.underlying t with | some .bool => true | _ => false
  | .str, t => match P.underlying t with | some .string => true | _ => false
  | .sl e, t => match P.underlying t with | some (.slice te) => P.cellsOf te == e.n && (Nat.ble 1 e.n && tyChk P e te) | _ => false
  | .st fs, t => match P.underlying t with | some (.struct f) => P.cellsOf t == Ty.nL fs && tysChk P 0 fs f.toList | _ => false
def tysChk (P : Program) : Nat → List Ty → List Field → Bool
  | _, [], [] => true
  | o, x :: xs, f :: fs => f.offset == o && (P.cellsOf f.type == x.n && (tyChk P x f.type && tysChk P (o + x.n) xs fs))
  | _, _, _ => false
end
mutual
theorem tyChk_ok {P : Program} : ∀ (ty : Ty) (t : TypeId), tyChk P ty t = true → TyOK P ty t
  | .int k, t, h => by
    rw [tyChk] at h; split at h <;> try simp at h
    rename_i hu; subst h; rw [TyOK]; exact hu
  | .bool, t, h => by
    rw [tyChk] at h; split at h <;> try simp at h
    rename_i hu; rw [TyOK]; exact hu
  | .str, t, h => by
    rw [tyChk] at h; split at h <;> try simp at h
    rename_i hu; rw [TyOK]; exact hu
  | .sl e, t, h => by
    rw [tyChk] at h; split at h <;> try simp at h
    rename_i te hu; rw [TyOK]
    exact ⟨te, hu, h.1, by simpa using h.2.1, tyChk_ok e te h.2.2⟩
  | .st fs, t, h => by
    rw [tyChk] at h; split at h <;> try simp at h
    rename_i f hu; rw [TyOK]
    exact ⟨f, hu, h.1, tysChk_ok fs _ _ h.2⟩
theorem tysChk_ok {P : Program} : ∀ (tys : List Ty) (o : Nat) (fs : List Field), tysChk P o tys fs = true → TysOK P o tys fs
  | [], _, [], _ => by rw [TysOK]; trivial
  | [], _, _ :: _, h => by simp [tysChk] at h
  | _ :: _, _, [], h => by simp [tysChk] at h
  | x :: xs, o, f :: fs, h => by
    rw [tysChk] at h
    simp only [Bool.and_eq_true, beq_iff_eq] at h
    rw [TysOK]
    exact ⟨h.1, h.2.1, tyChk_ok x _ h.2.2.1, tysChk_ok xs _ fs h.2.2.2⟩
end
end Go.Fw

/- Shapes of arguments. Plain theorems. -/
set_option linter.unusedVariables false
set_option linter.unusedSimpArgs false
namespace Go.Proofs.YtgcnggefeapalaaGreatDoor
open Go Go.Fw
open Go.ChangeShapes Go.WideShapes Go.ChangeAt Go.RowKit
def tyVer : Ty := .st [.int .i64, .int .i64, .int .i64]
def tyTrm : Ty := .st [.str, tyVer, tyVer]
def tyPck : Ty := .st [.str, tyVer, .int .i64, .sl .str, .sl (.sl tyTrm), .sl tyTrm]
theorem shp_i64 {xs : List A} (h : Shp (.int .i64) xs) : ∃ x, xs = [i64 x] := by cases h; exact ⟨_, rfl⟩
theorem shp_str {xs : List A} (h : Shp .str xs) : ∃ x, xs = [str x] ∧ x.length ≤ Go.maxLen := by cases h; exact ⟨_, rfl, by assumption⟩
theorem shp_Ver {xs : List A} (h : Shp tyVer xs) : ∃ v : Ver, xs = v.cells := by
  cases h with | st h =>
  cases h with | cons h1 h =>
  cases h with | cons h2 h =>
  cases h with | cons h3 h =>
  cases h
  obtain ⟨a, rfl⟩ := shp_i64 h1
  obtain ⟨b, rfl⟩ := shp_i64 h2
  obtain ⟨c, rfl⟩ := shp_i64 h3
  exact ⟨⟨a, b, c⟩, rfl⟩
theorem shp_Trm {xs : List A} (h : Shp tyTrm xs) : ∃ v : Trm, xs = v.cells ∧ v.n.length ≤ Go.maxLen := by
  cases h with | st h =>
  cases h with | cons h1 h =>
  cases h with | cons h2 h =>
  cases h with | cons h3 h =>
  cases h
  obtain ⟨n, rfl, hn⟩ := shp_str h1
  obtain ⟨o, rfl⟩ := shp_Ver h2
  obtain ⟨w, rfl⟩ := shp_Ver h3
  exact ⟨⟨n, o, w⟩, rfl, hn⟩
theorem maps_of {α : Type} {f : α → A} {p : α → Prop} : ∀ {ys : List A}, (∀ y ∈ ys, ∃ c, y = f c ∧ p c) → ∃ cs : List α, ys = cs.map f ∧ ∀ c ∈ cs, p c
  | [], _ => ⟨[], rfl, by simp⟩
  | y :: ys, h => by
    obtain ⟨c, rfl, hc⟩ := h y (by simp)
    obtain ⟨cs, rfl, hcs⟩ := maps_of (ys := ys) fun z hz => h z (by simp [hz])
    exact ⟨c :: cs, rfl, fun z hz => by exact (List.mem_cons.1 hz).elim (fun e => e ▸ hc) (hcs z)⟩
theorem shp_sl {e : Ty} {xs : List A} (h : Shp (.sl e) xs) {α : Type} {f : α → A} {p : α → Prop} (hf : ∀ y, Shp e y.cells → y = e.elem y.cells → ∃ c, y = f c ∧ p c) : ∃ cs : List α, xs = [.sl false e.n (cs.map f)] ∧ cs.length ≤ Go.maxLen ∧ ∀ c ∈ cs, p c := by
  cases h with | sl h1 h2 hl =>
  rename_i ys
  obtain ⟨cs, rfl, hp⟩ := maps_of (f := f) (p := p) (ys := ys) fun y hy => hf y (h1 y hy) (h2 y hy)
  exact ⟨cs, rfl, by simpa using hl, hp⟩
theorem shp_strS {xs : List A} (h : Shp (.sl .str) xs) : ∃ cs : List (List UInt8), xs = [.sl false 1 (cs.map str)] ∧ cs.length ≤ Go.maxLen ∧ ∀ c ∈ cs, c.length ≤ Go.maxLen :=
  shp_sl h fun y h1 h2 => by
    obtain ⟨v, hv, hp⟩ := shp_str h1
    exact ⟨v, by rw [h2, hv]; rfl, hp⟩
theorem shp_TrmS {xs : List A} (h : Shp (.sl tyTrm) xs) : ∃ cs : List Trm, xs = [.sl false 7 (cs.map Trm.enc)] ∧ cs.length ≤ Go.maxLen ∧ ∀ c ∈ cs, c.n.length ≤ Go.maxLen :=
  shp_sl h fun y h1 h2 => by
    obtain ⟨v, hv, hp⟩ := shp_Trm h1
    exact ⟨v, by rw [h2, hv]; rfl, hp⟩
theorem shp_TrmSS {xs : List A} (h : Shp (.sl (.sl tyTrm)) xs) : ∃ cs : List (List Trm), xs = [.sl false 1 (cs.map (encTs false))] ∧ cs.length ≤ Go.maxLen ∧ ∀ c ∈ cs, c.length ≤ Go.maxLen ∧ ∀ t ∈ c, t.n.length ≤ Go.maxLen :=
  shp_sl h fun y h1 h2 => by
    obtain ⟨v, hv, hp⟩ := shp_TrmS h1
    exact ⟨v, by rw [h2, hv]; rfl, hp⟩
theorem shp_Pck {xs : List A} (h : Shp tyPck xs) : ∃ v : Pck, xs = v.cells false ∧ v.Fit := by
  cases h with | st h =>
  cases h with | cons h1 h =>
  cases h with | cons h2 h =>
  cases h with | cons h3 h =>
  cases h with | cons h4 h =>
  cases h with | cons h5 h =>
  cases h with | cons h6 h =>
  cases h
  obtain ⟨n, rfl, hn⟩ := shp_str h1
  obtain ⟨v, rfl⟩ := shp_Ver h2
  obtain ⟨s, rfl⟩ := shp_i64 h3
  obtain ⟨p, rfl, hp⟩ := shp_strS h4
  obtain ⟨d, rfl, hd⟩ := shp_TrmSS h5
  obtain ⟨b, rfl, hb⟩ := shp_TrmS h6
  exact ⟨⟨n, v, s, p, d, b⟩, rfl, ⟨hn, hp, hd, hb⟩⟩
theorem shp_PckS {xs : List A} (h : Shp (.sl tyPck) xs) : ∃ cs : List Pck, xs = [.sl false 8 (cs.map (Pck.enc false))] ∧ cs.length ≤ Go.maxLen ∧ ∀ c ∈ cs, c.Fit :=
  shp_sl h fun y h1 h2 => by
    obtain ⟨v, hv, hp⟩ := shp_Pck h1
    exact ⟨v, by rw [h2, hv]; rfl, hp⟩
/-- Bytes. -/
theorem shp_bytes {xs : List A} (h : Shp (.sl (.int .u8)) xs) : ∃ bs : List A, xs = [.sl false 1 bs] ∧ bs.length ≤ Go.maxLen ∧ ∀ i, i < bs.length → ∃ c : UInt8, bs[i]? = some (.sc (.int .u8 (c.toNat : Int))) := by
  cases h with | sl h1 h2 hl =>
  rename_i ys
  refine ⟨ys, rfl, hl, fun i hi => ?_⟩
  obtain ⟨y, hy⟩ : ∃ y, ys[i]? = some y := ⟨_, List.getElem?_eq_getElem hi⟩
  have hm := List.mem_of_getElem? hy
  have e := h2 y hm
  have s := h1 y hm
  generalize y.cells = cs at *
  cases s with
  | int hwf =>
    rename_i n
    have hb : 0 ≤ n ∧ n < 256 := by
      simp only [Lit.wf, Bool.and_eq_true, decide_eq_true_eq] at hwf
      have h3 : IntKind.u8.min = 0 := by decide
      have h4 : IntKind.u8.max = 255 := by decide
      omega
    refine ⟨UInt8.ofNat n.toNat, ?_⟩
    rw [hy, e]
    show some (A.sc (.int .u8 n)) = _
    have : ((UInt8.ofNat n.toNat).toNat : Int) = n := by simp; omega
    rw [this]
end Go.Proofs.YtgcnggefeapalaaGreatDoor

/- Shapes of disks. Plain theorems. -/
set_option linter.unusedVariables false
set_option linter.unusedSimpArgs false
namespace Go.Proofs.YtgcnggefeapalaaGreatDoor
open Go Go.Fw
open Go.ChangeShapes Go.WideShapes Go.ChangeAt Go.RowKit
def tyFil : Ty := .st [.str, .sl (.int .u8)]
def tyDsk : Ty := .st [.sl tyFil, .int .i64, .int .i64, .int .i64, .bool]
def isSt : Option TypeDesc → Bool
  | some (.struct _) => true
  | _ => false
theorem agg_cells {P : Program} {W : World} {base : Nat} {t : TypeId} {v : Value} (hu : isSt (P.underlying t) = true) (h : Value.okWide P W .any base t v) : ∃ c, v = .agg c ∧ v.cells.toList = c.toList := by
  unfold Value.okWide at h
  cases hp : P.underlying t with
  | none => rw [hp] at hu; cases hu
  | some q =>
    rw [hp] at hu h
    cases q <;> first | (cases hu; done) | skip
    obtain ⟨c, rfl, -⟩ := h
    exact ⟨c, rfl, rfl⟩
theorem agg_one {w : World} {G : Nat → Prop} {xs : List A} {c : Array Value} (h : RelL w G xs c.toList []) : RelL w G [.agg xs] [.agg c] [] := by
  have := RelL.cons (F := []) (Fs := []) (Rel.agg h) .nil
  simpa using this
theorem shp_bytesU {xs : List A} (h : Shp (.sl (.int .u8)) xs) : ∃ d : List UInt8, xs = [.sl false 1 (d.map byteA)] ∧ d.length ≤ Go.maxLen := by
  obtain ⟨bs, rfl, hl, hb⟩ := shp_bytes h
  suffices hs : ∃ d : List UInt8, bs = d.map byteA by
    obtain ⟨d, rfl⟩ := hs
    exact ⟨d, rfl, by simpa using hl⟩
  clear h hl
  induction bs with
  | nil => exact ⟨[], rfl⟩
  | cons b bs ih =>
    obtain ⟨c, hc⟩ := hb 0 (by simp)
    obtain ⟨d, hd⟩ := ih fun i hi => by
      have := hb (i + 1) (by simpa using hi)
      simpa using this
    exact ⟨c :: d, by rw [List.map_cons, ← hd]; simp at hc; rw [hc]; rfl⟩
theorem shp_bool {xs : List A} (h : Shp .bool xs) : ∃ b : Bool, xs = [boo b] := by cases h; exact ⟨_, rfl⟩
theorem shp_Fil {xs : List A} (h : Shp tyFil xs) : ∃ f : Fil, xs = [str f.p, .sl false 1 (f.d.map byteA)] ∧ f.Fit := by
  cases h with | st h =>
  cases h with | cons h1 h =>
  cases h with | cons h2 h =>
  cases h
  obtain ⟨n, rfl, hn⟩ := shp_str h1
  obtain ⟨d, rfl, hd⟩ := shp_bytesU h2
  exact ⟨⟨n, d⟩, rfl, ⟨hn, hd⟩⟩
theorem shp_Dsk {xs : List A} (h : Shp tyDsk xs) : ∃ x : Dsk, xs = [.sl false 2 (x.f.map (Fil.enc false)), i64 x.bg, i64 x.wr, i64 x.st, boo x.dn] ∧ x.f.length ≤ Go.maxLen ∧ ∀ f ∈ x.f, f.Fit := by
  cases h with | st h =>
  cases h with | cons h1 h =>
  cases h with | cons h2 h =>
  cases h with | cons h3 h =>
  cases h with | cons h4 h =>
  cases h with | cons h5 h =>
  cases h
  obtain ⟨fs, rfl, hl, hf⟩ := shp_sl (f := Fil.enc false) (p := Fil.Fit) h1 fun y h1 h2 => by
    obtain ⟨v, hv, hp⟩ := shp_Fil h1
    exact ⟨v, by rw [h2, hv]; rfl, hp⟩
  obtain ⟨a, rfl⟩ := shp_i64 h2
  obtain ⟨b, rfl⟩ := shp_i64 h3
  obtain ⟨c, rfl⟩ := shp_i64 h4
  obtain ⟨d, rfl⟩ := shp_bool h5
  exact ⟨⟨fs, a, b, c, d⟩, rfl, hl, hf⟩
end Go.Proofs.YtgcnggefeapalaaGreatDoor

/- Shapes of machines. Plain theorems. -/
set_option linter.unusedVariables false
set_option linter.unusedSimpArgs false
namespace Go.Proofs.YtgcnggefeapalaaGreatDoor
open Go Go.Fw
def tySys : Ty := .st [.sl tyPck, tyDsk]
theorem shp_Sys {xs : List A} (h : Shp tySys xs) : ∃ (c : List Pck) (x : Dsk), A.agg xs = sysE false false c x ∧ c.length ≤ Go.maxLen ∧ (∀ o ∈ c, o.Fit) ∧ x.f.length ≤ Go.maxLen ∧ ∀ f ∈ x.f, f.Fit := by
  cases h with | st h =>
  cases h with | cons h1 h =>
  cases h with | cons h2 h =>
  cases h
  obtain ⟨cs, rfl, hl, hf⟩ := shp_PckS h1
  obtain ⟨x, rfl, hx, hxf⟩ := shp_Dsk h2
  exact ⟨cs, x, rfl, hl, hf, hx, hxf⟩
end Go.Proofs.YtgcnggefeapalaaGreatDoor

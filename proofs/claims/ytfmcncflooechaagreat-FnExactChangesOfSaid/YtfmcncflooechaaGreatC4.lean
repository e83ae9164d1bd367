/- Walks: copies. Plain theorems. -/
import Derived.Test.YtfmcncflooechaaGreatC3
import Derived.Shelf.SortM.Plain
import Derived.Shelf.SortM.SortNone
import Derived.Ground.SlgmProg
import Derived.Sort.OwnSortedInts
import Derived.OrdersHeld
import Derived.Shelf.Spec.SlicesGrow
import Derived.Ground.Names8Prog
import Derived.Shelf.SlicesG.CompactS
import Derived.Ground.SlgnProg
import Derived.Sort.OwnSorted
set_option linter.unusedVariables false
set_option linter.unusedSimpArgs false
namespace Go.Proofs.YtfmcncflooechaaGreat
open Go Go.Fw
set_option maxRecDepth 100000
/-- A slice that is filled from the left. -/
theorem c_toVersion (v : Ver) : PCtr PP n_laws_toVersion [v.enc] v.enc := by
  obtain ⟨Ω, hΩ⟩ : ∃ Ω, Ω = std := ⟨_, rfl⟩
  refine PCtr.walk tab hΩ fn_laws_toVersion rfl ?_
  generalize PP = P
  cbv
  exact .same
theorem c_toTerm (t : Trm) : PCtr PP n_laws_toTerm [t.enc] t.enc := by
  obtain ⟨Ω, hΩ⟩ : ∃ Ω, Ω = std := ⟨_, rfl⟩
  have hc := c_toVersion
  refine PCtr.walk tab hΩ fn_laws_toTerm rfl ?_
  generalize PP = P at *
  cbv
  refine call_pure hΩ 3 (hc t.l) rfl (fits _) rfl rfl ?_
  cbv
  refine call_pure hΩ 3 (hc t.h) rfl (fits _) rfl rfl ?_
  cbv
  exact .same
theorem c_toStringS (cs : List (List UInt8)) (hb : cs.length ≤ 1048576) : PCtr PP n_laws_toStringS [.sl false 1 (cs.map (str))] (.sl true 1 (cs.map (str))) := by
  obtain ⟨Ω, hΩ⟩ : ∃ Ω, Ω = std := ⟨_, rfl⟩
  obtain ⟨xs, hxs⟩ : ∃ xs, xs = cs.map (str) := ⟨_, rfl⟩
  obtain ⟨zs, hzs⟩ : ∃ zs, zs = cs.map (str) := ⟨_, rfl⟩
  obtain ⟨n, hn⟩ : ∃ n, n = cs.length := ⟨_, rfl⟩
  have hlen : xs.length = n := by rw [hxs, hn, List.length_map]
  obtain ⟨ys, hys⟩ : ∃ ys : Nat → List A, ys = fill (str) (str []) cs := ⟨_, rfl⟩
  have hyl : ∀ i, i ≤ n → (ys i).length = n := fun i hi => by rw [hys, hn]; exact fill_length (by omega)
  have hya : ∀ i, ∀ z ∈ ys i, vStore.isAggA z = false := fun i => by rw [hys]; exact fill_all (fun _ => rfl) rfl
  have hy0 : List.replicate n (str []) = ys 0 := by rw [hys, fill_zero, hn]
  have hyn : ys n = zs := by rw [hys, hn, fill_full, hzs]
  have hyset : ∀ i c, cs[i]? = some c → (ys i).set i ((str) c) = ys (i + 1) := fun i c h => by rw [hys]; exact fill_set h
  clear hys
  rw [← hxs]
  rw [show A.sl true 1 xs = .sl true 1 zs by rw [hzs, hxs]]
  refine PCtr.walk tab hΩ fn_laws_toStringS rfl ?_
  have htab := tab
  have hmo := hmo
  generalize PP = P at *
  cbv
  refine ⟨⟨by subst hΩ; show _ ∧ (0 : Int) ≤ xs.length ∧ 16 * ((xs.length : Int).toNat) ≤ _ ∧ (xs.length : Int).toNat ≤ 9223372036854775807; rw [hlen]; refine ⟨rfl, ?_, ?_, ?_⟩ <;> omega⟩,
    loopX htab hΩ (fun i : Nat => ⟨[(0, .sl false 1 xs), (3, .vw 0 0 n), (4, .sc (.int .i64 (Ω.int i)))], 22, [some ⟨1, ys i, false⟩]⟩) (fun i => i ≤ n) (fun i => n - i) 0 (Nat.zero_le _) (Sbs.mk rfl ?_ ?_) (fun i hi => ?_)⟩
  · rw [← hy0]; subst hΩ; subst hlen; rfl
  · subst hΩ; subst hlen; exact ⟨rfl, rfl, rfl, trivial⟩
  have hyli := hyl i hi
  have hyai := hya i
  cbv
  refine br (fun h => ?_) (fun h => ?_)
  · replace h : i < n := by have := ltI hΩ h; omega
    obtain ⟨c, hcc⟩ := at_of (cs := cs) (by omega : i < cs.length)
    have hset := hyset i c hcc
    cbv
    refine ⟨⟨nnI hΩ⟩, _, rdI hΩ hxs hcc, ?_⟩
    cbv
    refine ⟨⟨ixI hΩ h⟩, ⟨by subst hΩ; show 0 + i < _; rw [hyli]; omega, hyai⟩, i + 1, by omega, by omega, Sbs.mk rfl (by rw [← hset]; subst hΩ; show [some (Row.mk 1 ((ys i).set (0 + i) _) false)] = _; rw [Nat.zero_add]; rfl) ⟨rfl, rfl, incI hΩ (by omega), trivial⟩⟩
  · replace h : i = n := by have := geI hΩ h; omega
    subst h
    cbv
    refine ⟨⟨rfl, by show i ≤ (ys i).length; omega⟩, .of ?_⟩
    rw [← hyn]
    subst hΩ
    show A.sl true 1 ((ys i).take i) = _
    rw [List.take_of_length_le (by omega)]
theorem c_toInt64S (cs : List (Int)) (hb : cs.length ≤ 1048576) : PCtr PP n_laws_toInt64S [.sl false 1 (cs.map (i64))] (.sl true 1 (cs.map (i64))) := by
  obtain ⟨Ω, hΩ⟩ : ∃ Ω, Ω = std := ⟨_, rfl⟩
  obtain ⟨xs, hxs⟩ : ∃ xs, xs = cs.map (i64) := ⟨_, rfl⟩
  obtain ⟨zs, hzs⟩ : ∃ zs, zs = cs.map (i64) := ⟨_, rfl⟩
  obtain ⟨n, hn⟩ : ∃ n, n = cs.length := ⟨_, rfl⟩
  have hlen : xs.length = n := by rw [hxs, hn, List.length_map]
  obtain ⟨ys, hys⟩ : ∃ ys : Nat → List A, ys = fill (i64) (i64 0) cs := ⟨_, rfl⟩
  have hyl : ∀ i, i ≤ n → (ys i).length = n := fun i hi => by rw [hys, hn]; exact fill_length (by omega)
  have hya : ∀ i, ∀ z ∈ ys i, vStore.isAggA z = false := fun i => by rw [hys]; exact fill_all (fun _ => rfl) rfl
  have hy0 : List.replicate n (i64 0) = ys 0 := by rw [hys, fill_zero, hn]
  have hyn : ys n = zs := by rw [hys, hn, fill_full, hzs]
  have hyset : ∀ i c, cs[i]? = some c → (ys i).set i ((i64) c) = ys (i + 1) := fun i c h => by rw [hys]; exact fill_set h
  clear hys
  rw [← hxs]
  rw [show A.sl true 1 xs = .sl true 1 zs by rw [hzs, hxs]]
  refine PCtr.walk tab hΩ fn_laws_toInt64S rfl ?_
  have htab := tab
  have hmo := hmo
  generalize PP = P at *
  cbv
  refine ⟨⟨by subst hΩ; show _ ∧ (0 : Int) ≤ xs.length ∧ 8 * ((xs.length : Int).toNat) ≤ _ ∧ (xs.length : Int).toNat ≤ 9223372036854775807; rw [hlen]; refine ⟨rfl, ?_, ?_, ?_⟩ <;> omega⟩,
    loopX htab hΩ (fun i : Nat => ⟨[(0, .sl false 1 xs), (3, .vw 0 0 n), (4, .sc (.int .i64 (Ω.int i)))], 22, [some ⟨1, ys i, false⟩]⟩) (fun i => i ≤ n) (fun i => n - i) 0 (Nat.zero_le _) (Sbs.mk rfl ?_ ?_) (fun i hi => ?_)⟩
  · rw [← hy0]; subst hΩ; subst hlen; rfl
  · subst hΩ; subst hlen; exact ⟨rfl, rfl, rfl, trivial⟩
  have hyli := hyl i hi
  have hyai := hya i
  cbv
  refine br (fun h => ?_) (fun h => ?_)
  · replace h : i < n := by have := ltI hΩ h; omega
    obtain ⟨c, hcc⟩ := at_of (cs := cs) (by omega : i < cs.length)
    have hset := hyset i c hcc
    cbv
    refine ⟨⟨nnI hΩ⟩, _, rdI hΩ hxs hcc, ?_⟩
    cbv
    refine ⟨⟨ixI hΩ h⟩, ⟨by subst hΩ; show 0 + i < _; rw [hyli]; omega, hyai⟩, i + 1, by omega, by omega, Sbs.mk rfl (by rw [← hset]; subst hΩ; show [some (Row.mk 1 ((ys i).set (0 + i) _) false)] = _; rw [Nat.zero_add]; rfl) ⟨rfl, rfl, incI hΩ (by omega), trivial⟩⟩
  · replace h : i = n := by have := geI hΩ h; omega
    subst h
    cbv
    refine ⟨⟨rfl, by show i ≤ (ys i).length; omega⟩, .of ?_⟩
    rw [← hyn]
    subst hΩ
    show A.sl true 1 ((ys i).take i) = _
    rw [List.take_of_length_le (by omega)]
theorem c_toTermS (cs : List (Trm)) (hb : cs.length ≤ 1048576) : PCtr PP n_laws_toTermS [.sl false 7 (cs.map (Trm.enc))] (.sl true 7 (cs.map (Trm.enc))) := by
  obtain ⟨Ω, hΩ⟩ : ∃ Ω, Ω = std := ⟨_, rfl⟩
  obtain ⟨xs, hxs⟩ : ∃ xs, xs = cs.map (Trm.enc) := ⟨_, rfl⟩
  obtain ⟨zs, hzs⟩ : ∃ zs, zs = cs.map (Trm.enc) := ⟨_, rfl⟩
  obtain ⟨n, hn⟩ : ∃ n, n = cs.length := ⟨_, rfl⟩
  have hlen : xs.length = n := by rw [hxs, hn, List.length_map]
  obtain ⟨ys, hys⟩ : ∃ ys : Nat → List A, ys = fill (Trm.enc) (Trm.zero.enc) cs := ⟨_, rfl⟩
  have hyl : ∀ i, i ≤ n → (ys i).length = n := fun i hi => by rw [hys, hn]; exact fill_length (by omega)
  have hya : ∀ i, ∀ z ∈ ys i, isAggN 7 z = true := fun i => by rw [hys]; exact fill_all (fun _ => rfl) rfl
  have hy0 : List.replicate n (Trm.zero.enc) = ys 0 := by rw [hys, fill_zero, hn]
  have hyn : ys n = zs := by rw [hys, hn, fill_full, hzs]
  have hyset : ∀ i c, cs[i]? = some c → (ys i).set i ((Trm.enc) c) = ys (i + 1) := fun i c h => by rw [hys]; exact fill_set h
  clear hys
  rw [← hxs]
  rw [show A.sl true 7 xs = .sl true 7 zs by rw [hzs, hxs]]
  have hc := c_toTerm
  refine PCtr.walk tab hΩ fn_laws_toTermS rfl ?_
  have htab := tab
  have hmo := hmo
  generalize PP = P at *
  cbv
  refine ⟨⟨by subst hΩ; show _ ∧ (0 : Int) ≤ xs.length ∧ 64 * ((xs.length : Int).toNat) ≤ _ ∧ (xs.length : Int).toNat ≤ 9223372036854775807; rw [hlen]; refine ⟨rfl, ?_, ?_, ?_⟩ <;> omega⟩,
    loopX htab hΩ (fun i : Nat => ⟨[(0, .sl false 7 xs), (3, .vw 0 0 n), (4, .sc (.int .i64 (Ω.int i)))], 23, [some ⟨7, ys i, false⟩]⟩) (fun i => i ≤ n) (fun i => n - i) 0 (Nat.zero_le _) (Sbs.mk rfl ?_ ?_) (fun i hi => ?_)⟩
  · rw [← hy0]; subst hΩ; subst hlen; rfl
  · subst hΩ; subst hlen; exact ⟨rfl, rfl, rfl, trivial⟩
  have hyli := hyl i hi
  have hyai := hya i
  cbv
  refine br (fun h => ?_) (fun h => ?_)
  · replace h : i < n := by have := ltI hΩ h; omega
    obtain ⟨c, hcc⟩ := at_of (cs := cs) (by omega : i < cs.length)
    have hset := hyset i c hcc
    cbv
    refine ⟨⟨nnI hΩ⟩, _, rdI hΩ hxs hcc, ?_⟩
    cbv
    refine call_pure hΩ 3 (hc c) rfl (fits _) rfl rfl ?_
    cbv
    refine ⟨⟨ixI hΩ h⟩, ⟨by subst hΩ; show 0 + i < _; rw [hyli]; omega, hyai⟩, i + 1, by omega, by omega, Sbs.mk rfl (by rw [← hset]; subst hΩ; show [some (Row.mk 7 ((ys i).set (0 + i) _) false)] = _; rw [Nat.zero_add]; rfl) ⟨rfl, rfl, incI hΩ (by omega), trivial⟩⟩
  · replace h : i = n := by have := geI hΩ h; omega
    subst h
    cbv
    refine ⟨⟨rfl, by show i ≤ (ys i).length; omega⟩, .of ?_⟩
    rw [← hyn]
    subst hΩ
    show A.sl true 7 ((ys i).take i) = _
    rw [List.take_of_length_le (by omega)]
theorem c_toTermSS (cs : List (List Trm)) (hb : cs.length ≤ 1048576) (hl : ∀ l ∈ cs, l.length ≤ 1048576) : PCtr PP n_laws_toTermSS [.sl false 1 (cs.map (encTs false))] (.sl true 1 (cs.map (encTs true))) := by
  obtain ⟨Ω, hΩ⟩ : ∃ Ω, Ω = std := ⟨_, rfl⟩
  obtain ⟨xs, hxs⟩ : ∃ xs, xs = cs.map (encTs false) := ⟨_, rfl⟩
  obtain ⟨zs, hzs⟩ : ∃ zs, zs = cs.map (encTs true) := ⟨_, rfl⟩
  obtain ⟨n, hn⟩ : ∃ n, n = cs.length := ⟨_, rfl⟩
  have hlen : xs.length = n := by rw [hxs, hn, List.length_map]
  obtain ⟨ys, hys⟩ : ∃ ys : Nat → List A, ys = fill (encTs true) (.nil) cs := ⟨_, rfl⟩
  have hyl : ∀ i, i ≤ n → (ys i).length = n := fun i hi => by rw [hys, hn]; exact fill_length (by omega)
  have hya : ∀ i, ∀ z ∈ ys i, vStore.isAggA z = false := fun i => by rw [hys]; exact fill_all (fun _ => rfl) rfl
  have hy0 : List.replicate n (.nil) = ys 0 := by rw [hys, fill_zero, hn]
  have hyn : ys n = zs := by rw [hys, hn, fill_full, hzs]
  have hyset : ∀ i c, cs[i]? = some c → (ys i).set i ((encTs true) c) = ys (i + 1) := fun i c h => by rw [hys]; exact fill_set h
  clear hys
  rw [← hxs, ← hzs]
  have hcl : ∀ c ∈ cs, PCtr PP n_laws_toTermS [.sl false 7 (c.map Trm.enc)] (.sl true 7 (c.map Trm.enc)) := fun c h => c_toTermS c (hl c h)
  refine PCtr.walk tab hΩ fn_laws_toTermSS rfl ?_
  have htab := tab
  have hmo := hmo
  generalize PP = P at *
  cbv
  refine ⟨⟨by subst hΩ; show _ ∧ (0 : Int) ≤ xs.length ∧ 24 * ((xs.length : Int).toNat) ≤ _ ∧ (xs.length : Int).toNat ≤ 9223372036854775807; rw [hlen]; refine ⟨rfl, ?_, ?_, ?_⟩ <;> omega⟩,
    loopX htab hΩ (fun i : Nat => ⟨[(0, .sl false 1 xs), (3, .vw 0 0 n), (4, .sc (.int .i64 (Ω.int i)))], 23, [some ⟨1, ys i, false⟩]⟩) (fun i => i ≤ n) (fun i => n - i) 0 (Nat.zero_le _) (Sbs.mk rfl ?_ ?_) (fun i hi => ?_)⟩
  · rw [← hy0]; subst hΩ; subst hlen; rfl
  · subst hΩ; subst hlen; exact ⟨rfl, rfl, rfl, trivial⟩
  have hyli := hyl i hi
  have hyai := hya i
  cbv
  refine br (fun h => ?_) (fun h => ?_)
  · replace h : i < n := by have := ltI hΩ h; omega
    obtain ⟨c, hcc⟩ := at_of (cs := cs) (by omega : i < cs.length)
    have hset := hyset i c hcc
    cbv
    obtain ⟨ts, hen, hts⟩ : ∃ ts, encTs false c = .sl false 7 ts ∧ ts = c.map Trm.enc := ⟨_, rfl, rfl⟩
    have hcc' := hcl c (List.mem_of_getElem? hcc)
    have hrf := roFTs c
    rw [show encTs true c = .sl true 7 ts by rw [hts]; rfl] at hrf hset
    rw [← hts] at hcc'
    refine ⟨⟨nnI hΩ⟩, _, (rdI hΩ hxs hcc).trans (congrArg some hen), ?_⟩
    cbv
    refine call_pure hΩ 3 hcc' rfl (fits _) hrf rfl ?_
    cbv
    refine ⟨⟨ixI hΩ h⟩, ⟨rfl, by subst hΩ; exact Nat.le_refl _⟩, ⟨by subst hΩ; show 0 + i < _; rw [hyli]; omega, hyai⟩, i + 1, by omega, by omega, Sbs.trans (Sbs.lastN (rows := [_]) rfl)
      (Sbs.mk rfl (by rw [← hset]; subst hΩ; show [some (Row.mk 1 ((ys i).set (0 + i) (A.sl true 7 (ts.take ts.length))) false)] = _; rw [List.take_length, Nat.zero_add]) ⟨rfl, rfl, incI hΩ (by omega), trivial⟩)⟩
  · replace h : i = n := by have := geI hΩ h; omega
    subst h
    cbv
    refine ⟨⟨rfl, by show i ≤ (ys i).length; omega⟩, .of ?_⟩
    rw [← hyn]
    subst hΩ
    show A.sl true 1 ((ys i).take i) = _
    rw [List.take_of_length_le (by omega)]
theorem c_toPack (o : Pck) (hs : o.Small) : PCtr PP n_laws_toPack [o.enc false] (o.enc true) := by
  obtain ⟨Ω, hΩ⟩ : ∃ Ω, Ω = std := ⟨_, rfl⟩
  obtain ⟨ps, ds, bs, hen, hps, hds, hbs⟩ := enc_raw o
  obtain ⟨ps', es, bs', hen2, hps2, hes2, hbs2⟩ := enc_own o
  have h1 := c_toVersion o.v
  have h2 := c_toStringS o.p hs.p
  have h3 := c_toTermSS o.d hs.d hs.e
  have h4 := c_toTermS o.b hs.b
  have r1 := roFAll (n := 1) (xs := o.p.map str) fun x hx => by obtain ⟨c, _, rfl⟩ := List.mem_map.1 hx; rfl
  have r2 := roFAll (n := 1) (xs := o.d.map (encTs true)) fun x hx => by obtain ⟨c, _, rfl⟩ := List.mem_map.1 hx; exact roFTs c
  have r3 : roFree (.sl true 7 (o.b.map Trm.enc)) = true := roFTs o.b
  rw [← hps] at hps2 h2 r1
  rw [← hes2] at h3 r2
  rw [← hbs] at hbs2 h4 r3
  rw [← hds] at h3
  rw [hps2, hbs2] at hen2
  rw [hen, hen2]
  refine PCtr.walk tab hΩ fn_laws_toPack rfl ?_
  have htab := tab
  have hmo := hmo
  generalize PP = P at *
  cbv
  refine call_pure hΩ 3 h1 rfl (fits _) rfl rfl ?_
  cbv
  refine call_pure hΩ 3 h2 rfl (fits _) r1 rfl ?_
  cbv
  refine call_pure hΩ 3 h3 rfl (fits _) r2 rfl ?_
  cbv
  refine call_pure hΩ 3 h4 rfl (fits _) r3 rfl ?_
  cbv
  refine ⟨⟨rfl, by subst hΩ; exact Nat.le_refl _⟩, ⟨rfl, by subst hΩ; exact Nat.le_refl _⟩, ⟨rfl, by subst hΩ; exact Nat.le_refl _⟩, .of ?_⟩
  subst hΩ
  show A.agg [str o.n, i64 o.v.a, i64 o.v.b, i64 o.v.c, i64 o.s, A.sl true 1 (ps.take ps.length), A.sl true 1 (es.take es.length), A.sl true 7 (bs.take bs.length)] = _
  rw [List.take_length, List.take_length, List.take_length]
  rfl
theorem c_toPackS (cs : List (Pck)) (hb : cs.length ≤ 1048576) (hl : ∀ l ∈ cs, l.Small) : PCtr PP n_laws_toPackS [.sl false 8 (cs.map (Pck.enc false))] (.sl true 8 (cs.map (Pck.enc true))) := by
  obtain ⟨Ω, hΩ⟩ : ∃ Ω, Ω = std := ⟨_, rfl⟩
  obtain ⟨xs, hxs⟩ : ∃ xs, xs = cs.map (Pck.enc false) := ⟨_, rfl⟩
  obtain ⟨zs, hzs⟩ : ∃ zs, zs = cs.map (Pck.enc true) := ⟨_, rfl⟩
  obtain ⟨n, hn⟩ : ∃ n, n = cs.length := ⟨_, rfl⟩
  have hlen : xs.length = n := by rw [hxs, hn, List.length_map]
  obtain ⟨ys, hys⟩ : ∃ ys : Nat → List A, ys = fill (Pck.enc true) (.agg [str [], i64 0, i64 0, i64 0, i64 0, .nil, .nil, .nil]) cs := ⟨_, rfl⟩
  have hyl : ∀ i, i ≤ n → (ys i).length = n := fun i hi => by rw [hys, hn]; exact fill_length (by omega)
  have hya : ∀ i, ∀ z ∈ ys i, isAggN 8 z = true := fun i => by rw [hys]; exact fill_all (fun _ => rfl) rfl
  have hy0 : List.replicate n (.agg [str [], i64 0, i64 0, i64 0, i64 0, .nil, .nil, .nil]) = ys 0 := by rw [hys, fill_zero, hn]
  have hyn : ys n = zs := by rw [hys, hn, fill_full, hzs]
  have hyset : ∀ i c, cs[i]? = some c → (ys i).set i ((Pck.enc true) c) = ys (i + 1) := fun i c h => by rw [hys]; exact fill_set h
  clear hys
  rw [← hxs, ← hzs]
  have hcl : ∀ c ∈ cs, PCtr PP n_laws_toPack [Pck.enc false c] (Pck.enc true c) := fun c h => c_toPack c (hl c h)
  refine PCtr.walk tab hΩ fn_laws_toPackS rfl ?_
  have htab := tab
  have hmo := hmo
  generalize PP = P at *
  cbv
  refine ⟨⟨by subst hΩ; show _ ∧ (0 : Int) ≤ xs.length ∧ 120 * ((xs.length : Int).toNat) ≤ _ ∧ (xs.length : Int).toNat ≤ 9223372036854775807; rw [hlen]; refine ⟨rfl, ?_, ?_, ?_⟩ <;> omega⟩,
    loopX htab hΩ (fun i : Nat => ⟨[(0, .sl false 8 xs), (3, .vw 0 0 n), (4, .sc (.int .i64 (Ω.int i)))], 23, [some ⟨8, ys i, false⟩]⟩) (fun i => i ≤ n) (fun i => n - i) 0 (Nat.zero_le _) (Sbs.mk rfl ?_ ?_) (fun i hi => ?_)⟩
  · rw [← hy0]; subst hΩ; subst hlen; rfl
  · subst hΩ; subst hlen; exact ⟨rfl, rfl, rfl, trivial⟩
  have hyli := hyl i hi
  have hyai := hya i
  cbv
  refine br (fun h => ?_) (fun h => ?_)
  · replace h : i < n := by have := ltI hΩ h; omega
    obtain ⟨c, hcc⟩ := at_of (cs := cs) (by omega : i < cs.length)
    have hset := hyset i c hcc
    cbv
    obtain ⟨ps, ds, bs, hen, hps, hds, hbs⟩ := enc_raw c
    obtain ⟨ps2, ds2, bs2, hen2, hps2, hds2, hbs2⟩ := enc_own c
    have hcc' := hcl c (List.mem_of_getElem? hcc)
    have hrf := roFP c
    rw [hen2] at hrf hset
    rw [hen, hen2] at hcc'
    refine ⟨⟨nnI hΩ⟩, _, (rdI hΩ hxs hcc).trans (congrArg some hen), ?_⟩
    cbv
    refine call_pure hΩ 3 hcc' rfl (fits _) hrf rfl ?_
    cbv
    refine ⟨⟨ixI hΩ h⟩, ⟨rfl, by subst hΩ; exact Nat.le_refl _⟩, ⟨rfl, by subst hΩ; exact Nat.le_refl _⟩, ⟨rfl, by subst hΩ; exact Nat.le_refl _⟩, ⟨by subst hΩ; show 0 + i < _; rw [hyli]; omega, hyai⟩, i + 1, by omega, by omega,
      Sbs.trans (Sbs.lastN (rows := [_, none, none]) rfl) (Sbs.trans (Sbs.lastN (rows := [_, none]) rfl) (Sbs.trans (Sbs.lastN (rows := [_]) rfl) (Sbs.mk rfl ?_ ⟨rfl, rfl, incI hΩ (by omega), trivial⟩)))⟩
    rw [← hset]
    subst hΩ
    show [some (Row.mk 8 ((ys i).set (0 + i) (A.agg [str c.n, i64 c.v.a, i64 c.v.b, i64 c.v.c, i64 c.s, A.sl true 1 (ps2.take ps2.length), A.sl true 1 (ds2.take ds2.length), A.sl true 7 (bs2.take bs2.length)])) false)] = _
    rw [List.take_length, List.take_length, List.take_length, Nat.zero_add]
  · replace h : i = n := by have := geI hΩ h; omega
    subst h
    cbv
    refine ⟨⟨rfl, by show i ≤ (ys i).length; omega⟩, .of ?_⟩
    rw [← hyn]
    subst hΩ
    show A.sl true 8 ((ys i).take i) = _
    rw [List.take_of_length_le (by omega)]
end Go.Proofs.YtfmcncflooechaaGreat

/- Walks: what is equal is told so. Plain theorems. -/
set_option linter.unusedVariables false
set_option linter.unusedSimpArgs false
namespace Go.Proofs.YtfmcncflooechaaGreat
open Go Go.Fw
set_option maxRecDepth 100000
theorem c_eqVersion (v : Ver) : PCtr PP n_laws_eqVersion [v.enc, v.enc] (boo true) := by
  obtain ⟨Ω, hΩ⟩ : ∃ Ω, Ω = std := ⟨_, rfl⟩
  have htab := tab
  have hmo := hmo
  refine PCtr.walk tab hΩ fn_laws_eqVersion rfl ?_
  generalize PP = P at *
  cbv
  repeat' (first | (refine br (fun h => (notT hΩ h).elim) (fun h => ?_); cbv) | (refine br (fun h => (ne_self hΩ h).elim) (fun h => ?_); cbv) | (refine br (fun h => (sne_self hΩ h).elim) (fun h => ?_); cbv) | (refine ⟨VC_drawn htab hΩ hmo (by kernel_rfl) ?_⟩; cbv))
  exact .same
theorem c_eqTerm (t : Trm) : PCtr PP n_laws_eqTerm [t.enc, t.enc] (boo true) := by
  obtain ⟨Ω, hΩ⟩ : ∃ Ω, Ω = std := ⟨_, rfl⟩
  have h1 := c_eqVersion t.l
  have h2 := c_eqVersion t.h
  have htab := tab
  have hmo := hmo
  refine PCtr.walk tab hΩ fn_laws_eqTerm rfl ?_
  generalize PP = P at *
  cbv
  repeat' (first | (refine br (fun h => (notT hΩ h).elim) (fun h => ?_); cbv) | (refine br (fun h => (ne_self hΩ h).elim) (fun h => ?_); cbv) | (refine br (fun h => (sne_self hΩ h).elim) (fun h => ?_); cbv) | (refine ⟨VC_drawn htab hΩ hmo (by kernel_rfl) ?_⟩; cbv) | (refine call_pure hΩ 3 h1 rfl (fits _) rfl rfl ?_; cbv) | (refine QCall_pure (k := 3) h1 rfl (fits _) rfl ?_; cbv) | (refine call_pure hΩ 3 h2 rfl (fits _) rfl rfl ?_; cbv) | (refine QCall_pure (k := 3) h2 rfl (fits _) rfl ?_; cbv))
  exact .same
theorem c_eqStringS (cs : List (List UInt8)) (hb : cs.length ≤ 1048576) : PCtr PP n_laws_eqStringS [.sl false 1 (cs.map (str)), .sl false 1 (cs.map (str))] (boo true) := by
  obtain ⟨Ω, hΩ⟩ : ∃ Ω, Ω = std := ⟨_, rfl⟩
  obtain ⟨xs, hxs⟩ : ∃ xs, xs = cs.map (str) := ⟨_, rfl⟩
  have hlen : xs.length = cs.length := by rw [hxs, List.length_map]
  rw [← hxs]
  have htab := tab
  have hmo := hmo
  refine PCtr.walk tab hΩ fn_laws_eqStringS rfl ?_
  generalize PP = P at *
  cbv
  refine br (fun h => (ne_self hΩ h).elim) (fun h => ?_)
  cbv
  refine loopX htab hΩ (fun i : Nat => ⟨[(0, .sl false 1 xs), (1, .sl false 1 xs), (5, .sc (.int .i64 (Ω.int i)))], 26, []⟩) (fun i => i ≤ cs.length) (fun i => cs.length - i) 0 (Nat.zero_le _) (Sbs.mk rfl rfl ⟨rfl, rfl, zeroI hΩ, trivial⟩) (fun i hi => ?_)
  cbv
  refine br (fun h => ?_) (fun h => ?_)
  · replace h := ltI hΩ h
    obtain ⟨c, hcc⟩ := at_of (cs := cs) (by omega : i < _)
    have hcm := List.mem_of_getElem? hcc
    cbv
    repeat' (first | (refine br (fun h => (notT hΩ h).elim) (fun h => ?_); cbv) | (refine br (fun h => (ne_self hΩ h).elim) (fun h => ?_); cbv) | (refine br (fun h => (sne_self hΩ h).elim) (fun h => ?_); cbv) | (refine ⟨VC_drawn htab hΩ hmo (by kernel_rfl) ?_⟩; cbv) | (refine ⟨⟨nnI hΩ⟩, _, rdI hΩ hxs hcc, ?_⟩; cbv))
    exact ⟨i + 1, by omega, by omega, Sbs.mk rfl rfl ⟨rfl, rfl, incI hΩ (by omega), trivial⟩⟩
  · cbv
    exact .same
theorem c_eqInt64S (cs : List (Int)) (hb : cs.length ≤ 1048576) : PCtr PP n_laws_eqInt64S [.sl false 1 (cs.map (i64)), .sl false 1 (cs.map (i64))] (boo true) := by
  obtain ⟨Ω, hΩ⟩ : ∃ Ω, Ω = std := ⟨_, rfl⟩
  obtain ⟨xs, hxs⟩ : ∃ xs, xs = cs.map (i64) := ⟨_, rfl⟩
  have hlen : xs.length = cs.length := by rw [hxs, List.length_map]
  rw [← hxs]
  have htab := tab
  have hmo := hmo
  refine PCtr.walk tab hΩ fn_laws_eqInt64S rfl ?_
  generalize PP = P at *
  cbv
  refine br (fun h => (ne_self hΩ h).elim) (fun h => ?_)
  cbv
  refine loopX htab hΩ (fun i : Nat => ⟨[(0, .sl false 1 xs), (1, .sl false 1 xs), (5, .sc (.int .i64 (Ω.int i)))], 26, []⟩) (fun i => i ≤ cs.length) (fun i => cs.length - i) 0 (Nat.zero_le _) (Sbs.mk rfl rfl ⟨rfl, rfl, zeroI hΩ, trivial⟩) (fun i hi => ?_)
  cbv
  refine br (fun h => ?_) (fun h => ?_)
  · replace h := ltI hΩ h
    obtain ⟨c, hcc⟩ := at_of (cs := cs) (by omega : i < _)
    have hcm := List.mem_of_getElem? hcc
    cbv
    repeat' (first | (refine br (fun h => (notT hΩ h).elim) (fun h => ?_); cbv) | (refine br (fun h => (ne_self hΩ h).elim) (fun h => ?_); cbv) | (refine br (fun h => (sne_self hΩ h).elim) (fun h => ?_); cbv) | (refine ⟨VC_drawn htab hΩ hmo (by kernel_rfl) ?_⟩; cbv) | (refine ⟨⟨nnI hΩ⟩, _, rdI hΩ hxs hcc, ?_⟩; cbv))
    exact ⟨i + 1, by omega, by omega, Sbs.mk rfl rfl ⟨rfl, rfl, incI hΩ (by omega), trivial⟩⟩
  · cbv
    exact .same
theorem c_eqTermS (cs : List (Trm)) (hb : cs.length ≤ 1048576) : PCtr PP n_laws_eqTermS [.sl false 7 (cs.map (Trm.enc)), .sl false 7 (cs.map (Trm.enc))] (boo true) := by
  obtain ⟨Ω, hΩ⟩ : ∃ Ω, Ω = std := ⟨_, rfl⟩
  obtain ⟨xs, hxs⟩ : ∃ xs, xs = cs.map (Trm.enc) := ⟨_, rfl⟩
  have hlen : xs.length = cs.length := by rw [hxs, List.length_map]
  rw [← hxs]
  have hc := c_eqTerm
  have htab := tab
  have hmo := hmo
  refine PCtr.walk tab hΩ fn_laws_eqTermS rfl ?_
  generalize PP = P at *
  cbv
  refine br (fun h => (ne_self hΩ h).elim) (fun h => ?_)
  cbv
  refine loopX htab hΩ (fun i : Nat => ⟨[(0, .sl false 7 xs), (1, .sl false 7 xs), (5, .sc (.int .i64 (Ω.int i)))], 27, []⟩) (fun i => i ≤ cs.length) (fun i => cs.length - i) 0 (Nat.zero_le _) (Sbs.mk rfl rfl ⟨rfl, rfl, zeroI hΩ, trivial⟩) (fun i hi => ?_)
  cbv
  refine br (fun h => ?_) (fun h => ?_)
  · replace h := ltI hΩ h
    obtain ⟨c, hcc⟩ := at_of (cs := cs) (by omega : i < _)
    have hcm := List.mem_of_getElem? hcc
    have hcc1 := hc c
    cbv
    repeat' (first | (refine br (fun h => (notT hΩ h).elim) (fun h => ?_); cbv) | (refine br (fun h => (ne_self hΩ h).elim) (fun h => ?_); cbv) | (refine br (fun h => (sne_self hΩ h).elim) (fun h => ?_); cbv) | (refine ⟨VC_drawn htab hΩ hmo (by kernel_rfl) ?_⟩; cbv) | (refine ⟨⟨nnI hΩ⟩, _, rdI hΩ hxs hcc, ?_⟩; cbv) | (refine call_pure hΩ 3 hcc1 rfl (fits _) rfl rfl ?_; cbv) | (refine QCall_pure (k := 3) hcc1 rfl (fits _) rfl ?_; cbv))
    exact ⟨i + 1, by omega, by omega, Sbs.mk rfl rfl ⟨rfl, rfl, incI hΩ (by omega), trivial⟩⟩
  · cbv
    exact .same
theorem c_eqTermSS (cs : List (List Trm)) (hb : cs.length ≤ 1048576) (hl : ∀ l ∈ cs, l.length ≤ 1048576) : PCtr PP n_laws_eqTermSS [.sl false 1 (cs.map (encTs false)), .sl false 1 (cs.map (encTs false))] (boo true) := by
  obtain ⟨Ω, hΩ⟩ : ∃ Ω, Ω = std := ⟨_, rfl⟩
  obtain ⟨xs, hxs⟩ : ∃ xs, xs = cs.map (encTs false) := ⟨_, rfl⟩
  have hlen : xs.length = cs.length := by rw [hxs, List.length_map]
  rw [← hxs]
  have hc : ∀ c ∈ cs, PCtr PP n_laws_eqTermS [.sl false 7 (c.map Trm.enc), .sl false 7 (c.map Trm.enc)] (boo true) := fun c h => c_eqTermS c (hl c h)
  have htab := tab
  have hmo := hmo
  refine PCtr.walk tab hΩ fn_laws_eqTermSS rfl ?_
  generalize PP = P at *
  cbv
  refine br (fun h => (ne_self hΩ h).elim) (fun h => ?_)
  cbv
  refine loopX htab hΩ (fun i : Nat => ⟨[(0, .sl false 1 xs), (1, .sl false 1 xs), (5, .sc (.int .i64 (Ω.int i)))], 27, []⟩) (fun i => i ≤ cs.length) (fun i => cs.length - i) 0 (Nat.zero_le _) (Sbs.mk rfl rfl ⟨rfl, rfl, zeroI hΩ, trivial⟩) (fun i hi => ?_)
  cbv
  refine br (fun h => ?_) (fun h => ?_)
  · replace h := ltI hΩ h
    obtain ⟨c, hcc⟩ := at_of (cs := cs) (by omega : i < _)
    have hcm := List.mem_of_getElem? hcc
    obtain ⟨ts, hen2, hts⟩ : ∃ ts, encTs false c = .sl false 7 ts ∧ ts = c.map Trm.enc := ⟨_, rfl, rfl⟩
    have hcc1 := hc c hcm
    rw [← hts] at hcc1
    cbv
    repeat' (first | (refine br (fun h => (notT hΩ h).elim) (fun h => ?_); cbv) | (refine br (fun h => (ne_self hΩ h).elim) (fun h => ?_); cbv) | (refine br (fun h => (sne_self hΩ h).elim) (fun h => ?_); cbv) | (refine ⟨VC_drawn htab hΩ hmo (by kernel_rfl) ?_⟩; cbv) | (refine ⟨⟨nnI hΩ⟩, _, (rdI hΩ hxs hcc).trans (congrArg some hen2), ?_⟩; cbv) | (refine call_pure hΩ 3 hcc1 rfl (fits _) rfl rfl ?_; cbv) | (refine QCall_pure (k := 3) hcc1 rfl (fits _) rfl ?_; cbv))
    exact ⟨i + 1, by omega, by omega, Sbs.mk rfl rfl ⟨rfl, rfl, incI hΩ (by omega), trivial⟩⟩
  · cbv
    exact .same
theorem c_eqPack (o : Pck) (hs : o.Small) : PCtr PP n_laws_eqPack [o.enc false, o.enc false] (boo true) := by
  obtain ⟨Ω, hΩ⟩ : ∃ Ω, Ω = std := ⟨_, rfl⟩
  obtain ⟨ps, ds, bs, hen, hps, hds, hbs⟩ := enc_raw o
  rw [hen]
  have h1 := c_eqVersion o.v
  have h2 := c_eqStringS o.p hs.p
  have h3 := c_eqTermSS o.d hs.d hs.e
  have h4 := c_eqTermS o.b hs.b
  rw [← hps] at h2
  rw [← hds] at h3
  rw [← hbs] at h4
  have htab := tab
  have hmo := hmo
  refine PCtr.walk tab hΩ fn_laws_eqPack rfl ?_
  generalize PP = P at *
  cbv
  repeat' (first | (refine br (fun h => (notT hΩ h).elim) (fun h => ?_); cbv) | (refine br (fun h => (ne_self hΩ h).elim) (fun h => ?_); cbv) | (refine br (fun h => (sne_self hΩ h).elim) (fun h => ?_); cbv) | (refine ⟨VC_drawn htab hΩ hmo (by kernel_rfl) ?_⟩; cbv) | (refine call_pure hΩ 3 h1 rfl (fits _) rfl rfl ?_; cbv) | (refine QCall_pure (k := 3) h1 rfl (fits _) rfl ?_; cbv) | (refine call_pure hΩ 3 h2 rfl (fits _) rfl rfl ?_; cbv) | (refine QCall_pure (k := 3) h2 rfl (fits _) rfl ?_; cbv) | (refine call_pure hΩ 3 h3 rfl (fits _) rfl rfl ?_; cbv) | (refine QCall_pure (k := 3) h3 rfl (fits _) rfl ?_; cbv) | (refine call_pure hΩ 3 h4 rfl (fits _) rfl rfl ?_; cbv) | (refine QCall_pure (k := 3) h4 rfl (fits _) rfl ?_; cbv))
  exact .same
theorem c_eqPackS (cs : List (Pck)) (hb : cs.length ≤ 1048576) (hl : ∀ l ∈ cs, l.Small) : PCtr PP n_laws_eqPackS [.sl false 8 (cs.map (Pck.enc false)), .sl false 8 (cs.map (Pck.enc false))] (boo true) := by
  obtain ⟨Ω, hΩ⟩ : ∃ Ω, Ω = std := ⟨_, rfl⟩
  obtain ⟨xs, hxs⟩ : ∃ xs, xs = cs.map (Pck.enc false) := ⟨_, rfl⟩
  have hlen : xs.length = cs.length := by rw [hxs, List.length_map]
  rw [← hxs]
  have hc : ∀ c ∈ cs, PCtr PP n_laws_eqPack [Pck.enc false c, Pck.enc false c] (boo true) := fun c h => c_eqPack c (hl c h)
  have htab := tab
  have hmo := hmo
  refine PCtr.walk tab hΩ fn_laws_eqPackS rfl ?_
  generalize PP = P at *
  cbv
  refine br (fun h => (ne_self hΩ h).elim) (fun h => ?_)
  cbv
  refine loopX htab hΩ (fun i : Nat => ⟨[(0, .sl false 8 xs), (1, .sl false 8 xs), (5, .sc (.int .i64 (Ω.int i)))], 27, []⟩) (fun i => i ≤ cs.length) (fun i => cs.length - i) 0 (Nat.zero_le _) (Sbs.mk rfl rfl ⟨rfl, rfl, zeroI hΩ, trivial⟩) (fun i hi => ?_)
  cbv
  refine br (fun h => ?_) (fun h => ?_)
  · replace h := ltI hΩ h
    obtain ⟨c, hcc⟩ := at_of (cs := cs) (by omega : i < _)
    have hcm := List.mem_of_getElem? hcc
    obtain ⟨ps, ds, bs, hen, hps, hds, hbs⟩ := enc_raw c
    have hcc1 := hc c hcm
    rw [hen] at hcc1
    cbv
    repeat' (first | (refine br (fun h => (notT hΩ h).elim) (fun h => ?_); cbv) | (refine br (fun h => (ne_self hΩ h).elim) (fun h => ?_); cbv) | (refine br (fun h => (sne_self hΩ h).elim) (fun h => ?_); cbv) | (refine ⟨VC_drawn htab hΩ hmo (by kernel_rfl) ?_⟩; cbv) | (refine ⟨⟨nnI hΩ⟩, _, (rdI hΩ hxs hcc).trans (congrArg some hen), ?_⟩; cbv) | (refine call_pure hΩ 3 hcc1 rfl (fits _) rfl rfl ?_; cbv) | (refine QCall_pure (k := 3) hcc1 rfl (fits _) rfl ?_; cbv))
    exact ⟨i + 1, by omega, by omega, Sbs.mk rfl rfl ⟨rfl, rfl, incI hΩ (by omega), trivial⟩⟩
  · cbv
    exact .same
end Go.Proofs.YtfmcncflooechaaGreat

/- Walks: the marks' text. Plain theorems. -/
set_option linter.unusedVariables false
set_option linter.unusedSimpArgs false
namespace Go.Proofs.YtfmcncflooechaaGreat
open Go Go.Fw
set_option maxRecDepth 100000
def mkL (k : Nat) (out : List UInt8) : List UInt8 := if k = 0 then out else mkL (k / 10) (UInt8.ofNat (48 + k % 10) :: out)
termination_by k
decreasing_by omega
def markT (k : Int) : List UInt8 := if k ≤ 0 then [109, 48] else 109 :: mkL k.toNat []
theorem mark_byte (k : Nat) : IntKind.u8.wrap (IntKind.i64.wrap (48 + Int.tmod (k : Int) 10)) = ((UInt8.ofNat (48 + k % 10)).toNat : Int) := by
  have h1 : Int.tmod (k : Int) 10 = ((k % 10 : Nat) : Int) := by rw [Int.tmod_eq_emod_of_nonneg (by omega)]; omega
  have h2 : k % 10 < 10 := Nat.mod_lt _ (by omega)
  have h3 : (UInt8.ofNat (48 + k % 10)).toNat = 48 + k % 10 := by simp; omega
  rw [h1, wrap64 (by omega) (by omega), h3]
  have h4 : ∀ y : Int, IntKind.u8.wrap y = y % 256 := fun y => rfl
  rw [h4]
  omega
theorem c_markText (k : Int) (hk : k ≤ 1152921504606846976) : PCtr PP n_laws_markText [i64 k] (str (markT k)) := by
  obtain ⟨Ω, hΩ⟩ : ∃ Ω, Ω = std := ⟨_, rfl⟩
  obtain ⟨r, hr⟩ : ∃ r, r = markT k := ⟨_, rfl⟩
  rw [← hr]
  have htab := tab
  refine PCtr.walk tab hΩ fn_laws_markText rfl ?_
  generalize PP = P at *
  cbv
  refine br (fun h => ?_) (fun h => ?_)
  · replace h : r = [109, 48] := by rw [hr, markT, if_pos (leI_t hΩ h)]
    cbv
    exact .of (congrArg str h.symm)
  obtain ⟨n, hn, hrn, hnb⟩ : ∃ n : Nat, k = Ω.int n ∧ r = 109 :: mkL n [] ∧ n ≤ 1152921504606846976 := by
    have h := leI_f hΩ h
    refine ⟨k.toNat, ?_, by rw [hr, markT, if_neg (by omega)], by omega⟩
    subst hΩ
    exact (Int.toNat_of_nonneg (by omega)).symm
  subst hn
  cbv
  refine loopX htab hΩ (fun i : Nat × List UInt8 => ⟨[(0, .sc (.int .i64 (Ω.int i.1))), (3, .sc (.string (mkS i.2)))], 20, []⟩) (fun i => i.1 + i.2.length ≤ 1152921504606846976 ∧ r = 109 :: mkL i.1 i.2) (fun i => i.1) (n, []) ⟨by simpa using hnb, hrn⟩
    (Sbs.mk rfl rfl ⟨rfl, rfl, trivial⟩) ?_
  rintro ⟨m, out⟩ ⟨hm, he⟩
  dsimp only at hm he
  cbv
  refine br (fun h => ?_) (fun h => ?_)
  · have hm0 : m ≠ 0 := by subst hΩ; have h : (0 : Int) < (m : Int) := gt_t h; omega
    rw [mkL, if_neg hm0] at he
    obtain ⟨b, hb⟩ : ∃ b, b = UInt8.ofNat (48 + m % 10) := ⟨_, rfl⟩
    rw [← hb] at he
    have hb2 : Ω.wrap .u8 (Ω.ar .add .i64 48 (Ω.ar .rem .i64 (Ω.int m) 10)) = (b.toNat : Int) := by subst hΩ; rw [hb]; exact mark_byte m
    have hq : i64 (Ω.ar .quo .i64 (Ω.int m) 10) = i64 (Ω.int (m / 10)) := by
      subst hΩ
      show i64 (IntKind.i64.wrap ((m : Int).tdiv 10)) = i64 ((m / 10 : Nat) : Int)
      rw [show (m : Int).tdiv 10 = ((m / 10 : Nat) : Int) by rw [Int.tdiv_eq_ediv_of_nonneg (by omega)]; omega, wrap64 (by omega) (by omega)]
    have hm2 : m / 10 + (b :: out).length ≤ 1152921504606846976 := by simp only [List.length_cons]; omega
    have hm3 : m / 10 < m := by omega
    have hl : (([b] : List UInt8).length + out.length : Nat) ≤ 9223372036854775807 := by simp only [List.length_singleton]; omega
    have hl2 : ((([b] : List UInt8).length + out.length : Nat) : Int) ≤ 9223372036854775807 := by omega
    cbv
    refine ⟨⟨by decide⟩, [b], ⟨Nat.le_refl 1, congrArg (fun v => [A.sc (.int .u8 v)]) hb2⟩, ?_⟩
    cbv
    refine ⟨⟨hl2⟩, ⟨by decide⟩, (m / 10, b :: out), ⟨hm2, he⟩, hm3, Sbs.mkL (rows := []) rfl rfl rfl ⟨hq, ?_, trivial⟩⟩
    subst hΩ; rfl
  · have hm0 : m = 0 := by subst hΩ; have h : (m : Int) ≤ 0 := gt_f h; omega
    rw [mkL, if_pos hm0] at he
    have hl2 : ((([109] : List UInt8).length + out.length : Nat) : Int) ≤ 9223372036854775807 := by simp only [List.length_singleton]; omega
    cbv
    refine ⟨⟨hl2⟩, .of ?_⟩
    rw [he]; subst hΩ; rfl
end Go.Proofs.YtfmcncflooechaaGreat

/- Walks: marks. Plain theorems. -/
set_option linter.unusedVariables false
set_option linter.unusedSimpArgs false
namespace Go.Proofs.YtfmcncflooechaaGreat
open Go Go.Fw
set_option maxRecDepth 100000
theorem c_markStringS (cs : List (List UInt8)) (k : Int) (h0 : 0 ≤ k) (h1 : k + psum (fun _ => 1) cs cs.length ≤ 1099511627776) (hb : cs.length ≤ 1048576) : ECtr PP n_laws_markStringS [.sl true 1 (cs.map (str)), i64 k] (i64 (k + psum (fun _ => 1) cs cs.length)) := by
  obtain ⟨Ω, hΩ⟩ : ∃ Ω, Ω = std := ⟨_, rfl⟩
  obtain ⟨xs, hxs⟩ : ∃ xs, xs = cs.map (str) := ⟨_, rfl⟩
  have hlen : xs.length = cs.length := by rw [hxs, List.length_map]
  have hna : ∀ y ∈ xs, vStore.isAggA y = false := fun y hy => by rw [hxs] at hy; obtain ⟨c, _, rfl⟩ := List.mem_map.1 hy; rfl
  obtain ⟨kf, hkf⟩ : ∃ kf : Nat → Int, kf = fun i => k + psum (fun _ => 1) cs i := ⟨_, rfl⟩
  have hk0 : kf 0 = k := by rw [hkf]; simp [psum_zero]
  have hkn : kf cs.length = k + psum (fun _ => 1) cs cs.length := by rw [hkf]
  have hkp : ∀ i, 0 ≤ kf i ∧ kf i ≤ 1099511627776 := fun i => by rw [hkf]; have := psum_le (f := fun _ => 1) (d := cs) i; simp only; omega
  have hks : ∀ i c, cs[i]? = some c → kf (i + 1) = kf i + ((fun _ => 1) c : Nat) := fun i c h => by rw [hkf]; simp only; rw [psum_at h]; omega
  clear hkf
  rw [← hkn, ← hxs]
  have hle : Ω.len xs = xs.length := by subst hΩ; rfl
  have hc := c_markText
  have htab := tab
  have hmo := hmo
  refine ECtr.walk tab hΩ 3 fn_laws_markStringS rfl rfl ?_
  generalize PP = P at *
  cbv
  refine loopX htab hΩ (fun i : Nat × List A => ⟨[(0, .vw 0 0 (Ω.len xs)), (1, .sc (.int .i64 (kf i.1))), (5, .sc (.int .i64 (Ω.int i.1)))], 20, [some ⟨1, i.2, false⟩]⟩)
    (fun i => i.1 ≤ cs.length ∧ i.2.length = cs.length ∧ (∀ q, i.1 ≤ q → i.2[q]? = xs[q]?) ∧ (∀ y ∈ i.2, vStore.isAggA y = false)) (fun i => cs.length - i.1) (0, xs) ⟨Nat.zero_le _, hlen, fun _ _ => rfl, hna⟩ (Sbs.mk rfl rfl ⟨rfl, congrArg i64 hk0.symm, zeroI hΩ, trivial⟩) ?_
  rintro ⟨i, ys⟩ ⟨hi, hyl, hya, hyn⟩
  dsimp only at hi hyl hya hyn
  dsimp only
  have hki := hkp i
  have hki1 := hkp (i + 1)
  cbv
  refine br (fun h => ?_) (fun h => ?_) <;> cbv
  · replace h := ltI hΩ h
    obtain ⟨c, hcc⟩ := at_of (cs := cs) (by omega : i < cs.length)
    have hcm := List.mem_of_getElem? hcc
    have hkc := hks i c hcc
    have hlk : Like xs i ys := ⟨by omega, fun q hq => hya q (by omega)⟩
    have hyi : ys[i]? = some ((str) c) := by rw [hya i (Nat.le_refl _), hxs, List.getElem?_map, hcc]; rfl
    have hil : i < Ω.len xs := by rw [hle]; exact h
    replace hkc : kf (i + 1) = kf i + 1 := by simpa using hkc
    have hy1 := (addV hΩ hki.1 (by omega)).trans hkc.symm
    refine call_pure hΩ 3 (hc (kf i) (by omega)) rfl (fits _) rfl rfl ?_
    generalize markT (kf i) = mt
    cbv
    have hL := hlk.set hΩ (z := str mt)
    have hLl := hL.len
    refine ⟨⟨ixI hΩ hil⟩, ⟨by subst hΩ; show 0 + i < ys.length; omega, hyn⟩, (i + 1, Ω.set ys (Ω.plus 0 (Ω.nat (Ω.int i))) (str mt)), ⟨by dsimp only; omega, by dsimp only; omega, fun q hq => hL.at' q hq, setNA hΩ hyn rfl⟩, by dsimp only; omega,
      Sbs.mk rfl rfl ⟨rfl, congrArg i64 hy1, incI hΩ (by omega), trivial⟩⟩
  · have hj : i = cs.length := by have := geI hΩ h; omega
    subst hj
    exact .same
theorem c_markTermS (cs : List (Trm)) (k : Int) (h0 : 0 ≤ k) (h1 : k + psum (fun _ => 7) cs cs.length ≤ 1099511627776) (hb : cs.length ≤ 1048576) : ECtr PP n_laws_markTermS [.sl true 7 (cs.map (Trm.enc)), i64 k] (i64 (k + psum (fun _ => 7) cs cs.length)) := by
  obtain ⟨Ω, hΩ⟩ : ∃ Ω, Ω = std := ⟨_, rfl⟩
  obtain ⟨xs, hxs⟩ : ∃ xs, xs = cs.map (Trm.enc) := ⟨_, rfl⟩
  have hlen : xs.length = cs.length := by rw [hxs, List.length_map]
  have hna : ∀ y ∈ xs, True := fun y hy => by trivial
  obtain ⟨kf, hkf⟩ : ∃ kf : Nat → Int, kf = fun i => k + psum (fun _ => 7) cs i := ⟨_, rfl⟩
  have hk0 : kf 0 = k := by rw [hkf]; simp [psum_zero]
  have hkn : kf cs.length = k + psum (fun _ => 7) cs cs.length := by rw [hkf]
  have hkp : ∀ i, 0 ≤ kf i ∧ kf i ≤ 1099511627776 := fun i => by rw [hkf]; have := psum_le (f := fun _ => 7) (d := cs) i; simp only; omega
  have hks : ∀ i c, cs[i]? = some c → kf (i + 1) = kf i + ((fun _ => 7) c : Nat) := fun i c h => by rw [hkf]; simp only; rw [psum_at h]; omega
  clear hkf
  rw [← hkn, ← hxs]
  have hle : Ω.len xs = xs.length := by subst hΩ; rfl
  have hc := c_markText
  have htab := tab
  have hmo := hmo
  refine ECtr.walk tab hΩ 3 fn_laws_markTermS rfl rfl ?_
  generalize PP = P at *
  cbv
  refine loopX htab hΩ (fun i : Nat × List A => ⟨[(0, .vw 0 0 (Ω.len xs)), (1, .sc (.int .i64 (kf i.1))), (5, .sc (.int .i64 (Ω.int i.1)))], 69, [some ⟨7, i.2, false⟩]⟩)
    (fun i => i.1 ≤ cs.length ∧ i.2.length = cs.length ∧ (∀ q, i.1 ≤ q → i.2[q]? = xs[q]?)) (fun i => cs.length - i.1) (0, xs) ⟨Nat.zero_le _, hlen, fun _ _ => rfl⟩ (Sbs.mk rfl rfl ⟨rfl, congrArg i64 hk0.symm, zeroI hΩ, trivial⟩) ?_
  rintro ⟨i, ys⟩ ⟨hi, hyl, hya⟩
  dsimp only at hi hyl hya
  dsimp only
  have hki := hkp i
  have hki1 := hkp (i + 1)
  cbv
  refine br (fun h => ?_) (fun h => ?_) <;> cbv
  · replace h := ltI hΩ h
    obtain ⟨c, hcc⟩ := at_of (cs := cs) (by omega : i < cs.length)
    have hcm := List.mem_of_getElem? hcc
    have hkc := hks i c hcc
    have hlk : Like xs i ys := ⟨by omega, fun q hq => hya q (by omega)⟩
    have hyi : ys[i]? = some ((Trm.enc) c) := by rw [hya i (Nat.le_refl _), hxs, List.getElem?_map, hcc]; rfl
    have hil : i < Ω.len xs := by rw [hle]; exact h
    replace hkc : kf (i + 1) = kf i + 7 := by simpa using hkc
    have hy1 := (addV7 hΩ hki.1 (by omega)).trans hkc.symm
    have hlt : i < ys.length := by omega
    refine call_pure hΩ 3 (hc (kf i) (by omega)) rfl (fits _) rfl rfl ?_
    generalize markT (kf i) = mt
    cbv
    refine ⟨⟨ixI hΩ hil⟩, _, atI hΩ hyi, ?_⟩
    cbv
    refine ⟨⟨ixI hΩ hil⟩, _, setI hΩ hlt, ?_⟩
    cbv
    refine ⟨⟨ixI hΩ hil⟩, _, setI hΩ (setI_lt hΩ hlt), ?_⟩
    cbv
    refine ⟨⟨ixI hΩ hil⟩, _, setI hΩ (setI_lt hΩ (setI_lt hΩ hlt)), ?_⟩
    cbv
    refine ⟨⟨ixI hΩ hil⟩, _, setI hΩ (setI_lt hΩ (setI_lt hΩ (setI_lt hΩ hlt))), ?_⟩
    cbv
    refine ⟨⟨ixI hΩ hil⟩, _, setI hΩ (setI_lt hΩ (setI_lt hΩ (setI_lt hΩ (setI_lt hΩ hlt)))), ?_⟩
    cbv
    refine ⟨⟨ixI hΩ hil⟩, _, setI hΩ (setI_lt hΩ (setI_lt hΩ (setI_lt hΩ (setI_lt hΩ (setI_lt hΩ hlt))))), ?_⟩
    cbv
    refine ⟨(i + 1, _), ⟨?pa, ?pb, ?pc⟩, ?pd, Sbs.mk rfl rfl ⟨rfl, congrArg i64 hy1, incI hΩ (by omega), trivial⟩⟩
    case pa => dsimp only; omega
    case pd => dsimp only; omega
    case pb => exact (((((((hlk.set hΩ).set hΩ).set hΩ).set hΩ).set hΩ).set hΩ).set hΩ).len.trans hlen
    case pc => exact fun q hq => (((((((hlk.set hΩ).set hΩ).set hΩ).set hΩ).set hΩ).set hΩ).set hΩ).at' q hq
  · have hj : i = cs.length := by have := geI hΩ h; omega
    subst hj
    exact .same
theorem c_markTermSS (cs : List (List Trm)) (k : Int) (h0 : 0 ≤ k) (h1 : k + psum (fun l => 7 * l.length) cs cs.length ≤ 1099511627776) (hb : cs.length ≤ 1048576) (hl : ∀ l ∈ cs, l.length ≤ 1048576) : ECtr PP n_laws_markTermSS [.sl true 1 (cs.map (encTs true)), i64 k] (i64 (k + psum (fun l => 7 * l.length) cs cs.length)) := by
  obtain ⟨Ω, hΩ⟩ : ∃ Ω, Ω = std := ⟨_, rfl⟩
  obtain ⟨xs, hxs⟩ : ∃ xs, xs = cs.map (encTs true) := ⟨_, rfl⟩
  have hlen : xs.length = cs.length := by rw [hxs, List.length_map]
  have hna : ∀ y ∈ xs, vStore.isAggA y = false := fun y hy => by rw [hxs] at hy; obtain ⟨c, _, rfl⟩ := List.mem_map.1 hy; rfl
  obtain ⟨kf, hkf⟩ : ∃ kf : Nat → Int, kf = fun i => k + psum (fun l => 7 * l.length) cs i := ⟨_, rfl⟩
  have hk0 : kf 0 = k := by rw [hkf]; simp [psum_zero]
  have hkn : kf cs.length = k + psum (fun l => 7 * l.length) cs cs.length := by rw [hkf]
  have hkp : ∀ i, 0 ≤ kf i ∧ kf i ≤ 1099511627776 := fun i => by rw [hkf]; have := psum_le (f := fun l => 7 * l.length) (d := cs) i; simp only; omega
  have hks : ∀ i c, cs[i]? = some c → kf (i + 1) = kf i + ((fun l => 7 * l.length) c : Nat) := fun i c h => by rw [hkf]; simp only; rw [psum_at h]; omega
  clear hkf
  rw [← hkn, ← hxs]
  have hle : Ω.len xs = xs.length := by subst hΩ; rfl
  have hc := c_markText
  have hmT := c_markTermS
  have htab := tab
  have hmo := hmo
  refine ECtr.walk tab hΩ 3 fn_laws_markTermSS rfl rfl ?_
  generalize PP = P at *
  cbv
  refine loopX htab hΩ (fun i : Nat × List A => ⟨[(0, .vw 0 0 (Ω.len xs)), (1, .sc (.int .i64 (kf i.1))), (5, .sc (.int .i64 (Ω.int i.1)))], 19, [some ⟨1, i.2, false⟩]⟩)
    (fun i => i.1 ≤ cs.length ∧ i.2.length = cs.length ∧ (∀ q, i.1 ≤ q → i.2[q]? = xs[q]?) ∧ (∀ y ∈ i.2, vStore.isAggA y = false)) (fun i => cs.length - i.1) (0, xs) ⟨Nat.zero_le _, hlen, fun _ _ => rfl, hna⟩ (Sbs.mk rfl rfl ⟨rfl, congrArg i64 hk0.symm, zeroI hΩ, trivial⟩) ?_
  rintro ⟨i, ys⟩ ⟨hi, hyl, hya, hyn⟩
  dsimp only at hi hyl hya hyn
  dsimp only
  have hki := hkp i
  have hki1 := hkp (i + 1)
  cbv
  refine br (fun h => ?_) (fun h => ?_) <;> cbv
  · replace h := ltI hΩ h
    obtain ⟨c, hcc⟩ := at_of (cs := cs) (by omega : i < cs.length)
    have hcm := List.mem_of_getElem? hcc
    have hkc := hks i c hcc
    have hlk : Like xs i ys := ⟨by omega, fun q hq => hya q (by omega)⟩
    have hyi : ys[i]? = some ((encTs true) c) := by rw [hya i (Nat.le_refl _), hxs, List.getElem?_map, hcc]; rfl
    have hil : i < Ω.len xs := by rw [hle]; exact h
    obtain ⟨ts, hen, hts⟩ : ∃ ts, encTs true c = .sl true 7 ts ∧ ts = c.map Trm.enc := ⟨_, rfl, rfl⟩
    replace hkc : kf (i + 1) = kf i + (7 * c.length : Nat) := hkc
    have hm := hmT c (kf i) hki.1 (by rw [psum_const]; show kf i + ((7 * c.length : Nat) : Int) ≤ _; omega) (hl c hcm)
    rw [psum_const, ← hkc, ← hts] at hm
    refine ⟨⟨ixI hΩ hil⟩, _, (atI hΩ hyi).trans (congrArg some hen), ?_⟩
    cbv
    refine call_eat2 (row := ⟨7, ts, false⟩) hΩ 3 hm rfl rfl (by subst hΩ; rfl) rfl (fits _) rfl rfl ?_
    cbv
    have hL := hlk.set hΩ (z := .un)
    have hLl := hL.len
    exact ⟨(i + 1, Ω.set ys (Ω.plus 0 (Ω.nat (Ω.int i))) .un), ⟨by dsimp only; omega, by dsimp only; omega, fun q hq => hL.at' q hq, setNA hΩ hyn rfl⟩, by dsimp only; omega,
      Sbs.trans (Sbs.lastN (rows := [_]) rfl) (Sbs.mk rfl rfl ⟨rfl, rfl, incI hΩ (by omega), trivial⟩)⟩
  · have hj : i = cs.length := by have := geI hΩ h; omega
    subst hj
    exact .same
/-- How many marks a package takes. -/
def Pck.cnt (o : Pck) : Nat := 5 + psum (fun _ => 1) o.p o.p.length + psum (fun l : List Trm => 7 * l.length) o.d o.d.length + psum (fun _ => 7) o.b o.b.length
theorem cnt_split {y z : Int} {o : Pck} (h : z = y + (o.cnt : Nat)) : ∃ y1 y2 y3 : Int, y1 = y + 5 ∧ y2 = y1 + (psum (fun _ => 1) o.p o.p.length : Nat) ∧ y3 = y2 + (psum (fun l : List Trm => 7 * l.length) o.d o.d.length : Nat) ∧ z = y3 + (psum (fun _ => 7) o.b o.b.length : Nat) ∧ y ≤ y1 ∧ y1 ≤ y2 ∧ y2 ≤ y3 ∧ y3 ≤ z :=
  ⟨_, _, _, rfl, rfl, rfl, by rw [h]; unfold Pck.cnt; omega, by omega, by omega, by omega, by rw [h]; unfold Pck.cnt; omega⟩
theorem c_markPackS (cs : List (Pck)) (k : Int) (h0 : 0 ≤ k) (h1 : k + psum (Pck.cnt) cs cs.length ≤ 1099511627776) (hb : cs.length ≤ 1048576) (hl : ∀ l ∈ cs, l.Small) : ECtr PP n_laws_markPackS [.sl true 8 (cs.map (Pck.enc true)), i64 k] (i64 (k + psum (Pck.cnt) cs cs.length)) := by
  obtain ⟨Ω, hΩ⟩ : ∃ Ω, Ω = std := ⟨_, rfl⟩
  obtain ⟨xs, hxs⟩ : ∃ xs, xs = cs.map (Pck.enc true) := ⟨_, rfl⟩
  have hlen : xs.length = cs.length := by rw [hxs, List.length_map]
  have hna : ∀ y ∈ xs, True := fun y hy => by trivial
  obtain ⟨kf, hkf⟩ : ∃ kf : Nat → Int, kf = fun i => k + psum (Pck.cnt) cs i := ⟨_, rfl⟩
  have hk0 : kf 0 = k := by rw [hkf]; simp [psum_zero]
  have hkn : kf cs.length = k + psum (Pck.cnt) cs cs.length := by rw [hkf]
  have hkp : ∀ i, 0 ≤ kf i ∧ kf i ≤ 1099511627776 := fun i => by rw [hkf]; have := psum_le (f := Pck.cnt) (d := cs) i; simp only; omega
  have hks : ∀ i c, cs[i]? = some c → kf (i + 1) = kf i + ((Pck.cnt) c : Nat) := fun i c h => by rw [hkf]; simp only; rw [psum_at h]; omega
  clear hkf
  rw [← hkn, ← hxs]
  have hle : Ω.len xs = xs.length := by subst hΩ; rfl
  have hc := c_markText
  have hcl : ∀ i c, cs[i]? = some c → ∃ y1 y2 y3 : Int, kf i + 5 = y1 ∧ ECtr PP n_laws_markStringS [.sl true 1 (c.p.map str), i64 y1] (i64 y2) ∧ ECtr PP n_laws_markTermSS [.sl true 1 (c.d.map (encTs true)), i64 y2] (i64 y3) ∧ ECtr PP n_laws_markTermS [.sl true 7 (c.b.map Trm.enc), i64 y3] (i64 (kf (i + 1))) := fun i c h => by
    obtain ⟨y1, y2, y3, hy1, hy2, hy3, hy4, hb1, hb2, hb3, hb4⟩ := cnt_split (hks i c h)
    have hsm := hl c (List.mem_of_getElem? h)
    have hki := hkp i
    have hki1 := hkp (i + 1)
    have hmp := c_markStringS c.p y1 (by omega) (by omega) hsm.p
    have hmd := c_markTermSS c.d y2 (by omega) (by omega) hsm.d hsm.e
    have hmb := c_markTermS c.b y3 (by omega) (by omega) hsm.b
    rw [← hy2] at hmp
    rw [← hy3] at hmd
    rw [← hy4] at hmb
    exact ⟨y1, y2, y3, hy1.symm, hmp, hmd, hmb⟩
  have htab := tab
  have hmo := hmo
  refine ECtr.walk tab hΩ 3 fn_laws_markPackS rfl rfl ?_
  generalize PP = P at *
  cbv
  refine loopX htab hΩ (fun i : Nat × List A => ⟨[(0, .vw 0 0 (Ω.len xs)), (1, .sc (.int .i64 (kf i.1))), (5, .sc (.int .i64 (Ω.int i.1)))], 73, [some ⟨8, i.2, false⟩]⟩)
    (fun i => i.1 ≤ cs.length ∧ i.2.length = cs.length ∧ (∀ q, i.1 ≤ q → i.2[q]? = xs[q]?)) (fun i => cs.length - i.1) (0, xs) ⟨Nat.zero_le _, hlen, fun _ _ => rfl⟩ (Sbs.mk rfl rfl ⟨rfl, congrArg i64 hk0.symm, zeroI hΩ, trivial⟩) ?_
  rintro ⟨i, ys⟩ ⟨hi, hyl, hya⟩
  dsimp only at hi hyl hya
  dsimp only
  have hki := hkp i
  have hki1 := hkp (i + 1)
  cbv
  refine br (fun h => ?_) (fun h => ?_) <;> cbv
  · replace h := ltI hΩ h
    obtain ⟨c, hcc⟩ := at_of (cs := cs) (by omega : i < cs.length)
    have hcm := List.mem_of_getElem? hcc
    have hkc := hks i c hcc
    have hlk : Like xs i ys := ⟨by omega, fun q hq => hya q (by omega)⟩
    have hyi : ys[i]? = some ((Pck.enc true) c) := by rw [hya i (Nat.le_refl _), hxs, List.getElem?_map, hcc]; rfl
    have hil : i < Ω.len xs := by rw [hle]; exact h
    obtain ⟨y1, y2, y3, hy1, hmp, hmd, hmb⟩ := hcl i c hcc
    have hlt : i < ys.length := by omega
    have hy1' := (addV5 hΩ hki.1 (by omega)).trans hy1
    refine call_pure hΩ 3 (hc (kf i) (by omega)) rfl (fits _) rfl rfl ?_
    generalize markT (kf i) = mt
    obtain ⟨ps, ds, bs, hen, hps, hds, hbs⟩ := enc_own c
    rw [← hps] at hmp
    rw [← hds] at hmd
    rw [← hbs] at hmb
    cbv
    refine ⟨⟨ixI hΩ hil⟩, _, (atI hΩ hyi).trans (congrArg some hen), ?_⟩
    cbv
    refine ⟨⟨ixI hΩ hil⟩, _, setI hΩ hlt, ?_⟩
    cbv
    refine ⟨⟨ixI hΩ hil⟩, _, setI hΩ (setI_lt hΩ hlt), ?_⟩
    cbv
    refine ⟨⟨ixI hΩ hil⟩, _, setI hΩ (setI_lt hΩ (setI_lt hΩ hlt)), ?_⟩
    cbv
    refine ⟨⟨ixI hΩ hil⟩, _, setI hΩ (setI_lt hΩ (setI_lt hΩ (setI_lt hΩ hlt))), ?_⟩
    cbv
    refine ⟨⟨ixI hΩ hil⟩, _, setI hΩ (setI_lt hΩ (setI_lt hΩ (setI_lt hΩ (setI_lt hΩ hlt)))), ?_⟩
    cbv
    refine call_eat2 (row := ⟨1, ps, false⟩) hΩ 3 hmp rfl rfl (by subst hΩ; rfl) rfl (fitsE (congrArg (fun z => [i64 z]) hy1')) rfl rfl ?_
    cbv
    refine ⟨⟨ixI hΩ hil⟩, _, setI hΩ (setI_lt hΩ (setI_lt hΩ (setI_lt hΩ (setI_lt hΩ (setI_lt hΩ hlt))))), ?_⟩
    cbv
    refine call_eat2 (row := ⟨1, ds, false⟩) hΩ 3 hmd rfl rfl (by subst hΩ; rfl) rfl (fits _) rfl rfl ?_
    cbv
    refine ⟨⟨ixI hΩ hil⟩, _, setI hΩ (setI_lt hΩ (setI_lt hΩ (setI_lt hΩ (setI_lt hΩ (setI_lt hΩ (setI_lt hΩ hlt)))))), ?_⟩
    cbv
    refine call_eat2 (row := ⟨7, bs, false⟩) hΩ 3 hmb rfl rfl (by subst hΩ; rfl) rfl (fits _) rfl rfl ?_
    cbv
    refine ⟨(i + 1, _), ⟨?pa, ?pb, ?pc⟩, ?pd, Sbs.trans (Sbs.lastN (rows := [_, none, none]) rfl) (Sbs.trans (Sbs.lastN (rows := [_, none]) rfl) (Sbs.trans (Sbs.lastN (rows := [_]) rfl) (Sbs.mk rfl rfl ⟨rfl, rfl, incI hΩ (by omega), trivial⟩)))⟩
    case pa => dsimp only; omega
    case pd => dsimp only; omega
    case pb => exact ((((((((hlk.set hΩ).set hΩ).set hΩ).set hΩ).set hΩ).set hΩ).set hΩ).set hΩ).len.trans hlen
    case pc => exact fun q hq => ((((((((hlk.set hΩ).set hΩ).set hΩ).set hΩ).set hΩ).set hΩ).set hΩ).set hΩ).at' q hq

  · have hj : i = cs.length := by have := geI hΩ h; omega
    subst hj
    exact .same
end Go.Proofs.YtfmcncflooechaaGreat

/- Walks: numbers are marked and held. Plain theorems. -/
set_option linter.unusedVariables false
set_option linter.unusedSimpArgs false
namespace Go.Proofs.YtfmcncflooechaaGreat
open Go Go.Fw
set_option maxRecDepth 100000
theorem c_markInt64S (cs : List Int) (k : Int) (h0 : 0 ≤ k) (h1 : k ≤ 2199023255552) (hb : cs.length ≤ 1048576) :
    MCtr PP n_laws_markInt64S [.sl true 1 (cs.map i64), i64 k] (i64 (k + cs.length)) [.sl true 1 (marksI k cs.length), i64 k] := by
  obtain ⟨Ω, hΩ⟩ : ∃ Ω, Ω = std := ⟨_, rfl⟩
  obtain ⟨n, hn⟩ : ∃ n, n = cs.length := ⟨_, rfl⟩
  obtain ⟨ms, hms⟩ : ∃ ms, ms = marksI k n := ⟨_, rfl⟩
  obtain ⟨xs, hxs⟩ : ∃ xs, xs = cs.map i64 := ⟨_, rfl⟩
  have hlen : xs.length = n := by rw [hxs, hn, List.length_map]
  have hml : ms.length = xs.length := by rw [hms, marksI_length, hlen]
  obtain ⟨ys, hys⟩ : ∃ ys, ys = halfA ms xs := ⟨_, rfl⟩
  have hyl : ∀ i, i ≤ n → (ys i).length = n := fun i hi => by rw [hys, halfA_length hml (by omega)]; exact hlen
  have hyn : ∀ i, ∀ y ∈ ys i, vStore.isAggA y = false := fun i => by rw [hys, hms, hxs]; exact halfA_na (marksI_na _ _) fun y hy => by obtain ⟨c, _, rfl⟩ := List.mem_map.1 hy; rfl
  have hx0 : xs = ys 0 := by rw [hys]; rfl
  obtain ⟨kf, hk0, hkn, hkb, hks, hkm⟩ : ∃ kf : Nat → Int, kf 0 = k ∧ kf n = k + n ∧ (∀ i, i ≤ n → 0 ≤ kf i ∧ kf i ≤ 2199024304128) ∧ (∀ i, kf (i + 1) = kf i + 1) ∧ (∀ i, i < n → ms[i]? = some (i64 (kf i))) :=
    ⟨fun i => k + i, by simp, rfl, fun i hi => by simp only; omega, fun i => by simp only; omega, fun i hi => by rw [hms]; exact marksI_at hi⟩
  have hset : ∀ i, i < n → (ys i).set i (i64 (kf i)) = ys (i + 1) := fun i hi => by rw [hys]; exact halfA_set hml (hkm i hi)
  have hzn : ms = ys n := by rw [hys, halfA, ← hlen, ← hml, List.take_length, hml, List.drop_length, List.append_nil]
  clear hkm hys
  rw [← hxs, ← hn, ← hms, hzn, ← hkn]
  have htab := tab
  refine MCtr.walkO tab hΩ 3 fn_laws_markInt64S rfl rfl rfl ?_
  have hlo : Ω.len xs = n := by subst hΩ; exact hlen
  generalize PP = P at *
  cbv
  refine loopX htab hΩ (fun i : Nat => ⟨[(0, .vw 0 0 n), (1, .sc (.int .i64 (kf i))), (5, .sc (.int .i64 (Ω.int i))), (19, .vw 0 0 n), (20, .sc (.int .i64 k))], 19, [some ⟨1, ys i, false⟩]⟩) (fun i => i ≤ n) (fun i => n - i) 0 (Nat.zero_le _)
    (Sbs.mk rfl (by rw [← hx0]) ⟨congrArg (A.vw 0 0) hlo, congrArg i64 hk0.symm, zeroI hΩ, congrArg (A.vw 0 0) hlo, rfl, trivial⟩) (fun i hi => ?_)
  have hyli := hyl i hi
  have hyni := hyn i
  have hkbi := hkb i hi
  have hse := hset i
  have hks1 := hks i
  cbv
  refine br (fun h => ?_) (fun h => ?_) <;> cbv
  · replace h : i < n := by have := ltN hΩ h; omega
    refine ⟨⟨ixI hΩ h⟩, ⟨by subst hΩ; show 0 + i < (ys i).length; omega, hyni⟩, i + 1, by omega, by omega, Sbs.mk rfl ?_ ⟨rfl, congrArg i64 ((addV hΩ hkbi.1 (by omega)).trans hks1.symm), incI hΩ (by omega), rfl, rfl, trivial⟩⟩
    rw [← hse h]
    subst hΩ
    show [some (Row.mk 1 ((ys i).set (0 + i) _) false)] = _
    rw [Nat.zero_add]
    rfl
  · replace h : i = n := by have := geN hΩ h; omega
    subst h
    exact ⟨⟨rfl, Nat.le_of_eq (hyl i hi).symm⟩, .same, .of (congrArg (fun z => [A.sl true 1 z, i64 k]) (takeI hΩ (hyl i hi)))⟩
end Go.Proofs.YtfmcncflooechaaGreat

/- Helpers of the laws of sets. Plain theorems. -/
set_option linter.unusedVariables false
set_option linter.unusedSimpArgs false
namespace Go.Proofs.YtfmcncflooechaaGreat
open Go Go.Fw
set_option maxRecDepth 100000
theorem sum_le_cost : ∀ (l : List Pck), (l.map Pck.cnt).sum ≤ 12 * costS cP l
  | [] => Nat.zero_le _
  | o :: l => by
    have ih := sum_le_cost l
    have h : o.cnt ≤ 5 + 7 * cP o := by
      have h1 : ∀ d : List (List Trm), psum (fun l => 7 * l.length) d d.length ≤ 7 * costS (costS cT) d := fun d => by
        unfold psum
        rw [List.take_length]
        induction d with
        | nil => exact Nat.zero_le _
        | cons x d ih =>
          have := len_cost cT x
          unfold costS at ih ⊢
          simp only [List.map_cons, List.sum_cons, List.length_cons] at ih ⊢
          unfold costS at this
          omega
      have h2 := h1 o.d
      have h3 := len_cost cB o.p
      have h4 := len_cost cT o.b
      unfold Pck.cnt
      rw [psum_const, psum_const]
      unfold cP
      omega
    unfold costS at ih ⊢
    simp only [List.map_cons, List.sum_cons, List.length_cons] at ih ⊢
    omega
theorem psum_cnt_le (l : List Pck) : psum Pck.cnt l l.length ≤ 12 * costS cP l := by
  unfold psum
  rw [List.take_length]
  exact sum_le_cost l
/-- What the size check tells. -/
theorem sz_facts {cs : List Pck} (h : 0 ≤ szS szP cs 1048576) : cs.length ≤ 1048576 ∧ (∀ o ∈ cs, o.Small) ∧ psum Pck.cnt cs cs.length ≤ 12582912 := by
  rw [szS_cost szP_cost] at h
  split at h
  · omega
  · have hc : costS cP cs ≤ 1048576 := by omega
    exact ⟨Nat.le_trans (len_cost _ _) hc, fun o ho => small_of (Nat.le_trans (mem_cost _ _ o ho) hc), Nat.le_trans (psum_cnt_le cs) (by omega)⟩
end Go.Proofs.YtfmcncflooechaaGreat

/- Branches told as facts on numbers. Plain theorems. -/
set_option linter.unusedVariables false
namespace Go.Proofs.YtfmcncflooechaaGreat
open Go Go.Fw
theorem iteA {Ω : Opq} (hΩ : Ω = std) {x y c : Bool} (h : Ω.ite true x y = c) : x = c := by subst hΩ; exact h
theorem iteB {Ω : Opq} (hΩ : Ω = std) {x y c : Bool} (h : Ω.ite false x y = c) : y = c := by subst hΩ; exact h
theorem notA {Ω : Opq} (hΩ : Ω = std) {x : Bool} (h : Ω.not x = true) : x = false := notT' hΩ h
theorem notB {Ω : Opq} (hΩ : Ω = std) {x : Bool} (h : Ω.not x = false) : x = true := notF' hΩ h
theorem ltZt {Ω : Opq} (hΩ : Ω = std) {x y : Int} (h : Ω.cmp .lss x y = true) : x < y := by subst hΩ; exact lt_t h
theorem ltZf {Ω : Opq} (hΩ : Ω = std) {x y : Int} (h : Ω.cmp .lss x y = false) : y ≤ x := by subst hΩ; exact lt_f h
theorem leZt {Ω : Opq} (hΩ : Ω = std) {x y : Int} (h : Ω.cmp .leq x y = true) : x ≤ y := by subst hΩ; exact le_t h
theorem leZf {Ω : Opq} (hΩ : Ω = std) {x y : Int} (h : Ω.cmp .leq x y = false) : y < x := by subst hΩ; exact le_f h
theorem gtZt {Ω : Opq} (hΩ : Ω = std) {x y : Int} (h : Ω.cmp .gtr x y = true) : y < x := by subst hΩ; exact gt_t h
theorem gtZf {Ω : Opq} (hΩ : Ω = std) {x y : Int} (h : Ω.cmp .gtr x y = false) : x ≤ y := by subst hΩ; exact gt_f h
theorem geZt {Ω : Opq} (hΩ : Ω = std) {x y : Int} (h : Ω.cmp .geq x y = true) : y ≤ x := by subst hΩ; exact ge_t h
theorem geZf {Ω : Opq} (hΩ : Ω = std) {x y : Int} (h : Ω.cmp .geq x y = false) : x < y := by subst hΩ; exact ge_f h
theorem eqZt {Ω : Opq} (hΩ : Ω = std) {x y : Int} (h : Ω.cmp .eql x y = true) : x = y := by subst hΩ; exact eq_t h
theorem eqZf {Ω : Opq} (hΩ : Ω = std) {x y : Int} (h : Ω.cmp .eql x y = false) : x ≠ y := by subst hΩ; exact eq_f h
theorem neZt {Ω : Opq} (hΩ : Ω = std) {x y : Int} (h : Ω.cmp .neq x y = true) : x ≠ y := by subst hΩ; exact ne_t h
theorem neZf {Ω : Opq} (hΩ : Ω = std) {x y : Int} (h : Ω.cmp .neq x y = false) : x = y := by subst hΩ; exact ne_f h
end Go.Proofs.YtfmcncflooechaaGreat

/- Regions that draw their order, of which some operations only read what nobody in it writes, and the others stand in one order. Plain theorems, no condition. -/
set_option linter.unusedVariables false
set_option linter.unusedSimpArgs false
namespace Go.Fw
section
variable {P : Program} {T : Nat → Option TI} {S : State} {o : Oper}
def Agree (G : Nat → Prop) (w w' : World) : Prop := ∀ b, G b → w'.heap[b]? = w.heap[b]?
/-- The operation yields a value told by x, the same one as long as what may be read stands. -/
def VOG (P : Program) (o : Oper) (S : State) (x : A) : Prop :=
  ∀ (E : Env) (G : Nat → Prop) (gs : Gh) (a : Act) (w : World), Inv E G gs S a.tmps w →
    ∃ v, (∀ w', Agree G w w' → (execOp a.eval o).run P w' = .ok (.value v) w') ∧ TRel w G S.rows gs x v []
theorem VOG_move {x : Operand} (ho : o.op = .move x ∨ o.op = .assign x) (hx : okO x = true) : VOG P o S (ev S x) :=
  fun E G gs a w hi => ⟨a.eval x, fun w' hw' => by rcases ho with h | h <;> simp [execOp, h], ev_rel hi x hx⟩
theorem VOG_load_rp {t : TypeId} {x : Operand} {xs : List A} {z : A} (ho : o.op = .load t x) (hx : okO x = true) (he : ev S x = .rp xs)
    (ha : aggT P t = some false) (hz : xs[0]? = some z) : VOG P o S z := by
  refine fun E G gs a w hi => ?_
  have h1 := ev_rel hi x hx
  rw [he] at h1
  obtain ⟨b, k, cur, e, fr, hv, hh, hg, hl⟩ := rp_inv h1
  obtain ⟨v, hv1, hv2⟩ := hl.get 0 z hz
  have hcur : cur[k]? = some v := by
    have h0 : 0 < xs.length := by
      rcases Nat.eq_zero_or_pos xs.length with h | h
      · rw [List.eq_nil_of_length_eq_zero h] at hz; simp at hz
      · exact h
    rw [List.getElem?_take_of_lt h0, List.getElem?_drop] at hv1
    simpa using hv1
  exact ⟨v, fun w' hw' => by simp [execOp, ho, Instr.loadAt, hv, Instr.sureAddr, run_loadVar_cell ha ((hw' b hg).trans hh) hcur], .of hv2⟩
theorem VOG_load_rpAgg {t : TypeId} {x : Operand} {xs : List A} {s : Nat} (ho : o.op = .load t x) (hx : okO x = true) (he : ev S x = .rp xs)
    (ha : aggT P t = some true) (hs : szT P t = some s) (hq : s ≤ xs.length) : VOG P o S (.agg (xs.take s)) := by
  refine fun E G gs a w hi => ?_
  have h1 := ev_rel hi x hx
  rw [he] at h1
  obtain ⟨b, k, cur, e, fr, hv, hh, hg, hl⟩ := rp_inv h1
  have h2 := hl.take0 s
  have h3 := h2.length
  rw [List.take_take, Nat.min_eq_left hq] at h2 h3
  exact ⟨.agg ((cur.toList.drop k).take s).toArray, by
    intro w' hw'
    simp [execOp, ho, Instr.loadAt, hv, Instr.sureAddr, run_loadVar_agg ha hs ((hw' b hg).trans hh) rfl (by rw [h3]; simp; omega)], .of (.agg h2)⟩
theorem VOG_slice_sl {t e : TypeId} {x : Operand} {lo hi : Option Operand} {n : Nat} {xs : List A} {l h : Nat} (ho : o.op = .slice t x lo hi none) (hx : okO x = true) (hlo : okOpt lo = true) (hhi : okOpt hi = true)
    (he : ev S x = .sl false n xs) (ht : elemT P t = some e) (hs : szT P e = some n) (h1 : bnd (lo.map (ev S)) 0 = some (l : Int)) (h2 : bnd (hi.map (ev S)) xs.length = some (h : Int)) (hlh : l ≤ h) (hhl : h ≤ xs.length)
    : VOG P o S (.sl false n ((xs.take h).drop l)) := by
  refine fun E G gs a w hinv => ?_
  have e1 := ev_rel hinv x hx
  rw [he] at e1
  obtain ⟨a1, a2⟩ := opt_rel hinv lo hlo
  obtain ⟨b1, b2⟩ := opt_rel hinv hi hhi
  have hu := elemT_inv ht
  rcases slf_inv e1 with ⟨⟨oa, hv⟩, rfl⟩ | ⟨b, k, cap, cur, et, fr, hv, hh, hg, hw, hrel, hcap, hm⟩
  · simp at hhl
    subst hhl
    have : l = 0 := by omega
    subst this
    have hb := slice_bounds (P := P) (isS := true) (lo.map a.eval) (hi.map a.eval) _ _ h1 h2 a1 a2 b1 b2 (by omega) (by simp) (cap := 0) (by simp)
    simp only [List.length_nil] at hb
    refine ⟨.slice oa 0 0, ?_, .of (by cases oa with | none => simpa using Rel.nils | some ad => simpa using Rel.roz)⟩
    intro w' hw'
    cases oa <;>
    simp [execOp, ho, hv, Instr.sliceAt, run_underlying hu, Instr.slice, hb, run_sizeOf hs]
  · have hb := slice_bounds (P := P) (isS := true) (lo.map a.eval) (hi.map a.eval) _ _ h1 h2 a1 a2 b1 b2 hlh hhl hcap
    have hlen : h - l = ((xs.take h).drop l).length := by simp; omega
    refine ⟨.slice (some ⟨b, if cap = l then k else k + l * n, none⟩) (h - l) (cap - l), ?_, .of (.ro hh hg (fun x hx => hw x (List.mem_of_mem_take (List.mem_of_mem_drop hx))) hlen rfl ?_ (by omega) (by omega))⟩
    · intro w' hw'
      simp [execOp, ho, hv, Instr.sliceAt, run_underlying hu, Instr.slice, hb, run_sizeOf hs]
      split <;> simp [add_none]
    · have h3 := (hrel.take0 (h * n)).drop0 (l * n)
      rw [flat_take h hw, flat_drop l (fun x hx => hw x (List.mem_of_mem_take hx))] at h3
      have hle : h * n ≤ xs.length * n := Nat.mul_le_mul_right _ hhl
      have e4 : List.drop (l * n) (List.take (h * n) (List.take (xs.length * n) (cur.toList.drop k))) = (cur.toList.drop (k + l * n)).take ((h - l) * n) := by
        rw [List.take_take, Nat.min_eq_left hle, List.drop_take, List.drop_drop, ← Nat.sub_mul]
      rw [e4] at h3
      split
      · rename_i hc
        have h0 : h - l = 0 := by omega
        rw [h0] at h3 ⊢
        simpa using h3
      · exact h3
theorem VOG_binOp {op : BinOp} {t t' : TypeId} {x y : Operand} {u v : Value} (ho : o.op = .binOp op t x y t') (hx : okO x = true) (hy : okO y = true)
    (h1 : ev S x = .sc u) (h2 : ev S y = .sc v) (h : (binS P op t u v).1) : VOG P o S (.sc (binS P op t u v).2) := by
  refine fun E G gs a w hi => ?_
  have e1 := ev_rel hi x hx
  have e2 := ev_rel hi y hy
  rw [h1] at e1
  rw [h2] at e2
  have v1 := (sc_inv e1).1
  have v2 := (sc_inv e2).1
  refine ⟨_, fun w' hw' => ?_, .of (.sc (binS_run h x y w).2)⟩
  have hr := (binS_run h x y w').1
  simp only [execOp, ho, v1, v2, Sem.run_bind] at hr ⊢
  rw [hr]
  rfl
theorem VOG_makeFunc {fn : FuncId} {first caps : Array Operand} (ho : o.op = .makeFunc (.func fn) first caps) (hf : first.toList = []) (hg : fn < 1000000) : VOG P o S (.clo fn (caps.toList.map (ev S))) := by
  refine fun E G gs a w hi => ⟨mkFn fn (caps.toList.map a.eval), fun w' hw' => ?_, .clo (evs_rel hi caps.toList)⟩
  have : first = #[] := by apply Array.toList_inj.1; simpa using hf
  subst this
  have e : (caps.toList.map a.eval).toArray = caps.map a.eval := by apply Array.toList_inj.1; simp
  unfold mkFn
  rw [if_pos hg, e]
  simp [execOp, ho, Instr.makeFunc]
theorem vBin_sc (hT : TabOK P T) {k : A → Prop} {op : BinOp} {t : TypeId} {x y : A} (h : vBin std T op t x y k) : ∃ u v, x = .sc u ∧ y = .sc v ∧ (binS P op t u v).1 ∧ k (.sc (binS P op t u v).2) := by
  unfold vBin at h
  split at h <;> try exact h.elim
  · rename_i ka a kb b
    have go : (binS P op t (.int ka a) (.int kb b)).1 → k (.sc (binS P op t (.int ka a) (.int kb b)).2) → ∃ u v, A.sc (.int ka a) = .sc u ∧ A.sc (.int kb b) = .sc v ∧ (binS P op t u v).1 ∧ k (.sc (binS P op t u v).2) := fun hc hk => ⟨_, _, rfl, rfl, hc, hk⟩
    unfold vBinI at h
    split at h
    · exact go h.1.h h.2
    · exact go h.1.h h.2
    · split at h <;> try exact h.elim
      rename_i hk
      subst hk
      split at h
      · exact go rfl h
      · exact go rfl h
      · exact go rfl h
      · exact go rfl h
      · exact go rfl h
      · exact go rfl h
      · exact go rfl h
      · exact go ⟨rfl, h.1.h⟩ h.2
      · exact go ⟨rfl, h.1.h⟩ h.2
      · cases op <;> first | exact go rfl h | simp_all
  · rename_i a b
    have go : (binS P op t (.string a) (.string b)).1 → k (.sc (binS P op t (.string a) (.string b)).2) → ∃ u v, A.sc (.string a) = .sc u ∧ A.sc (.string b) = .sc v ∧ (binS P op t u v).1 ∧ k (.sc (binS P op t u v).2) := fun hc hk => ⟨_, _, rfl, rfl, hc, hk⟩
    unfold vBinS at h
    split at h <;> try exact h.elim
    · exact go h.1.h h.2
    all_goals exact go trivial h
  · rename_i a b
    split at h <;> try exact h.elim
    · rename_i i hi
      split at h <;> try exact h.elim
      rename_i hb
      exact ⟨_, _, rfl, rfl, by rw [← (tiOf_ok (hT _ _ hi)).bool] at hb; exact hb, h⟩
    · rename_i i hi
      split at h <;> try exact h.elim
      rename_i hb
      exact ⟨_, _, rfl, rfl, by rw [← (tiOf_ok (hT _ _ hi)).bool] at hb; exact hb, h⟩
/-- What an operation reads that nobody writes. -/
def vGOp (Ω : Opq) (T : Nat → Option TI) (o : Oper) (S : State) (k : A → Prop) : Prop :=
  match o.op with
  | .move x => k (ev S x)
  | .assign x => k (ev S x)
  | .binOp op t x y _ => vBin Ω T op t (ev S x) (ev S y) k
  | .load t x => (match T t, ev S x with
    | some i, .rp xs => if i.ag then (if i.sz ≤ xs.length then k (.agg (xs.take i.sz)) else False) else (match xs[0]? with
      | some z => k z
      | none => False)
    | _, _ => False)
  | .slice t x lo hi none => (match ev S x, szEl T t with
    | .sl false n xs, some (_, ei) => if ei.sz = n then vLo Ω (lo.map (ev S)) 0 fun c1 l => vLo Ω (hi.map (ev S)) (Ω.len xs) fun c2 h => Ob (fun _ => c1 () ∧ c2 () ∧ l ≤ h ∧ h ≤ xs.length) ∧ k (.sl false n (Ω.seg l h xs)) else False
    | _, _ => False)
  | .makeFunc (.func g) first caps => (match first.toList with
    | [] => if g < 1000000 then k (.clo g (caps.toList.map (ev S))) else False
    | _ => False)
  | _ => False
theorem vGOp_ok (hT : TabOK P T) {k : A → Prop} (h : vGOp std T o S k) : ∃ z, VOG P o S z ∧ k z := by
  have ok : ∀ x : Option Operand, okOpt x = true := fun x => by cases x <;> rfl
  unfold vGOp at h
  split at h
  · rename_i x ho; exact ⟨_, VOG_move (.inl ho) rfl, h⟩
  · rename_i x ho; exact ⟨_, VOG_move (.inr ho) rfl, h⟩
  · rename_i ho
    obtain ⟨u, v, h1, h2, h3, h4⟩ := vBin_sc hT h
    exact ⟨_, VOG_binOp ho rfl rfl h1 h2 h3, h4⟩
  · rename_i t x ho
    split at h <;> try exact h.elim
    rename_i i xs hi hx
    have hti := tiOf_ok (hT _ _ hi)
    split at h
    · rename_i hag
      split at h <;> try exact h.elim
      rename_i hle
      exact ⟨_, VOG_load_rpAgg ho rfl hx (by rw [hti.ag, hag]) hti.sz hle, h⟩
    · rename_i hag
      split at h <;> try exact h.elim
      rename_i z hz
      exact ⟨_, VOG_load_rp ho rfl hx (by rw [hti.ag]; simpa using hag) hz, h⟩
  · rename_i t x lo hi ho
    split at h <;> try exact h.elim
    rename_i n xs e ei hx hs
    obtain ⟨he, hei⟩ := szEl_ok hT hs
    split at h <;> try exact h.elim
    rename_i hn
    obtain ⟨c1, l, h, g1⟩ := vLo_ok h
    obtain ⟨c2, u, h, g2⟩ := vLo_ok h
    obtain ⟨h0, h⟩ := h
    obtain ⟨h1, h2, h3, h4⟩ := h0.h
    exact ⟨_, VOG_slice_sl ho rfl (ok _) (ok _) hx he (by rw [hei.sz, hn]) (g1 h1) (g2 h2) h3 h4, h⟩
  · rename_i g first caps ho
    split at h <;> try exact h.elim
    rename_i hf
    split at h <;> try exact h.elim
    rename_i hg
    exact ⟨_, VOG_makeFunc ho hf hg, h⟩
  · exact h.elim
/-- The surroundings from the region's own beginning on. -/
def envAt (E : Env) (G : Nat → Prop) (gs : Gh) (S : State) (w : World) : Env :=
  ⟨w, G, fun b => ∃ r row, rowAt S.rows r = some row ∧ b ∈ gs.all r, E.gv⟩
theorem Inv.at {E : Env} {G : Nat → Prop} {gs : Gh} {tmps : Array Value} {w : World} (hi : Inv E G gs S tmps w) : Inv (envAt E G gs S w) G gs S tmps w :=
  ⟨fun _ _ _ => rfl, rfl, rfl, rfl, Nat.le_refl _, hi.sz, fun _ h => h, fun _ h => .inl h, hi.glt, hi.row, hi.nod, fun r row hr b hb => ⟨(hi.own r row hr b hb).1, .inl ⟨r, row, hr, hb⟩⟩, hi.dis, hi.tmp⟩
theorem Inv.back {E : Env} {G G' : Nat → Prop} {gs gs' : Gh} {S' : State} {tmps tmps' : Array Value} {w w' : World} (hi : Inv E G gs S tmps w) (hi' : Inv (envAt E G gs S w) G' gs' S' tmps' w') : Inv E G' gs' S' tmps' w' := by
  have hfin : ∀ b, (∃ r row, rowAt S.rows r = some row ∧ b ∈ gs.all r) → E.Fin b ∨ E.w0.heap.size ≤ b := fun b ⟨r, row, hr, hb⟩ => (hi.own r row hr b hb).2
  refine ⟨fun b h hf => ?_, hi'.os.trans hi.os, hi'.tape.trans hi.tape, hi'.output.trans hi.output, Nat.le_trans hi.size hi'.size, hi'.sz, fun b h => hi'.gsub b (hi.gsub b h), fun b h => ?_, hi'.glt, hi'.row, hi'.nod, fun r row hr b hb => ?_, hi'.dis, hi'.tmp⟩
  · rw [hi'.keep b (Nat.lt_of_lt_of_le h hi.size) fun hb => by
      rcases hfin b hb with h1 | h1
      · exact hf h1
      · omega]
    exact hi.keep b h hf
  · rcases hi'.gnew b h with h1 | ⟨r, row, hr, hb⟩ | h1
    · exact hi.gnew b h1
    · exact .inr (hi.own r row hr b hb).2
    · exact .inr (.inr (Nat.le_trans hi.size h1))
  · refine ⟨(hi'.own r row hr b hb).1, ?_⟩
    rcases (hi'.own r row hr b hb).2 with h1 | h1
    · exact hfin b h1
    · exact .inr (Nat.le_trans hi.size h1)
end
end Go.Fw

/- Regions that draw their order, in which operations read rows that others leave alone for a while. Plain theorems, no condition. -/
set_option linter.unusedVariables false
set_option linter.unusedSimpArgs false
namespace Go.Fw

/-! The order of a region: what keeps a condition on the world, and what need not. -/
section
variable {P : Program} {ops : Array Oper} {Q : Exit → Act → World → Prop} {md : Region.Mode} {kp : Nat → Bool} {Sc : World → Prop}
/-- Whatever order is drawn; those that 'kp' names keep Sc. -/
def anyK (P : Program) (md : Region.Mode) (ops : Array Oper) (Q : Exit → Act → World → Prop) (kp : Nat → Bool) (Sc : World → Prop) : Nat → Array Bool → Act → World → Prop
  | 0, l, a, w => Region.ready md ops l = [] ∧ Q .normal a w
  | f + 1, l, a, w => (Region.ready md ops l = [] → Q .normal a w) ∧
    ∀ i ∈ Region.ready md ops l, wpOp P ops Q i (fun a' w' => (kp i = true → Sc w') ∧ anyK P md ops Q kp Sc f (l.setIfInBounds i true) a' w') a w
theorem any_of_K : ∀ (f : Nat) (l : Array Bool) (a : Act) (w : World), anyK P md ops Q kp Sc f l a w → wpAny P md ops Q f l a w
  | 0, _, _, _, h => h
  | f + 1, _, _, _, h => ⟨h.1, fun i hi => wpOp_mono (fun a' w' h' => any_of_K f _ a' w' h'.2) (h.2 i hi)⟩
/-- j waits for i, maybe through others. -/
def waitsB (md : Region.Mode) (ops : Array Oper) (i : Nat) : Nat → Nat → Bool
  | 0, _ => false
  | f + 1, j => match ops[j]? with
    | some oj => oj.after.any fun e => Region.binds md e && (e.on == i || waitsB md ops i f e.on)
    | none => false
/-- What has come up has come behind all that it waits for. -/
structure Closed (md : Region.Mode) (ops : Array Oper) (l : Array Bool) : Prop where
  h : ∀ j oj, ops[j]? = some oj → l.getD j false = true → ∀ e ∈ oj.after, Region.binds md e = true → l.getD e.on false = true
def closedB (md : Region.Mode) (ops : Array Oper) (l : Array Bool) : Bool :=
  (List.range ops.size).all fun j => !l.getD j false || match ops[j]? with
    | some oj => oj.after.all fun e => !Region.binds md e || l.getD e.on false
    | none => true
theorem closedB_ok {l : Array Bool} (h : closedB md ops l = true) : Closed md ops l := ⟨fun j oj hj hl e he hb => by
  simp only [closedB, List.all_eq_true, List.mem_range] at h
  have h1 := h j (Array.getElem?_eq_some_iff.1 hj).1
  simp only [hj, hl, Bool.not_true, Bool.false_or, Array.all_eq_true_iff_forall_mem] at h1
  have h2 := h1 e he
  simpa [hb] using h2⟩
theorem Closed.waits {l : Array Bool} (hc : Closed md ops l) {i : Nat} (hi : l.getD i true = false) : ∀ (f j : Nat), (∀ oj, ops[j]? = some oj → ∀ e ∈ oj.after, Region.binds md e = true → l.getD e.on false = true) → waitsB md ops i f j = false
  | 0, j, _ => rfl
  | f + 1, j, h => by
    unfold waitsB
    split
    · rename_i oj hj
      rw [Array.any_eq_false]
      intro k hk
      simp only [Bool.and_eq_true, Bool.or_eq_true, beq_iff_eq, not_and, not_or]
      intro hb
      have h1 := h oj hj _ (Array.getElem_mem hk) hb
      refine ⟨fun e => ?_, by simp [hc.waits hi f _ fun oj' hj' => hc.h _ oj' hj' h1]⟩
      rw [e, getD_both hi] at h1
      cases h1
    · rfl
theorem Closed.set {l : Array Bool} (hc : Closed md ops l) {j : Nat} (hj : j ∈ Region.ready md ops l) : Closed md ops (l.setIfInBounds j true) := ⟨fun k ok hk hl e he hb => by
  obtain ⟨_, oj, hoj, hall⟩ := mem_ready.1 hj
  refine getD_set_true ?_
  by_cases hjk : j = k
  · subst hjk
    rw [hoj] at hk
    obtain rfl := Option.some.inj hk
    exact hall e he hb
  · rw [getD_set_ne false hjk] at hl
    exact hc.h k ok hk hl e he hb⟩
/-- All that may still come ahead of i keeps Sc. -/
def kfree (md : Region.Mode) (ops : Array Oper) (kp : Nat → Bool) (l : Array Bool) (i : Nat) : Bool :=
  closedB md ops l && (List.range ops.size).all fun j => j == i || l.getD j true || match ops[j]? with
    | some oj => waitsB md ops i ops.size j || (oj.after.any (fun e => Region.binds md e && e.on == i) || kp j) && (match ops[i]? with
      | some oi => oi.apart ops oj
      | none => false)
    | none => true
theorem kfree_spec {i : Nat} {oi : Oper} {l : Array Bool} (hi : ops[i]? = some oi) (h : kfree md ops kp l i = true) (j : Nat) (oj : Oper) (hj : ops[j]? = some oj) (hne : j ≠ i) (hun : l.getD j true = false)
    (hno : waitsB md ops i ops.size j = false) (hdir : ∀ e ∈ oj.after, Region.binds md e = true → e.on ≠ i) : oi.apart ops oj = true ∧ kp j = true := by
  simp only [kfree, Bool.and_eq_true, List.all_eq_true, List.mem_range] at h
  have h1 := h.2 j (Array.getElem?_eq_some_iff.1 hj).1
  simp only [hj, hi, Bool.or_eq_true, beq_iff_eq, hne, false_or, hun, hno, Bool.false_eq_true, Bool.and_eq_true] at h1
  refine ⟨h1.2, h1.1.resolve_left fun h2 => ?_⟩
  obtain ⟨e, he, hb⟩ := Array.any_eq_true'.1 h2
  simp only [Bool.and_eq_true, beq_iff_eq] at hb
  exact hdir e he hb.1 hb.2
theorem anyK_first {i : Nat} {oi : Oper} {v : Value} (hi : ops[i]? = some oi) (hsel : ∀ (j : Nat) (o : Oper) cs b, ops[j]? = some o → o.op ≠ .select cs b)
    (hQ : ∀ c a w, Q (.panic c) (a.put oi.dst v) w → Q (.panic c) a w) : ∀ (f : Nat) (l : Array Bool) (a : Act) (w : World), Closed md ops l →
    (∀ j oj, ops[j]? = some oj → j ≠ i → l.getD j true = false → waitsB md ops i ops.size j = false → (∀ e ∈ oj.after, Region.binds md e = true → e.on ≠ i) → oi.apart ops oj = true ∧ kp j = true) →
    i ∈ Region.ready md ops l → YieldsIf P ops Sc oi v a → Sc w → anyK P md ops Q kp Sc f (l.setIfInBounds i true) (a.put oi.dst v) w → anyK P md ops Q kp Sc (f + 1) l a w := by
  intro f
  induction f with
  | zero =>
    intro l a w _ _ hr hy hS H
    refine ⟨fun h => (by rw [h] at hr; cases hr), fun j hj => ?_⟩
    by_cases hji : j = i
    · subst hji; exact hy.wpOp hi hS ⟨fun _ => hS, H⟩
    · have h1 := ready_mono hj hji
      rw [H.1] at h1
      cases h1
  | succ f ih =>
    intro l a w hcl hfree hr hy hS H
    refine ⟨fun h => (by rw [h] at hr; cases hr), fun j hj => ?_⟩
    by_cases hji : j = i
    · subst hji; exact hy.wpOp hi hS ⟨fun _ => hS, H⟩
    · obtain ⟨hjun, oj, hoj, hall⟩ := mem_ready.1 hj
      have hin := (mem_ready.1 hr).1
      have hnot : ∀ e ∈ oj.after, Region.binds md e = true → e.on ≠ i := fun e he hb heq => by
        have h1 := hall e he hb
        rw [heq, getD_both hin] at h1
        cases h1
      have hw : waitsB md ops i ops.size j = false := hcl.waits hin _ _ fun oj' hj' e he hb => by
        rw [hoj] at hj'
        obtain rfl := Option.some.inj hj'
        exact hall e he hb
      obtain ⟨hap, hkp⟩ := hfree j oj hoj hji hjun hw hnot
      refine wpOp_mono (fun a' w' h3 => ⟨fun _ => h3.2.1 hkp, ih (l.setIfInBounds j true) a' w' (hcl.set hj) (fun k ok hk hki hun hno hd => ?_) (ready_mono hr (Ne.symm hji)) h3.1 (h3.2.1 hkp) ?_⟩)
        (wpOp_putIf hoj hap (fun cs b => hsel i oi cs b hi) (fun cs b => hsel j oj cs b hoj) hQ hy (H.2 j (ready_mono hj hji)))
      · refine hfree k ok hk hki ?_ hno hd
        by_cases hjk : j = k
        · subst hjk; exact hjun
        · rw [getD_set_ne true hjk] at hun; exact hun
      · rw [Array.setIfInBounds_comm _ _ hji]
        exact h3.2.2
theorem anyK_take {i : Nat} {oi : Oper} {v : Value} {f : Nat} {l : Array Bool} {a : Act} {w : World} (hi : ops[i]? = some oi) (hs : Region.noSelect ops = true) (hk : kfree md ops kp l i = true)
    (hr : (Region.ready md ops l).contains i = true) (hQ : ∀ c a w, Q (.panic c) (a.put oi.dst v) w → Q (.panic c) a w) (hy : YieldsIf P ops Sc oi v a) (hS : Sc w)
    (h : anyK P md ops Q kp Sc f (l.setIfInBounds i true) (a.put oi.dst v) w) : anyK P md ops Q kp Sc (f + 1) l a w :=
  anyK_first hi (Region.noSelect_spec hs) hQ f l a w (closedB_ok (by simp only [kfree, Bool.and_eq_true] at hk; exact hk.1)) (kfree_spec hi hk) (by simpa using hr) hy hS h
end

/-! Rows that are lent: for a while nothing is told of them but that they stand. -/
mutual
/-- It leads into rows rs alone. -/
def onlyR (rs : List Nat) : A → Bool
  | .vw r _ _ => rs.contains r
  | .pt r _ _ => rs.contains r
  | .agg xs => onlyRL rs xs
  | .tup xs => onlyRL rs xs
  | .clo _ xs => onlyRL rs xs
  | .un => true
  | .sc _ => true
  | .nil => true
  | .sl _ _ _ => true
  | .rp _ => true
  | .bx _ => true
def onlyRL (rs : List Nat) : List A → Bool
  | [] => true
  | x :: xs => onlyR rs x && onlyRL rs xs
end
theorem onlyRL_eq (rs : List Nat) : ∀ xs : List A, onlyRL rs xs = xs.all (onlyR rs)
  | [] => rfl
  | x :: xs => by rw [onlyRL, onlyRL_eq rs xs, List.all_cons]
theorem TRel.on {w w' : World} {G G' : Nat → Prop} {rows rows' : List (Option Row)} {gs gs' : Gh} {rs : List Nat} (hG : ∀ b, G b → G' b ∧ w'.heap[b]? = w.heap[b]?) (hR : ∀ r ∈ rs, RowLe w w' rows rows' gs gs' r)
    {x : A} {v : Value} {F : List Nat} (h : TRel w G rows gs x v F) (ho : onlyR rs x = true) (hF : ∀ b ∈ F, w'.heap[b]? = w.heap[b]?) : TRel w' G' rows' gs' x v F := by
  refine TRel.rec (motive_1 := fun x v F _ => onlyR rs x = true → (∀ b ∈ F, w'.heap[b]? = w.heap[b]?) → TRel w' G' rows' gs' x v F)
    (motive_2 := fun xs vs F _ => xs.all (onlyR rs) = true → (∀ b ∈ F, w'.heap[b]? = w.heap[b]?) → TRelL w' G' rows' gs' xs vs F) ?_ ?_ ?_ ?_ ?_ ?_ ?_ ?_ ?_ ?_ h ho hF
  · intros; exact .un
  · intro x v F h _ hF; exact .of (h.move_ hG hF)
  · intro r off len k cap b row cur e hr hob hl hh hs hm hc hk ho _
    obtain ⟨row', hr', hg, hn, hx, hb⟩ := (hR r (by simpa [onlyR] using ho)).le row hr
    obtain ⟨cur', e', hh', hs'⟩ := hb b cur e hob hh
    exact .vw hr' (by rw [hg]; exact hob) (by omega) hh' (by rw [hs', hs, hn]) hm (by omega) (by rw [hn]; exact hk)
  · intro r row hr hob hxs ho _
    obtain ⟨row', hr', hg, hn, hx, hb⟩ := (hR r (by simpa [onlyR] using ho)).le row hr
    exact .vwn hr' (by rw [hg]; exact hob) (by rw [hxs] at hx; exact List.eq_nil_of_length_eq_zero hx)
  · intro r j o k b row hr hob hk ho _
    obtain ⟨row', hr', hg, hn, hx, hb⟩ := (hR r (by simpa [onlyR] using ho)).le row hr
    exact .pt hr' (by rw [hg]; exact hob) (by rw [hn]; exact hk)
  · intro xs cs F hl ih ho hF; exact .agg (ih (by rw [← onlyRL_eq]; simpa [onlyR] using ho) hF)
  · intro xs cs F hl ih ho hF; exact .tup (ih (by rw [← onlyRL_eq]; simpa [onlyR] using ho) hF)
  · intro g caps cs F hl ih ho hF; exact .clo (ih (by rw [← onlyRL_eq]; simpa [onlyR] using ho) hF)
  · intro _ _; exact .nil
  · intro x v F xs vs Fs h hl ih ih' ho hF
    rw [List.all_cons, Bool.and_eq_true] at ho
    exact .cons (ih ho.1 fun b hb => hF b (by simp [hb])) (ih' ho.2 fun b hb => hF b (by simp [hb]))
theorem TRelL.on {w w' : World} {G G' : Nat → Prop} {rows rows' : List (Option Row)} {gs gs' : Gh} {rs : List Nat} (hG : ∀ b, G b → G' b ∧ w'.heap[b]? = w.heap[b]?) (hR : ∀ r ∈ rs, RowLe w w' rows rows' gs gs' r) :
    ∀ {xs : List A} {vs : List Value} {F : List Nat}, TRelL w G rows gs xs vs F → xs.all (onlyR rs) = true → (∀ b ∈ F, w'.heap[b]? = w.heap[b]?) → TRelL w' G' rows' gs' xs vs F
  | _, _, _, .nil, _, _ => .nil
  | _, _, _, .cons h hl, ho, hF => by
    rw [List.all_cons, Bool.and_eq_true] at ho
    exact .cons (h.on hG hR ho.1 fun b hb => hF b (by simp [hb])) (hl.on hG hR ho.2 fun b hb => hF b (by simp [hb]))
def rowOnly (rs : List Nat) (row : Row) : Bool := !row.lk || (flat row.xs).all (onlyR rs)
theorem RowRel.on {w w' : World} {G G' : Nat → Prop} {rows rows' : List (Option Row)} {gs gs' : Gh} {rs : List Nat} (hG : ∀ b, G b → G' b ∧ w'.heap[b]? = w.heap[b]?) (hR : ∀ r ∈ rs, RowLe w w' rows rows' gs gs' r)
    {row : Row} {ob : Option Nat} {F : List Nat} (h : RowRel w G rows gs row ob F) (ho : rowOnly rs row = true) (hF : ∀ b ∈ ob.toList ++ F, w'.heap[b]? = w.heap[b]?) : RowRel w' G' rows' gs' row ob F := by
  cases ob with
  | none => exact h
  | some b =>
    obtain ⟨cur, e, cap, h1, h2, h3, h4, h5, h6, h7⟩ := h.ex
    have hF' : ∀ c ∈ F, w'.heap[c]? = w.heap[c]? := fun c hc => hF c (by simp [hc])
    refine ⟨cur, e, cap, by rw [hF b (by simp)]; exact h1, h2, h3, h4, h5, h6, ?_⟩
    unfold CellsRel at h7 ⊢
    split
    · rename_i hl
      rw [if_pos hl] at h7
      exact h7.on hG hR (by simpa [rowOnly, hl] using ho) hF'
    · rename_i hl
      rw [if_neg hl] at h7
      exact h7.move_ hG hF'

def State.turns : List Nat → State → State
  | [], S => S
  | r :: rs, S => State.turns rs (S.turn r none)
def lentT (vs : Nat → Value) : List Nat → List (Nat × A) → List (Nat × A)
  | [], t => t
  | i :: hs, t => (i, .sc (vs i)) :: lentT vs hs t
/-- Rows rs are lent; the temporaries hs are kept as they are. -/
def State.lend (S : State) (rs hs : List Nat) (vs : Nat → Value) : State := ⟨lentT vs hs (S.turns rs).t, S.N, (S.turns rs).rows⟩
def backT (S : State) : List Nat → List (Nat × A) → List (Nat × A)
  | [], t => t
  | i :: hs, t => (i, lk S.t i) :: backT S hs t
def backR (S : State) : List Nat → List (Option Row) → List (Option Row)
  | [], rows => rows
  | r :: rs, rows => backR S rs (rows.set r (rowAt S.rows r))
/-- They are given back. -/
def State.unlend (S2 S : State) (rs hs : List Nat) : State := ⟨backT S hs S2.t, S2.N, backR S rs S2.rows⟩
theorem lk_lentT (vs : Nat → Value) : ∀ (hs : List Nat) (t : List (Nat × A)) (i : Nat), lk (lentT vs hs t) i = if i ∈ hs then .sc (vs i) else lk t i
  | [], t, i => by simp [lentT]
  | j :: hs, t, i => by
    simp only [lentT, lk, lk_lentT vs hs t i, List.mem_cons]
    by_cases h : j = i
    · subst h; simp
    · rw [if_neg h]
      by_cases h2 : i ∈ hs
      · simp [h2]
      · simp only [h2, or_false, if_false]
        rw [if_neg fun e => h e.symm]
theorem lk_backT (S : State) : ∀ (hs : List Nat) (t : List (Nat × A)) (i : Nat), lk (backT S hs t) i = if i ∈ hs then lk S.t i else lk t i
  | [], t, i => by simp [backT]
  | j :: hs, t, i => by
    simp only [backT, lk, lk_backT S hs t i, List.mem_cons]
    by_cases h : j = i
    · subst h; simp
    · rw [if_neg h]
      by_cases h2 : i ∈ hs
      · simp [h2]
      · simp only [h2, or_false, if_false]
        rw [if_neg fun e => h e.symm]
theorem rowAt_backR (S : State) : ∀ (rs : List Nat) (rows : List (Option Row)) (i : Nat), (∀ r ∈ rs, r < rows.length) → rowAt (backR S rs rows) i = if i ∈ rs then rowAt S.rows i else rowAt rows i
  | [], rows, i, _ => by simp [backR]
  | r :: rs, rows, i, h => by
    rw [backR, rowAt_backR S rs _ i (fun q hq => by rw [List.length_set]; exact h q (by simp [hq]))]
    simp only [List.mem_cons]
    by_cases h2 : i ∈ rs
    · simp [h2]
    · rw [if_neg h2, rowAt_set _ _ _ _ (h r (by simp))]
      by_cases h3 : i = r
      · subst h3; simp
      · simp [h2, h3]
section
variable {P : Program} {T : Nat → Option TI} {E : Env} {G : Nat → Prop} {gs : Gh} {S : State} {a : Act} {w : World} {tmps : Array Value}
theorem Inv.turns : ∀ (rs : List Nat) {S : State} {gs : Gh}, Inv E G gs S tmps w → rs.Nodup → (∀ r ∈ rs, ∃ row, rowAt S.rows r = some row) →
    ∃ gs', Inv E G gs' (S.turns rs) tmps w ∧ (∀ r, r ∉ rs → gs' r = gs r) ∧ ∀ r ∈ rs, rowAt (S.turns rs).rows r = none
  | [], S, gs, hi, _, _ => ⟨gs, hi, fun _ _ => rfl, by simp⟩
  | q :: rs, S, gs, hi, hnd, hr => by
    obtain ⟨row, hq⟩ := hr q (by simp)
    rw [List.nodup_cons] at hnd
    have h1 := hi.turn (x := none) (ob := none) (F := []) hq rfl rfl rfl (Nat.le_refl _) (fun _ _ _ => rfl) (by simp) (by simp) (by simp) (by simp)
    obtain ⟨gs', h2, h3, h4⟩ := Inv.turns rs h1 hnd.2 (fun r hrr => by
      obtain ⟨row', h⟩ := hr r (by simp [hrr])
      refine ⟨killRow q row', ?_⟩
      rw [rowAt_turn hq, if_neg (fun e => hnd.1 (by rw [← e]; exact hrr)), h]; rfl)
    have keepNone : ∀ (rs : List Nat) (S : State), rowAt S.rows q = none → rowAt (S.turns rs).rows q = none := by
      intro rs
      induction rs with
      | nil => intro S h; exact h
      | cons r rs ih =>
        intro S h
        refine ih _ ?_
        show rowAt ((killRows r S.rows).set r none) q = none
        by_cases hlt : r < (killRows r S.rows).length
        · rw [rowAt_set _ _ _ _ hlt]
          split
          · rfl
          · rw [rowAt_killRows, h]; rfl
        · rw [List.set_eq_of_length_le (by omega), rowAt_killRows, h]; rfl
    refine ⟨gs', h2, fun r hrn => ?_, fun r hrr => ?_⟩
    · rw [h3 r (fun h => hrn (by simp [h]))]
      simp only [Gh.add]
      rw [if_neg fun e => hrn (by simp [e])]
    · rcases List.mem_cons.1 hrr with rfl | h
      · refine keepNone rs _ ?_
        rw [rowAt_turn hq, if_pos rfl]
      · exact h4 r h
/-- One cell. -/
def oneA' : A → Bool
  | .agg _ => false
  | .tup _ => false
  | .clo _ _ => false
  | .un => false
  | _ => true
theorem cell_of {rows : List (Option Row)} {x : A} {v : Value} (h : TRel w G rows gs x v []) (hx : oneA' x = true) : cellV v = true := by
  cases h with
  | un => cases hx
  | of h => cases h <;> first | rfl | assumption | cases hx
  | vw => rfl
  | vwn => rfl
  | pt => rfl
  | agg => cases hx
  | tup => cases hx
  | clo => cases hx
def AgreeR (G : Nat → Prop) (gs : Gh) (rs : List Nat) (w w' : World) : Prop := ∀ b, (G b ∨ ∃ r ∈ rs, b ∈ gs.all r) → w'.heap[b]? = w.heap[b]?
def envL (E : Env) (G : Nat → Prop) (gs gs' : Gh) (S : State) (rs : List Nat) (tmps : Array Value) (w : World) : Env := ⟨w, G, fun b => ∃ r row, rowAt (S.turns rs).rows r = some row ∧ b ∈ gs'.all r, E.gv⟩
theorem Inv.lend (hi : Inv E G gs S tmps w) {rs hs : List Nat} (hnd : rs.Nodup) (hr : ∀ r ∈ rs, ∃ row, rowAt S.rows r = some row) (hone : ∀ i ∈ hs, oneA' (lk S.t i) = true) :
    ∃ gs', Inv (envL E G gs gs' S rs tmps w) G gs' (S.lend rs hs (vat E tmps)) tmps w ∧ (∀ r, r ∉ rs → gs' r = gs r) ∧ ∀ r ∈ rs, rowAt (S.turns rs).rows r = none := by
  obtain ⟨gs', h1, h2, h3⟩ := Inv.turns rs hi hnd hr
  refine ⟨gs', ⟨fun _ _ _ => rfl, rfl, rfl, rfl, Nat.le_refl _, hi.sz, fun _ h => h, fun _ h => .inl h, hi.glt, h1.row, h1.nod, fun r row hr b hb => ⟨(h1.own r row hr b hb).1, .inl ⟨r, row, hr, hb⟩⟩, h1.dis, fun i => ?_⟩, h2, h3⟩
  show TRel w G (S.turns rs).rows gs' (lk (lentT (vat E tmps) hs (S.turns rs).t) i) (vat E tmps i) []
  rw [lk_lentT]
  split
  · rename_i h
    exact .of (.sc (cell_of (hi.tmp i) (hone i h)))
  · exact h1.tmp i
theorem turns_none {rs : List Nat} : ∀ {S : State} {r : Nat}, rowAt S.rows r = none → rowAt (S.turns rs).rows r = none := by
  induction rs with
  | nil => exact id
  | cons q rs ih =>
    intro S r h
    refine ih ?_
    show rowAt ((killRows q S.rows).set q none) r = none
    by_cases hlt : q < (killRows q S.rows).length
    · rw [rowAt_set _ _ _ _ hlt]
      split
      · rfl
      · rw [rowAt_killRows, h]; rfl
    · rw [List.set_eq_of_length_le (by omega), rowAt_killRows, h]; rfl
theorem lent_fin (hi : Inv E G gs S tmps w) {rs : List Nat} {gs0 : Gh} (hgs0 : ∀ r, r ∉ rs → gs0 r = gs r) (hno : ∀ r ∈ rs, rowAt (S.turns rs).rows r = none) (hrow : ∀ r ∈ rs, ∃ row, rowAt S.rows r = some row) :
    ∀ r ∈ rs, ∀ b ∈ gs.all r, ¬ (envL E G gs gs0 S rs tmps w).Fin b := fun r hr b hb ⟨r', row', hr', hb'⟩ => by
  obtain ⟨row, hrw⟩ := hrow r hr
  have hne : r' ∉ rs := fun h => by rw [hno r' h] at hr'; cases hr'
  have e : gs0.all r' = gs.all r' := by simp only [Gh.all, hgs0 r' hne]
  rw [e] at hb'
  obtain ⟨row0, h0⟩ : ∃ row0, rowAt S.rows r' = some row0 := by
    cases h : rowAt S.rows r' with
    | none => rw [turns_none h] at hr'; cases hr'
    | some row0 => exact ⟨row0, rfl⟩
  exact hi.dis r r' row row0 hrw h0 (fun e => hne (by rw [← e]; exact hr)) b hb hb'
theorem lent_agree (hi : Inv E G gs S tmps w) {rs : List Nat} {gs0 : Gh} (hgs0 : ∀ r, r ∉ rs → gs0 r = gs r) (hno : ∀ r ∈ rs, rowAt (S.turns rs).rows r = none) {G' : Nat → Prop} {gs2 : Gh} {S2 : State} {tmps' : Array Value} {w' : World}
    (hi2 : Inv (envL E G gs gs0 S rs tmps w) G' gs2 S2 tmps' w') (hrow : ∀ r ∈ rs, ∃ row, rowAt S.rows r = some row) : AgreeR G gs rs w w' := fun b hb => by
  rcases hb with hb | ⟨r, hr, hb⟩
  · refine hi2.keep b (hi.glt b hb) fun ⟨r', row', hr', hb'⟩ => ?_
    have hne : r' ∉ rs := fun h => by rw [hno r' h] at hr'; cases hr'
    have e : gs0.all r' = gs.all r' := by simp only [Gh.all, hgs0 r' hne]
    rw [e] at hb'
    obtain ⟨row0, h0⟩ : ∃ row0, rowAt S.rows r' = some row0 := by
      cases h : rowAt S.rows r' with
      | none => rw [turns_none h] at hr'; cases hr'
      | some row0 => exact ⟨row0, rfl⟩
    exact (hi.own r' row0 h0 b hb').1 hb
  · obtain ⟨row, hrw⟩ := hrow r hr
    exact hi2.keep b (hi.block_lt hrw b hb) (lent_fin hi hgs0 hno hrow r hr b hb)
theorem Inv.unlend (hi : Inv E G gs S tmps w) {rs hs : List Nat} {gs0 : Gh} (hgs0 : ∀ r, r ∉ rs → gs0 r = gs r) (hno : ∀ r ∈ rs, rowAt (S.turns rs).rows r = none) {G' : Nat → Prop} {gs2 : Gh} {S2 : State} {tmps' : Array Value} {w' : World}
    (hi2 : Inv (envL E G gs gs0 S rs tmps w) G' gs2 S2 tmps' w') (h1 : ∀ i ∈ hs, lk S2.t i = .sc (vat E tmps i)) (h2 : ∀ r ∈ rs, rowAt S2.rows r = none ∧ r < S2.rows.length)
    (hon : ∀ i ∈ hs, onlyR rs (lk S.t i) = true) (hrow : ∀ r ∈ rs, ∃ row, rowAt S.rows r = some row ∧ rowOnly rs row = true) :
    Inv (envAt E G gs S w) G' (fun r => if r ∈ rs then gs r else gs2 r) (S2.unlend S rs hs) tmps' w' ∧ AgreeR G gs rs w w' := by
  have hsame : ∀ r, rowAt S.rows r = none → rowAt (S.turns rs).rows r = none := fun r h => turns_none h
  have hrow' : ∀ r ∈ rs, ∃ row, rowAt S.rows r = some row := fun r hr => let ⟨row, h, _⟩ := hrow r hr; ⟨row, h⟩
  have hfin := lent_fin (E := E) hi hgs0 hno hrow'
  have hag := lent_agree hi hgs0 hno hi2 hrow'
  refine ⟨?_, hag⟩
  have hG : ∀ b, G b → G' b ∧ w'.heap[b]? = w.heap[b]? := fun b hb => ⟨hi2.gsub b hb, hag b (.inl hb)⟩
  have hrat : ∀ r, rowAt (S2.unlend S rs hs).rows r = if r ∈ rs then rowAt S.rows r else rowAt S2.rows r := fun r => rowAt_backR S rs S2.rows r fun q hq => (h2 q hq).2
  have hleS : ∀ r ∈ rs, RowLe w w' S.rows (S2.unlend S rs hs).rows gs (fun r => if r ∈ rs then gs r else gs2 r) r := fun r hr => RowLe.mk fun row hrw => by
    refine ⟨row, by rw [hrat, if_pos hr]; exact hrw, by simp [hr], rfl, rfl, fun b cur e hob hh => ⟨cur, e, ?_, rfl⟩⟩
    rw [hag b (.inr ⟨r, hr, by simp [Gh.all, hob]⟩)]; exact hh
  have hle2 : ∀ r, RowLe w' w' S2.rows (S2.unlend S rs hs).rows gs2 (fun r => if r ∈ rs then gs r else gs2 r) r := fun r => RowLe.refl_of fun row hrw => by
    have hne : r ∉ rs := fun h => by rw [(h2 r h).1] at hrw; cases hrw
    exact ⟨by rw [hrat, if_neg hne]; exact hrw, by simp [hne], fun _ _ => rfl⟩
  have hall1 : ∀ r ∈ rs, Gh.all (fun r => if r ∈ rs then gs r else gs2 r) r = gs.all r := fun r hr => by simp only [Gh.all, if_pos hr]
  have hall2 : ∀ r, r ∉ rs → Gh.all (fun r => if r ∈ rs then gs r else gs2 r) r = gs2.all r := fun r hr => by simp only [Gh.all, if_neg hr]
  have hsz : (envL E G gs gs0 S rs tmps w).w0 = w := rfl
  have fin2 : ∀ b, (envL E G gs gs0 S rs tmps w).Fin b → (envAt E G gs S w).Fin b := fun b ⟨r', row', hr', hb'⟩ => by
    have hne : r' ∉ rs := fun h => by rw [hno r' h] at hr'; cases hr'
    have e : gs0.all r' = gs.all r' := by simp only [Gh.all, hgs0 r' hne]
    rw [e] at hb'
    cases h : rowAt S.rows r' with
    | none => rw [hsame r' h] at hr'; cases hr'
    | some row0 => exact ⟨r', row0, h, hb'⟩
  have hdis : ∀ r ∈ rs, ∀ r' row', r' ∉ rs → rowAt S2.rows r' = some row' → ∀ b ∈ gs.all r, b ∉ gs2.all r' := fun r hr r' row' hne hr' b hb hb' => by
    obtain ⟨row, hrw, _⟩ := hrow r hr
    rcases (hi2.own r' row' hr' b hb').2 with h | h
    · exact hfin r hr b hb h
    · have := hi.block_lt hrw b hb
      rw [hsz] at h
      omega
  refine ⟨fun b hb hf => hi2.keep b hb fun h => hf (fin2 b h), hi2.os, hi2.tape, hi2.output, hi2.size, hi2.sz, hi2.gsub, fun b hb => (hi2.gnew b hb).imp id (Or.imp (fin2 b) id), hi2.glt, fun r row hr => ?_, fun r row hr => ?_, fun r row hr b hb => ?_, fun r r' row row' hr hr' hne b hb hb' => ?_, fun i => ?_⟩
  · rw [hrat] at hr
    split at hr
    · rename_i h
      obtain ⟨row0, h0, h3⟩ := hrow r h
      rw [hr] at h0
      obtain rfl := Option.some.inj h0
      rw [if_pos h]
      exact (hi.row r row hr).on hG hleS h3 fun b hb => hag b (.inr ⟨r, h, hb⟩)
    · rename_i h
      rw [if_neg h]
      exact (hi2.row r row hr).step (fun b hb => ⟨hb, rfl⟩) hle2 fun _ _ => rfl
  · rw [hrat] at hr
    split at hr
    · rename_i h; rw [hall1 r h]; exact hi.nod r row hr
    · rename_i h; rw [hall2 r h]; exact hi2.nod r row hr
  · rw [hrat] at hr
    split at hr
    · rename_i h
      rw [hall1 r h] at hb
      refine ⟨fun hg => ?_, .inl ⟨r, row, hr, hb⟩⟩
      rcases hi2.gnew b hg with h' | h' | h'
      · exact (hi.own r row hr b hb).1 h'
      · exact hfin r h b hb h'
      · have := hi.block_lt hr b hb
        rw [hsz] at h'
        omega
    · rename_i h
      rw [hall2 r h] at hb
      obtain ⟨g1, g2⟩ := hi2.own r row hr b hb
      exact ⟨g1, g2.imp (fin2 b) id⟩
  · rw [hrat] at hr hr'
    split at hr
    · rename_i h
      rw [hall1 r h] at hb
      split at hr'
      · rename_i h'
        rw [hall1 r' h'] at hb'
        exact hi.dis r r' row row' hr hr' hne b hb hb'
      · rename_i h'
        rw [hall2 r' h'] at hb'
        exact hdis r h r' row' h' hr' b hb hb'
    · rename_i h
      rw [hall2 r h] at hb
      split at hr'
      · rename_i h'
        rw [hall1 r' h'] at hb'
        exact hdis r' h' r row h hr b hb' hb
      · rename_i h'
        rw [hall2 r' h'] at hb'
        exact hi2.dis r r' row row' hr hr' hne b hb hb'
  · show TRel w' G' (S2.unlend S rs hs).rows _ (lk (backT S hs S2.t) i) (vat (envAt E G gs S w) tmps' i) []
    rw [lk_backT]
    have hv : vat (envAt E G gs S w) tmps' i = vat (envL E G gs gs0 S rs tmps w) tmps' i := rfl
    rw [hv]
    split
    · rename_i h
      have h3 := hi2.tmp i
      rw [h1 i h] at h3
      rw [(sc_inv h3).1]
      exact (hi.tmp i).on hG hleS (hon i h) (by simp)
    · exact (hi2.tmp i).step (fun b hb => ⟨hb, rfl⟩) hle2 (by simp)
end
end Go.Fw

/- Regions that draw their order, in which some operations read rows that others leave alone: what is read, and the rule. Plain theorems, no condition. -/
set_option linter.unusedVariables false
set_option linter.unusedSimpArgs false
namespace Go.Fw
section
variable {P : Program} {T : Nat → Option TI} {S : State} {o : Oper} {rs : List Nat}
/-- The operation yields a value told by x, the same one as long as what may be read, and rows rs, stand. -/
def VOR (P : Program) (o : Oper) (S : State) (rs : List Nat) (x : A) : Prop :=
  ∀ (E : Env) (G : Nat → Prop) (gs : Gh) (a : Act) (w : World), Inv E G gs S a.tmps w →
    ∃ v, (∀ w', AgreeR G gs rs w w' → (execOp a.eval o).run P w' = .ok (.value v) w') ∧ TRel w G S.rows gs x v []
theorem VOG.r {x : A} (h : VOG P o S x) : VOR P o S rs x := fun E G gs a w hi => by
  obtain ⟨v, h1, h2⟩ := h E G gs a w hi
  exact ⟨v, fun w' hw' => h1 w' fun b hb => hw' b (.inl hb), h2⟩
theorem VOR_load_pt {t : TypeId} {x : Operand} {r j q : Nat} {row : Row} {y z : A} (ho : o.op = .load t x) (hx : okO x = true) (he : ev S x = .pt r j q) (hr : rowAt S.rows r = some row) (hrs : r ∈ rs)
    (hy : row.xs[j]? = some y) (ha : aggT P t = some false) (hz : y.cells[q]? = some z) (hno : noOwn z = true) : VOR P o S rs z := by
  refine fun E G gs a w hi => ?_
  have h1 := ev_rel hi x hx
  rw [he] at h1
  obtain ⟨row', b, hr', hb, hv⟩ := pt_inv h1
  rw [hr] at hr'
  obtain rfl := Option.some.inj hr'
  have hq : q < y.cells.length := by
    rcases Nat.lt_or_ge q y.cells.length with h | h
    · exact h
    · rw [List.getElem?_eq_none h] at hz; simp at hz
  have hw : y.width = row.n := by
    obtain ⟨b', _, hrc⟩ := row_real hi hr (by
      intro h0
      rw [List.eq_nil_of_length_eq_zero h0] at hy
      simp at hy)
    obtain ⟨_, _, _, _, _, _, _, h5, _⟩ := hrc.ex
    exact h5 y (List.mem_of_getElem? hy)
  unfold A.width at hw
  have hseg : (y.cells.drop q).take 1 = [z] := by
    rw [List.drop_eq_getElem_cons hq]
    rw [List.getElem?_eq_getElem hq] at hz
    simp only [Option.some.injEq] at hz
    simp [hz]
  obtain ⟨b1, cur, e, cs, g0, g1, g2, g3, g4⟩ := row_seg hi hr hy (o := q) (s := 1) (by omega) (by rw [hseg]; simpa using hno)
  rw [hb] at g0
  obtain rfl := Option.some.inj g0
  rw [hseg] at g3
  obtain ⟨v, hv1, hv2⟩ := g3.get 0 z rfl
  have hcur : cur[j * row.n + q]? = some v := by
    rw [← g2] at hv1
    rw [List.getElem?_take_of_lt (by omega), List.getElem?_drop] at hv1
    simpa using hv1
  exact ⟨v, fun w' hw' => by simp [execOp, ho, Instr.loadAt, hv, Instr.sureAddr, run_loadVar_cell ha ((hw' _ (.inr ⟨r, hrs, by simp [Gh.all, hb]⟩)).trans g1) hcur], hv2⟩
theorem VOR_load_ptAgg {t : TypeId} {x : Operand} {r j q s : Nat} {row : Row} {y : A} (ho : o.op = .load t x) (hx : okO x = true) (he : ev S x = .pt r j q) (hr : rowAt S.rows r = some row) (hrs : r ∈ rs)
    (hy : row.xs[j]? = some y) (ha : aggT P t = some true) (hs : szT P t = some s) (hq : q + s ≤ row.n) (hno : ((y.cells.drop q).take s).all noOwn = true) : VOR P o S rs (.agg ((y.cells.drop q).take s)) := by
  refine fun E G gs a w hi => ?_
  have h1 := ev_rel hi x hx
  rw [he] at h1
  obtain ⟨row', b, hr', hb, hv⟩ := pt_inv h1
  rw [hr] at hr'
  obtain rfl := Option.some.inj hr'
  obtain ⟨b1, cur, e, cs, g0, g1, g2, g3, g4⟩ := row_seg hi hr hy hq hno
  rw [hb] at g0
  obtain rfl := Option.some.inj g0
  exact ⟨.agg cs.toArray, fun w' hw' => by simp [execOp, ho, Instr.loadAt, hv, Instr.sureAddr, run_loadVar_agg ha hs ((hw' _ (.inr ⟨r, hrs, by simp [Gh.all, hb]⟩)).trans g1) g2 g4], .agg g3⟩
theorem VOR_fieldAddr_pt {t : TypeId} {x : Operand} {i r j q off s : Nat} {g : Bool} (ho : o.op = .fieldAddr t x i) (hx : okO x = true) (he : ev S x = .pt r j q)
    (hf : fieldT P t i = some (off, s, g)) (hs : s ≠ 0) : VOR P o S rs (.pt r j (q + off)) := by
  refine fun E G gs a w hi => ?_
  have h1 := ev_rel hi x hx
  rw [he] at h1
  obtain ⟨row, b, hr, hb, hv⟩ := pt_inv h1
  unfold fieldT at hf
  split at hf <;> try simp at hf
  rename_i fs hu
  split at hf <;> try simp at hf
  rename_i f hfi
  split at hf <;> try simp at hf
  rename_i s' g' hsz hag
  obtain ⟨rfl, rfl, rfl⟩ := hf
  refine ⟨.pointer (some ⟨b, j * row.n + (q + f.offset), none⟩), ?_, .pt hr hb rfl⟩
  intro w' hw'
  simp [execOp, ho, Instr.fieldAt, run_underlying hu, hfi, hv, Instr.sureAddr, fieldPlace, run_sizeOf hsz, hs, add_none, Nat.add_assoc]
theorem VOR_fieldAddr_rp {t : TypeId} {x : Operand} {xs : List A} {i off s : Nat} {g : Bool} (ho : o.op = .fieldAddr t x i) (hx : okO x = true) (he : ev S x = .rp xs)
    (hf : fieldT P t i = some (off, s, g)) (hs : s ≠ 0) : VOR P o S rs (.rp (xs.drop off)) := by
  refine fun E G gs a w hi => ?_
  have h1 := ev_rel hi x hx
  rw [he] at h1
  obtain ⟨b, k, cur, e, fr, hv, hh, hg, hl⟩ := rp_inv h1
  unfold fieldT at hf
  split at hf <;> try simp at hf
  rename_i fs hu
  split at hf <;> try simp at hf
  rename_i f hfi
  split at hf <;> try simp at hf
  rename_i s' g' hsz hag
  obtain ⟨rfl, rfl, rfl⟩ := hf
  refine ⟨.pointer (some ⟨b, k + f.offset, none⟩), ?_, .of (.rp hh hg rfl ?_)⟩
  · intro w' hw'
    simp [execOp, ho, Instr.fieldAt, run_underlying hu, hfi, hv, Instr.sureAddr, fieldPlace, run_sizeOf hsz, hs, add_none]
  · have := hl.drop0 f.offset
    rw [List.drop_take, List.drop_drop] at this
    simpa using this
theorem VOR_indexAddr_vw {t e : TypeId} {x y : Operand} {r off len : Nat} {k : IntKind} {i : Int} {row : Row} (ho : o.op = .indexAddr t x y) (hx : okO x = true) (hy : okO y = true)
    (h1 : ev S x = .vw r off len) (h2 : ev S y = .sc (.int k i)) (hr : rowAt S.rows r = some row) (he : elemT P t = some e) (hs : szT P e = some row.n) (h0 : 0 ≤ i) (hl : i < len)
    : VOR P o S rs (.pt r (off + i.toNat) 0) := by
  refine fun E G gs a w hi => ?_
  have e1 := ev_rel hi x hx
  have e2 := ev_rel hi y hy
  rw [h1] at e1
  rw [h2] at e2
  obtain ⟨row', kk, cap, cur, et, b, hr', hob, g1, g2, g3, g4, g5, g6, hv⟩ := (vw_inv e1).resolve_right (by
    intro ⟨_, _, _, _, _, h0, _⟩
    omega)
  rw [hr] at hr'
  obtain rfl := Option.some.inj hr'
  have hv2 := (sc_inv e2).1
  have hk : kk = off * row.n := by rcases g6 with h | h <;> omega
  subst hk
  refine ⟨_, ?_, .pt hr hob rfl⟩
  intro w' hw'
  simp [execOp, ho, hv, hv2, Instr.indexAt, asIntOf, run_underlying (elemT_inv he), h0, hl, run_sizeOf hs, add_none, Nat.add_mul]
theorem VOR_indexAddr_sl {t e : TypeId} {x y : Operand} {n : Nat} {xs : List A} {k : IntKind} {i : Int} {z : A} (ho : o.op = .indexAddr t x y) (hx : okO x = true) (hy : okO y = true)
    (h1 : ev S x = .sl false n xs) (h2 : ev S y = .sc (.int k i)) (he : elemT P t = some e) (hs : szT P e = some n) (h0 : 0 ≤ i) (hz : xs[i.toNat]? = some z)
    : VOR P o S rs (.rp z.cells) := by
  refine fun E G gs a w hi => ?_
  have e1 := ev_rel hi x hx
  have e2 := ev_rel hi y hy
  rw [h1] at e1
  rw [h2] at e2
  have hv2 := (sc_inv e2).1
  have hl : i.toNat < xs.length := by
    rcases Nat.lt_or_ge i.toNat xs.length with h | h
    · exact h
    · rw [List.getElem?_eq_none h] at hz; simp at hz
  rcases slf_inv e1 with ⟨_, rfl⟩ | ⟨b, kk, cap, cur, et, fr, hv, hh, hg, hw, hrel, hcap, hm⟩
  · simp at hl
  · refine ⟨.pointer (some ⟨b, kk + i.toNat * n, none⟩), ?_, .of (.rp hh hg rfl ?_)⟩
    · have : i < (xs.length : Int) := by omega
      intro w' hw'
      simp [execOp, ho, hv, hv2, Instr.indexAt, asIntOf, run_underlying (elemT_inv he), h0, this, run_sizeOf hs, add_none]
    · have h3 := (hrel.drop0 (i.toNat * n)).take0 n
      have hseg := flat_seg hw hz 0 n (by omega)
      simp only [Nat.add_zero, List.drop_zero] at hseg
      have hzw := hw z (List.mem_of_getElem? hz)
      unfold A.width at hzw
      rw [hseg, ← hzw, List.take_length, hzw] at h3
      have hle : (i.toNat + 1) * n ≤ xs.length * n := Nat.mul_le_mul_right _ hl
      rw [Nat.add_mul] at hle
      rw [List.drop_take, List.take_take, Nat.min_eq_left (by omega), List.drop_drop] at h3
      rw [hzw]
      exact h3
theorem VOR_nilCheck_pt {x : Operand} {r j q : Nat} (ho : o.op = .nilCheck x) (hx : okO x = true) (he : ev S x = .pt r j q)
    : VOR P o S rs (.pt r j q) := by
  refine fun E G gs a w hi => ?_
  have h1 := ev_rel hi x hx
  rw [he] at h1
  obtain ⟨row, b, hr, hb, hv⟩ := pt_inv h1
  exact ⟨_, fun w' hw' => by simp [execOp, ho, hv], hv ▸ h1⟩
theorem VOR_nilCheck_rp {x : Operand} {xs : List A} (ho : o.op = .nilCheck x) (hx : okO x = true) (he : ev S x = .rp xs)
    : VOR P o S rs (.rp xs) := by
  refine fun E G gs a w hi => ?_
  have h1 := ev_rel hi x hx
  rw [he] at h1
  obtain ⟨b, k, cur, e, fr, hv, hh, hg, hl⟩ := rp_inv h1
  exact ⟨_, fun w' hw' => by simp [execOp, ho, hv], hv ▸ h1⟩
theorem vFieldAddrR_ok {k : A → Prop} (hT : TabOK P T) {t : TypeId} {x : Operand} {i : Nat} (ho : o.op = .fieldAddr t x i) (h : vFieldAddr T t i (ev S x) k) : ∃ z, VOR P o S rs z ∧ k z := by
  unfold vFieldAddr at h
  split at h <;> try exact h.elim
  rename_i ti hi
  have hti := tiOf_ok (hT _ _ hi)
  split at h <;> try exact h.elim
  rename_i off s g hf
  split at h <;> try exact h.elim
  rename_i hs
  split at h <;> try exact h.elim
  · rename_i r j q hx
    exact ⟨_, VOR_fieldAddr_pt ho rfl hx (hti.fs _ _ hf) hs, h⟩
  · rename_i xs hx
    exact ⟨_, VOR_fieldAddr_rp ho rfl hx (hti.fs _ _ hf) hs, h⟩
theorem vIndexAddrR_ok {k : A → Prop} (hT : TabOK P T) {t : TypeId} {x y : Operand} (ho : o.op = .indexAddr t x y) (h : vIndexAddr std T t S (ev S x) (ev S y) k) : ∃ z, VOR P o S rs z ∧ k z := by
  unfold vIndexAddr at h
  split at h <;> try exact h.elim
  rename_i e ti k i hs hy
  obtain ⟨he, hti⟩ := szEl_ok hT hs
  split at h <;> try exact h.elim
  · rename_i r off len hx
    split at h <;> try exact h.elim
    rename_i row hr
    split at h <;> try exact h.elim
    rename_i hn
    exact ⟨_, VOR_indexAddr_vw ho rfl rfl hx hy hr he (by rw [hti.sz, hn]) h.1.h.1 h.1.h.2, h.2⟩
  · rename_i n xs hx
    split at h <;> try exact h.elim
    rename_i hn
    obtain ⟨h1, z, hz, h⟩ := h
    exact ⟨_, VOR_indexAddr_sl ho rfl rfl hx hy he (by rw [hti.sz, hn]) h1.h hz, h⟩
theorem vNilCheckR_ok {k : A → Prop} {x : Operand} (ho : o.op = .nilCheck x) (h : vNilCheck (ev S x) k) : ∃ z, VOR P o S rs z ∧ k z := by
  unfold vNilCheck at h
  split at h <;> try exact h.elim
  · rename_i hx; exact ⟨_, VOR_nilCheck_pt ho rfl hx, h⟩
  · rename_i hx; exact ⟨_, VOR_nilCheck_rp ho rfl hx, h⟩
def vLoadR (T : Nat → Option TI) (t : TypeId) (S : State) (rs : List Nat) (x : A) (k : A → Prop) : Prop :=
  match T t with
  | some i => (match x with
    | .rp xs => if i.ag then (if i.sz ≤ xs.length then k (.agg (xs.take i.sz)) else False) else (match xs[0]? with
      | some z => k z
      | none => False)
    | .pt r j q => if rs.contains r then (match rowAt S.rows r with
      | some row => (match row.lk with
        | true => (match row.xs[j]? with
          | some y => vCell i row.n y q k
          | none => False)
        | false => ∃ y, row.xs[j]? = some y ∧ vCell i row.n y q k)
      | none => False) else False
    | _ => False)
  | none => False
theorem vLoadR_ok {k : A → Prop} (hT : TabOK P T) {t : TypeId} {x : Operand} (ho : o.op = .load t x) (h : vLoadR T t S rs (ev S x) k) : ∃ z, VOR P o S rs z ∧ k z := by
  unfold vLoadR at h
  split at h <;> try exact h.elim
  rename_i i hi
  have hti := tiOf_ok (hT _ _ hi)
  split at h <;> try exact h.elim
  · rename_i xs hx
    split at h
    · rename_i hag
      split at h <;> try exact h.elim
      rename_i hle
      exact ⟨_, (VOG_load_rpAgg ho rfl hx (by rw [hti.ag, hag]) hti.sz hle).r, h⟩
    · rename_i hag
      split at h <;> try exact h.elim
      rename_i z hz
      exact ⟨_, (VOG_load_rp ho rfl hx (by rw [hti.ag]; simpa using hag) hz).r, h⟩
  · rename_i r j q hx
    split at h <;> try exact h.elim
    rename_i hrs
    have hrs : r ∈ rs := by simpa using hrs
    split at h <;> try exact h.elim
    rename_i row hr
    have cell : ∀ y, row.xs[j]? = some y → vCell i row.n y q k → ∃ z, VOR P o S rs z ∧ k z := fun y hy h => by
      unfold vCell at h
      split at h
      · rename_i hag
        split at h <;> try exact h.elim
        rename_i hq
        split at h <;> try exact h.elim
        rename_i hno
        exact ⟨_, VOR_load_ptAgg ho rfl hx hr hrs hy (by rw [hti.ag, hag]) hti.sz hq hno, h⟩
      · rename_i hag
        split at h <;> try exact h.elim
        rename_i z hz
        split at h <;> try exact h.elim
        rename_i hno
        exact ⟨_, VOR_load_pt ho rfl hx hr hrs hy (by rw [hti.ag]; simpa using hag) hz hno, h⟩
    split at h
    · split at h <;> try exact h.elim
      rename_i y hy
      exact cell y hy h
    · obtain ⟨y, hy, h⟩ := h
      exact cell y hy h
/-- What an operation reads of rows rs, or of what nobody writes. -/
def vROp (Ω : Opq) (T : Nat → Option TI) (rs : List Nat) (o : Oper) (S : State) (k : A → Prop) : Prop :=
  match o.op with
  | .load t x => vLoadR T t S rs (ev S x) k
  | .fieldAddr t x i => vFieldAddr T t i (ev S x) k
  | .nilCheck x => vNilCheck (ev S x) k
  | .indexAddr t x y => vIndexAddr Ω T t S (ev S x) (ev S y) k
  | _ => vGOp Ω T o S k
theorem vROp_ok (hT : TabOK P T) {k : A → Prop} (h : vROp std T rs o S k) : ∃ z, VOR P o S rs z ∧ k z := by
  unfold vROp at h
  split at h
  · rename_i ho; exact vLoadR_ok hT ho h
  · rename_i ho; exact vFieldAddrR_ok hT ho h
  · rename_i ho; exact vNilCheckR_ok ho h
  · rename_i ho; exact vIndexAddrR_ok hT ho h
  · obtain ⟨z, h1, h2⟩ := vGOp_ok hT h
    exact ⟨z, h1.r, h2⟩
def vRs (Ω : Opq) (T : Nat → Option TI) (rs : List Nat) (ops : List Oper) : List Nat → State → (State → Prop) → Prop
  | [], S, K => K S
  | q :: qs, S, K => match ops[q]? with
    | some o => (match o.guard with
      | none => vROp Ω T rs o S fun z => vRs Ω T rs ops qs (S.put o.dst z) K
      | some _ => False)
    | none => False
def chainB (ops : Array Oper) : List Nat → Array Bool → Bool
  | [], _ => true
  | n :: ns, l => decide (Region.ready .any ops l = [n]) && chainB ops ns (l.setIfInBounds n true)
def listAll : List Nat → Array Bool → Array Bool
  | [], l => l
  | n :: ns, l => listAll ns (l.setIfInBounds n true)
def quietB (ops : Array Oper) (kp : Nat → Bool) : List Nat → Array Bool → Bool
  | [], _ => true
  | q :: qs, l => (Region.ready .any ops l).contains q && (kfree .any ops kp l q && (quietB ops kp qs (l.setIfInBounds q true)))
variable {ops : List Oper} {Q : Exit → Act → World → Prop} {kp : Nat → Bool} {Sc : World → Prop}
theorem put_rows (S : State) (d : Option Nat) (z : A) : (S.put d z).rows = S.rows := by
  cases d with
  | none => rfl
  | some d => simp only [State.put]; split <;> rfl
theorem quiet_ok (hT : TabOK P T) {E : Env} {G : Nat → Prop} {gs : Gh} {w : World} {m : Nat} {rs : List Nat} (hQ : ∀ c a w, ¬ Q (.panic c) a w) (hsel : Region.noSelect ops.toArray = true) {K : State → Prop} : ∀ (qs : List Nat) (l : Array Bool) (S : State) (a : Act), quietB ops.toArray kp qs l = true →
    vRs std T rs ops qs S K → a.defers = [] → Inv E G gs S a.tmps w → (∀ S' a', K S' → S'.rows = S.rows → a'.defers = [] → Inv E G gs S' a'.tmps w → anyK P .any ops.toArray Q kp (AgreeR G gs rs w) m (listAll qs l) a' w) →
    anyK P .any ops.toArray Q kp (AgreeR G gs rs w) (qs.length + m) l a w
  | [], l, S, a, hB, h, hd, hi, hK => by rw [List.length_nil, Nat.zero_add]; exact hK S a h rfl hd hi
  | q :: qs, l, S, a, hB, h, hd, hi, hK => by
    simp only [quietB, Bool.and_eq_true] at hB
    unfold vRs at h
    split at h <;> try exact h.elim
    rename_i o ho
    split at h <;> try exact h.elim
    rename_i hg
    obtain ⟨z, h1, h2⟩ := vROp_ok hT h
    obtain ⟨v, h3, h4⟩ := h1 E G gs a w hi
    rw [List.length_cons, show qs.length + 1 + m = (qs.length + m) + 1 by omega]
    refine anyK_take (oi := o) (v := v) (by simpa using ho) hsel hB.2.1 hB.1 (fun c a w h => (hQ _ _ _ h).elim) (.inl ⟨by simp [Region.wanted, hg], fun w' hw' => h3 w' hw'⟩) (fun _ _ => rfl) ?_
    exact quiet_ok hT hQ hsel qs _ _ _ hB.2.2 h2 (by rw [put_defers]; exact hd) (hi.put h4 o.dst) (fun S' a' h1 h2 => hK S' a' h1 (h2.trans (put_rows _ _ _)))
/-- What must be seen of a state whose rows rs are lent, the temporaries hs being kept. -/
def lendB (S : State) (rs hs : List Nat) : Bool :=
  decide rs.Nodup && (rs.all (fun r => match rowAt S.rows r with
    | some row => rowOnly rs row
    | none => false) && hs.all fun i => oneA' (lk S.t i) && onlyR rs (lk S.t i))
def keptA (S2 : State) (vs : Nat → Value) : List Nat → Prop
  | [] => True
  | i :: hs => lk S2.t i = .sc (vs i) ∧ keptA S2 vs hs
def backB (S2 : State) (rs : List Nat) : Bool := rs.all fun r => (match rowAt S2.rows r with
  | none => true
  | some _ => false) && decide (r < S2.rows.length)
theorem keptA_spec {S2 : State} {vs : Nat → Value} : ∀ {hs : List Nat}, keptA S2 vs hs → ∀ i ∈ hs, lk S2.t i = .sc (vs i)
  | [], _, i, hi => by cases hi
  | j :: hs, h, i, hi => by
    rcases List.mem_cons.1 hi with rfl | hi
    · exact h.1
    · exact keptA_spec h.2 i hi
end
end Go.Fw

/- Calls that write into one box of plain data and hand back something of which a relation speaks. Plain theorems, no condition. -/
set_option linter.unusedVariables false
set_option linter.unusedSimpArgs false
namespace Go.Fw
section
variable {P : Program} {T : Nat → Option TI} {S : State} {Ω : Opq}
/-- Rows from n on are not asked for any more. -/
def cutT (n : Nat) (t : List (Nat × A)) : List (Nat × A) := t.map fun p => (p.1, if onlyR (List.range n) p.2 then p.2 else .un)
theorem lk_cutT (n : Nat) : ∀ (t : List (Nat × A)) (i : Nat), lk (cutT n t) i = if onlyR (List.range n) (lk t i) then lk t i else .un
  | [], i => by simp [cutT, lk, onlyR]
  | (k, x) :: l, i => by
    have ih := lk_cutT n l i
    simp only [cutT] at ih
    simp only [cutT, List.map_cons, lk]
    split
    · rfl
    · exact ih
def rowsOnly (n : Nat) : List (Option Row) → Bool
  | [] => true
  | none :: l => rowsOnly n l
  | some row :: l => rowOnly (List.range n) row && rowsOnly n l
theorem rowsOnly_at {n : Nat} : ∀ {l : List (Option Row)} {r : Nat} {row : Row}, rowsOnly n l = true → rowAt l r = some row → rowOnly (List.range n) row = true
  | [], r, row, _, h => by simp [rowAt] at h
  | none :: l, 0, row, _, h => by simp [rowAt] at h
  | some row' :: l, 0, row, h1, h => by
    simp [rowAt] at h
    subst h
    simp only [rowsOnly, Bool.and_eq_true] at h1
    exact h1.1
  | none :: l, r + 1, row, h1, h => rowsOnly_at (l := l) (r := r) h1 (by simpa [rowAt] using h)
  | some row' :: l, r + 1, row, h1, h => by
    simp only [rowsOnly, Bool.and_eq_true] at h1
    exact rowsOnly_at (l := l) (r := r) h1.2 (by simpa [rowAt] using h)
theorem rowAt_take {l : List (Option Row)} {n r : Nat} : rowAt (l.take n) r = if r < n then rowAt l r else none := by
  unfold rowAt
  rw [List.getElem?_take]
  split <;> rfl
theorem Sbs.cut (n : Nat) (h : rowsOnly n (S.rows.take n) = true) : Sbs S ⟨cutT n S.t, S.N, S.rows.take n⟩ := by
  intro E a w ⟨hd, G, gs, hi⟩
  have hrat : ∀ r row, rowAt (S.rows.take n) r = some row → rowAt S.rows r = some row := fun r row hr => by
    rw [rowAt_take] at hr
    split at hr
    · exact hr
    · cases hr
  have hle : ∀ r ∈ List.range n, RowLe w w S.rows (S.rows.take n) gs gs r := fun r hr => RowLe.refl_of fun row hrw => by
    rw [List.mem_range] at hr
    exact ⟨by rw [rowAt_take, if_pos hr]; exact hrw, rfl, fun _ _ => rfl⟩
  refine ⟨hd, G, gs, hi.keep, hi.os, hi.tape, hi.output, hi.size, hi.sz, hi.gsub, hi.gnew, hi.glt, fun r row hr => ?_, fun r row hr => hi.nod r row (hrat r row hr), fun r row hr => hi.own r row (hrat r row hr),
    fun r r' row row' hr hr' => hi.dis r r' row row' (hrat r row hr) (hrat r' row' hr'), fun i => ?_⟩
  · exact (hi.row r row (hrat r row hr)).on (fun b hb => ⟨hb, rfl⟩) hle (rowsOnly_at h hr) fun _ _ => rfl
  · show TRel w G (S.rows.take n) gs (lk (cutT n S.t) i) _ []
    rw [lk_cutT]
    split
    · rename_i ho
      exact (hi.tmp i).on (fun b hb => ⟨hb, rfl⟩) hle ho (by simp)
    · exact .un
/-! An own row of data, from now on only read. -/
mutual
def thaw (r n : Nat) (xs : List A) : A → A
  | .vw r' off len => if r' = r then .sl false n ((xs.drop off).take len) else .vw r' off len
  | .pt r' j o => if r' = r then .un else .pt r' j o
  | .agg ys => .agg (thawL r n xs ys)
  | .tup ys => .tup (thawL r n xs ys)
  | .clo g ys => .clo g (thawL r n xs ys)
  | .un => .un
  | .sc v => .sc v
  | .nil => .nil
  | .sl o m ys => .sl o m ys
  | .rp ys => .rp ys
  | .bx ys => .bx ys
def thawL (r n : Nat) (xs : List A) : List A → List A
  | [] => []
  | y :: ys => thaw r n xs y :: thawL r n xs ys
end
theorem thawL_eq (r n : Nat) (xs : List A) : ∀ ys : List A, thawL r n xs ys = ys.map (thaw r n xs)
  | [] => rfl
  | y :: ys => by rw [thawL, thawL_eq r n xs ys]; rfl
theorem thaw_agg (r n : Nat) (xs ys : List A) : thaw r n xs (.agg ys) = .agg (ys.map (thaw r n xs)) := by rw [thaw, thawL_eq]
theorem thaw_tup (r n : Nat) (xs ys : List A) : thaw r n xs (.tup ys) = .tup (ys.map (thaw r n xs)) := by rw [thaw, thawL_eq]
theorem thaw_clo (r n g : Nat) (xs ys : List A) : thaw r n xs (.clo g ys) = .clo g (ys.map (thaw r n xs)) := by rw [thaw, thawL_eq]
theorem Rel.thaw {w : World} {G : Nat → Prop} {x : A} {v : Value} {F : List Nat} (h : Rel w G x v F) (r n : Nat) (xs : List A) : Fw.thaw r n xs x = x := by
  refine Rel.rec (motive_1 := fun x v F _ => Fw.thaw r n xs x = x) (motive_2 := fun ys vs F _ => ys.map (Fw.thaw r n xs) = ys)
    ?_ ?_ ?_ ?_ ?_ ?_ ?_ ?_ ?_ ?_ ?_ ?_ ?_ ?_ h
  · intros; rw [Fw.thaw]
  · intros; rw [Fw.thaw]
  · intros; rw [Fw.thaw]
  · intros; rw [Fw.thaw]
  · intros; rw [Fw.thaw]
  · intros; rw [Fw.thaw]
  · intros; rw [Fw.thaw]
  · intro xs cs F hl ih; rw [thaw_agg, ih]
  · intro xs cs F hl ih; rw [thaw_tup, ih]
  · intros; rw [Fw.thaw]
  · intros; rw [Fw.thaw]
  · intro g caps cs F hl ih; rw [thaw_clo, ih]
  · rfl
  · intro x v F xs vs Fs h hl ih ih'; rw [List.map_cons, ih, ih']
/-- What is known of a row whose blocks are G's from now on. -/
structure Thawed (w : World) (G G' : Nat → Prop) (rows rows' : List (Option Row)) (gs gs' : Gh) (r : Nat) (row : Row) : Prop where
  sub : ∀ b, G b → G' b
  ro : ∀ b, (gs r).1 = some b → G' b
  ob : RowRel w G' rows gs { row with xs := row.xs.map frz } (gs r).1 []
  lk : row.lk = false
  at_ : rowAt rows r = some row
  other : ∀ q row', q ≠ r → rowAt rows q = some row' → rowAt rows' q = some row' ∨ ∃ row2, rowAt rows' q = some row2 ∧ row2.n = row'.n ∧ row2.xs.length = row'.xs.length
  gsq : ∀ q, q ≠ r → gs' q = gs q
theorem TRel.thaw {w : World} {G G' : Nat → Prop} {rows rows' : List (Option Row)} {gs gs' : Gh} {r : Nat} {row : Row} (ht : Thawed w G G' rows rows' gs gs' r row) {x : A} {v : Value} {F : List Nat} (h : TRel w G rows gs x v F) :
    TRel w G' rows' gs' (Fw.thaw r row.n (row.xs.map frz) x) v F := by
  refine TRel.rec (motive_1 := fun x v F _ => TRel w G' rows' gs' (Fw.thaw r row.n (row.xs.map frz) x) v F) (motive_2 := fun xs vs F _ => TRelL w G' rows' gs' (xs.map (Fw.thaw r row.n (row.xs.map frz))) vs F) ?_ ?_ ?_ ?_ ?_ ?_ ?_ ?_ ?_ ?_ h
  · intros; rw [Fw.thaw]; exact .un
  · intro x v F h; rw [h.thaw]; exact .of (h.move_ (fun b hb => ⟨ht.sub b hb, rfl⟩) fun _ _ => rfl)
  · intro q off len k cap c row' cur e h1 h2 h3 h4 h5 h6 h7 h8
    rw [Fw.thaw]
    split
    · rename_i hq
      subst hq
      rw [ht.at_] at h1
      obtain rfl := Option.some.inj h1
      have hob := ht.ob
      rw [h2] at hob
      obtain ⟨cur', e', cap', g1, g2, g3, g4, g5, g6, g7⟩ := RowCells.ex hob
      rw [h4] at g1
      obtain ⟨rfl, -, -⟩ : cur = cur' ∧ e = e' ∧ True := by simpa using g1
      unfold CellsRel at g7
      dsimp only at g3 g5 g6 g7
      rw [if_neg (by rw [ht.lk]; simp)] at g7
      have hwd : ∀ x ∈ (row.xs.map frz), x.width = row.n := g5
      have hlen : (row.xs.map frz).length = row.xs.length := by simp
      have hl2 : ((row.xs.map frz).drop off).take len = ((row.xs.map frz).take (off + len)).drop off := by rw [List.drop_take]; congr 1; omega
      have h9 := (g7.take0 ((off + len) * row.n)).drop0 (off * row.n)
      rw [flat_take (off + len) hwd, flat_drop off (fun x hx => hwd x (List.mem_of_mem_take hx)), ← hl2] at h9
      have e9 : List.drop (off * row.n) (List.take ((off + len) * row.n) (List.take ((row.xs.map frz).length * row.n) cur.toList)) = (cur.toList.drop (off * row.n)).take (len * row.n) := by
        have hle : (off + len) * row.n ≤ (row.xs.map frz).length * row.n := Nat.mul_le_mul_right _ (by rw [hlen]; exact h3)
        rw [List.take_take, Nat.min_eq_left hle, List.drop_take, Nat.add_mul, Nat.add_sub_cancel_left]
      rw [e9] at h9
      have hll : len = (((row.xs.map frz).drop off).take len).length := by simp; omega
      refine .of (.ro h4 (ht.ro c h2) (fun x hx => hwd x (List.mem_of_mem_drop (List.mem_of_mem_take hx))) hll rfl ?_ (by omega) (by omega))
      rcases h8 with rfl | ⟨h8, _⟩
      · exact h9
      · have h0 : len = 0 := by omega
        subst h0
        simpa [flat] using RelL.nil
    · rename_i hq
      rcases ht.other q row' hq h1 with h9 | ⟨row2, h9, h10, h11⟩
      · exact .vw h9 (by rw [ht.gsq q hq]; exact h2) h3 h4 h5 h6 h7 h8
      · exact .vw h9 (by rw [ht.gsq q hq]; exact h2) (by omega) h4 (by rw [h10]; exact h5) h6 (by omega) (by rw [h10]; exact h8)
  · intro q row' h1 h2 h3
    rw [Fw.thaw]
    split
    · simpa using TRel.of Rel.nils
    · rename_i hq
      rcases ht.other q row' hq h1 with h9 | ⟨row2, h9, h10, h11⟩
      · exact .vwn h9 (by rw [ht.gsq q hq]; exact h2) h3
      · exact .vwn h9 (by rw [ht.gsq q hq]; exact h2) (List.eq_nil_of_length_eq_zero (by rw [h11, h3]; rfl))
  · intro q j o k c row' h1 h2 h3
    rw [Fw.thaw]
    split
    · exact .un
    · rename_i hq
      rcases ht.other q row' hq h1 with h9 | ⟨row2, h9, h10, h11⟩
      · exact .pt h9 (by rw [ht.gsq q hq]; exact h2) h3
      · exact .pt h9 (by rw [ht.gsq q hq]; exact h2) (by rw [h10]; exact h3)
  · intro xs cs F hl ih; rw [thaw_agg]; exact .agg ih
  · intro xs cs F hl ih; rw [thaw_tup]; exact .tup ih
  · intro g caps cs F hl ih; rw [thaw_clo]; exact .clo ih
  · exact .nil
  · intro x v F xs vs Fs h hl ih ih'; exact .cons ih ih'
def thawRow (r n : Nat) (xs : List A) (row : Row) : Row := if row.lk then { row with xs := row.xs.map (thaw r n xs) } else row
def thawT (r n : Nat) (xs : List A) (t : List (Nat × A)) : List (Nat × A) := t.map fun p => (p.1, thaw r n xs p.2)
theorem lk_thawT (r n : Nat) (xs : List A) : ∀ (t : List (Nat × A)) (i : Nat), lk (thawT r n xs t) i = thaw r n xs (lk t i)
  | [], i => by show A.un = thaw r n xs .un; rw [thaw]
  | (k, x) :: l, i => by
    have ih := lk_thawT r n xs l i
    simp only [thawT] at ih
    simp only [thawT, List.map_cons, lk]
    split
    · rfl
    · exact ih
theorem thaw_cells (r n : Nat) (xs : List A) (x : A) : (thaw r n xs x).cells = x.cells.map (thaw r n xs) := by
  have e1 : ∀ q o l, (if q = r then A.sl false n ((xs.drop o).take l) else A.vw q o l).cells = [if q = r then A.sl false n ((xs.drop o).take l) else A.vw q o l] := fun q o l => by split <;> rfl
  have e2 : ∀ q o l, (if q = r then A.un else A.pt q o l).cells = [if q = r then A.un else A.pt q o l] := fun q o l => by split <;> rfl
  cases x with
  | vw q o l => simp only [A.cells, List.map_cons, List.map_nil, thaw, e1]; exact e1 q o l
  | pt q o l => simp only [A.cells, List.map_cons, List.map_nil, thaw, e2]; exact e2 q o l
  | _ => simp only [thaw, thawL_eq, A.cells, List.map_cons, List.map_nil]
theorem thaw_width (r n : Nat) (xs : List A) (x : A) : (thaw r n xs x).width = x.width := by simp [A.width, thaw_cells]
theorem thaw_flat (r n : Nat) (xs ys : List A) : flat (ys.map (thaw r n xs)) = (flat ys).map (thaw r n xs) := by
  induction ys with
  | nil => rfl
  | cons x ys ih => simp only [flat, List.map_cons, List.flatMap_cons, List.map_append] at *; rw [ih, thaw_cells]
def State.thaw (S : State) (r : Nat) (row : Row) : State := ⟨thawT r row.n (row.xs.map frz) S.t, S.N, (S.rows.map (Option.map (thawRow r row.n (row.xs.map frz)))).set r none⟩
/-- An own row of data is only read from now on: what led into it tells what it holds. -/
theorem Sbs.thaw {r : Nat} {row : Row} (hr : rowAt S.rows r = some row) (hlk : row.lk = false) : Sbs S (S.thaw r row) := by
  intro E ac w ⟨hd, G, gs, hi⟩
  have hal := rowAt_lt hr
  have hrat : ∀ q, rowAt (S.thaw r row).rows q = if q = r then none else (rowAt S.rows q).map (thawRow r row.n (row.xs.map frz)) := fun q => by
    show rowAt ((S.rows.map (Option.map (thawRow r row.n (row.xs.map frz)))).set r none) q = _
    rw [rowAt_set _ _ _ _ (by simpa using hal)]
    split
    · rfl
    · simp only [rowAt, List.getElem?_map]
      cases h : S.rows[q]? with
      | none => rfl
      | some o => cases o <;> rfl
  have hGsub : ∀ b, G b → G b ∨ b ∈ gs.all r := fun b h => .inl h
  have hob : RowRel w (fun b => G b ∨ b ∈ gs.all r) S.rows gs { row with xs := row.xs.map frz } (gs r).1 [] := by
    have h := hi.row r row hr
    have hin2 : ∀ b ∈ (gs r).2, b ∈ gs.all r := fun b hb => by simp [Gh.all, hb]
    generalize (gs r).1 = ob at h
    generalize (gs r).2 = F at h hin2
    cases ob with
    | none => exact ⟨by simp [h.1], rfl⟩
    | some b =>
      obtain ⟨cur, e, cap, h1, h2, h3, h4, h5, h6, h7⟩ := RowCells.ex h
      refine ⟨cur, e, cap, h1, h2, by simpa using h3, h4, ?_, by simpa using h6, ?_⟩
      · intro x hx
        obtain ⟨y, hy, rfl⟩ := List.mem_map.1 hx
        rw [width_frz]; exact h5 y hy
      · unfold CellsRel at h7 ⊢
        dsimp only
        rw [if_neg (by rw [hlk]; simp)] at h7 ⊢
        rw [flat_frz]
        simpa using RelL.frz h7 (G' := fun b => G b ∨ b ∈ gs.all r) hGsub (fun b hb => .inr (hin2 b hb))
  have ht : Thawed w G (fun b => G b ∨ b ∈ gs.all r) S.rows (S.thaw r row).rows gs (gs.add r none []) r row := by
    refine ⟨hGsub, fun b hb => .inr (by simp [Gh.all, hb]), hob, hlk, hr, fun q row' hq hq2 => ?_, fun q hq => by simp [Gh.add, hq]⟩
    rw [hrat, if_neg hq, hq2]
    refine .inr ⟨_, rfl, ?_, ?_⟩ <;> unfold thawRow <;> split <;> simp
  have hgs : ∀ q, q ≠ r → (gs.add r none []) q = gs q := fun q hq => by simp [Gh.add, hq]
  have hall : ∀ q, q ≠ r → (gs.add r none []).all q = gs.all q := fun q hq => by simp only [Gh.all, hgs q hq]
  have hcase : ∀ q row', rowAt (S.thaw r row).rows q = some row' → q ≠ r ∧ ∃ row0, rowAt S.rows q = some row0 ∧ row' = thawRow r row.n (row.xs.map frz) row0 := fun q row' h => by
    rw [hrat] at h
    split at h
    · cases h
    · rename_i hq
      obtain ⟨row0, q1, q2⟩ := Option.map_eq_some_iff.1 h
      exact ⟨hq, row0, q1, q2.symm⟩
  refine ⟨hd, fun b => G b ∨ b ∈ gs.all r, gs.add r none [], hi.keep, hi.os, hi.tape, hi.output, hi.size, hi.sz, fun b hb => .inl (hi.gsub b hb), fun b hb => ?_, fun b hb => ?_, fun q row' hq => ?_, fun q row' hq => ?_, fun q row' hq b hb => ?_, fun q q' row' row'' hq hq' hne => ?_, fun i => ?_⟩
  · rcases hb with hb | hb
    · exact hi.gnew b hb
    · exact .inr (hi.own r row hr b hb).2
  · rcases hb with hb | hb
    · exact hi.glt b hb
    · exact hi.block_lt hr b hb
  · obtain ⟨hqr, row0, h0, rfl⟩ := hcase q row' hq
    have hrow := hi.row q row0 h0
    rw [hgs q hqr]
    generalize (gs q).1 = ob at hrow
    cases ob with
    | none =>
      obtain ⟨q1, q2⟩ := hrow
      refine ⟨?_, q2⟩
      unfold thawRow
      split <;> simp [q1]
    | some c =>
      obtain ⟨cur, ee, cap, h1, h2, h3, h4, h5, h6, h7⟩ := RowCells.ex hrow
      unfold CellsRel at h7
      by_cases hl : row0.lk = true
      · have e1 : thawRow r row.n (row.xs.map frz) row0 = { row0 with xs := row0.xs.map (Fw.thaw r row.n (row.xs.map frz)) } := by unfold thawRow; rw [if_pos hl]
        rw [e1]
        refine ⟨cur, ee, cap, h1, h2, by simpa using h3, h4, ?_, by simpa using h6, ?_⟩
        · intro x hx
          obtain ⟨y, hy, rfl⟩ := List.mem_map.1 hx
          rw [thaw_width]; exact h5 y hy
        · unfold CellsRel
          rw [if_pos hl] at h7
          show if row0.lk = true then _ else _
          rw [if_pos hl, thaw_flat]
          have : ∀ {xs : List A} {vs : List Value} {F : List Nat}, TRelL w G S.rows gs xs vs F → TRelL w (fun b => G b ∨ b ∈ gs.all r) (S.thaw r row).rows (gs.add r none []) (xs.map (Fw.thaw r row.n (row.xs.map frz))) vs F := by
            intro xs vs F h
            induction xs generalizing vs F with
            | nil => cases h; exact .nil
            | cons x xs ih => cases h with | cons h hl => exact .cons (h.thaw ht) (ih hl)
          simpa using this h7
      · have e1 : thawRow r row.n (row.xs.map frz) row0 = row0 := by unfold thawRow; rw [if_neg hl]
        rw [e1]
        refine ⟨cur, ee, cap, h1, h2, h3, h4, h5, h6, ?_⟩
        unfold CellsRel
        rw [if_neg hl] at h7 ⊢
        exact h7.move_ (fun b hb => ⟨.inl hb, rfl⟩) fun _ _ => rfl
  · obtain ⟨hqr, row0, h0, rfl⟩ := hcase q row' hq
    rw [hall q hqr]; exact hi.nod q row0 h0
  · obtain ⟨hqr, row0, h0, rfl⟩ := hcase q row' hq
    rw [hall q hqr] at hb
    obtain ⟨q1, q2⟩ := hi.own q row0 h0 b hb
    exact ⟨fun h => h.elim q1 fun h => hi.dis q r row0 row h0 hr hqr b hb h, q2⟩
  · obtain ⟨hqr, row0, h0, rfl⟩ := hcase q row' hq
    obtain ⟨hqr', row1, h1, rfl⟩ := hcase q' row'' hq'
    rw [hall q hqr, hall q' hqr']
    exact hi.dis q q' row0 row1 h0 h1 hne
  · show TRel w _ (S.thaw r row).rows _ (lk (thawT r row.n (row.xs.map frz) S.t) i) _ []
    rw [lk_thawT]
    exact (hi.tmp i).thaw ht
/- Row a is told as row b from now on. -/
mutual
def ren (a b : Nat) : A → A
  | .vw r off len => if r = a then .vw b off len else .vw r off len
  | .pt r j o => if r = a then .pt b j o else .pt r j o
  | .agg xs => .agg (renL a b xs)
  | .tup xs => .tup (renL a b xs)
  | .clo g xs => .clo g (renL a b xs)
  | .un => .un
  | .sc v => .sc v
  | .nil => .nil
  | .sl o n xs => .sl o n xs
  | .rp xs => .rp xs
  | .bx xs => .bx xs
def renL (a b : Nat) : List A → List A
  | [] => []
  | x :: xs => ren a b x :: renL a b xs
end
theorem renL_eq (a b : Nat) : ∀ xs : List A, renL a b xs = xs.map (ren a b)
  | [] => rfl
  | x :: xs => by rw [renL, renL_eq a b xs]; rfl
theorem ren_agg (a b : Nat) (xs : List A) : ren a b (.agg xs) = .agg (xs.map (ren a b)) := by rw [ren, renL_eq]
theorem ren_tup (a b : Nat) (xs : List A) : ren a b (.tup xs) = .tup (xs.map (ren a b)) := by rw [ren, renL_eq]
theorem ren_clo (a b g : Nat) (xs : List A) : ren a b (.clo g xs) = .clo g (xs.map (ren a b)) := by rw [ren, renL_eq]
theorem Rel.ren {w : World} {G : Nat → Prop} {x : A} {v : Value} {F : List Nat} (h : Rel w G x v F) (a b : Nat) : Fw.ren a b x = x := by
  refine Rel.rec (motive_1 := fun x v F _ => Fw.ren a b x = x) (motive_2 := fun xs vs F _ => xs.map (Fw.ren a b) = xs)
    ?_ ?_ ?_ ?_ ?_ ?_ ?_ ?_ ?_ ?_ ?_ ?_ ?_ ?_ h
  · intros; rw [Fw.ren]
  · intros; rw [Fw.ren]
  · intros; rw [Fw.ren]
  · intros; rw [Fw.ren]
  · intros; rw [Fw.ren]
  · intros; rw [Fw.ren]
  · intros; rw [Fw.ren]
  · intro xs cs F hl ih; rw [ren_agg, ih]
  · intro xs cs F hl ih; rw [ren_tup, ih]
  · intros; rw [Fw.ren]
  · intros; rw [Fw.ren]
  · intro g caps cs F hl ih; rw [ren_clo, ih]
  · rfl
  · intro x v F xs vs Fs h hl ih ih'; rw [List.map_cons, ih, ih']
theorem TRel.ren {w : World} {G : Nat → Prop} {rows rows' : List (Option Row)} {gs gs' : Gh} {a b : Nat} (hr : ∀ r row, rowAt rows r = some row → ∃ row', rowAt rows' (if r = a then b else r) = some row' ∧ gs' (if r = a then b else r) = gs r ∧ row'.n = row.n ∧ row'.xs.length = row.xs.length)
    {x : A} {v : Value} {F : List Nat} (h : TRel w G rows gs x v F) : TRel w G rows' gs' (Fw.ren a b x) v F := by
  refine TRel.rec (motive_1 := fun x v F _ => TRel w G rows' gs' (Fw.ren a b x) v F) (motive_2 := fun xs vs F _ => TRelL w G rows' gs' (xs.map (Fw.ren a b)) vs F) ?_ ?_ ?_ ?_ ?_ ?_ ?_ ?_ ?_ ?_ h
  · intros; rw [Fw.ren]; exact .un
  · intro x v F h; rw [h.ren]; exact .of h
  · intro r off len k cap c row cur e h1 h2 h3 h4 h5 h6 h7 h8
    obtain ⟨row', q1, q2, q3, q4⟩ := hr r row h1
    have : Fw.ren a b (.vw r off len) = .vw (if r = a then b else r) off len := by rw [Fw.ren]; split <;> rfl
    rw [this]
    exact .vw q1 (by rw [q2]; exact h2) (by omega) h4 (by rw [h5, q3]) h6 (by omega) (by rw [q3]; exact h8)
  · intro r row h1 h2 h3
    obtain ⟨row', q1, q2, q3, q4⟩ := hr r row h1
    have : Fw.ren a b (.vw r 0 0) = .vw (if r = a then b else r) 0 0 := by rw [Fw.ren]; split <;> rfl
    rw [this]
    exact .vwn q1 (by rw [q2]; exact h2) (by rw [h3] at q4; exact List.eq_nil_of_length_eq_zero q4)
  · intro r j o k c row h1 h2 h3
    obtain ⟨row', q1, q2, q3, q4⟩ := hr r row h1
    have : Fw.ren a b (.pt r j o) = .pt (if r = a then b else r) j o := by rw [Fw.ren]; split <;> rfl
    rw [this]
    exact .pt q1 (by rw [q2]; exact h2) (by rw [q3]; exact h3)
  · intro xs cs F hl ih; rw [ren_agg]; exact .agg ih
  · intro xs cs F hl ih; rw [ren_tup]; exact .tup ih
  · intro g caps cs F hl ih; rw [ren_clo]; exact .clo ih
  · exact .nil
  · intro x v F xs vs Fs h hl ih ih'; exact .cons ih ih'
theorem TRelL.ren {w : World} {G : Nat → Prop} {rows rows' : List (Option Row)} {gs gs' : Gh} {a b : Nat} (hr : ∀ r row, rowAt rows r = some row → ∃ row', rowAt rows' (if r = a then b else r) = some row' ∧ gs' (if r = a then b else r) = gs r ∧ row'.n = row.n ∧ row'.xs.length = row.xs.length) :
    ∀ {xs : List A} {vs : List Value} {F : List Nat}, TRelL w G rows gs xs vs F → TRelL w G rows' gs' (xs.map (Fw.ren a b)) vs F
  | _, _, _, .nil => .nil
  | _, _, _, .cons h hl => .cons (h.ren hr) (hl.ren hr)
def renRow (a b : Nat) (row : Row) : Row := if row.lk then { row with xs := row.xs.map (ren a b) } else row
def renRows (a b : Nat) (rows : List (Option Row)) : List (Option Row) := rows.map (Option.map (renRow a b))
def renT (a b : Nat) (t : List (Nat × A)) : List (Nat × A) := t.map fun p => (p.1, ren a b p.2)
theorem lk_renT (a b : Nat) : ∀ (t : List (Nat × A)) (i : Nat), lk (renT a b t) i = ren a b (lk t i)
  | [], i => by show A.un = ren a b .un; rw [ren]
  | (k, x) :: l, i => by
    have ih := lk_renT a b l i
    simp only [renT] at ih
    simp only [renT, List.map_cons, lk]
    split
    · rfl
    · exact ih
theorem rowAt_renRows (a b : Nat) (rows : List (Option Row)) (i : Nat) : rowAt (renRows a b rows) i = (rowAt rows i).map (renRow a b) := by
  simp only [rowAt, renRows, List.getElem?_map]
  cases h : rows[i]? with
  | none => rfl
  | some o => cases o <;> rfl
theorem renRow_n (a b : Nat) (row : Row) : (renRow a b row).n = row.n := by unfold renRow; split <;> rfl
theorem renRow_len (a b : Nat) (row : Row) : (renRow a b row).xs.length = row.xs.length := by unfold renRow; split <;> simp
theorem ren_cells (a b : Nat) (x : A) : (ren a b x).cells = x.cells.map (ren a b) := by
  have e1 : ∀ r o l, ren a b (.vw r o l) = .vw (if r = a then b else r) o l := fun r o l => by rw [ren]; split <;> rfl
  have e2 : ∀ r o l, ren a b (.pt r o l) = .pt (if r = a then b else r) o l := fun r o l => by rw [ren]; split <;> rfl
  cases x with
  | vw r o l => simp only [A.cells, List.map_cons, List.map_nil, e1]
  | pt r o l => simp only [A.cells, List.map_cons, List.map_nil, e2]
  | _ => simp only [ren, renL_eq, A.cells, List.map_cons, List.map_nil]
theorem ren_width (a b : Nat) (x : A) : (ren a b x).width = x.width := by simp [A.width, ren_cells]
theorem ren_flat (a b : Nat) (xs : List A) : flat (xs.map (ren a b)) = (flat xs).map (ren a b) := by
  induction xs with
  | nil => rfl
  | cons x xs ih => simp only [flat, List.map_cons, List.flatMap_cons, List.map_append] at *; rw [ih, ren_cells]
/-- Row a becomes row b, where none stood. -/
def State.mv (S : State) (a b : Nat) : State := ⟨renT a b S.t, S.N, ((renRows a b S.rows).set b (((rowAt S.rows a).map (renRow a b)))).set a none⟩
theorem Sbs.mv {a b : Nat} {row : Row} (ha : rowAt S.rows a = some row) (hb : rowAt S.rows b = none) (hlt : b < S.rows.length) : Sbs S (S.mv a b) := by
  intro E ac w ⟨hd, G, gs, hi⟩
  have hab : a ≠ b := fun e => by rw [e, hb] at ha; cases ha
  have hal := rowAt_lt ha
  have hlen : (renRows a b S.rows).length = S.rows.length := by simp [renRows]
  have hrat : ∀ r, rowAt (S.mv a b).rows r = if r = a then none else if r = b then (rowAt S.rows a).map (renRow a b) else (rowAt S.rows r).map (renRow a b) := fun r => by
    show rowAt (((renRows a b S.rows).set b _).set a none) r = _
    rw [rowAt_set _ _ _ _ (by rw [List.length_set, hlen]; exact hal)]
    split
    · rfl
    · rw [rowAt_set _ _ _ _ (by rw [hlen]; exact hlt)]
      split
      · rfl
      · rw [rowAt_renRows]
  have hcase : ∀ r row', rowAt (S.mv a b).rows r = some row' → ∃ r0 row0, rowAt S.rows r0 = some row0 ∧ row' = renRow a b row0 ∧ r = (if r0 = a then b else r0) ∧ r0 ≠ b ∧ r ≠ a := fun r row' h => by
    rw [hrat] at h
    split at h
    · cases h
    · rename_i h1
      split at h
      · rename_i h2
        rw [ha] at h
        exact ⟨a, row, ha, (Option.some.inj h).symm, by rw [if_pos rfl]; exact h2, hab, h1⟩
      · rename_i h2
        obtain ⟨row0, q1, q2⟩ := Option.map_eq_some_iff.1 h
        exact ⟨r, row0, q1, q2.symm, by rw [if_neg h1], h2, h1⟩
  have hgs : ∀ r0, r0 ≠ b → (fun r => if r = b then gs a else gs r) (if r0 = a then b else r0) = gs r0 := fun r0 h0 => by
    dsimp only
    by_cases h : r0 = a
    · subst h; simp
    · rw [if_neg h, if_neg h0]
  have hren : ∀ r row0, rowAt S.rows r = some row0 → ∃ row', rowAt (S.mv a b).rows (if r = a then b else r) = some row' ∧ (fun r => if r = b then gs a else gs r) (if r = a then b else r) = gs r ∧ row'.n = row0.n ∧ row'.xs.length = row0.xs.length := fun r row0 h => by
    have hrb : r ≠ b := fun e => by rw [e, hb] at h; cases h
    refine ⟨renRow a b row0, ?_, hgs r hrb, renRow_n .., renRow_len ..⟩
    rw [hrat]
    by_cases hra : r = a
    · subst hra
      rw [if_pos rfl, if_neg (fun e => hab e.symm), if_pos rfl, h]; rfl
    · rw [if_neg hra, if_neg hra, if_neg hrb, h]; rfl
  have hall : ∀ r0, r0 ≠ b → Gh.all (fun r => if r = b then gs a else gs r) (if r0 = a then b else r0) = gs.all r0 := fun r0 h0 => by
    have := hgs r0 h0
    simp only [Gh.all] at *
    rw [this]
  refine ⟨hd, G, fun r => if r = b then gs a else gs r, hi.keep, hi.os, hi.tape, hi.output, hi.size, hi.sz, hi.gsub, hi.gnew, hi.glt, fun r row' hr => ?_, fun r row' hr => ?_, fun r row' hr => ?_, fun r r' row' row'' hr hr' hne => ?_, fun i => ?_⟩
  · obtain ⟨r0, row0, h0, rfl, rfl, hb0, hra⟩ := hcase r row' hr
    have hrow := hi.row r0 row0 h0
    have e : (if (if r0 = a then b else r0) = b then gs a else gs (if r0 = a then b else r0)) = gs r0 := hgs r0 hb0
    rw [e]
    generalize (gs r0).1 = ob at hrow
    cases ob with
    | none =>
      obtain ⟨q1, q2⟩ := hrow
      refine ⟨?_, q2⟩
      unfold renRow
      split <;> simp [q1]
    | some c =>
      obtain ⟨cur, ee, cap, h1, h2, h3, h4, h5, h6, h7⟩ := hrow.ex
      unfold CellsRel at h7
      by_cases hl : row0.lk = true
      · have e1 : renRow a b row0 = { row0 with xs := row0.xs.map (ren a b) } := by unfold renRow; rw [if_pos hl]
        rw [e1]
        refine ⟨cur, ee, cap, h1, h2, by simpa using h3, h4, ?_, by simpa using h6, ?_⟩
        · intro x hx
          obtain ⟨y, hy, rfl⟩ := List.mem_map.1 hx
          rw [ren_width]; exact h5 y hy
        · unfold CellsRel
          rw [if_pos hl] at h7
          show if row0.lk = true then _ else _
          rw [if_pos hl, ren_flat]
          simpa using h7.ren hren
      · have e1 : renRow a b row0 = row0 := by unfold renRow; rw [if_neg hl]
        rw [e1]
        refine ⟨cur, ee, cap, h1, h2, h3, h4, h5, h6, ?_⟩
        unfold CellsRel
        rw [if_neg hl] at h7 ⊢
        exact h7
  · obtain ⟨r0, row0, h0, rfl, rfl, hb0, hra⟩ := hcase r row' hr
    rw [hall r0 hb0]; exact hi.nod r0 row0 h0
  · obtain ⟨r0, row0, h0, rfl, rfl, hb0, hra⟩ := hcase r row' hr
    rw [hall r0 hb0]; exact hi.own r0 row0 h0
  · obtain ⟨r0, row0, h0, rfl, rfl, hb0, hra⟩ := hcase r row' hr
    obtain ⟨r1, row1, h1, rfl, rfl, hb1, hra1⟩ := hcase r' row'' hr'
    rw [hall r0 hb0, hall r1 hb1]
    exact hi.dis r0 r1 row0 row1 h0 h1 fun e => hne (by rw [e])
  · show TRel w G (S.mv a b).rows _ (lk (renT a b S.t) i) _ []
    rw [lk_renT]
    exact (hi.tmp i).ren hren
end
end Go.Fw

/- Contracts of a result of which a relation speaks, for what is only read; results frozen. Plain theorems, no condition. -/
set_option linter.unusedVariables false
set_option linter.unusedSimpArgs false
namespace Go.Fw
/-- A contract that tells some result of which R speaks. -/
structure RCtr (P : Program) (g : Nat) (args : List A) (R : A → Prop) : Prop where
  enter : Enter P g
  run : ∀ (w : World) (G : Nat → Prop) (vs : List Value), (∀ b, G b → b < w.heap.size) → RelL w G args vs [] → Calls P g vs.toArray w (fun e w' => ∃ v F x, R x ∧ e = .returned v ∧ Go.RowKit.Below w.heap.size w w' ∧
    F.Nodup ∧ (∀ b ∈ F, w.heap.size ≤ b) ∧ Rel w' (fun b => (G b ∨ (w.heap.size ≤ b ∧ b < w'.heap.size)) ∧ b ∉ F) x v F)
section
variable {P : Program} {T : Nat → Option TI} {S : State} {Ω : Opq}
theorem PCtr.r {g : Nat} {args : List A} {x : A} (h : PCtr P g args x) {R : A → Prop} (hR : R x) : RCtr P g args R :=
  ⟨h.enter, fun w G vs h1 h2 => Calls.mono (h.run w G vs h1 h2) (by rintro e w' ⟨v, F, rfl, h⟩; exact ⟨v, F, x, hR, rfl, h⟩)⟩
theorem RCtr.p {g : Nat} {args : List A} {x : A} (h : RCtr P g args fun y => y = x) : PCtr P g args x :=
  ⟨h.enter, fun w G vs h1 h2 => Calls.mono (h.run w G vs h1 h2) (by rintro e w' ⟨v, F, y, rfl, rfl, h⟩; exact ⟨v, F, rfl, h⟩)⟩
theorem RCtr.mono {g : Nat} {args : List A} {R R' : A → Prop} (h : RCtr P g args R) (hR : ∀ x, R x → R' x) : RCtr P g args R' :=
  ⟨h.enter, fun w G vs h1 h2 => Calls.mono (h.run w G vs h1 h2) (by rintro e w' ⟨v, F, x, h1, rfl, h⟩; exact ⟨v, F, x, hR _ h1, rfl, h⟩)⟩
theorem RCtr.frz {g : Nat} {args : List A} {R : A → Prop} (h : RCtr P g args R) : RCtr P g args fun x => ∃ y, R y ∧ x = frz y :=
  ⟨h.enter, fun w G vs h1 h2 => Calls.mono (h.run w G vs h1 h2) (by
    rintro e w' ⟨v, F, x, h3, rfl, h4, h5, h6, h7⟩
    exact ⟨v, [], _, ⟨x, h3, rfl⟩, rfl, h4, List.nodup_nil, by simp, h7.frz (fun b hb => ⟨hb.1, by simp⟩) fun b hb => ⟨.inr ⟨h6 b hb, h7.lt b hb⟩, by simp⟩⟩)⟩
theorem PCtr.frz {g : Nat} {args : List A} {x : A} (h : PCtr P g args x) : PCtr P g args (frz x) :=
  ((h.r (R := fun y => y = x) rfl).frz.mono (by rintro x ⟨y, rfl, rfl⟩; rfl)).p
theorem XCtr.r {g : Nat} {args : List A} {R : A → List A → Prop} (h : XCtr P g args R) (hn : args.all noOwn = true) : RCtr P g args fun x => ∃ o, R x o :=
  ⟨h.enter, fun w G vs h1 h2 => Calls.mono (h.run w G vs [] h1 List.nodup_nil (by simp) h2) (by
    rintro e w' ⟨v, Fx, Fo, x, o, h3, rfl, ⟨m1, m2, m3, m4, m5⟩, h5, h6, h7, h8⟩
    have h5' := List.nodup_append.1 h5
    exact ⟨v, Fx, x, ⟨o, h3⟩, rfl, ⟨m1, m2, m3, m4, fun b hb => m5 b hb (by simp)⟩, h5'.1, fun b hb => by simpa using h6 b (by simp [hb]), h7.move_ (fun b hb => ⟨⟨by simpa using hb.1, fun q => hb.2 (by simp [q])⟩, rfl⟩) fun _ _ => rfl⟩)⟩
theorem CallOK_rf {g k : Nat} {args ys0 ys : List A} {R : A → Prop} {K : A → State → Prop} (hc : RCtr P g ys R) (h1 : mapO (roO S k) args = some ys0) (h2 : fitA.fitL k ys0 ys)
    (h : ∀ x, R x → roFree x = true ∧ noOwn (rootA k S (Fw.frz x)).1 = true ∧ K (rootA k S (Fw.frz x)).1 (rootA k S (Fw.frz x)).2) : CallOK P g args S K := by
  refine ⟨hc.enter, fun E G gs tmps w vs hi hl => ?_⟩
  have hys := fitL_rel (fun x y v F => fitA_rel k x y v F) ys0 ys vs [] h2 (mapO_rel (fun x v F y h hy => roO_rel hi k x v F y h hy) hl h1)
  refine Calls.mono (hc.run w (Old w) vs (fun b h => h) hys) ?_
  rintro e w' ⟨v, F, x, hx, rfl, hb, hnd, hnew, hr⟩
  obtain ⟨hx, hno, hK⟩ := h x hx
  have hr' : Rel w' (fun b => G b ∧ b ∉ F) x v F := hr.anyG hx _
  have hr2 : Rel w' (fun b => (G b ∨ b ∈ F) ∧ b ∉ ([] : List Nat)) (Fw.frz x) v [] := hr'.frz (fun b hb => ⟨.inl hb.1, by simp⟩) fun b hb => ⟨.inr hb, by simp⟩
  obtain ⟨gs', g1, g2⟩ := adopt_new hi hb List.nodup_nil (by simp) (fun b h => ⟨.inl h, by simp⟩) (fun b h => ⟨h.1.imp id (hnew b), h.2⟩)
    (fun b h => h.1.elim (fun h => Nat.lt_of_lt_of_le (hi.glt b h) hb.size) (hr.lt b)) hr2 k hno
  exact ⟨v, _, _, _, gs', rfl, hK, g1, g2⟩
/-- The result is frozen. -/
theorem call_rf (hΩ : Ω = std) (k : Nat) {g : Nat} {args ys0 ys : List A} {R : A → Prop} {K : A → State → Prop} (hc : RCtr P g ys R) (h1 : mapO (roO S k) args = some ys0) (h2 : fitA.fitL k ys0 ys)
    (h : ∀ x, R x → roFree x = true ∧ noOwn (rootO Ω k S (Fw.frz x)).1 = true ∧ K (rootO Ω k S (Fw.frz x)).1 (rootO Ω k S (Fw.frz x)).2) : CallX P g args S K := by
  subst hΩ
  exact ⟨CallOK_rf (k := k) hc h1 h2 fun x hx => by simp only [← rootO_std]; exact h x hx⟩
theorem call_pf (hΩ : Ω = std) (k : Nat) {g : Nat} {args ys0 ys : List A} {x y : A} {K : A → State → Prop} (hc : PCtr P g ys x) (h1 : mapO (roO S k) args = some ys0) (h2 : fitA.fitL k ys0 ys) (hx : roFree x = true) (hy : Fw.frz x = y)
    (hno : noOwn (rootO Ω k S y).1 = true) (hK : K (rootO Ω k S y).1 (rootO Ω k S y).2) : CallX P g args S K :=
  call_rf hΩ k (hc.r (R := fun z => z = x) rfl) h1 h2 fun z hz => by subst hz; subst hy; exact ⟨hx, hno, hK⟩
/-- A walk of the body gives the contract. -/
theorem RCtr.of {g : Nat} {c : Code} {N : Nat} {rs : List ResultVar} {xs : List A} {R : A → Prop} (hf : FnAt P g c N rs) (hN : xs.length ≤ N) (h : VC P c (entryS N xs) (fun e S => ∃ x, R x ∧ outK P rs x e S)) : RCtr P g xs R := by
  obtain ⟨hen, fn, h1, h2, h3, h4⟩ := hf
  refine ⟨hen, fun w G vs hG hl => ?_⟩
  have hlen := hl.length
  refine calls_of_wp h1 h2 ?_
  have hinv : Inv ⟨w, G, fun _ => False, fun _ => undef⟩ G (fun _ => (none, [])) (entryS N xs) (vs.toArray ++ Array.replicate (fn.ntmps - vs.toArray.size) undef) w := by
    refine ⟨fun _ _ _ => rfl, rfl, rfl, rfl, Nat.le_refl _, ?_, fun _ h => h, fun _ h => .inl h, hG, ?_, ?_, ?_, ?_, fun i => ?_⟩
    · simp [entryS, h3]; omega
    · intro r row hr; simp [entryS, rowAt] at hr
    · intro r row hr; simp [entryS, rowAt] at hr
    · intro r row hr; simp [entryS, rowAt] at hr
    · intro r r' row row' hr; simp [entryS, rowAt] at hr
    · show TRel w G [] _ (lk (entryT 0 xs) i) _ []
      rw [lk_entryT, if_pos (Nat.zero_le _), Nat.sub_zero]
      unfold vat
      by_cases hi : i < xs.length
      · obtain ⟨v, hv, hr⟩ := hl.get i xs[i] (List.getElem?_eq_getElem hi)
        rw [List.getD_eq_getElem?_getD, List.getElem?_eq_getElem hi]
        have : (vs.toArray ++ Array.replicate (fn.ntmps - vs.toArray.size) undef).getD i undef = v := by
          rw [Array.getD_eq_getD_getElem?, Array.getElem?_append_left (by simp; omega)]
          simp [hv]
        rw [if_pos (by simp; omega), this]; exact .of hr
      · rw [List.getD_eq_getElem?_getD, List.getElem?_eq_none (by omega)]
        exact .un
  refine wp_mono (h _ { tmps := vs.toArray ++ Array.replicate (fn.ntmps - vs.toArray.size) undef, defers := [] } w ⟨rfl, G, _, hinv⟩) ?_
  rintro e a' w' ⟨S', ⟨hd, G', gs', hi'⟩, x, hR, hK⟩
  have fin : Outs P rs x S' → a'.defers = [] ∧ ∃ v, (results fn a'.tmps).run P w' = .ok v w' ∧ (∃ v_1 F y, R y ∧ Ending.returned v = .returned v_1 ∧ Go.RowKit.Below w.heap.size w w' ∧
      F.Nodup ∧ (∀ b ∈ F, w.heap.size ≤ b) ∧ Rel w' (fun b => (G b ∨ (w.heap.size ≤ b ∧ b < w'.heap.size)) ∧ b ∉ F) y v_1 F) := by
    intro ho
    refine ⟨hd, ?_⟩
    obtain ⟨vs', zs, F, k, g1, g2, g3, g4, g5⟩ := ho _ _ _ _ _ hi'
    have hres := fitA_rel k _ _ _ _ g5 (oneA_rel g2)
    refine ⟨oneV vs', h4 _ _ _ g1, _, F, x, hR, rfl, ⟨hi'.os, hi'.tape, hi'.output, hi'.size, fun b hb => hi'.keep b hb id⟩, g3, fun b hb => ?_, ?_⟩
    · rcases (g4 b hb).2 with h | h
      · exact h.elim
      · exact h
    · refine hres.move_ (fun b hb => ⟨⟨?_, fun hF => (g4 b hF).1 hb⟩, rfl⟩) (fun b hb => rfl)
      rcases hi'.gnew b hb with h | h | h
      · exact .inl h
      · exact h.elim
      · exact .inr ⟨h, hi'.glt b hb⟩
  cases e with
  | normal => exact fin hK
  | ret => exact fin hK
  | _ => exact hK.elim
theorem RCtr.walk (hT : TabOK P T) (hΩ : Ω = std) {g : Nat} {c : Code} {N : Nat} {rs : List ResultVar} {xs : List A} {R : A → Prop} (hf : FnAt P g c N rs) (hN : Nat.ble xs.length N = true)
    (h : vC Ω P T c (entryS N xs) (fun e S => ∃ x, R x ∧ outV Ω T rs x e S)) : RCtr P g xs R :=
  RCtr.of hf (Nat.le_of_ble_eq_true hN) (VC.mono (vstart hT hΩ h) fun e S' ⟨x, hR, h⟩ => ⟨x, hR, outV_ok hT (hΩ ▸ h)⟩)
end
end Go.Fw

/- Regions that draw their order, of which the operations that do something may stand in a few orders. Plain theorems, no condition. -/
set_option linter.unusedVariables false
set_option linter.unusedSimpArgs false
namespace Go.Fw
/-- The orders that may come. -/
inductive Ord where
  | fin
  | step (n : Nat) (o : Ord)
  | two (n : Nat) (o : Ord) (m : Nat) (p : Ord)
def Ord.depth : Ord → Nat
  | .fin => 0
  | .step _ o => o.depth + 1
  | .two _ o _ _ => o.depth + 1
section
variable {P : Program} {T : Nat → Option TI} {S : State} {Ω : Opq}
def vOne (Ω : Opq) (P : Program) (T : Nat → Option TI) (ops : List Oper) (mv : Option Nat) (n : Nat) (S : State) (k : Option Nat → State → Prop) : Prop :=
  match ops[n]? with
    | some o => (match o.guard with
      | none => vOp Ω P T mv o S fun S' => k (madeBy o) S'
      | some _ => False)
    | none => False
def vOrd (Ω : Opq) (P : Program) (T : Nat → Option TI) (ops : List Oper) : Ord → Option Nat → State → (State → Prop) → Prop
  | .fin, _, S, K => K S
  | .step n o, mv, S, K => vOne Ω P T ops mv n S fun mv' S' => vOrd Ω P T ops o mv' S' K
  | .two n o m p, mv, S, K => (vOne Ω P T ops mv n S fun mv' S' => vOrd Ω P T ops o mv' S' K) ∧ (vOne Ω P T ops mv m S fun mv' S' => vOrd Ω P T ops p mv' S' K)
def heldO (ops : Array Oper) : Ord → Array Bool → Bool
  | .fin, l => (Region.ready .any ops l).isEmpty
  | .step n o, l => decide (Region.ready .any ops l = [n]) && heldO ops o (l.setIfInBounds n true)
  | .two n o m p, l => decide (Region.ready .any ops l = [n, m]) && decide (o.depth = p.depth) && heldO ops o (l.setIfInBounds n true) && heldO ops p (l.setIfInBounds m true)
theorem vOne_ok (hT : TabOK P T) {ops : List Oper} {E : Env} {mv : Option Nat} {n : Nat} {S : State} {k : Option Nat → State → Prop} (h : vOne std P T ops mv n S k) {a : Act} {w : World} (hs : SInv E S a w)
    {K' : Act → World → Prop} {Q : Exit → Act → World → Prop} (hk : ∀ mv' S' a' w', k mv' S' → SInv E S' a' w' → K' a' w') : wpOp P ops.toArray Q n K' a w := by
  unfold vOne at h
  split at h <;> try exact h.elim
  rename_i o ho
  split at h <;> try exact h.elim
  rename_i hg
  unfold wpOp
  rw [show ops.toArray[n]? = some o by simpa using ho]
  simp only
  rw [if_pos (by simp [Region.wanted, hg])]
  exact .inl (vOp_ok hT h E a w _ _ hs fun S' a' w' hK hs' => hk _ S' a' w' hK hs')
theorem ord_ok (hT : TabOK P T) {ops : List Oper} {Q : Exit → Act → World → Prop} {kp : Nat → Bool} {Sc : World → Prop} {E : Env} (hSc : ∀ S a w, SInv E S a w → Sc w) {K : State → Prop} (hK : ∀ S a w, K S → SInv E S a w → Q .normal a w) : ∀ (o : Ord) (l : Array Bool) (mv : Option Nat) (S : State) (a : Act) (w : World), heldO ops.toArray o l = true →
    vOrd std P T ops o mv S K → SInv E S a w → anyK P .any ops.toArray Q kp Sc o.depth l a w
  | .fin, l, mv, S, a, w, hB, h, hs => ⟨by simpa [heldO] using hB, hK S a w h hs⟩
  | .step n o, l, mv, S, a, w, hB, h, hs => by
    simp only [heldO, Bool.and_eq_true, decide_eq_true_eq] at hB
    unfold vOrd at h
    refine ⟨fun h0 => (by rw [hB.1] at h0; cases h0), fun i hi => ?_⟩
    rw [hB.1] at hi
    have hin : i = n := by simpa using hi
    subst hin
    exact vOne_ok hT h hs fun mv' S' a' w' hK' hs' => ⟨fun _ => hSc _ _ _ hs', ord_ok hT hSc hK o _ _ S' a' w' hB.2 hK' hs'⟩
  | .two n o m p, l, mv, S, a, w, hB, h, hs => by
    simp only [heldO, Bool.and_eq_true, decide_eq_true_eq] at hB
    unfold vOrd at h
    refine ⟨fun h0 => (by rw [hB.1.1.1] at h0; cases h0), fun i hi => ?_⟩
    rw [hB.1.1.1] at hi
    have hin : i = n ∨ i = m := by simpa using hi
    rcases hin with rfl | rfl
    · exact vOne_ok hT h.1 hs fun mv' S' a' w' hK' hs' => ⟨fun _ => hSc _ _ _ hs', ord_ok hT hSc hK o _ _ S' a' w' hB.1.2 hK' hs'⟩
    · exact vOne_ok hT h.2 hs fun mv' S' a' w' hK' hs' => ⟨fun _ => hSc _ _ _ hs', by rw [hB.1.1.2]; exact ord_ok hT hSc hK p _ _ S' a' w' hB.2 hK' hs'⟩
def lordB (ops : Array Oper) (qs : List Nat) (o : Ord) : Bool :=
  Region.noSelect ops && (decide (qs.length + o.depth = ops.size) && (quietB ops (fun _ => true) qs (Array.replicate ops.size false) && heldO ops o (listAll qs (Array.replicate ops.size false))))
/-- A region that draws its order: qs read rows rs; the others, in the orders o, leave these alone. -/
theorem VC_lord (hT : TabOK P T) (hΩ : Ω = std) (hm : P.follows .mixedOrders = true) (qs : List Nat) (o : Ord) (rs hs : List Nat) {id : Nat} {ops : Array Oper} {K : Exit → State → Prop} (hB : lordB ops qs o = true)
    (h : vRs Ω T rs ops.toList qs S fun S1 => lendB S1 rs hs = true ∧ ∀ vs : Nat → Value, vOrd Ω P T ops.toList o none (S1.lend rs hs vs) fun S2 => keptA S2 vs hs ∧ backB S2 rs = true ∧
      K .normal (S2.unlend S1 rs hs)) : VC P (.region id ops true) S K := by
  subst hΩ
  intro E a w hs0
  have hops : ops = ops.toList.toArray := by simp
  rw [hops] at hB ⊢
  obtain ⟨hd, G, gs, hi⟩ := hs0
  simp only [lordB, Bool.and_eq_true, decide_eq_true_eq] at hB
  obtain ⟨hsel, hsz, hq, hc1⟩ := hB
  have hw1 : Go.RowKit.Below w.heap.size w { w with drawn := w.drawn + 1 } := ⟨rfl, rfl, rfl, Nat.le_refl _, fun _ _ => rfl⟩
  have hi1 : Inv E G gs S a.tmps { w with drawn := w.drawn + 1 } := hi.below hw1 (fun _ h => h) (fun _ h => .inl h) (fun b h => Nat.lt_of_lt_of_le (hi.glt b h) hw1.size)
  generalize hw1e : { w with drawn := w.drawn + 1 } = w1 at *
  have hwp : wpAny P .any ops.toList.toArray (fun e a' w' => e = .normal ∧ ∃ S', (∃ S1, S1.rows = S.rows ∧ SInv (envAt E G gs S1 w1) S' a' w') ∧ K .normal S') ops.toList.toArray.size (Array.replicate ops.toList.toArray.size false) a w1 := by
    refine any_of_K (kp := fun _ => true) (Sc := AgreeR G gs rs w1) _ _ _ _ ?_
    refine Eq.mp (congrArg (fun n => anyK P .any ops.toList.toArray _ _ _ n (Array.replicate ops.toList.toArray.size false) a w1) hsz) ?_
    refine quiet_ok (rs := rs) hT (fun c a w h => by cases h.1) hsel qs _ S a hq h hd hi1 ?_
    rintro S1 a1 ⟨hl, hvs⟩ hr1 hd1 hi2
    simp only [lendB, Bool.and_eq_true, decide_eq_true_eq, List.all_eq_true] at hl
    obtain ⟨hnd, hrows, hhs⟩ := hl
    have hrow : ∀ r ∈ rs, ∃ row, rowAt S1.rows r = some row ∧ rowOnly rs row = true := fun r hr => by
      have := hrows r hr
      split at this
      · rename_i row h; exact ⟨row, h, this⟩
      · cases this
    obtain ⟨gs0, hl1, hl2, hl3⟩ := hi2.lend (rs := rs) (hs := hs) hnd (fun r hr => let ⟨row, h, _⟩ := hrow r hr; ⟨row, h⟩) (fun i hi => (hhs i hi).1)
    have hSc : ∀ S' a' w', SInv (envL E G gs gs0 S1 rs a1.tmps w1) S' a' w' → AgreeR G gs rs w1 w' := fun S' a' w' ⟨_, G', gs', hi'⟩ => by
      have hcore := lent_agree hi2 hl2 hl3 hi' (fun r hr => let ⟨row, h, _⟩ := hrow r hr; ⟨row, h⟩)
      exact hcore
    refine ord_ok hT hSc (K := fun S2 => keptA S2 (vat E a1.tmps) hs ∧ backB S2 rs = true ∧ K .normal (S2.unlend S1 rs hs)) ?_ o _ none _ a1 w1 hc1 (hvs (vat E a1.tmps)) ⟨hd1, G, gs0, hl1⟩
    rintro S2 a2 w2 ⟨hk, hb, hn2⟩ ⟨hd2, G2, gs2, hi3⟩
    simp only [backB, List.all_eq_true, Bool.and_eq_true, decide_eq_true_eq] at hb
    obtain ⟨hu, _⟩ := hi2.unlend (hs := hs) hl2 hl3 hi3 (keptA_spec hk) (fun r hr => by
      obtain ⟨h1, h2⟩ := hb r hr
      refine ⟨?_, h2⟩
      split at h1
      · assumption
      · cases h1) (fun i hi => (hhs i hi).2) hrow
    exact ⟨rfl, _, ⟨S1, hr1, hd2, G2, _, hu⟩, hn2⟩
  have hwp2 : (Code.region id ops.toList.toArray true).wp P (fun e a' w' => e = .normal ∧ ∃ S', (∃ S1, S1.rows = S.rows ∧ SInv (envAt E G gs S1 w1) S' a' w') ∧ K .normal S') a w := wp_region_any hm (by rw [hw1e]; exact hwp)
  refine wp_mono hwp2 ?_
  rintro e a' w' ⟨rfl, S', ⟨S1, hr1, hd', G', gs', hi'⟩, hK'⟩
  have e2 : envAt E G gs S1 w1 = envAt E G gs S w1 := by unfold envAt; rw [hr1]
  rw [e2] at hi'
  exact ⟨S', ⟨hd', G', gs', hi1.back hi'⟩, hK'⟩
end
end Go.Fw

/- Walks: numbers' lists, one behind another. Plain theorems. -/
set_option linter.unusedVariables false
set_option linter.unusedSimpArgs false
namespace Go.Proofs
open Go.Shelf
def Tryz.growI_ren : Go.Shelf.Ren := ⟨fun | 4 => 119 | n => n, fun | 22 => 23 | 25 => 2 | 3 => 3 | 4 => 4 | 9 => 9 | 20 => 20 | 0 => 0 | n => n, fun | n => n⟩
theorem Tryz.growI : Go.Proofs.Lays8.n4 Tryz.prog Tryz.growI_ren where
  mixed := by kernel_rfl
  f4 := ⟨"slices.Grow[[]int64,int64]", by decide, Tryz.func119.trans (congrArg some (by kernel_rfl))⟩
  t0 := Tryz.underlying0
  a0 := Tryz.isAgg0
  z0 := Tryz.sizeOf0
  v0 := Tryz.zeroValue0
  t3 := Tryz.underlying3
  a3 := Tryz.isAgg3
  z3 := Tryz.sizeOf3
  v3 := Tryz.zeroValue3
  t4 := Tryz.underlying4
  a4 := Tryz.isAgg4
  z4 := Tryz.sizeOf4
  v4 := Tryz.zeroValue4
  t9 := Tryz.underlying9
  a9 := Tryz.isAgg9
  z9 := Tryz.sizeOf9
  v9 := Tryz.zeroValue9
  t20 := Tryz.underlying20
  a20 := Tryz.isAgg20
  z20 := Tryz.sizeOf20
  v20 := Tryz.zeroValue20
  t22 := Tryz.underlying23
  a22 := Tryz.isAgg23
  z22 := Tryz.sizeOf23
  v22 := Tryz.zeroValue23

end Go.Proofs
namespace Go.Proofs.YtfmcncflooechaaGreat
open Go Go.Fw Go.Proofs
set_option maxRecDepth 100000
theorem frz_S (l : List (List UInt8)) : (l.map str).map frz = l.map str := by rw [List.map_map]; exact List.map_congr_left fun c _ => rfl
theorem roF_S (l : List (List UInt8)) : roFree (.sl true 1 (l.map str)) = true := roFAll fun x hx => by obtain ⟨c, _, rfl⟩ := List.mem_map.1 hx; rfl
theorem addF {Ω : Opq} (hΩ : Ω = std) {x y z : Int} (h : x + y = z) (h0 : -9223372036854775808 ≤ z) (h1 : z ≤ 9223372036854775807) : Ω.ar .add .i64 x y = z := by subst hΩ; subst h; exact wrap64 h0 h1
theorem relC {w : World} {G : Nat → Prop} {x : A} {xs : List A} {vs : List Value} (h : RelL w G (x :: xs) vs []) : ∃ v us, vs = v :: us ∧ Rel w G x v [] ∧ RelL w G xs us [] := by
  generalize hF : ([] : List Nat) = F at h
  generalize hx : x :: xs = ys at h
  cases h with
  | nil => cases hx
  | cons h hl =>
    cases hx
    obtain ⟨rfl, rfl⟩ := List.append_eq_nil_iff.1 hF.symm
    exact ⟨_, _, rfl, h, hl⟩
theorem c_GrowI (n : Nat) (hn : n ≤ 8388608) : PCtr PP n_slices_Grow_L_int64_int64 [.nil, i64 (n : Int)] (.sl true 1 []) := by
  refine ⟨fn_slices_Grow_L_int64_int64.1, fun w G vs hG hl => ?_⟩
  obtain ⟨v1, us, rfl, h, hl⟩ := relC hl
  obtain ⟨v2, us, rfl, h2, hl⟩ := relC hl
  cases hl
  cases h
  cases h2
  rcases Nat.eq_zero_or_pos n with rfl | h0
  · refine Calls.mono (Any8.slices_Grow_room Tryz.growI none 0 0 0 w (by omega) (by omega) (by omega) (by omega)) ?_
    rintro e w' ⟨rfl, rfl⟩
    exact ⟨_, [], rfl, Go.RowKit.Below.refl _ _, List.nodup_nil, by simp, .nils⟩
  · have hi : (PP.info? (Tryz.growI_ren.t 25)).map (fun i => (i.zero, i.size, i.bytes)) = some (some (.int .i64 0), 1, 8) := by kernel_rfl
    obtain ⟨i0, hi0, hi⟩ := Option.map_eq_some_iff.1 hi
    obtain ⟨hz0, hs0, hb0⟩ : i0.zero = some (.int .i64 0) ∧ i0.size = 1 ∧ i0.bytes = 8 := by simpa using hi
    refine Calls.mono (Any8.slices_Grow_grow Tryz.growI i0 (.int .i64 0) hi0 hz0 (by omega) none 0 0 n [] w (by omega) (by omega) (by rw [hb0]; omega) (by omega) (by simp) (fun _ => rfl) (fun a h => by cases h)) ?_
    rintro e w' ⟨rfl, rfl⟩
    refine ⟨_, [w.heap.size], rfl, ⟨rfl, rfl, rfl, by simp, fun b hb => heap_alloc_old w.drew _ hb⟩, by simp, by simp, ?_⟩
    refine .ow (F := []) (heap_alloc_new w.drew _) (by simp) rfl rfl .nil (Nat.zero_le _) (grownCap_le_maxLen w (0 + n) 0 _ (by unfold maxLen; omega)) ?_ (by simp)
    have hge := grownCap_ge w (0 + n) 0 (Tryz.growI_ren.t 25)
    have hzc : (Value.int IntKind.i64 0).cells = #[.int .i64 0] := rfl
    rw [Nat.zero_add] at hge
    simp only [hzc, Builtin.zeroCells, Array.size_append]
    simp
    omega
theorem flat_take_le {ls : List (List Int)} {B : Nat} (hs : ∀ l ∈ ls, l.length ≤ B) (i : Nat) : (ls.take i).flatten.length ≤ i * B := by
  induction i with
  | zero => simp
  | succ i ih =>
    rw [Nat.succ_mul]
    rcases Nat.lt_or_ge i ls.length with h | h
    · rw [List.take_add_one, List.getElem?_eq_getElem h]
      have := hs _ (List.getElem_mem h)
      simp only [Option.toList_some, List.flatten_append, List.length_append, List.flatten_cons, List.flatten_nil, List.append_nil]
      omega
    · rw [List.take_of_length_le (by omega)]; rw [List.take_of_length_le h] at ih; omega
theorem c_ConcatI (ls : List (List Int)) (hn : ls.length ≤ 4) (hs : ∀ l ∈ ls, l.length ≤ 1048576) :
    PCtr PP n_slices_Concat_L_int64_int64 [.sl false 1 (ls.map fun l => .sl false 1 (l.map i64))] (.sl true 1 (ls.flatten.map i64)) := by
  obtain ⟨Ω, hΩ⟩ : ∃ Ω, Ω = std := ⟨_, rfl⟩
  obtain ⟨F, hF⟩ : ∃ F : List Int → List A, F = fun l => l.map i64 := ⟨_, rfl⟩
  have hFm : ∀ t : List Int, t.map i64 = F t := fun t => by rw [hF]
  have hFn : ∀ t, (∀ y ∈ F t, noOwn y = true) ∧ (∀ c ∈ flat (F t), okCell c = true) := fun t => by rw [hF]; exact ⟨(noInt t).1, (noInt t).2.1⟩
  have hlen : ∀ t : List Int, (F t).length = t.length := fun t => by rw [hF, List.length_map]
  have hlO : ∀ t : List Int, Ω.len (F t) = (F t).length := fun t => by subst hΩ; rfl
  simp only [hFm]
  obtain ⟨S, hS⟩ : ∃ S : Nat → Nat, S = fun i => (ls.take i).flatten.length := ⟨_, rfl⟩
  obtain ⟨C, hC⟩ : ∃ C : Nat → List A, C = fun i => F (ls.take i).flatten := ⟨_, rfl⟩
  have hCl : ∀ i, (C i).length = S i := fun i => by rw [hC, hS]; exact hlen _
  have hS0 : S 0 = 0 := by rw [hS]; rfl
  have hC0 : C 0 = [] := by rw [hC, hF]; rfl
  have hSi : ∀ i c, ls[i]? = some c → S (i + 1) = S i + c.length := fun i c h => by rw [hS]; simp only [List.take_add_one, h]; simp
  have hCi : ∀ i c, ls[i]? = some c → C i ++ F c = C (i + 1) := fun i c h => by rw [hC, hF]; simp only [List.take_add_one, h]; simp
  have hSb : ∀ i, S i ≤ i * 1048576 := fun i => by rw [hS]; exact flat_take_le hs i
  obtain ⟨n, hN⟩ : ∃ n, n = ls.length := ⟨_, rfl⟩
  have hfin : F ls.flatten = C n := by rw [hC, hN]; simp only [List.take_length]
  have hgr := c_GrowI (S n) (by have := hSb n; omega)
  rw [hfin]
  obtain ⟨ys, hys⟩ : ∃ ys, ys = ls.map fun l => A.sl false 1 (F l) := ⟨_, rfl⟩
  have hyl : ys.length = ls.length := by rw [hys, List.length_map]
  rw [← hys]
  clear hfin hS hC hF
  have htab := tab
  refine PCtr.walk tab hΩ fn_slices_Concat_L_int64_int64 rfl ?_
  generalize PP = P at *
  cbv
  refine loopX htab hΩ (fun i : Nat => ⟨[(0, .sl false 1 ys), (3, i64 (Ω.int (S i))), (9, .sl false 1 ys), (10, i64 (Ω.int (Ω.len ys))), (11, i64 (Ω.int i))], 36, []⟩) (fun i => i ≤ n) (fun i => n - i) 0 (Nat.zero_le _)
    (Sbs.mk rfl rfl ⟨rfl, by rw [hS0]; exact zeroI hΩ, rfl, rfl, zeroI hΩ, trivial⟩) (fun i hi => ?_)
  cbv
  refine br (fun h => ?_) (fun h => ?_) <;> cbv
  · replace h := ltI hΩ h
    obtain ⟨c, hc⟩ := at_of (cs := ls) (by omega : i < _)
    have hadd : Ω.ar .add .i64 (Ω.int (S i)) (Ω.int (Ω.len (F c))) = Ω.int (S (i + 1)) := by
      have h1 := hSi i c hc
      have h2 := hSb (i + 1)
      rw [hlO, hlen]
      subst hΩ
      exact addF rfl (by show (S i : Int) + c.length = (S (i + 1) : Nat); omega) (by show _ ≤ ((S (i + 1) : Nat) : Int); omega) (by show ((S (i + 1) : Nat) : Int) ≤ _; omega)
    refine ⟨⟨nnI hΩ⟩, _, rdI hΩ hys hc, ?_⟩
    cbv
    refine br (fun h => ?_) (fun h => ?_)
    · exact absurd (show Ω.ar .add .i64 (Ω.int (S i)) (Ω.int (Ω.len (F c))) < 0 from ltZt hΩ h) (by rw [hadd]; subst hΩ; exact Int.not_lt.2 (Int.natCast_nonneg _))
    cbv
    exact ⟨i + 1, by omega, by omega, Sbs.mk rfl rfl ⟨rfl, congrArg i64 hadd, rfl, rfl, incI hΩ (by omega), trivial⟩⟩
  · replace h := geI hΩ h
    have hi : n = i := by omega
    subst hi
    refine call_pure hΩ 3 hgr rfl (fitsE (by subst hΩ; rfl)) rfl rfl ?_
    cbv
    refine loopX htab hΩ (fun i : Nat => ⟨[(6, .vw 0 0 (Ω.len (C i))), (25, .sl false 1 ys), (26, i64 (Ω.int (Ω.len ys))), (27, i64 (Ω.int i))], 36, [some ⟨1, C i, false⟩]⟩) (fun i => i ≤ n) (fun i => n - i) 0 (Nat.zero_le _)
      (Sbs.mk rfl (by rw [hC0]) ⟨by rw [hC0]; rfl, rfl, rfl, zeroI hΩ, trivial⟩) (fun i hi => ?_)
    have hlC : Ω.len (C i) = (C i).length := by subst hΩ; rfl
    have htk : Ω.take (Ω.len (C i)) (C i) = C i := takeAll hΩ _
    have hSbi := hSb i
    have hle : Ω.len (C i) ≤ (C i).length := by rw [hlC]; exact Nat.le_refl _
    cbv
    refine br (fun h => ?_) (fun h => ?_) <;> cbv
    · replace h := ltI hΩ h
      obtain ⟨c, hc⟩ := at_of (cs := ls) (by omega : i < _)
      have hn := hFn c
      have hcl := hs c (List.mem_of_getElem? hc)
      have hcl2 := hlen c
      have hCli := hCl i
      have hap : Ω.app (C i) (F c) = C (i + 1) := by rw [← hCi i c hc]; subst hΩ; rfl
      have hpl : Ω.plus (Ω.len (C i)) (Ω.len (F c)) = Ω.len (C (i + 1)) := by rw [← hCi i c hc]; subst hΩ; exact (List.length_append).symm
      refine ⟨⟨nnI hΩ⟩, _, rdI hΩ hys hc, ?_⟩
      cbv
      refine ⟨⟨hn.1, hn.2, by show (Ω.len (C i) + (F c).length) * 8 ≤ 140737488355328; omega, by show Ω.len (C i) + (F c).length ≤ 9223372036854775807; omega⟩, i + 1, by omega, by omega, Sbs.mk rfl (by show [some (Row.mk 1 (Ω.app (Ω.take (Ω.len (C i)) (C i)) (F c)) false)] = _; rw [htk, hap]) ⟨congrArg (A.vw 0 0) hpl, rfl, rfl, incI hΩ (by omega), trivial⟩⟩
    · replace h := geI hΩ h
      have hi : n = i := by omega
      subst hi
      exact ⟨⟨rfl, hle⟩, .of (congrArg (A.sl true 1) htk)⟩
end Go.Proofs.YtfmcncflooechaaGreat

/- The library's sort and compaction of strings, as contracts. Plain theorems. -/
set_option linter.unusedVariables false
set_option linter.unusedSimpArgs false
namespace Go.Proofs
open Go.Shelf
def Tryz.sortS_ren : Go.Shelf.Ren := ⟨fun | 6 => 120 | 8 => 106 | 9 => 156 | 19 => 142 | 20 => 143 | 21 => 173 | 22 => 174 | 23 => 175 | 24 => 176 | 25 => 177 | 26 => 178 | 27 => 179 | 28 => 180 | 29 => 181 | 36 => 186 | 31 => 165 | 32 => 166 | 37 => 187 | 38 => 188 | 39 => 189 | 41 => 192 | n => n, fun | 27 => 55 | 29 => 9 | 3 => 3 | 32 => 140 | 26 => 55 | 0 => 0 | 44 => 177 | 46 => 179 | 4 => 4 | 36 => 169 | 35 => 168 | 41 => 174 | 5 => 5 | 9 => 9 | 53 => 195 | 57 => 199 | 63 => 210 | 64 => 211 | n => n, fun | n => n⟩
theorem Tryz.sortS : Go.Proofs.SlLaysM.n6 Tryz.prog Tryz.sortS_ren where
  mixed := by kernel_rfl
  f6 := ⟨"slices.Sort[[]string,string]", by decide, Tryz.func120.trans (congrArg some (by kernel_rfl))⟩
  f8 := Tryz.func106.trans (congrArg some (by kernel_rfl))
  f9 := ⟨"slices.pdqsortOrdered[string]", by decide, Tryz.func156.trans (congrArg some (by kernel_rfl))⟩
  f19 := Tryz.func142.trans (congrArg some (by kernel_rfl))
  f20 := Tryz.func143.trans (congrArg some (by kernel_rfl))
  f21 := ⟨"slices.insertionSortOrdered[string]", by decide, Tryz.func173.trans (congrArg some (by kernel_rfl))⟩
  f22 := ⟨"slices.heapSortOrdered[string]", by decide, Tryz.func174.trans (congrArg some (by kernel_rfl))⟩
  f23 := ⟨"slices.breakPatternsOrdered[string]", by decide, Tryz.func175.trans (congrArg some (by kernel_rfl))⟩
  f24 := ⟨"slices.choosePivotOrdered[string]", by decide, Tryz.func176.trans (congrArg some (by kernel_rfl))⟩
  f25 := ⟨"slices.reverseRangeOrdered[string]", by decide, Tryz.func177.trans (congrArg some (by kernel_rfl))⟩
  f26 := ⟨"slices.partialInsertionSortOrdered[string]", by decide, Tryz.func178.trans (congrArg some (by kernel_rfl))⟩
  f27 := ⟨"cmp.Less[string]", by decide, Tryz.func179.trans (congrArg some (by kernel_rfl))⟩
  f28 := ⟨"slices.partitionEqualOrdered[string]", by decide, Tryz.func180.trans (congrArg some (by kernel_rfl))⟩
  f29 := ⟨"slices.partitionOrdered[string]", by decide, Tryz.func181.trans (congrArg some (by kernel_rfl))⟩
  f31 := Tryz.func165.trans (congrArg some (by kernel_rfl))
  f32 := Tryz.func166.trans (congrArg some (by kernel_rfl))
  f36 := ⟨"slices.siftDownOrdered[string]", by decide, Tryz.func186.trans (congrArg some (by kernel_rfl))⟩
  f37 := ⟨"slices.medianAdjacentOrdered[string]", by decide, Tryz.func187.trans (congrArg some (by kernel_rfl))⟩
  f38 := ⟨"slices.medianOrdered[string]", by decide, Tryz.func188.trans (congrArg some (by kernel_rfl))⟩
  f39 := ⟨"cmp.isNaN[string]", by decide, Tryz.func189.trans (congrArg some (by kernel_rfl))⟩
  f41 := ⟨"slices.order2Ordered[string]", by decide, Tryz.func192.trans (congrArg some (by kernel_rfl))⟩
  t0 := Tryz.underlying0
  a0 := Tryz.isAgg0
  z0 := Tryz.sizeOf0
  v0 := Tryz.zeroValue0
  t3 := Tryz.underlying3
  a3 := Tryz.isAgg3
  z3 := Tryz.sizeOf3
  v3 := Tryz.zeroValue3
  t4 := Tryz.underlying4
  a4 := Tryz.isAgg4
  z4 := Tryz.sizeOf4
  v4 := Tryz.zeroValue4
  t5 := Tryz.underlying5
  a5 := Tryz.isAgg5
  z5 := Tryz.sizeOf5
  v5 := Tryz.zeroValue5
  t9 := Tryz.underlying9
  a9 := Tryz.isAgg9
  z9 := Tryz.sizeOf9
  v9 := Tryz.zeroValue9
  t26 := Tryz.underlying55
  a26 := Tryz.isAgg55
  z26 := Tryz.sizeOf55
  v26 := Tryz.zeroValue55
  t27 := Tryz.underlying55
  a27 := Tryz.isAgg55
  z27 := Tryz.sizeOf55
  v27 := Tryz.zeroValue55
  t29 := Tryz.underlying9
  a29 := Tryz.isAgg9
  z29 := Tryz.sizeOf9
  v29 := Tryz.zeroValue9
  t32 := Tryz.underlying140
  a32 := Tryz.isAgg140
  z32 := Tryz.sizeOf140
  v32 := Tryz.zeroValue140
  t35 := Tryz.underlying168
  a35 := Tryz.isAgg168
  z35 := Tryz.sizeOf168
  v35 := Tryz.zeroValue168
  t36 := Tryz.underlying169
  a36 := Tryz.isAgg169
  z36 := Tryz.sizeOf169
  v36 := Tryz.zeroValue169
  t41 := Tryz.underlying174
  a41 := Tryz.isAgg174
  z41 := Tryz.sizeOf174
  v41 := Tryz.zeroValue174
  t44 := Tryz.underlying177
  a44 := Tryz.isAgg177
  z44 := Tryz.sizeOf177
  v44 := Tryz.zeroValue177
  t46 := Tryz.underlying179
  a46 := Tryz.isAgg179
  z46 := Tryz.sizeOf179
  v46 := Tryz.zeroValue179
  t53 := Tryz.underlying195
  a53 := Tryz.isAgg195
  z53 := Tryz.sizeOf195
  v53 := Tryz.zeroValue195
  t57 := Tryz.underlying199
  a57 := Tryz.isAgg199
  z57 := Tryz.sizeOf199
  v57 := Tryz.zeroValue199
  t63 := Tryz.underlying210
  a63 := Tryz.isAgg210
  z63 := Tryz.sizeOf210
  v63 := Tryz.zeroValue210
  t64 := Tryz.underlying211
  a64 := Tryz.isAgg211
  z64 := Tryz.sizeOf211
  v64 := Tryz.zeroValue211

def Tryz.compS_ren : Go.Shelf.Ren := ⟨fun | 44 => 121 | n => n, fun | 25 => 55 | 26 => 9 | 3 => 3 | 4 => 4 | 0 => 0 | n => n, fun | n => n⟩
theorem Tryz.compS : Go.Proofs.SlLaysN.n44 Tryz.prog Tryz.compS_ren where
  mixed := by kernel_rfl
  f44 := ⟨"slices.Compact[[]string,string]", by decide, Tryz.func121.trans (congrArg some (by kernel_rfl))⟩
  t0 := Tryz.underlying0
  a0 := Tryz.isAgg0
  z0 := Tryz.sizeOf0
  v0 := Tryz.zeroValue0
  t3 := Tryz.underlying3
  a3 := Tryz.isAgg3
  z3 := Tryz.sizeOf3
  v3 := Tryz.zeroValue3
  t4 := Tryz.underlying4
  a4 := Tryz.isAgg4
  z4 := Tryz.sizeOf4
  v4 := Tryz.zeroValue4
  t25 := Tryz.underlying55
  a25 := Tryz.isAgg55
  z25 := Tryz.sizeOf55
  v25 := Tryz.zeroValue55
  t26 := Tryz.underlying9
  a26 := Tryz.isAgg9
  z26 := Tryz.sizeOf9
  v26 := Tryz.zeroValue9
  i26 := by kernel_rfl

end Go.Proofs
namespace Go.Proofs.YtfmcncflooechaaGreat
open Go Go.Fw Go.Sort Go.Proofs
theorem relS : ∀ {xs : List (List UInt8)} {w : World} {G : Nat → Prop} {vs : List Value} {F : List Nat}, RelL w G (xs.map str) vs F → vs = xs.map encStr ∧ F = []
  | [], _, _, _, _, h => by cases h; exact ⟨rfl, rfl⟩
  | x :: xs, _, _, _, _, h => by
    cases h with
    | cons h hl =>
      obtain ⟨rfl, rfl⟩ := relS hl
      cases h
      exact ⟨rfl, rfl⟩
theorem ofS {w : World} {G : Nat → Prop} : ∀ (xs : List (List UInt8)), RelL w G (xs.map str) (xs.map encStr) []
  | [] => .nil
  | x :: xs => .cons (F := []) (Fs := []) (.sc rfl) (ofS xs)
theorem flatS (xs : List (List UInt8)) : flat (xs.map str) = xs.map str := by
  induction xs with
  | nil => rfl
  | cons x xs ih => simp only [flat, List.map_cons, List.flatMap_cons] at *; rw [ih]; rfl
/-- The texts in order. -/
def sortS (xs : List (List UInt8)) : List (List UInt8) := xs.mergeSort fun x y => decide (x ≤ y)
theorem c_SortS (xs : List (List UInt8)) (hb : xs.length ≤ 4194304) : MCtr PP n_slices_Sort_L_string_string [.sl true 1 (xs.map str)] (.tup []) [.sl true 1 ((sortS xs).map str)] := by
  have hlen : (sortS xs).length = xs.length := List.length_mergeSort _
  refine ⟨fn_slices_Sort_L_string_string.1, fun w G vs F hG hnd hF hl => ?_⟩
  cases hl with
  | cons h hl =>
    cases hl
    rw [List.append_nil] at *
    generalize hys : xs.map str = ys at h
    cases h with
    | nils =>
      have h0 : xs = [] := by cases xs with
        | nil => rfl
        | cons a b => cases hys
      subst h0
      refine Calls.mono (AnyM.slices_Sort_string_none Tryz.sortS none 0 w) ?_
      rintro e w' ⟨rfl, rfl⟩
      exact ⟨_, [], [], rfl, ⟨rfl, rfl, rfl, Nat.le_refl _, fun _ _ _ => rfl⟩, List.nodup_nil, by simp, .tup .nil, .cons (F := []) (Fs := []) (by rw [show (sortS []).map str = [] by simp [sortS]]; exact .nils) .nil⟩
    | ow hh hw hlen1 hc hl hcap hm hs hv =>
      rename_i b len cap cur e cs F
      subst hys
      rw [flatS] at hl
      obtain ⟨rfl, rfl⟩ := relS hl
      have hl2 : len = xs.length := by rw [hlen1, List.length_map]
      subst hl2
      rw [Nat.mul_one] at hc
      have hH : Holds encStr w b 0 xs.toArray := holds_of_block hh hc.symm
      have hblk : b < w.heap.size := (Array.getElem?_eq_some_iff.1 hh).1
      refine Calls.mono (AnyM.slices_Sort_string Tryz.sortS b 0 cap xs w hH hblk (by omega)) ?_
      rintro e' w' ⟨rfl, n, os, rfl⟩
      have hgr := grownBy_sorted (w := w) (g := b) (n := n) (os := os) (sortS xs).toArray
      have hhp := heap_sorted (n := n) (os := os) (sortS xs).toArray hh
      have hcur : xs.length ≤ cur.size := by rw [hs]; omega
      have htk := take_putCells cur (sortS xs) (by rw [hlen]; exact hcur)
      have hcap' : cur.size = cap := by rw [hs, Nat.mul_one]
      refine ⟨_, [], [b], rfl, ⟨hgr.os, hgr.tape, hgr.output, hgr.size, fun k hk hkF => hgr.block k hk (by simpa using hkF)⟩, by simp, by simp, .tup .nil, ?_⟩
      refine .cons (F := [b]) (Fs := []) (.ow (F := []) hhp ?_ ?_ rfl ?_ hcap hm ?_ ?_) .nil
      · intro x hx; obtain ⟨k, _, rfl⟩ := List.mem_map.1 hx; rfl
      · rw [List.length_map, hlen]
      · rw [flatS, Nat.mul_one, ← hlen, htk]; exact ofS _
      · simp [putCells, hcap']
      · intro v hv
        rw [Nat.mul_one, ← hlen, htk] at hv
        obtain ⟨k, _, rfl⟩ := List.mem_map.1 hv; rfl
/-- Each text once. -/
def compS (xs : List (List UInt8)) : List (List UInt8) := Lib.compact xs
theorem compS_len (xs : List (List UInt8)) : (compS xs).length ≤ xs.length := by
  unfold compS Lib.compact Lib.compactUpTo
  rw [List.length_map]
  exact Nat.le_trans (List.length_filter_le _ _) (by simp)
theorem c_CompactS (xs : List (List UInt8)) (hb : xs.length ≤ 4194304) : ECtr PP n_slices_Compact_L_string_string [.sl true 1 (xs.map str)] (.sl true 1 ((compS xs).map str)) := by
  have hlen := compS_len xs
  refine ⟨fn_slices_Compact_L_string_string.1, fun w G vs F hG hnd hF hl => ?_⟩
  cases hl with
  | cons h hl =>
    cases hl
    rw [List.append_nil] at *
    generalize hys : xs.map str = ys at h
    cases h with
    | nils =>
      have h0 : xs = [] := by cases xs with
        | nil => rfl
        | cons a b => cases hys
      subst h0
      refine Calls.mono (AnyG.slices_Compact_string_empty Tryz.compS none 0 w) ?_
      rintro e w' ⟨rfl, rfl⟩
      exact ⟨_, [], rfl, ⟨rfl, rfl, rfl, Nat.le_refl _, fun _ _ _ => rfl⟩, List.nodup_nil, by simp, by rw [show (compS []).map str = [] by rfl]; exact .nils⟩
    | ow hh hw hlen1 hc hl hcap hm hs hv =>
      rename_i b len cap cur e cs F
      subst hys
      rw [flatS] at hl
      obtain ⟨rfl, rfl⟩ := relS hl
      have hl2 : len = xs.length := by rw [hlen1, List.length_map]
      subst hl2
      rw [Nat.mul_one] at hc
      have hH : Holds encStr w b 0 xs.toArray := holds_of_block hh hc.symm
      have hblk : b < w.heap.size := (Array.getElem?_eq_some_iff.1 hh).1
      refine Calls.mono (AnyG.slices_Compact_string Tryz.compS b 0 cap xs w hH (by omega) hcap) ?_
      rintro e' w' ⟨rfl, n, rfl⟩
      obtain ⟨zs, hzs⟩ : ∃ zs, zs = compS xs ++ List.replicate (xs.length - (compS xs).length) [] := ⟨_, rfl⟩
      have hzl : zs.length = xs.length := by rw [hzs, List.length_append, List.length_replicate]; omega
      have e0 : grow (putRow encStr (Sort.ahead w n) b 0 zs.toArray) #[] = putRow encStr (Sort.ahead w n) b 0 zs.toArray := by simp [grow]; rfl
      have hgr := grownBy_sorted (w := w) (g := b) (n := n) (os := #[]) zs.toArray
      have hhp := heap_sorted (n := n) (os := #[]) zs.toArray hh
      have hcur : xs.length ≤ cur.size := by rw [hs]; omega
      have htk := take_putCells cur zs (by omega)
      have htk2 : (putCells encStr 0 zs.toArray cur).toList.take (compS xs).length = (compS xs).map encStr := by
        have := congrArg (List.take (compS xs).length) htk
        rw [List.take_take, Nat.min_eq_left (by omega)] at this
        rw [this, hzs, List.map_append, List.take_append_of_le_length (by simp), List.take_of_length_le (by simp)]
      have hcap' : cur.size = cap := by rw [hs, Nat.mul_one]
      rw [e0] at hgr hhp
      unfold compS at hzs
      rw [← hzs]
      refine ⟨_, [b], rfl, ⟨hgr.os, hgr.tape, hgr.output, hgr.size, fun k hk hkF => hgr.block k hk (by simpa using hkF)⟩, by simp, by simp, ?_⟩
      refine .ow (F := []) hhp ?_ ?_ rfl ?_ (by show (compS xs).length ≤ cap; omega) hm ?_ ?_
      · intro x hx; obtain ⟨k, _, rfl⟩ := List.mem_map.1 hx; rfl
      · rw [List.length_map]; rfl
      · rw [flatS, Nat.mul_one]; show RelL _ _ _ (List.take (compS xs).length _) _; rw [htk2]; exact ofS _
      · simp [putCells, hcap']
      · intro v hv
        rw [Nat.mul_one] at hv
        have hv : v ∈ (putCells encStr 0 zs.toArray cur).toList.take (compS xs).length := hv
        rw [htk2] at hv
        obtain ⟨k, _, rfl⟩ := List.mem_map.1 hv; rfl
end Go.Proofs.YtfmcncflooechaaGreat

/- Walks: a name put into names that are in order. Plain theorems. -/
set_option linter.unusedVariables false
set_option linter.unusedSimpArgs false
namespace Go.Proofs.YtfmcncflooechaaGreat
open Go Go.Fw Go.Sort
set_option maxRecDepth 100000
/-- How l5Put goes on: what is there, is v in it, what is left. -/
def putGo (v : List UInt8) (l : List (List UInt8)) : List (List UInt8) → Bool → List (List UInt8) → List (List UInt8)
  | o, d, [] => if d then o else o ++ [v]
  | o, d, x :: xs => if x = v then l else if v < x ∧ d = false then putGo v l (o ++ [v] ++ [x]) true xs else putGo v l (o ++ [x]) d xs
def put5 (v : List UInt8) (l : List (List UInt8)) : List (List UInt8) := putGo v l [] false l
theorem putGo_at {v : List UInt8} {l o : List (List UInt8)} {d : Bool} {i : Nat} {x : List UInt8} {xs : List (List UInt8)} (h : xs[i]? = some x) :
    putGo v l o d (xs.drop i) = if x = v then l else if v < x ∧ d = false then putGo v l (o ++ [v] ++ [x]) true (xs.drop (i + 1)) else putGo v l (o ++ [x]) d (xs.drop (i + 1)) := by
  obtain ⟨h1, h2⟩ := List.getElem?_eq_some_iff.1 h
  rw [List.drop_eq_getElem_cons h1, h2, putGo]
theorem eqSt {Ω : Opq} (hΩ : Ω = std) {x y : List UInt8} (h : Ω.cmpS .eql x y = true) : x = y := by subst hΩ; exact of_decide_eq_true ((by simpa [cmpSS] using (show cmpSS .eql x y = true from h)))
theorem eqSf {Ω : Opq} (hΩ : Ω = std) {x y : List UInt8} (h : Ω.cmpS .eql x y = false) : x ≠ y := by subst hΩ; exact fun e => by subst e; have h : cmpSS .eql x x = false := h; simp [cmpSS] at h
theorem gtSB {Ω : Opq} (hΩ : Ω = std) (x y : List UInt8) : Ω.cmpS .gtr x y = decide (y < x) := by
  subst hΩ
  show (!(Op.bytesLess x y || x == y)) = _
  rw [bytesLess_eq, Bool.eq_iff_iff]
  simp only [Bool.not_eq_true', Bool.or_eq_false_iff, decide_eq_false_iff_not, beq_eq_false_iff_ne, decide_eq_true_eq]
  constructor
  · rintro ⟨h1, h2⟩
    exact (List.le_iff_lt_or_eq.1 (List.not_lt.1 h1)).resolve_right fun e => h2 e.symm
  · intro h
    exact ⟨List.not_lt.2 (List.le_iff_lt_or_eq.2 (.inl h)), fun e => by subst e; exact List.lt_irrefl _ h⟩
theorem c_l5Put (l : List (List UInt8)) (v : List UInt8) (hl : l.length ≤ 1048576) : PCtr PP n_spec_l5Put [.sl false 1 (l.map str), str v] (.sl false 1 ((put5 v l).map str)) := by
  obtain ⟨Ω, hΩ⟩ : ∃ Ω, Ω = std := ⟨_, rfl⟩
  obtain ⟨F, hF⟩ : ∃ F : List (List UInt8) → List A, F = fun l => l.map str := ⟨_, rfl⟩
  have hFm : ∀ t : List (List UInt8), t.map str = F t := fun t => by rw [hF]
  have hFz : ∀ t, (F t).map frz = F t := fun t => by rw [hF]; exact frz_S t
  have hlen : ∀ t, (F t).length = t.length := fun t => by rw [hF, List.length_map]
  have hap : ∀ t x, Ω.app (Ω.take (Ω.len (F t)) (F t)) [str x] = F (t ++ [x]) := fun t x => by rw [takeAll hΩ, ← hFm, ← hFm, List.map_append]; subst hΩ; rfl
  have hpl : ∀ t x, Ω.plus (Ω.len (F t)) (Ω.len [str x]) = Ω.len (F (t ++ [x])) := fun t x => by rw [← hap, takeAll hΩ]; subst hΩ; exact (List.length_append).symm
  have hF0 : F [] = [] := by rw [hF]; rfl
  rw [hFm, hFm]
  obtain ⟨r, hr⟩ : ∃ r, r = put5 v l := ⟨_, rfl⟩
  rw [← hr]
  suffices h : RCtr PP n_spec_l5Put [.sl false 1 (F l), str v] fun x => ∃ o, x = .sl o 1 (F r) from RCtr.p (h.frz.mono fun x ⟨y, ⟨o, ho⟩, hx⟩ => by rw [hx, ho, frz_sl, hFz])
  obtain ⟨xs, hxs⟩ : ∃ xs, xs = l.map str := ⟨_, rfl⟩
  have hxl : xs.length = l.length := by rw [hxs, List.length_map]
  rw [← hFm l, ← hxs]
  have htab := tab
  refine RCtr.walk tab hΩ fn_spec_l5Put rfl ?_
  generalize PP = P at *
  cbv
  refine loopX htab hΩ (fun i : Nat × List (List UInt8) × Bool => ⟨[(0, .sl false 1 xs), (1, str v), (5, .vw 0 0 (Ω.len (F i.2.1))), (6, boo i.2.2), (7, i64 (Ω.int i.1))], 50, [some ⟨1, F i.2.1, false⟩]⟩)
    (fun i => i.1 ≤ l.length ∧ i.2.1.length ≤ i.1 + (if i.2.2 then 1 else 0) ∧ r = putGo v l i.2.1 i.2.2 (l.drop i.1)) (fun i => l.length - i.1) (0, [], false) ⟨Nat.zero_le _, Nat.zero_le _, hr⟩
    (Sbs.mk rfl (by dsimp only; rw [hF0]) ⟨rfl, rfl, by dsimp only; rw [hF0]; subst hΩ; rfl, rfl, zeroI hΩ, trivial⟩) ?_
  rintro ⟨i, o, d⟩ ⟨hi, ho, he⟩
  dsimp only at hi ho he
  have hol := hlen o
  have hlo : Ω.len (F o) = (F o).length := by subst hΩ; rfl
  have hle : Ω.len (F o) ≤ (F o).length := by rw [hlo]; exact Nat.le_refl _
  have htk : Ω.take (Ω.len (F o)) (F o) = F o := takeAll hΩ _
  have hob : o.length ≤ 1048577 := by split at ho <;> omega
  have rest : ∀ {X Y : Prop}, X → Y → X ∧ Y := fun h h' => ⟨h, h'⟩
  cbv
  refine br (fun h => ?_) (fun h => ?_) <;> cbv
  · replace h := ltI hΩ h
    obtain ⟨x, hx⟩ := at_of (cs := l) (by omega : i < l.length)
    rw [putGo_at hx] at he
    have hgt := gtSB hΩ x v
    have hap2 := hap (o ++ [v]) x
    have hpl2 := hpl (o ++ [v]) x
    have hap1 := hap o v
    have hpl1 := hpl o v
    have hap0 := hap o x
    have hpl0 := hpl o x
    refine ⟨⟨nnI hΩ⟩, _, rdI hΩ hxs hx, ?_⟩
    cbv
    refine br (fun g => ?_) (fun g => ?_) <;> cbv
    · have g := eqSt hΩ g
      exact ⟨_, ⟨false, rfl⟩, .of (congrArg (A.sl false 1) (by rw [he, if_pos g, hxs, hFm]))⟩
    have g := eqSf hΩ g
    rw [if_neg g] at he
    refine ⟨⟨nnI hΩ⟩, _, rdI hΩ hxs hx, ?_⟩
    cbv
    refine br (fun k => ?_) (fun k => ?_) <;> cbv
    · have k : v < x := by have k : Ω.cmpS .gtr x v = true := k; rw [hgt] at k; exact of_decide_eq_true k
      refine br (fun q => ?_) (fun q => ?_) <;> cbv
      · have q : d = false := notA hΩ (iteA hΩ q)
        rw [if_pos ⟨k, q⟩] at he
        rw [if_neg (by rw [q]; simp)] at ho
        refine ⟨⟨rfl, okAll rfl, by show (Ω.len (F o) + 1) * 16 ≤ 140737488355328; omega, by show Ω.len (F o) + 1 ≤ 9223372036854775807; omega⟩, ?_⟩
        cbv
        refine ⟨⟨nnI hΩ⟩, _, rdI hΩ hxs hx, ?_⟩
        cbv
        have hlv := hlen (o ++ [v])
        rw [List.length_append, List.length_singleton] at hlv
        refine ⟨⟨rfl, okAll rfl, by show (Ω.plus (Ω.len (F o)) (Ω.len [str v]) + 1) * 16 ≤ 140737488355328; rw [hpl1]; subst hΩ; show ((F (o ++ [v])).length + 1) * 16 ≤ _; omega, by show Ω.plus (Ω.len (F o)) (Ω.len [str v]) + 1 ≤ 9223372036854775807; rw [hpl1]; subst hΩ; show (F (o ++ [v])).length + 1 ≤ _; omega⟩,
          (i + 1, o ++ [v] ++ [x], true), ⟨by dsimp only; omega, by simp; omega, he⟩, by dsimp only; omega, (Sbs.cut 1 rfl).trans (Sbs.mk rfl ?_ ⟨rfl, rfl, ?_, rfl, incI hΩ (by omega), trivial⟩)⟩
        · show [some (Row.mk 1 (Ω.app (Ω.take (Ω.plus (Ω.len (F o)) (Ω.len [str v])) (Ω.app (Ω.take (Ω.len (F o)) (F o)) [str v])) [str x]) false)] = _
          rw [hap1, hpl1, hap2]
        · show A.vw 0 0 (Ω.plus (Ω.plus (Ω.len (F o)) (Ω.len [str v])) (Ω.len [str x])) = _
          rw [hpl1, hpl2]
      · have q : d = true := notB hΩ (iteA hΩ q)
        rw [if_neg (by rw [q]; simp)] at he
        rw [if_pos q] at ho
        refine ⟨⟨nnI hΩ⟩, _, rdI hΩ hxs hx, ?_⟩
        cbv
        refine ⟨⟨rfl, okAll rfl, by show (Ω.len (F o) + 1) * 16 ≤ 140737488355328; omega, by show Ω.len (F o) + 1 ≤ 9223372036854775807; omega⟩,
          (i + 1, o ++ [x], d), ⟨by dsimp only; omega, by simp [q]; omega, he⟩, by dsimp only; omega, (Sbs.cut 1 rfl).trans (Sbs.mk rfl (by show [some (Row.mk 1 (Ω.app (Ω.take (Ω.len (F o)) (F o)) [str x]) false)] = _; rw [hap0]) ⟨rfl, rfl, congrArg (A.vw 0 0) hpl0, rfl, incI hΩ (by omega), trivial⟩)⟩
    · have k : ¬ v < x := by have k : Ω.cmpS .gtr x v = false := k; rw [hgt] at k; exact of_decide_eq_false k
      rw [if_neg (fun h => k h.1)] at he
      refine ⟨⟨nnI hΩ⟩, _, rdI hΩ hxs hx, ?_⟩
      cbv
      refine ⟨⟨rfl, okAll rfl, by show (Ω.len (F o) + 1) * 16 ≤ 140737488355328; omega, by show Ω.len (F o) + 1 ≤ 9223372036854775807; omega⟩,
        (i + 1, o ++ [x], d), ⟨by dsimp only; omega, by simp; omega, he⟩, by dsimp only; omega, (Sbs.cut 1 rfl).trans (Sbs.mk rfl (by show [some (Row.mk 1 (Ω.app (Ω.take (Ω.len (F o)) (F o)) [str x]) false)] = _; rw [hap0]) ⟨rfl, rfl, congrArg (A.vw 0 0) hpl0, rfl, incI hΩ (by omega), trivial⟩)⟩
  · replace h := geI hΩ h
    rw [List.drop_of_length_le (by omega), putGo] at he
    have hap1 := hap o v
    have hpl1 := hpl o v
    refine br (fun q => ?_) (fun q => ?_) <;> cbv
    · rw [if_neg (by rw [notA hΩ q]; simp)] at he
      refine ⟨⟨rfl, okAll rfl, by show (Ω.len (F o) + 1) * 16 ≤ 140737488355328; omega, by show Ω.len (F o) + 1 ≤ 9223372036854775807; omega⟩, _, ⟨true, rfl⟩, ⟨rfl, ?_⟩, .of ?_⟩
      · show Ω.plus (Ω.len (F o)) (Ω.len [str v]) ≤ (Ω.app (Ω.take (Ω.len (F o)) (F o)) [str v]).length
        rw [hap1, hpl1]; subst hΩ; exact Nat.le_refl _
      · show A.sl true 1 (Ω.take (Ω.plus (Ω.len (F o)) (Ω.len [str v])) (Ω.app (Ω.take (Ω.len (F o)) (F o)) [str v])) = _
        rw [hap1, hpl1, takeAll hΩ, he]
    · rw [if_pos (notB hΩ q)] at he
      exact ⟨_, ⟨true, rfl⟩, ⟨rfl, hle⟩, .of (by rw [he]; exact congrArg (A.sl true 1) htk)⟩
end Go.Proofs.YtfmcncflooechaaGreat

/- Walks: draws of numbers. Plain theorems. -/
set_option linter.unusedVariables false
set_option linter.unusedSimpArgs false
namespace Go.Proofs.YtfmcncflooechaaGreat
open Go Go.Fw
set_option maxRecDepth 100000
/-- The bytes that are read, and how many were. -/
def src (bs : List A) (p : Int) : A := .bx [.sl false 1 bs, i64 p]
structure Src (bs : List A) : Prop where
  len : bs.length ≤ 1048576
  byte : ∀ i, i < bs.length → ∃ c : UInt8, bs[i]? = some (.sc (.int .u8 (c.toNat : Int)))
theorem Src.fn {bs : List A} (h : Src bs) : ∃ f : Nat → Int, (∀ i, i < bs.length → bs[i]? = some (.sc (.int .u8 (f i)))) ∧ ∀ i, 0 ≤ f i ∧ f i ≤ 255 := by
  have : ∀ i, ∃ x : Int, (i < bs.length → bs[i]? = some (.sc (.int .u8 x))) ∧ 0 ≤ x ∧ x ≤ 255 := fun i => by
    by_cases hi : i < bs.length
    · obtain ⟨c, hc⟩ := h.byte i hi
      refine ⟨c.toNat, fun _ => hc, Int.natCast_nonneg _, ?_⟩
      have := c.toNat_lt
      omega
    · exact ⟨0, fun h => absurd h hi, by omega, by omega⟩
  exact ⟨fun i => (this i).choose, fun i hi => (this i).choose_spec.1 hi, fun i => (this i).choose_spec.2⟩
end Go.Proofs.YtfmcncflooechaaGreat

/- Walks: draws of packages. Plain theorems. -/
set_option linter.unusedVariables false
set_option linter.unusedSimpArgs false
namespace Go.Proofs.YtfmcncflooechaaGreat
open Go Go.Fw
set_option maxRecDepth 100000
structure Pck.Tiny (o : Pck) : Prop where
  p : o.p.length ≤ 8
  d : o.d.length ≤ 8
  b : o.b.length ≤ 8
  e : ∀ l ∈ o.d, l.length ≤ 8
structure Pck.Tiny2 (o : Pck) : Prop where
  p : o.p.length ≤ 16
  d : o.d.length ≤ 16
  b : o.b.length ≤ 16
  e : ∀ l ∈ o.d, l.length ≤ 16
theorem Pck.Tiny.two {o : Pck} (h : o.Tiny) : o.Tiny2 := ⟨by have := h.p; omega, by have := h.d; omega, by have := h.b; omega, fun l hl => by have := h.e l hl; omega⟩
end Go.Proofs.YtfmcncflooechaaGreat

/- Walks: faults of a set. Plain theorems. -/
set_option linter.unusedVariables false
set_option linter.unusedSimpArgs false
namespace Go.Proofs.YtfmcncflooechaaGreat
open Go Go.Fw
set_option maxRecDepth 100000
structure Flt where
  k : Int
  p : Int
  a : Int
def Flt.enc (f : Flt) : A := .agg [i64 f.k, i64 f.p, i64 f.a]
def twB (c : List Pck) (s : List Int) (i : Nat) (n : List UInt8) : Bool := (s.take i).any fun j => (pk c j).n == n
/-- The place of the package of a name. -/
def nmF (c : List Pck) (n : List UInt8) : List Int → Int
  | [] => -1
  | k :: ks => if (pk c k).n == n then k else nmF c n ks
theorem nmF_at {c : List Pck} {n : List UInt8} {l : List Int} {i : Nat} {k : Int} (h : l[i]? = some k) : nmF c n (l.drop i) = if (pk c k).n == n then k else nmF c n (l.drop (i + 1)) := by
  obtain ⟨h1, h2⟩ := List.getElem?_eq_some_iff.1 h
  rw [List.drop_eq_getElem_cons h1, h2, nmF]
theorem nmF_any {c : List Pck} {n : List UInt8} : ∀ {l : List Int}, (∀ k ∈ l, 0 ≤ k) → (decide (0 ≤ nmF c n l)) = l.any fun j => (pk c j).n == n
  | [], _ => rfl
  | k :: l, h => by
    have ih := nmF_any (c := c) (n := n) (l := l) fun x hx => h x (by simp [hx])
    rw [nmF, List.any_cons]
    by_cases hb : ((pk c k).n == n) = true
    · rw [if_pos hb, hb, Bool.true_or]; exact decide_eq_true (h k (by simp))
    · rw [if_neg hb, ih, Bool.eq_false_iff.2 hb, Bool.false_or]
theorem c_named (l : List Pck) (s : List Int) (n : List UInt8) (hl : l.length ≤ 1048576) (hs : s.length ≤ 1048576) (hk : ∀ k ∈ s, inB k 0 ((l.length : Int) - 1) = true) : PCtr PP n_impl_named [encP l, .sl false 1 (s.map i64), str n] (i64 (nmF l n s)) := by
  obtain ⟨Ω, hΩ⟩ : ∃ Ω, Ω = std := ⟨_, rfl⟩
  obtain ⟨r, hr⟩ : ∃ r, r = nmF l n s := ⟨_, rfl⟩
  rw [← hr]
  have hat : ∀ k, inB k 0 ((l.length : Int) - 1) = true → 0 ≤ k ∧ ∃ v1 v2 v3 sz ps ds bs, (l.map (Pck.enc false))[k.toNat]? = some (.agg [str (pk l k).n, i64 v1, i64 v2, i64 v3, i64 sz, .sl false 1 ps, .sl false 1 ds, .sl false 7 bs]) ∧ pk l k ∈ l ∧
      Pck.enc false (pk l k) = .agg [str (pk l k).n, i64 v1, i64 v2, i64 v3, i64 sz, .sl false 1 ps, .sl false 1 ds, .sl false 7 bs] ∧ ds = (pk l k).d.map (encTs false) ∧ bs = (pk l k).b.map Trm.enc := fun k h => by
    obtain ⟨h0, h1, h2, h3⟩ := pk_at h
    obtain ⟨ps, ds, bs, hen, hp, hd, hb⟩ := enc_raw (pk l k)
    exact ⟨h0, _, _, _, _, ps, ds, bs, by rw [List.getElem?_map, h2]; exact congrArg some hen, h3, hen, hd, hb⟩
  obtain ⟨ys, hys⟩ : ∃ ys, ys = s.map i64 := ⟨_, rfl⟩
  have hylen : ys.length = s.length := by rw [hys, List.length_map]
  unfold encP at *
  rw [← hys]
  generalize l.map (Pck.enc false) = xs at *
  have htab := tab
  have hmo := hmo
  refine PCtr.walk tab hΩ fn_impl_named rfl ?_
  generalize PP = P at *
  cbv
  refine loopX htab hΩ (fun i : Nat => ⟨[(0, .sl false 8 xs), (2, .sc (.string (mkS n))), (9, .sl false 1 ys), (10, .sc (.int .i64 (Ω.int (Ω.len ys)))), (11, .sc (.int .i64 (Ω.int i)))], 24, []⟩) (fun i => i ≤ s.length ∧ r = nmF l n (s.drop i)) (fun i => s.length - i) 0
    ⟨Nat.zero_le _, hr⟩ (Sbs.mk rfl rfl ⟨rfl, rfl, rfl, rfl, zeroI hΩ, trivial⟩) ?_
  rintro i ⟨hi, he⟩
  cbv
  refine br (fun h => ?_) (fun h => ?_) <;> cbv
  · replace h := ltI hΩ h
    obtain ⟨c, hcc⟩ := at_of (cs := s) (by omega : i < s.length)
    rw [nmF_at hcc] at he
    obtain ⟨hc0, v1, v2, v3, sz, ps, ds, bs, hx, -, -, -⟩ := hat c (hk c (List.mem_of_getElem? hcc))
    generalize (pk l c).n = nn at hx he
    refine ⟨⟨nnI hΩ⟩, _, rdI hΩ hys hcc, ?_⟩
    cbv
    refine ⟨⟨hc0⟩, _, hx, ?_⟩
    cbv
    refine br (fun g => ?_) (fun g => ?_) <;> cbv
    · exact .of (congrArg i64 (by rw [he, if_pos (by subst hΩ; exact g)]))
    · rw [if_neg (by subst hΩ; rw [show (nn == n) = false from g]; simp)] at he
      exact ⟨i + 1, ⟨by omega, he⟩, by omega, Sbs.mk rfl rfl ⟨rfl, rfl, rfl, rfl, incI hΩ (by omega), trivial⟩⟩
  · replace h := geI hΩ h
    exact .of (congrArg i64 (by rw [he, List.drop_of_length_le (by omega)]; rfl))
end Go.Proofs.YtfmcncflooechaaGreat

/- Walks: the reference's solver, as far as draws ask for it. Plain theorems. -/
set_option linter.unusedVariables false
set_option linter.unusedSimpArgs false
namespace Go.Proofs.YtfmcncflooechaaGreat
open Go Go.Fw
set_option maxRecDepth 100000
/-- A number put into a rising list. -/
def put3 (v : Int) : List Int → List Int
  | [] => [v]
  | x :: xs => if v < x then v :: x :: xs else x :: put3 v xs
end Go.Proofs.YtfmcncflooechaaGreat

/- Walks: names in a set, sets without a place; what they say of plain data. Plain theorems. -/
set_option linter.unusedVariables false
set_option linter.unusedSimpArgs false
namespace Go.Proofs.YtfmcncflooechaaGreat
open Go Go.Fw
set_option maxRecDepth 100000
theorem c_l5One (l : List Pck) (s : List Int) (n : List UInt8) (hl : l.length ≤ 1048576) (hs : s.length ≤ 1048576) (hk : ∀ k ∈ s, inB k 0 ((l.length : Int) - 1) = true) : PCtr PP n_spec_l5One [encP l, .sl false 1 (s.map i64), str n] (i64 (nmF l n s)) := by
  obtain ⟨Ω, hΩ⟩ : ∃ Ω, Ω = std := ⟨_, rfl⟩
  obtain ⟨r, hr⟩ : ∃ r, r = nmF l n s := ⟨_, rfl⟩
  rw [← hr]
  have hat : ∀ k, inB k 0 ((l.length : Int) - 1) = true → 0 ≤ k ∧ ∃ v1 v2 v3 sz ps ds bs, (l.map (Pck.enc false))[k.toNat]? = some (.agg [str (pk l k).n, i64 v1, i64 v2, i64 v3, i64 sz, .sl false 1 ps, .sl false 1 ds, .sl false 7 bs]) := fun k h => by
    obtain ⟨h0, h1, h2, h3⟩ := pk_at h
    obtain ⟨ps, ds, bs, hen, hp, hd, hb⟩ := enc_raw (pk l k)
    exact ⟨h0, _, _, _, _, ps, ds, bs, by rw [List.getElem?_map, h2]; exact congrArg some hen⟩
  obtain ⟨ys, hys⟩ : ∃ ys, ys = s.map i64 := ⟨_, rfl⟩
  have hylen : ys.length = s.length := by rw [hys, List.length_map]
  unfold encP at *
  rw [← hys]
  generalize l.map (Pck.enc false) = xs at *
  have htab := tab
  have hmo := hmo
  refine PCtr.walk tab hΩ fn_spec_l5One rfl ?_
  generalize PP = P at *
  cbv
  refine loopX htab hΩ (fun i : Nat => ⟨[(0, .sl false 8 xs), (1, .sl false 1 ys), (2, .sc (.string (mkS n))), (7, .sc (.int .i64 (Ω.int i)))], 28, []⟩) (fun i => i ≤ s.length ∧ r = nmF l n (s.drop i)) (fun i => s.length - i) 0
    ⟨Nat.zero_le _, hr⟩ (Sbs.mk rfl rfl ⟨rfl, rfl, rfl, zeroI hΩ, trivial⟩) ?_
  rintro i ⟨hi, he⟩
  cbv
  refine br (fun h => ?_) (fun h => ?_) <;> cbv
  · replace h := ltI hΩ h
    obtain ⟨c, hcc⟩ := at_of (cs := s) (by omega : i < s.length)
    rw [nmF_at hcc] at he
    obtain ⟨hc0, v1, v2, v3, sz, ps, ds, bs, hx⟩ := hat c (hk c (List.mem_of_getElem? hcc))
    generalize (pk l c).n = nn at hx he
    refine ⟨⟨nnI hΩ⟩, _, rdI hΩ hys hcc, ?_⟩
    cbv
    refine ⟨⟨hc0⟩, _, hx, ?_⟩
    cbv
    refine br (fun g => ?_) (fun g => ?_) <;> cbv
    · refine ⟨⟨nnI hΩ⟩, _, rdI hΩ hys hcc, ?_⟩
      cbv
      exact .of (congrArg i64 (by rw [he, if_pos (by subst hΩ; exact g)]))
    · rw [if_neg (by subst hΩ; rw [show (nn == n) = false from g]; simp)] at he
      exact ⟨i + 1, ⟨by omega, he⟩, by omega, Sbs.mk rfl rfl ⟨rfl, rfl, rfl, incI hΩ (by omega), trivial⟩⟩
  · replace h := geI hΩ h
    exact .of (congrArg i64 (by rw [he, List.drop_of_length_le (by omega)]; rfl))
/-- Is a name borne twice? -/
def twice (c : List Pck) (s : List Int) : Nat → List Int → Bool
  | _, [] => false
  | i, k :: ks => twB c s i (pk c k).n || twice c s (i + 1) ks
theorem twice_at {c : List Pck} {s : List Int} {l : List Int} {i : Nat} {k : Int} {j : Nat} (h : l[i]? = some k) : twice c s j (l.drop i) = (twB c s j (pk c k).n || twice c s (j + 1) (l.drop (i + 1))) := by
  obtain ⟨h1, h2⟩ := List.getElem?_eq_some_iff.1 h
  rw [List.drop_eq_getElem_cons h1, h2, twice]
theorem c_isTwice (l : List Pck) (s : List Int) (hl : l.length ≤ 1048576) (hs : s.length ≤ 1048576) (hk : ∀ k ∈ s, inB k 0 ((l.length : Int) - 1) = true) : PCtr PP n_impl_isTwice [encP l, .sl false 1 (s.map i64)] (boo (twice l s 0 s)) := by
  obtain ⟨Ω, hΩ⟩ : ∃ Ω, Ω = std := ⟨_, rfl⟩
  obtain ⟨r, hr⟩ : ∃ r, r = twice l s 0 s := ⟨_, rfl⟩
  rw [← hr]
  have hat : ∀ k, inB k 0 ((l.length : Int) - 1) = true → 0 ≤ k ∧ ∃ v1 v2 v3 sz ps ds bs, (l.map (Pck.enc false))[k.toNat]? = some (.agg [str (pk l k).n, i64 v1, i64 v2, i64 v3, i64 sz, .sl false 1 ps, .sl false 1 ds, .sl false 7 bs]) := fun k h => by
    obtain ⟨h0, h1, h2, h3⟩ := pk_at h
    obtain ⟨ps, ds, bs, hen, hp, hd, hb⟩ := enc_raw (pk l k)
    exact ⟨h0, _, _, _, _, ps, ds, bs, by rw [List.getElem?_map, h2]; exact congrArg some hen⟩
  have hnm : ∀ (i : Nat) (n : List UInt8), ∃ q, decide (0 ≤ q) = twB l s i n ∧ PCtr PP n_impl_named [encP l, .sl false 1 ((s.map i64).take i), str n] (i64 q) := fun i n => by
    refine ⟨nmF l n (s.take i), nmF_any fun k h => (pk_at (hk k (List.mem_of_mem_take h))).1, ?_⟩
    have := c_named l (s.take i) n hl (by rw [List.length_take]; omega) (fun k h => hk k (List.mem_of_mem_take h))
    rw [List.map_take] at this; exact this
  obtain ⟨ys, hys⟩ : ∃ ys, ys = s.map i64 := ⟨_, rfl⟩
  have hylen : ys.length = s.length := by rw [hys, List.length_map]
  unfold encP at *
  rw [← hys] at hnm ⊢
  generalize l.map (Pck.enc false) = xs at *
  have htab := tab
  have hmo := hmo
  refine PCtr.walk tab hΩ fn_impl_isTwice rfl ?_
  generalize PP = P at *
  cbv
  refine loopX htab hΩ (fun i : Nat => ⟨[(0, .sl false 8 xs), (1, .sl false 1 ys), (7, .sl false 1 ys), (8, .sc (.int .i64 (Ω.int (Ω.len ys)))), (9, .sc (.int .i64 (Ω.int i)))], 26, []⟩) (fun i => i ≤ s.length ∧ r = twice l s i (s.drop i)) (fun i => s.length - i) 0
    ⟨Nat.zero_le _, hr⟩ (Sbs.mk rfl rfl ⟨rfl, rfl, rfl, rfl, zeroI hΩ, trivial⟩) ?_
  rintro i ⟨hi, he⟩
  cbv
  refine br (fun h => ?_) (fun h => ?_) <;> cbv
  · replace h := ltI hΩ h
    obtain ⟨c, hcc⟩ := at_of (cs := s) (by omega : i < s.length)
    rw [twice_at hcc] at he
    obtain ⟨hc0, v1, v2, v3, sz, ps, ds, bs, hx⟩ := hat c (hk c (List.mem_of_getElem? hcc))
    generalize (pk l c).n = nn at hx he
    obtain ⟨q, hq, hcall⟩ := hnm i nn
    rw [← hq] at he
    refine ⟨⟨nnI hΩ⟩, _, rdI hΩ hys hcc, ?_⟩
    cbv
    refine ⟨VC_drawn htab hΩ hmo (by kernel_rfl) ?_⟩
    cbv
    refine ⟨⟨trivial, nnI hΩ, Nat.zero_le _, by subst hΩ; show ((i : Int)).toNat ≤ ys.length; omega⟩, ⟨hc0⟩, _, hx, ?_⟩
    cbv
    refine QCall_pure (k := 3) hcall rfl (fitsE (by subst hΩ; rfl)) rfl ?_
    cbv
    refine br (fun g => ?_) (fun g => ?_) <;> cbv
    · have g : 0 ≤ q := by subst hΩ; exact ge_t g
      exact .of (congrArg boo (by rw [he, decide_eq_true g]; rfl))
    · have g : ¬ 0 ≤ q := by have : q < 0 := by (subst hΩ; exact ge_f g)
                             omega
      rw [decide_eq_false g, Bool.false_or] at he
      exact ⟨i + 1, ⟨by omega, he⟩, by omega, Sbs.mk rfl rfl ⟨rfl, rfl, rfl, rfl, incI hΩ (by omega), trivial⟩⟩
  · replace h := geI hΩ h
    exact .of (congrArg boo (by rw [he, List.drop_of_length_le (by omega)]; rfl))
/-- Each name leads to its own place. -/
def apart (c : List Pck) (s : List Int) : List Int → Bool
  | [] => true
  | k :: ks => decide (nmF c (pk c k).n s = k) && apart c s ks
theorem apart_at {c : List Pck} {s : List Int} {l : List Int} {i : Nat} {k : Int} (h : l[i]? = some k) : apart c s (l.drop i) = (decide (nmF c (pk c k).n s = k) && apart c s (l.drop (i + 1))) := by
  obtain ⟨h1, h2⟩ := List.getElem?_eq_some_iff.1 h
  rw [List.drop_eq_getElem_cons h1, h2, apart]
theorem c_l5Apart (l : List Pck) (s : List Int) (hl : l.length ≤ 1048576) (hs : s.length ≤ 1048576) (hk : ∀ k ∈ s, inB k 0 ((l.length : Int) - 1) = true) : PCtr PP n_spec_l5Apart [encP l, .sl false 1 (s.map i64)] (boo (apart l s s)) := by
  obtain ⟨Ω, hΩ⟩ : ∃ Ω, Ω = std := ⟨_, rfl⟩
  obtain ⟨r, hr⟩ : ∃ r, r = apart l s s := ⟨_, rfl⟩
  rw [← hr]
  have hat : ∀ k, inB k 0 ((l.length : Int) - 1) = true → 0 ≤ k ∧ ∃ v1 v2 v3 sz ps ds bs, (l.map (Pck.enc false))[k.toNat]? = some (.agg [str (pk l k).n, i64 v1, i64 v2, i64 v3, i64 sz, .sl false 1 ps, .sl false 1 ds, .sl false 7 bs]) := fun k h => by
    obtain ⟨h0, h1, h2, h3⟩ := pk_at h
    obtain ⟨ps, ds, bs, hen, hp, hd, hb⟩ := enc_raw (pk l k)
    exact ⟨h0, _, _, _, _, ps, ds, bs, by rw [List.getElem?_map, h2]; exact congrArg some hen⟩
  have hone := fun n => c_l5One l s n hl hs hk
  obtain ⟨Q, hQ⟩ : ∃ Q : Int → Int → Bool, Q = fun a b => decide (a = b) := ⟨_, rfl⟩
  obtain ⟨ys, hys⟩ : ∃ ys, ys = s.map i64 := ⟨_, rfl⟩
  have hylen : ys.length = s.length := by rw [hys, List.length_map]
  unfold encP at *
  rw [← hys] at hone ⊢
  generalize l.map (Pck.enc false) = xs at *
  have htab := tab
  have hmo := hmo
  refine PCtr.walk tab hΩ fn_spec_l5Apart rfl ?_
  generalize PP = P at *
  cbv
  refine loopX htab hΩ (fun i : Nat => ⟨[(0, .sl false 8 xs), (1, .sl false 1 ys), (5, .sc (.int .i64 (Ω.int i)))], 28, []⟩) (fun i => i ≤ s.length ∧ r = apart l s (s.drop i)) (fun i => s.length - i) 0
    ⟨Nat.zero_le _, hr⟩ (Sbs.mk rfl rfl ⟨rfl, rfl, zeroI hΩ, trivial⟩) ?_
  rintro i ⟨hi, he⟩
  cbv
  refine br (fun h => ?_) (fun h => ?_) <;> cbv
  · replace h := ltI hΩ h
    obtain ⟨c, hcc⟩ := at_of (cs := s) (by omega : i < s.length)
    rw [apart_at hcc] at he
    obtain ⟨hc0, v1, v2, v3, sz, ps, ds, bs, hx⟩ := hat c (hk c (List.mem_of_getElem? hcc))
    have hone := hone (pk l c).n
    generalize nmF l (pk l c).n s = q at hone he
    generalize (pk l c).n = nn at hx hone
    refine ⟨VC_drawn htab hΩ hmo (by kernel_rfl) ?_⟩
    cbv
    refine ⟨⟨nnI hΩ⟩, _, rdI hΩ hys hcc, ?_⟩
    cbv
    refine ⟨⟨hc0⟩, _, hx, ?_⟩
    cbv
    refine QCall_pure (k := 3) hone rfl (fits _) rfl ?_
    cbv
    refine ⟨⟨nnI hΩ⟩, _, rdI hΩ hys hcc, ?_⟩
    cbv
    refine br (fun g => ?_) (fun g => ?_) <;> cbv
    · have g := neI_t hΩ g
      exact .of (congrArg boo (by rw [he, decide_eq_false g]; rfl))
    · have g := neI_f hΩ g
      rw [decide_eq_true g, Bool.true_and] at he
      exact ⟨i + 1, ⟨by omega, he⟩, by omega, Sbs.mk rfl rfl ⟨rfl, rfl, incI hΩ (by omega), trivial⟩⟩
  · replace h := geI hΩ h
    exact .of (congrArg boo (by rw [he, List.drop_of_length_le (by omega)]; rfl))
end Go.Proofs.YtfmcncflooechaaGreat

/- Walks: the names that change, on both sides. Plain theorems. -/
set_option linter.unusedVariables false
set_option linter.unusedSimpArgs false
namespace Go.Proofs.YtfmcncflooechaaGreat
open Go Go.Fw Go.Sort
set_option maxRecDepth 100000
theorem sortS_len (xs : List (List UInt8)) : (sortS xs).length = xs.length := List.length_mergeSort _
theorem c_sorted (xs : List (List UInt8)) (hb : xs.length ≤ 4194304) : ECtr PP n_impl_sorted [.sl true 1 (xs.map str)] (.sl true 1 ((compS (sortS xs)).map str)) := by
  obtain ⟨Ω, hΩ⟩ : ∃ Ω, Ω = std := ⟨_, rfl⟩
  have h1 := c_SortS xs hb
  have h2 := c_CompactS (sortS xs) (by rw [sortS_len]; exact hb)
  obtain ⟨ys, hys⟩ : ∃ ys, ys = (sortS xs).map str := ⟨_, rfl⟩
  obtain ⟨zs, hzs⟩ : ∃ zs, zs = (compS (sortS xs)).map str := ⟨_, rfl⟩
  have hz : roFree (.sl true 1 zs) = true := by rw [hzs]; exact roF_S _
  rw [← hys] at h1 h2
  rw [← hzs] at h2 ⊢
  obtain ⟨xa, hxa⟩ : ∃ xa, xa = xs.map str := ⟨_, rfl⟩
  have hl1 : ys.length = xa.length := by rw [hys, hxa, List.length_map, List.length_map, sortS_len]
  rw [← hxa] at h1 ⊢
  have htab := tab
  refine ECtr.walk tab hΩ 3 fn_impl_sorted rfl rfl ?_
  have hlx : Ω.len xa = xa.length := by subst hΩ; rfl
  have hlz : Ω.len zs ≤ zs.length := by subst hΩ; exact Nat.le_refl _
  have htz : Ω.take (Ω.len zs) zs = zs := takeAll hΩ _
  generalize PP = P at *
  cbv
  refine call_mut hΩ 3 (l := [(0, ys)] ++ []) h1 (.cons (mutVw rfl hlx hl1) .nil) (by simp) rfl ?_
  cbv
  refine call_eat2 (row := ⟨1, ys, false⟩) hΩ 3 h2 rfl rfl (hlx.trans hl1.symm) rfl (fits _) hz rfl ?_
  cbv
  exact ⟨⟨rfl, hlz⟩, .of (congrArg (A.sl true 1) htz)⟩
/-- Does a name change? -/
def chB (c : List Pck) (f t : List Int) (n : List UInt8) : Bool := !decide (nmF c n f = nmF c n t)
def chI (c : List Pck) (f t : List Int) : List (List UInt8) := ((f ++ t).map fun k => (pk c k).n).filter (chB c f t)
def chS (c : List Pck) (f t : List Int) : List (List UInt8) := (c.map Pck.n).foldl (fun o n => if chB c f t n then put5 n o else o) []
theorem c_changed (l : List Pck) (f t : List Int) (hl : l.length ≤ 1048576) (hf : f.length ≤ 1048576) (ht : t.length ≤ 1048576) (hkf : ∀ k ∈ f, inB k 0 ((l.length : Int) - 1) = true) (hkt : ∀ k ∈ t, inB k 0 ((l.length : Int) - 1) = true) :
    PCtr PP n_impl_changed [encP l, .sl false 1 (f.map i64), .sl false 1 (t.map i64)] (.sl true 1 ((compS (sortS (chI l f t))).map str)) := by
  obtain ⟨Ω, hΩ⟩ : ∃ Ω, Ω = std := ⟨_, rfl⟩
  have hat : ∀ k, inB k 0 ((l.length : Int) - 1) = true → 0 ≤ k ∧ ∃ v1 v2 v3 sz ps ds bs, (l.map (Pck.enc false))[k.toNat]? = some (.agg [str (pk l k).n, i64 v1, i64 v2, i64 v3, i64 sz, .sl false 1 ps, .sl false 1 ds, .sl false 7 bs]) := fun k h => by
    obtain ⟨h0, h1, h2, h3⟩ := pk_at h
    obtain ⟨ps, ds, bs, hen, hp, hd, hb⟩ := enc_raw (pk l k)
    exact ⟨h0, _, _, _, _, ps, ds, bs, by rw [List.getElem?_map, h2]; exact congrArg some hen⟩
  have hnf := fun n => c_named l f n hl hf hkf
  have hnt := fun n => c_named l t n hl ht hkt
  obtain ⟨ft, hft⟩ : ∃ ft, ft = f ++ t := ⟨_, rfl⟩
  have hk : ∀ k ∈ ft, inB k 0 ((l.length : Int) - 1) = true := fun k h => by rw [hft] at h; exact (List.mem_append.1 h).elim (hkf k) (hkt k)
  have hfl : ft.length ≤ 2097152 := by rw [hft, List.length_append]; omega
  have hcc := c_ConcatI [f, t] (by simp) (by simp; exact ⟨hf, ht⟩)
  rw [show [f, t].flatten = ft by simp [hft]] at hcc
  obtain ⟨C, hC⟩ : ∃ C : Nat → List (List UInt8), C = fun i => (((ft.take i).map fun k => (pk l k).n).filter (chB l f t)) := ⟨_, rfl⟩
  have hC0 : C 0 = [] := by rw [hC]; rfl
  have hCi : ∀ i k, ft[i]? = some k → C (i + 1) = if chB l f t (pk l k).n then C i ++ [(pk l k).n] else C i := fun i k h => by
    rw [hC]; dsimp only; rw [List.take_add_one, h, List.map_append, List.filter_append]
    cases hb : chB l f t (pk l k).n <;> simp [hb]
  have hCl : ∀ i, (C i).length ≤ i := fun i => by rw [hC]; exact Nat.le_trans (List.length_filter_le _ _) (by simp; omega)
  have hCe : C ft.length = chI l f t := by rw [hC]; dsimp only; rw [List.take_length, hft]; rfl
  rw [← hCe]
  have hso := c_sorted (C ft.length) (by have := hCl ft.length; omega)
  obtain ⟨zs, hzs⟩ : ∃ zs, zs = (compS (sortS (C ft.length))).map str := ⟨_, rfl⟩
  have hz : roFree (.sl true 1 zs) = true := by rw [hzs]; exact roF_S _
  rw [← hzs] at hso ⊢
  obtain ⟨F, hF⟩ : ∃ F : List (List UInt8) → List A, F = fun l => l.map str := ⟨_, rfl⟩
  have hFm : ∀ t : List (List UInt8), t.map str = F t := fun t => by rw [hF]
  have hap : ∀ t x, Ω.app (Ω.take (Ω.len (F t)) (F t)) [str x] = F (t ++ [x]) := fun t x => by rw [takeAll hΩ, ← hFm, ← hFm, List.map_append]; subst hΩ; rfl
  have hpl : ∀ t x, Ω.plus (Ω.len (F t)) (Ω.len [str x]) = Ω.len (F (t ++ [x])) := fun t x => by rw [← hap, takeAll hΩ]; subst hΩ; exact (List.length_append).symm
  have hF0 : F [] = [] := by rw [hF]; rfl
  have hFl : ∀ t, (F t).length = t.length := fun t => by rw [hF, List.length_map]
  rw [hFm] at hso
  obtain ⟨n, hn⟩ : ∃ n, n = ft.length := ⟨_, rfl⟩
  rw [← hn] at hso
  obtain ⟨q, hq⟩ : ∃ q, q = ft.map i64 := ⟨_, rfl⟩
  have hql : q.length = ft.length := by rw [hq, List.length_map]
  have hqq := hq
  have hqf : roFree (.sl true 1 q) = true := by rw [hq]; exact roF_I ft
  have hqz : frz (.sl true 1 q) = .sl false 1 q := by rw [frz_sl, hq, frz_I]
  rw [← hq] at hcc
  obtain ⟨fa, hfa⟩ : ∃ fa, fa = f.map i64 := ⟨_, rfl⟩
  obtain ⟨ta, hta⟩ : ∃ ta, ta = t.map i64 := ⟨_, rfl⟩
  have hcc : PCtr PP n_slices_Concat_L_int64_int64 [.sl false 1 [.sl false 1 fa, .sl false 1 ta]] (.sl true 1 q) := by rw [hfa, hta]; exact hcc
  have hfz : fa.map frz = fa := by rw [hfa]; exact frz_I f
  have htz : ta.map frz = ta := by rw [hta]; exact frz_I t
  have hrow : ∀ {S : State}, Fw.rowAt S.rows 1 = some ⟨1, [.sl false 1 fa, .sl false 1 ta], false⟩ → roO S 3 (.vw 1 0 2) = some (.sl false 1 [.sl false 1 fa, .sl false 1 ta]) := fun h => ro_vw h rfl (by simp [frz_sl, hfz, htz])
  unfold encP at *
  rw [← hfa] at hnf ⊢
  rw [← hta] at hnt ⊢
  generalize l.map (Pck.enc false) = xs at *
  have htab := tab
  have hmo := hmo
  clear hC hzs hfa hta hF hCe hft
  refine PCtr.walk tab hΩ fn_impl_changed rfl ?_
  generalize PP = P at *
  have hlz : Ω.len zs ≤ zs.length := by subst hΩ; exact Nat.le_refl _
  have htkz : Ω.take (Ω.len zs) zs = zs := takeAll hΩ _
  cbv
  refine call_pf hΩ 3 hcc (mapO1 (hrow rfl)) (fits _) hqf hqz rfl ?_
  cbv
  refine loopX htab hΩ (fun i : Nat => ⟨[(0, .sl false 8 xs), (1, .sl false 1 fa), (2, .sl false 1 ta), (7, .vw 0 0 (Ω.len (F (C i)))), (15, .sl false 1 q), (16, i64 (Ω.int (Ω.len q))), (17, i64 (Ω.int i))], 42, [some ⟨1, F (C i), false⟩]⟩) (fun i => i ≤ ft.length) (fun i => ft.length - i) 0 (Nat.zero_le _)
    ((Sbs.cut 1 rfl).trans (Sbs.mk rfl (by dsimp only; rw [hC0, hF0]; rfl) ⟨rfl, rfl, rfl, by dsimp only; rw [hC0, hF0]; subst hΩ; rfl, rfl, rfl, zeroI hΩ, trivial⟩)) (fun i hi => ?_)
  have hCli := hCl i
  have hFli := hFl (C i)
  have hlo : Ω.len (F (C i)) = (F (C i)).length := by subst hΩ; rfl
  have htk : Ω.take (Ω.len (F (C i))) (F (C i)) = F (C i) := takeAll hΩ _
  cbv
  refine br (fun h => ?_) (fun h => ?_) <;> cbv
  · replace h := ltI hΩ h
    obtain ⟨k, hk'⟩ := at_of (cs := ft) (by omega : i < ft.length)
    have hst := hCi i k hk'
    obtain ⟨hc0, v1, v2, v3, sz, ps, ds, bs, hx⟩ := hat k (hk k (List.mem_of_getElem? hk'))
    have hap := hap (C i) (pk l k).n
    have hpl := hpl (C i) (pk l k).n
    unfold chB at hst
    have hnf := hnf (pk l k).n
    have hnt := hnt (pk l k).n
    generalize (pk l k).n = nn at *
    generalize nmF l nn f = a at *
    generalize nmF l nn t = b at *
    refine ⟨⟨nnI hΩ⟩, _, rdI hΩ hqq hk', ?_⟩
    cbv
    refine ⟨⟨hc0⟩, _, hx, ?_⟩
    cbv
    refine call_pure hΩ 3 hnf rfl (fits _) rfl rfl ?_
    cbv
    refine call_pure hΩ 3 hnt rfl (fits _) rfl rfl ?_
    cbv
    refine br (fun g => ?_) (fun g => ?_) <;> cbv
    · have g := neZt hΩ g
      rw [decide_eq_false g, Bool.not_false, if_pos rfl] at hst
      refine ⟨⟨rfl, okAll rfl, by show (Ω.len (F (C i)) + 1) * 16 ≤ 140737488355328; omega, by show Ω.len (F (C i)) + 1 ≤ 9223372036854775807; omega⟩, i + 1, by omega, by omega,
        (Sbs.cut 1 rfl).trans (Sbs.mk rfl (by show [some (Row.mk 1 (Ω.app (Ω.take (Ω.len (F (C i))) (F (C i))) [str nn]) false)] = _; rw [hap, ← hst]) ⟨rfl, rfl, rfl, by rw [hst]; exact congrArg (A.vw 0 0) hpl, rfl, rfl, incI hΩ (by omega), trivial⟩)⟩
    · have g := neZf hΩ g
      rw [decide_eq_true g, Bool.not_true, if_neg (by simp)] at hst
      exact ⟨i + 1, by omega, by omega, (Sbs.cut 1 rfl).trans (Sbs.mk rfl (by rw [hst]; rfl) ⟨rfl, rfl, rfl, by rw [hst]; rfl, rfl, rfl, incI hΩ (by omega), trivial⟩)⟩
  · replace h := geI hΩ h
    obtain rfl : n = i := by omega
    refine call_eat2 (row := ⟨1, F (C n), false⟩) hΩ 3 hso rfl rfl hlo rfl (fits _) hz rfl ?_
    cbv
    exact ⟨⟨rfl, hlz⟩, .of (congrArg (A.sl true 1) htkz)⟩
theorem foldl_at {α β : Type} {g : β → α → β} {b : β} {xs : List α} {i : Nat} {x : α} (h : xs[i]? = some x) : (xs.drop i).foldl g b = (xs.drop (i + 1)).foldl g (g b x) := by
  obtain ⟨h1, h2⟩ := List.getElem?_eq_some_iff.1 h
  rw [List.drop_eq_getElem_cons h1, h2, List.foldl_cons]
theorem putGo_len {v : List UInt8} {l : List (List UInt8)} : ∀ {xs o : List (List UInt8)} {d : Bool}, l.length + 1 ≤ o.length + xs.length + (if d then 0 else 1) → (putGo v l o d xs).length ≤ o.length + xs.length + (if d then 0 else 1)
  | [], o, d, h => by rw [putGo]; split <;> simp
  | x :: xs, o, d, h => by
    rw [putGo]
    simp only [List.length_cons] at h ⊢
    split
    · omega
    · split
      · rename_i h1 h2
        rw [h2.2] at h ⊢
        have := putGo_len (v := v) (l := l) (xs := xs) (o := o ++ [v] ++ [x]) (d := true) (by simp at h ⊢; omega)
        simp at this ⊢; omega
      · have := putGo_len (v := v) (l := l) (xs := xs) (o := o ++ [x]) (d := d) (by simp at h ⊢; omega)
        simp at this ⊢; omega
theorem put5_len (v : List UInt8) (l : List (List UInt8)) : (put5 v l).length ≤ l.length + 1 := by
  have := putGo_len (v := v) (l := l) (xs := l) (o := []) (d := false) (by simp)
  simpa [put5] using this
theorem c_l5Changed (l : List Pck) (f t : List Int) (hl : l.length ≤ 1048576) (hf : f.length ≤ 1048576) (ht : t.length ≤ 1048576) (hkf : ∀ k ∈ f, inB k 0 ((l.length : Int) - 1) = true) (hkt : ∀ k ∈ t, inB k 0 ((l.length : Int) - 1) = true) :
    PCtr PP n_spec_l5Changed [encP l, .sl false 1 (f.map i64), .sl false 1 (t.map i64)] (.sl false 1 ((chS l f t).map str)) := by
  obtain ⟨Ω, hΩ⟩ : ∃ Ω, Ω = std := ⟨_, rfl⟩
  obtain ⟨r, hr⟩ : ∃ r, r = chS l f t := ⟨_, rfl⟩
  have hnf := fun n => c_l5One l f n hl hf hkf
  have hnt := fun n => c_l5One l t n hl ht hkt
  rw [← hr]
  unfold chS at hr
  obtain ⟨ns, hns⟩ : ∃ ns, ns = l.map Pck.n := ⟨_, rfl⟩
  have hnl : ns.length = l.length := by rw [hns, List.length_map]
  rw [← hns] at hr
  have hat : ∀ (i : Nat) (n : List UInt8), ns[i]? = some n → ∃ v1 v2 v3 sz ps ds bs, (l.map (Pck.enc false))[i]? = some (.agg [str n, i64 v1, i64 v2, i64 v3, i64 sz, .sl false 1 ps, .sl false 1 ds, .sl false 7 bs]) := fun i n h => by
    rw [hns, List.getElem?_map, Option.map_eq_some_iff] at h
    obtain ⟨p, hp, rfl⟩ := h
    obtain ⟨ps, ds, bs, hen, _, _, _⟩ := enc_raw p
    exact ⟨_, _, _, _, ps, ds, bs, by rw [List.getElem?_map, hp]; exact congrArg some hen⟩
  obtain ⟨F, hF⟩ : ∃ F : List (List UInt8) → List A, F = fun l => l.map str := ⟨_, rfl⟩
  have hFm : ∀ t : List (List UInt8), t.map str = F t := fun t => by rw [hF]
  have hF0 : F [] = [] := by rw [hF]; rfl
  have hpt := fun (o : List (List UInt8)) (n : List UInt8) (h : o.length ≤ 1048576) => c_l5Put o n h
  simp only [hFm] at hpt ⊢
  suffices h : RCtr PP n_spec_l5Changed [encP l, .sl false 1 (f.map i64), .sl false 1 (t.map i64)] fun x => x = .sl false 1 (F r) from RCtr.p h
  obtain ⟨fa, hfa⟩ : ∃ fa, fa = f.map i64 := ⟨_, rfl⟩
  obtain ⟨ta, hta⟩ : ∃ ta, ta = t.map i64 := ⟨_, rfl⟩
  unfold encP at *
  rw [← hfa] at hnf ⊢
  rw [← hta] at hnt ⊢
  have hxl : (l.map (Pck.enc false)).length = ns.length := by rw [List.length_map, hnl]
  generalize l.map (Pck.enc false) = xs at *
  clear hfa hta hF
  have htab := tab
  refine RCtr.walk tab hΩ fn_spec_l5Changed rfl ?_
  generalize PP = P at *
  cbv
  refine loopX htab hΩ (fun i : Nat × List (List UInt8) => ⟨[(0, .sl false 8 xs), (1, .sl false 1 fa), (2, .sl false 1 ta), (7, .sl false 1 (F i.2)), (8, i64 (Ω.int i.1))], 35, []⟩)
    (fun i => i.1 ≤ ns.length ∧ i.2.length ≤ i.1 ∧ r = (ns.drop i.1).foldl (fun o n => if chB l f t n then put5 n o else o) i.2) (fun i => ns.length - i.1) (0, []) ⟨Nat.zero_le _, Nat.le_refl _, hr⟩
    ((Sbs.thaw (r := 0) rfl rfl).trans ((Sbs.cut 0 rfl).trans (Sbs.mk rfl rfl ⟨rfl, rfl, rfl, by dsimp only; rw [hF0]; rfl, zeroI hΩ, trivial⟩))) ?_
  rintro ⟨i, o⟩ ⟨hi, ho, he⟩
  dsimp only at hi ho he
  cbv
  refine br (fun h => ?_) (fun h => ?_) <;> cbv
  · replace h := ltI hΩ h
    obtain ⟨n, hx⟩ := at_of (cs := ns) (by omega : i < ns.length)
    rw [foldl_at hx] at he
    obtain ⟨v1, v2, v3, sz, ps, ds, bs, hx⟩ := hat i n hx
    have hpt := hpt o n (by omega)
    have hpl := put5_len n o
    have hnf := hnf n
    have hnt := hnt n
    rw [show chB l f t n = !decide (nmF l n f = nmF l n t) from rfl] at he
    generalize nmF l n f = a at *
    generalize nmF l n t = b at *
    generalize put5 n o = o' at *
    refine ⟨⟨nnI hΩ⟩, _, rdJ hΩ hx, ?_⟩
    cbv
    refine call_pure hΩ 3 hnf rfl (fits _) rfl rfl ?_
    cbv
    refine call_pure hΩ 3 hnt rfl (fits _) rfl rfl ?_
    cbv
    refine br (fun g => ?_) (fun g => ?_) <;> cbv
    · have g := neZt hΩ g
      rw [decide_eq_false g, Bool.not_false, if_pos rfl] at he
      refine call_share hΩ 3 hpt rfl (fits _) rfl ?_
      cbv
      exact ⟨(i + 1, o'), ⟨by dsimp only; omega, by dsimp only; omega, he⟩, by dsimp only; omega, Sbs.mk rfl rfl ⟨rfl, rfl, rfl, rfl, incI hΩ (by omega), trivial⟩⟩
    · have g := neZf hΩ g
      rw [decide_eq_true g, Bool.not_true, if_neg (by simp)] at he
      exact ⟨(i + 1, o), ⟨by dsimp only; omega, by dsimp only; omega, he⟩, by dsimp only; omega, Sbs.mk rfl rfl ⟨rfl, rfl, rfl, rfl, incI hΩ (by omega), trivial⟩⟩
  · replace h := geI hΩ h
    rw [List.drop_of_length_le (by omega)] at he
    exact ⟨_, rfl, .of (by rw [he]; rfl)⟩
end Go.Proofs.YtfmcncflooechaaGreat

/- Walks: draws of sets. Plain theorems. -/
import Derived.Test.YtfmcncflooechaaGreatC4
import Derived.Shelf.Spec.SlicesGrow
import Derived.Ground.Names8Prog
import Derived.Shelf.SortM.Plain
import Derived.Shelf.SortM.SortNone
import Derived.Ground.SlgmProg
import Derived.Sort.OwnSortedInts
import Derived.Shelf.SlicesG.CompactS
import Derived.Ground.SlgnProg
import Derived.Sort.OwnSorted
set_option linter.unusedVariables false
set_option linter.unusedSimpArgs false
namespace Go.Proofs.YtfmcncflooechaaGreat
open Go Go.Fw
set_option maxRecDepth 100000
theorem nF_mem {c : List Pck} {s : List Int} {k : Int} : ∀ {d : List (List Trm)} {j : Nat} {f : Flt}, f ∈ nF c s k j d → f.p = k
  | [], _, _, h => by simp [nF] at h
  | l :: d, j, f, h => by
    rw [nF, List.mem_append] at h
    rcases h with h | h
    · split at h
      · cases h
      · simp at h; rw [h]
    · exact nF_mem h
theorem bF_mem {c : List Pck} {s : List Int} {k : Int} : ∀ {d : List Trm} {j : Nat} {f : Flt}, f ∈ bF c s k j d → f.p = k
  | [], _, _, h => by simp [bF] at h
  | l :: d, j, f, h => by
    rw [bF, List.mem_append] at h
    rcases h with h | h
    · split at h
      · simp at h; rw [h]
      · cases h
    · exact bF_mem h
theorem aF_mem {c : List Pck} {s : List Int} : ∀ {l : List Int} {i : Nat} {f : Flt}, f ∈ aF c s i l → f.p ∈ l
  | [], _, _, h => by simp [aF] at h
  | k :: l, i, f, h => by
    rw [aF, List.mem_append, List.mem_append, List.mem_append] at h
    rcases h with h | h | h | h
    · unfold tF at h
      split at h
      · simp at h; rw [h]; simp
      · cases h
    · rw [nF_mem h]; simp
    · rw [bF_mem h]; simp
    · exact List.mem_cons_of_mem _ (aF_mem h)
theorem fltS_mem {c : List Pck} {s : List Int} {f : Flt} (h : f ∈ fltS c s) : f.p ∈ s := aF_mem h
theorem d_l3DrawSet {bs : List A} (hb : Src bs) (l : List Pck) (hl : l.length ≤ 40) (ho : ∀ o ∈ l, o.Small) (p : Int) (h0 : 0 ≤ p) (h1 : p + 50 ≤ 1099511627776) :
    XCtr PP n_spec_l3DrawSet [src bs p, encP l] (DR bs p 50 [encP l] fun x => ∃ s : List Int, x = .sl true 1 (s.map i64) ∧ s.length ≤ 41) := by
  obtain ⟨Ω, hΩ⟩ : ∃ Ω, Ω = std := ⟨_, rfl⟩
  have hC := fun p n a b c => d_l1Chance hb p n a b c
  have hP := fun p ns a b c d => d_l1Pick hb p ns a b c d
  have hcat := c_specCatalogFault l (by omega) ho
  have hflt : ∀ s : List Int, s.length ≤ 40 → (∀ k ∈ s, 0 ≤ k ∧ k < (l.length : Int)) → PCtr PP n_spec_l3Faults [encP l, .sl false 1 (s.map i64)] (.sl true 3 ((fltS l s).map Flt.enc)) := fun s hs hk =>
    c_l3Faults l s (by omega) (by omega) ho fun k h => by
      have := hk k h
      simp only [inB, Bool.and_eq_true, decide_eq_true_eq]; omega
  generalize catF l = cf at *
  obtain ⟨F, hF⟩ : ∃ F : List Int → List A, F = fun s => s.map i64 := ⟨_, rfl⟩
  have hF0 : F [] = [] := by rw [hF]; rfl
  have hFl : ∀ s, (F s).length = s.length := fun s => by rw [hF]; exact List.length_map _
  have hFz : ∀ s, (F s).map frz = F s := fun s => by rw [hF]; exact frz_I s
  have hFs : ∀ (s : List Int) (n : Int), Ω.app (Ω.take s.length (F s)) [i64 n] = F (s ++ [n]) := fun s n => by
    subst hΩ; rw [hF]; show List.take s.length (List.map i64 s) ++ _ = List.map i64 (s ++ [n])
    rw [List.map_append, List.take_of_length_le (by simp)]; rfl
  have hFt : ∀ s, A.sl true 1 (Ω.take s.length (F s)) = .sl true 1 (s.map i64) := fun s => by
    subst hΩ; rw [hF]; exact congrArg _ (List.take_of_length_le (by simp))
  have hFt0 : ∀ s m, s.length = m → A.sl true 1 (Ω.take m (F s)) = .sl true 1 (s.map i64) := fun s m h => by rw [← h, hFt]
  have hFt1 : ∀ s n m, s.length = m → A.sl true 1 (Ω.take (Ω.plus m (Ω.len [i64 n])) (Ω.app (Ω.take m (F s)) [i64 n])) = .sl true 1 ((s ++ [n]).map i64) := fun s n m h => by
    rw [← h, hFs, ← hFt]; congr 2; subst hΩ; rw [List.length_append]; rfl
  have hFle0 : ∀ s {m}, s.length = m → m ≤ (F s).length := fun s {m} h => by rw [hFl]; omega
  have hFle : ∀ s {m} {X : A}, s.length = m → Ω.plus m (Ω.len [X]) ≤ (Ω.app (Ω.take m (F s)) [X]).length := fun s {m X} h => by
    subst hΩ; show m + 1 ≤ (List.take m (F s) ++ [X]).length
    rw [List.take_of_length_le (by rw [hFl]; omega), List.length_append, hFl]; show m + 1 ≤ s.length + 1; omega
  have hFat : ∀ (s : List Int) (j : Nat) (c : Int), s[j]? = some c → (F s)[Ω.plus 0 (Ω.nat (Ω.int j))]? = some (i64 c) := fun s j c h => by
    subst hΩ; show (F s)[0 + j]? = _; rw [Nat.zero_add, hF]; simp [h]
  replace hflt : ∀ s : List Int, s.length ≤ 40 → (∀ k ∈ s, 0 ≤ k ∧ k < (l.length : Int)) → PCtr PP n_spec_l3Faults [encP l, .sl false 1 (F s)] (.sl true 3 ((fltS l s).map Flt.enc)) := fun s a b => by rw [hF]; exact hflt s a b
  clear hF
  obtain ⟨xs, hxs⟩ : ∃ xs, xs = l.map (Pck.enc false) := ⟨_, rfl⟩
  have hxl : xs.length = l.length := by rw [hxs, List.length_map]
  obtain ⟨L, hL⟩ : ∃ L, L = l.length := ⟨_, rfl⟩
  have hlx : Ω.int (Ω.len xs) = (L : Int) := by subst hΩ; rw [hL, ← hxl]; rfl
  unfold encP at *
  rw [← hxs] at hcat hflt ⊢
  rw [← hL] at hflt hl hxl
  have htab := tab
  have hmo := hmo
  refine XCtr.walkO tab hΩ 3 fn_spec_l3DrawSet rfl rfl ?_
  generalize PP = P at *
  cbv
  refine loopX htab hΩ (fun i : Nat × Int × List Int => ⟨[(0, .pt 0 0 0), (1, .sl false 8 xs), (5, .vw 1 0 i.2.2.length), (6, i64 (Ω.int i.1)), (73, .pt 0 0 0), (74, .sl false 8 xs)], 73, [some ⟨2, [.agg [.sl false 1 bs, i64 i.2.1]], true⟩, some ⟨1, F i.2.2, false⟩]⟩)
    (fun i => i.1 ≤ L ∧ p ≤ i.2.1 ∧ i.2.1 ≤ p + (i.1 : Int) ∧ i.2.2.length ≤ i.1 ∧ ∀ k ∈ i.2.2, 0 ≤ k ∧ k < (i.1 : Int)) (fun i => L - i.1) (0, p, [])
    ⟨Nat.zero_le _, by dsimp only; omega, by dsimp only; omega, Nat.le_refl _, by simp⟩ (Sbs.mk rfl (by show _ = [_, some (Row.mk 1 (F []) false)]; rw [hF0]; rfl) ⟨rfl, rfl, rfl, zeroI hΩ, rfl, rfl, trivial⟩) ?_
  rintro ⟨i, q, s⟩ ⟨i1, i2, i3, i4, i5⟩
  dsimp only at i1 i2 i3 i4 i5
  have hFli := hFl s
  obtain ⟨m, hm⟩ : ∃ m, s.length = m := ⟨_, rfl⟩
  have hrows : ∀ {R0 : Option Row} {n : Int}, [R0, some (Row.mk 1 (Ω.app (Ω.take m (F s)) [i64 n]) false)] = [R0, some (Row.mk 1 (F (s ++ [n])) false)] := fun {R0 n} => by rw [← hm, hFs]
  have hvw : ∀ {X : A} {n : Int}, A.vw 1 0 (Ω.plus m (Ω.len [X])) = .vw 1 0 (s ++ [n]).length := fun {X n} => by subst hΩ; rw [List.length_append, hm]; rfl
  have hall : ∀ k ∈ s ++ [Ω.int i], 0 ≤ k ∧ k < ((i + 1 : Nat) : Int) := fun k hk => by
    rcases List.mem_append.1 hk with h | h
    · have := i5 k h; omega
    · rw [List.mem_singleton.1 h]; subst hΩ; show 0 ≤ (i : Int) ∧ (i : Int) < _; omega
  have hall2 : ∀ k ∈ s, 0 ≤ k ∧ k < ((i + 1 : Nat) : Int) := fun k hk => by have := i5 k hk; omega
  have hqb : q + 10 ≤ p + 50 := by omega
  have hq3 : ∀ q' : Int, q' ≤ q + 1 → q' ≤ p + ((i + 1 : Nat) : Int) := fun q' h => by omega
  have hsl : (s ++ [Ω.int i]).length ≤ i + 1 := by rw [List.length_append, hm, List.length_singleton]; omega
  have hlt : Ω.cmp .lss (Ω.int i) (Ω.int (Ω.len xs)) = true → i < L := fun h => by have := ltI hΩ h; omega
  have hsF : ∀ k ∈ s, 0 ≤ k ∧ k < (L : Int) := fun k hk => by have := i5 k hk; omega
  rw [hm] at hFli i4 ⊢
  cbv
  refine br (fun hk => ?_) (fun hk => ?_) <;> cbv
  · have hk := hlt hk
    refine call_dr false hΩ 3 (hC _ _ (by omega) (by omega) (by omega)) rfl rfl rfl (fun q2 x q2a q2b ⟨c1, hx⟩ => ?_)
    subst hx
    cbv
    refine br (fun hc => ?_) (fun hc => ?_) <;> cbv
    · exact ⟨⟨rfl, okAll rfl, by show (m + 1) * 8 ≤ 140737488355328; omega, by show m + 1 ≤ 9223372036854775807; omega⟩, (i + 1, q2, s ++ [Ω.int i]), ⟨by dsimp only; omega, by dsimp only; omega, hq3 q2 q2b, hsl, hall⟩, by dsimp only; omega, (Sbs.cut 2 rfl).trans (Sbs.mk rfl hrows ⟨rfl, rfl, hvw, incI hΩ (by omega), rfl, rfl, trivial⟩)⟩
    · exact ⟨(i + 1, q2, s), ⟨by dsimp only; omega, by dsimp only; omega, hq3 q2 q2b, by dsimp only; omega, hall2⟩, by dsimp only; omega, (Sbs.cut 2 rfl).trans (Sbs.mk rfl rfl ⟨rfl, rfl, congrArg (A.vw 1 0) hm.symm, incI hΩ (by omega), rfl, rfl, trivial⟩)⟩
  · refine call_dr false hΩ 3 (hC _ _ (by omega) (by omega) (by omega)) rfl rfl rfl (fun q4 x q4a q4b ⟨c2, hx⟩ => ?_)
    subst hx
    cbv
    refine br (fun hc2 => ?_) (fun hc2 => ?_) <;> cbv
    · refine call_pure hΩ 3 hcat rfl (fits _) rfl rfl ?_
      cbv
      refine br (fun hc4 => ?_) (fun hc4 => ?_) <;> cbv
      · refine loopX htab hΩ (fun t : List Int => ⟨[(0, .pt 0 0 0), (1, .sl false 8 xs), (5, .vw 1 0 t.length), (73, .pt 0 0 0), (74, .sl false 8 xs)], 73, [some ⟨2, [.agg [.sl false 1 bs, i64 q4]], true⟩, some ⟨1, F t, false⟩]⟩)
          (fun t => t.length ≤ 40 ∧ ∀ k ∈ t, 0 ≤ k ∧ k < (L : Int)) (fun t => t.length) s ⟨by omega, hsF⟩ (Sbs.mk rfl rfl ⟨rfl, rfl, congrArg (A.vw 1 0) hm.symm, rfl, rfl, trivial⟩) ?_
        rintro t ⟨t1, t2⟩
        have hft := hflt t t1 t2
        have hFlt := hFl t
        have hFzt := hFz t
        obtain ⟨es, hes⟩ : ∃ es, es = (fltS l t).map Flt.enc := ⟨_, rfl⟩
        have hro : roFree (.sl true 3 es) = true := by rw [hes]; exact roFAll fun x hx => by obtain ⟨c, _, rfl⟩ := List.mem_map.1 hx; rfl
        have hesl : es.length = (fltS l t).length := by rw [hes, List.length_map]
        have hfirst : 0 < es.length → ∃ f : Flt, es[0]? = some f.enc ∧ f.p ∈ t := fun h => by
          obtain ⟨f, hf⟩ := at_of (cs := fltS l t) (i := 0) (by omega)
          exact ⟨f, by rw [hes, List.getElem?_map, hf]; rfl, fltS_mem (List.mem_of_getElem? hf)⟩
        have hgt : Ω.cmp .gtr (Ω.int (Ω.len es)) 0 = true → 0 < es.length := fun h => by have := gtI_t hΩ h; subst hΩ; have this : (0 : Int) < (es.length : Int) := this; omega
        rw [← hes] at hft
        obtain ⟨M, hM⟩ : ∃ M, t.length = M := ⟨_, rfl⟩
        rw [hM] at hFlt t1 ⊢
        clear hes hesl hflt
        cbv
        refine call_pure hΩ 3 hft (mapO2 rfl (ro_vw rfl hFlt.symm hFzt)) (fits _) hro rfl ?_
        cbv
        refine br (fun hg => ?_) (fun hg => ?_) <;> cbv
        · obtain ⟨f, hf, hfp⟩ := hfirst (hgt hg)
          refine call_pure hΩ 3 hft (mapO2 rfl (ro_vw rfl hFlt.symm hFzt)) (fits _) hro rfl ?_
          cbv
          refine ⟨⟨by subst hΩ; exact ⟨Int.le_refl _, Int.ofNat_lt.2 (hgt hg)⟩⟩, _, (show es[Ω.plus 0 (Ω.nat 0)]? = some (.agg [i64 f.k, i64 f.p, i64 f.a]) by subst hΩ; exact hf), ?_⟩
          cbv
          obtain ⟨fp, hfp2⟩ : ∃ x, x = f.p := ⟨_, rfl⟩
          have hflt1 : (t.filter fun k => !decide (k = fp)).length < M := by
            rw [← hM, hfp2]
            refine List.length_filter_lt_length_iff_exists.2 ⟨f.p, hfp, by simp⟩
          refine loopX htab hΩ (fun i : Nat × List Int => ⟨[(0, .pt 0 0 0), (1, .sl false 8 xs), (5, .vw 1 0 M), (7, .pt 4 0 0), (8, .vw 5 0 i.2.length), (9, i64 (Ω.int i.1)), (73, .pt 0 0 0), (74, .sl false 8 xs)], 73,
              [some ⟨2, [.agg [.sl false 1 bs, i64 q4]], true⟩, some ⟨1, F t, false⟩, none, none, some ⟨3, [.agg [i64 f.k, i64 fp, i64 f.a]], true⟩, some ⟨1, F i.2, false⟩]⟩)
            (fun i => i.1 ≤ M ∧ i.2 = (t.take i.1).filter fun k => !decide (k = fp)) (fun i => M - i.1) (0, []) ⟨Nat.zero_le _, rfl⟩
            ((Sbs.drop (r := 2) rfl).trans ((Sbs.drop (r := 3) rfl).trans (Sbs.mk rfl (by show _ = [_, _, none, none, some (Row.mk 3 [.agg [i64 f.k, i64 fp, i64 f.a]] true), some (Row.mk 1 (F []) false)]; rw [hF0, hfp2]; rfl) ⟨rfl, rfl, rfl, rfl, rfl, zeroI hΩ, rfl, rfl, trivial⟩))) ?_
          rintro ⟨j, r⟩ ⟨j1, j2⟩
          dsimp only at j1 j2
          have hrl : r.length ≤ j := by rw [j2]; exact Nat.le_trans (List.length_filter_le _ _) (by simp; omega)
          have hFr := hFs r
          obtain ⟨R, hR⟩ : ∃ R, r.length = R := ⟨_, rfl⟩
          have hvr : ∀ {X : A} {n : Int}, A.vw 5 0 (Ω.plus R (Ω.len [X])) = .vw 5 0 (r ++ [n]).length := fun {X n} => by subst hΩ; rw [List.length_append, hR]; rfl
          have hstep : ∀ c, t[j]? = some c → (t.take (j + 1)).filter (fun k => !decide (k = fp)) = r ++ (if c = fp then [] else [c]) := fun c hc => by
            rw [List.take_add_one, hc, List.filter_append, ← j2]
            congr 1
            by_cases h : c = fp <;> simp [h]
          have hend : j = M → r.length < M ∧ r.length ≤ 40 ∧ ∀ k ∈ r, 0 ≤ k ∧ k < (L : Int) := fun h => by
            have e : r = t.filter fun k => !decide (k = fp) := by rw [j2, h, ← hM, List.take_length]
            refine ⟨by rw [e]; exact hflt1, by rw [e]; omega, fun k hk => t2 k ?_⟩
            rw [e] at hk; exact (List.mem_filter.1 hk).1
          rw [hR] at hrl hFr ⊢
          have hat : ∀ c, t[j]? = some c → (F t)[Ω.plus 0 (Ω.nat (Ω.int j))]? = some (i64 c) := hFat t j
          cbv
          refine br (fun hj => ?_) (fun hj => ?_) <;> cbv
          · have hj := ltN hΩ hj
            obtain ⟨c, hc⟩ := at_of (cs := t) (i := j) (by omega)
            refine ⟨VC_drawn htab hΩ hmo (by kernel_rfl) ?_⟩
            cbv
            refine ⟨⟨ixI hΩ hj⟩, _, hat c hc, ?_⟩
            cbv
            refine br (fun hn => ?_) (fun hn => ?_) <;> cbv
            · have hn := neI_t hΩ hn
              have e := hstep c hc
              rw [if_neg hn] at e
              refine ⟨⟨ixI hΩ hj⟩, _, hat c hc, ?_⟩
              cbv
              exact ⟨⟨rfl, okAll rfl, by show (R + 1) * 8 ≤ 140737488355328; omega, by show R + 1 ≤ 9223372036854775807; omega⟩, (j + 1, r ++ [c]), ⟨by dsimp only; omega, e.symm⟩, by dsimp only; omega, (Sbs.cut 6 rfl).trans (Sbs.mk rfl (by rw [show some (Row.mk 1 (F (r ++ [c])) false) = some (Row.mk 1 (Ω.app (Ω.take R (F r)) [i64 c]) false) by rw [hFr]]; rfl) ⟨rfl, rfl, rfl, rfl, hvr, incI hΩ (by omega), rfl, rfl, trivial⟩)⟩
            · have hn := neI_f hΩ hn
              have e := hstep c hc
              rw [if_pos hn, List.append_nil] at e
              exact ⟨(j + 1, r), ⟨by dsimp only; omega, e.symm⟩, by dsimp only; omega, (Sbs.cut 6 rfl).trans (Sbs.mk rfl rfl ⟨rfl, rfl, rfl, rfl, congrArg (A.vw 5 0) hR.symm, incI hΩ (by omega), rfl, rfl, trivial⟩)⟩
          · have hj := geN hΩ hj
            obtain ⟨e1, e2, e3⟩ := hend (by omega)
            exact ⟨r, ⟨e2, e3⟩, by omega, (Sbs.drop (r := 1) rfl).trans ((Sbs.mv (a := 5) (b := 1) rfl rfl (Nat.le_of_ble_eq_true rfl)).trans ((Sbs.cut 2 rfl).trans (Sbs.mk rfl rfl ⟨rfl, rfl, congrArg (A.vw 1 0) hR.symm, rfl, rfl, trivial⟩)))⟩
        · clear hfirst hgt
          refine call_dr false hΩ 3 (hC _ _ (by omega) (by omega) (by omega)) rfl rfl rfl (fun q8 x q8a q8b ⟨c3, hx⟩ => ?_)
          subst hx
          cbv
          refine br (fun hc3 => ?_) (fun hc3 => ?_) <;> cbv
          · refine call_pick (ns := [_, -1, 0]) hΩ (hP _ _ (by omega) (by omega) (Nat.zero_lt_succ _) (Nat.le_of_ble_eq_true rfl)) rfl rfl rfl rfl (by decide) (fun q9 n q9a q9b hn => ?_)
            cbv
            exact ⟨⟨rfl, okAll rfl, by show (M + 1) * 8 ≤ 140737488355328; omega, by show M + 1 ≤ 9223372036854775807; omega⟩, ⟨rfl, hFle _ hM⟩, _, _, .of (hFt1 t n M hM), .same, ⟨q9, by omega, by omega, rfl, t ++ [n], rfl, by rw [List.length_append, List.length_singleton, hM]; omega⟩, rfl⟩
          · exact ⟨⟨rfl, hFle0 _ hM⟩, _, _, .of (hFt0 t M hM), .same, ⟨q8, by omega, by omega, rfl, t, rfl, by rw [hM]; omega⟩, rfl⟩
      · refine call_dr false hΩ 3 (hC _ _ (by omega) (by omega) (by omega)) rfl rfl rfl (fun q8 x q8a q8b ⟨c3, hx⟩ => ?_)
        subst hx
        cbv
        refine br (fun hc3 => ?_) (fun hc3 => ?_) <;> cbv
        · refine call_pick (ns := [_, -1, 0]) hΩ (hP _ _ (by omega) (by omega) (Nat.zero_lt_succ _) (Nat.le_of_ble_eq_true rfl)) rfl rfl rfl rfl (by decide) (fun q9 n q9a q9b hn => ?_)
          cbv
          exact ⟨⟨rfl, okAll rfl, by show (m + 1) * 8 ≤ 140737488355328; omega, by show m + 1 ≤ 9223372036854775807; omega⟩, ⟨rfl, hFle _ hm⟩, _, _, .of (hFt1 s n m hm), .same, ⟨q9, by omega, by omega, rfl, s ++ [n], rfl, by rw [List.length_append, List.length_singleton, hm]; omega⟩, rfl⟩
        · exact ⟨⟨rfl, hFle0 _ hm⟩, _, _, .of (hFt0 s m hm), .same, ⟨q8, by omega, by omega, rfl, s, rfl, by rw [hm]; omega⟩, rfl⟩
    · refine call_dr false hΩ 3 (hC _ _ (by omega) (by omega) (by omega)) rfl rfl rfl (fun q8 x q8a q8b ⟨c3, hx⟩ => ?_)
      subst hx
      cbv
      refine br (fun hc3 => ?_) (fun hc3 => ?_) <;> cbv
      · refine call_pick (ns := [_, -1, 0]) hΩ (hP _ _ (by omega) (by omega) (Nat.zero_lt_succ _) (Nat.le_of_ble_eq_true rfl)) rfl rfl rfl rfl (by decide) (fun q9 n q9a q9b hn => ?_)
        cbv
        exact ⟨⟨rfl, okAll rfl, by show (m + 1) * 8 ≤ 140737488355328; omega, by show m + 1 ≤ 9223372036854775807; omega⟩, ⟨rfl, hFle _ hm⟩, _, _, .of (hFt1 s n m hm), .same, ⟨q9, by omega, by omega, rfl, s ++ [n], rfl, by rw [List.length_append, List.length_singleton, hm]; omega⟩, rfl⟩
      · exact ⟨⟨rfl, hFle0 _ hm⟩, _, _, .of (hFt0 s m hm), .same, ⟨q8, by omega, by omega, rfl, s, rfl, by rw [hm]; omega⟩, rfl⟩
end Go.Proofs.YtfmcncflooechaaGreat

/- Walks: who is barred. Plain theorems. -/
set_option linter.unusedVariables false
set_option linter.unusedSimpArgs false
namespace Go.Proofs.YtfmcncflooechaaGreat
open Go Go.Fw
set_option maxRecDepth 100000
theorem c_l4BarsOne (l : List Pck) (bs : List Trm) (k : Int) (hl : l.length ≤ 1048576) (hb : bs.length ≤ 1048576) (hs : ∀ o ∈ l, o.Small) (hk : inB k 0 ((l.length : Int) - 1) = true) : PCtr PP n_spec_l4BarsOne [encP l, .sl false 7 (bs.map Trm.enc), i64 k] (boo (bs.any (givesB (pk l k)))) := by
  obtain ⟨Ω, hΩ⟩ : ∃ Ω, Ω = std := ⟨_, rfl⟩
  obtain ⟨r, hr⟩ : ∃ r, r = bs.any (givesB (pk l k)) := ⟨_, rfl⟩
  rw [← hr]
  obtain ⟨xs, hxs⟩ : ∃ xs, xs = l.map (Pck.enc false) := ⟨_, rfl⟩
  have hlen : xs.length = l.length := by rw [hxs, List.length_map]
  unfold encP at *
  rw [← hxs]
  obtain ⟨ys, hys⟩ : ∃ ys, ys = bs.map Trm.enc := ⟨_, rfl⟩
  have hylen : ys.length = bs.length := by rw [hys, List.length_map]
  rw [← hys]
  obtain ⟨hk0, hkl, hka, hkm⟩ := pk_at hk
  obtain ⟨ps2, ds2, bs2, hen2, hps2, hds2, hbs2⟩ := enc_raw (pk l k)
  have hx2 : xs[k.toNat]? = some (Pck.enc false (pk l k)) := by rw [hxs, List.getElem?_map, hka]; rfl
  rw [hen2] at hx2
  have hg := fun t => c_l2Gives (pk l k) t (by have := (hs _ hkm).p; omega)
  rw [hen2] at hg
  generalize givesB (pk l k) = G at *
  clear hka hkm hps2 hds2 hbs2 hen2
  generalize pk l k = pp at *
  have htab := tab
  have hmo := hmo
  have hve := verEq
  refine PCtr.walk tab hΩ fn_spec_l4BarsOne rfl ?_
  generalize PP = P at *
  cbv
  refine loopX htab hΩ (fun i : Nat => ⟨[(0, .sl false 8 xs), (1, .sl false 7 ys), (2, .sc (.int .i64 k)), (7, .sc (.int .i64 (Ω.int i)))], 23, []⟩) (fun i => i ≤ bs.length ∧ r = (bs.drop i).any G) (fun i => bs.length - i) 0
    ⟨Nat.zero_le _, hr⟩ (Sbs.mk rfl rfl ⟨rfl, rfl, rfl, zeroI hΩ, trivial⟩) ?_
  rintro i ⟨hi, he⟩
  cbv
  refine br (fun h => ?_) (fun h => ?_) <;> cbv
  · replace h := ltI hΩ h
    obtain ⟨c, hcc⟩ := at_of (cs := bs) (by omega : i < bs.length)
    rw [any_at _ hcc] at he
    refine ⟨VC_drawn htab hΩ hmo (by kernel_rfl) ?_⟩
    cbv
    refine ⟨⟨hk0⟩, _, hx2, ?_⟩
    cbv
    refine ⟨⟨nnI hΩ⟩, _, rdI hΩ hys hcc, ?_⟩
    cbv
    refine QCall_pure (k := 3) (hg c) rfl (fits _) rfl ?_
    cbv
    refine br (fun g => ?_) (fun g => ?_) <;> cbv
    · exact .of (congrArg boo (by rw [he, show G c = true from g]; rfl))
    · rw [show G c = false from g, Bool.false_or] at he
      exact ⟨i + 1, ⟨by omega, he⟩, by omega, Sbs.mk rfl rfl ⟨rfl, rfl, rfl, incI hΩ (by omega), trivial⟩⟩
  · replace h := geI hΩ h
    exact .of (congrArg boo (by rw [he, List.drop_of_length_le (by omega)]; rfl))
end Go.Proofs.YtfmcncflooechaaGreat

/- Walks: who leans on one. Plain theorems. -/
set_option linter.unusedVariables false
set_option linter.unusedSimpArgs false
namespace Go.Proofs.YtfmcncflooechaaGreat
open Go Go.Fw
set_option maxRecDepth 100000
theorem c_l1Has (l : List Int) (s : Int) (hl : l.length ≤ 4611686018427387904) : PCtr PP n_spec_l1Has [.sl false 1 (l.map i64), i64 s] (boo (l.any (· == s))) := by
  obtain ⟨Ω, hΩ⟩ : ∃ Ω, Ω = std := ⟨_, rfl⟩
  obtain ⟨r, hr⟩ : ∃ r, r = l.any (· == s) := ⟨_, rfl⟩
  rw [← hr]
  obtain ⟨xs, hxs⟩ : ∃ xs, xs = l.map i64 := ⟨_, rfl⟩
  have hlen : xs.length = l.length := by rw [hxs, List.length_map]
  rw [← hxs]
  have htab := tab
  have hmo := hmo
  have hve := verEq
  refine PCtr.walk tab hΩ fn_spec_l1Has rfl ?_
  generalize PP = P at *
  cbv
  refine loopX htab hΩ (fun i : Nat => ⟨[(0, .sl false 1 xs), (1, .sc (.int .i64 s)), (5, .sc (.int .i64 (Ω.int i)))], 18, []⟩) (fun i => i ≤ l.length ∧ r = (l.drop i).any (· == s)) (fun i => l.length - i) 0
    ⟨Nat.zero_le _, hr⟩ (Sbs.mk rfl rfl ⟨rfl, rfl, zeroI hΩ, trivial⟩) ?_
  rintro i ⟨hi, he⟩
  cbv
  refine br (fun h => ?_) (fun h => ?_) <;> cbv
  · replace h := ltI hΩ h
    obtain ⟨c, hcc⟩ := at_of (cs := l) (by omega : i < l.length)
    rw [any_at _ hcc] at he
    refine ⟨⟨nnI hΩ⟩, _, rdI hΩ hxs hcc, ?_⟩
    cbv
    refine br (fun g => ?_) (fun g => ?_) <;> cbv
    · exact .of (congrArg boo (by rw [he, show (c == s) = true by simp [eqI_t hΩ g]]; rfl))
    · rw [show (c == s) = false by simp [eqI_f hΩ g], Bool.false_or] at he
      exact ⟨i + 1, ⟨by omega, he⟩, by omega, Sbs.mk rfl rfl ⟨rfl, rfl, incI hΩ (by omega), trivial⟩⟩
  · replace h := geI hΩ h
    exact .of (congrArg boo (by rw [he, List.drop_of_length_le (by omega)]; rfl))
end Go.Proofs.YtfmcncflooechaaGreat

/- Walks: the reference's solver, as far as draws ask for it. Plain theorems. -/
set_option linter.unusedVariables false
set_option linter.unusedSimpArgs false
namespace Go.Proofs.YtfmcncflooechaaGreat
open Go Go.Fw
set_option maxRecDepth 100000
/-- A number put into a rising list. -/
def put3 (v : Int) : List Int → List Int
  | [] => [v]
  | x :: xs => if v < x then v :: x :: xs else x :: put3 v xs
theorem put3_len (v : Int) : ∀ l : List Int, (put3 v l).length = l.length + 1
  | [] => rfl
  | x :: xs => by rw [put3]; split <;> simp [put3_len v xs]
theorem put3_not {v : Int} : ∀ {l : List Int}, l.any (fun x => decide (v < x)) = false → put3 v l = l ++ [v]
  | [], _ => rfl
  | x :: xs, h => by
    simp only [List.any_cons, Bool.or_eq_false_iff, decide_eq_false_iff_not] at h
    rw [put3, if_neg h.1, put3_not h.2]; rfl
theorem put3_snoc {v x : Int} : ∀ {l : List Int}, l.any (fun x => decide (v < x)) = true → put3 v (l ++ [x]) = put3 v l ++ [x]
  | [], h => by cases h
  | y :: ys, h => by
    rw [List.cons_append, put3, put3]
    split
    · rfl
    · rename_i hy
      simp only [List.any_cons, Bool.or_eq_true, decide_eq_true_eq] at h
      rw [put3_snoc (h.resolve_left hy)]; rfl
theorem put3_snoc2 {v x : Int} : ∀ {l : List Int}, l.any (fun x => decide (v < x)) = false → v < x → put3 v (l ++ [x]) = l ++ [v] ++ [x]
  | [], _, h => by show put3 v [x] = _; rw [put3, if_pos h]; rfl
  | y :: ys, h, hx => by
    simp only [List.any_cons, Bool.or_eq_false_iff, decide_eq_false_iff_not] at h
    rw [List.cons_append, put3, if_neg h.1, put3_snoc2 h.2 hx]; rfl
/-- What stands behind i numbers of the list. -/
def putUp (v : Int) (l : List Int) : List Int := if l.any (fun x => decide (v < x)) then put3 v l else l
theorem putUp_step {v x : Int} {l : List Int} : putUp v (l ++ [x]) = if l.any (fun x => decide (v < x)) = false ∧ v < x then putUp v l ++ [v] ++ [x] else putUp v l ++ [x] := by
  unfold putUp
  rw [List.any_append]
  simp only [List.any_cons, List.any_nil, Bool.or_false]
  cases h : l.any (fun x => decide (v < x)) with
  | true => simp [put3_snoc h]
  | false =>
    by_cases hx : v < x
    · simp [hx, put3_snoc2 h hx]
    · simp [hx]
theorem putUp_end {v : Int} {l : List Int} : put3 v l = if l.any (fun x => decide (v < x)) then putUp v l else putUp v l ++ [v] := by
  unfold putUp
  cases h : l.any (fun x => decide (v < x)) with
  | true => simp
  | false => simp [put3_not h]
theorem putUp_len (v : Int) (l : List Int) : (putUp v l).length ≤ l.length + 1 := by unfold putUp; split <;> simp [put3_len]
theorem c_l3Put (s : List Int) (v : Int) (hs : s.length ≤ 1048576) : PCtr PP n_spec_l3Put [.sl false 1 (s.map i64), i64 v] (.sl true 1 ((put3 v s).map i64)) := by
  obtain ⟨Ω, hΩ⟩ : ∃ Ω, Ω = std := ⟨_, rfl⟩
  obtain ⟨xs, hxs⟩ : ∃ xs, xs = s.map i64 := ⟨_, rfl⟩
  have hlen : xs.length = s.length := by rw [hxs, List.length_map]
  rw [← hxs]
  obtain ⟨U, hU⟩ : ∃ U : Nat → List Int, U = fun i => putUp v (s.take i) := ⟨_, rfl⟩
  obtain ⟨D, hD⟩ : ∃ D : Nat → Bool, D = fun i => (s.take i).any fun x => decide (v < x) := ⟨_, rfl⟩
  obtain ⟨F, hF⟩ : ∃ F : Nat → List A, F = fun i => (U i).map i64 := ⟨_, rfl⟩
  have hF0 : F 0 = [] := by rw [hF, hU]; rfl
  have hD0 : D 0 = false := by rw [hD]; rfl
  have hFl : ∀ i, (F i).length = (U i).length := fun i => by rw [hF]; exact List.length_map _
  have hUl : ∀ i, (U i).length ≤ i + 1 := fun i => by rw [hU]; exact Nat.le_trans (putUp_len _ _) (by simp; omega)
  have hst : ∀ i c, s[i]? = some c → U (i + 1) = (if D i = false ∧ v < c then U i ++ [v] ++ [c] else U i ++ [c]) ∧ D (i + 1) = (D i || decide (v < c)) := fun i c h => by
    rw [hU, hD]; dsimp only
    rw [List.take_add_one, h]
    exact ⟨putUp_step, by rw [List.any_append]; simp⟩
  have hs1 : ∀ i n L, (U i).length = L → Ω.app (Ω.take L (F i)) [i64 n] = (U i ++ [n]).map i64 := fun i n L h => by
    subst hΩ; rw [hF]; show List.take L (List.map i64 (U i)) ++ _ = _
    rw [List.map_append, List.take_of_length_le (by simp; omega)]; rfl
  have hs2 : ∀ i n n2 L, (U i).length = L → Ω.app (Ω.take (Ω.plus L (Ω.len [i64 n])) (Ω.app (Ω.take L (F i)) [i64 n])) [i64 n2] = (U i ++ [n] ++ [n2]).map i64 := fun i n n2 L h => by
    rw [hs1 i n L h]; subst hΩ; show List.take (L + 1) _ ++ _ = _
    rw [List.map_append (l₂ := [n2]), List.take_of_length_le (by simp; omega)]; rfl
  have hend : put3 v s = if D s.length then U s.length else U s.length ++ [v] := by
    have h0 := @putUp_end v (s.take s.length)
    rw [hU, hD]; show put3 v s = if ((s.take s.length).any fun x => decide (v < x)) = true then putUp v (s.take s.length) else putUp v (s.take s.length) ++ [v]
    rw [← h0, List.take_length]
  have hFm : ∀ i, F i = (U i).map i64 := fun i => by rw [hF]
  clear hF hU hD
  have htab := tab
  refine PCtr.walk tab hΩ fn_spec_l3Put rfl ?_
  obtain ⟨R, hR⟩ : ∃ R, R = put3 v s := ⟨_, rfl⟩
  rw [← hR] at hend ⊢
  obtain ⟨G, hG⟩ : ∃ G, G = R.map i64 := ⟨_, rfl⟩
  rw [← hG]
  generalize PP = P at *
  cbv
  refine loopX htab hΩ (fun i : Nat => ⟨[(0, .sl false 1 xs), (1, i64 v), (5, .vw 0 0 (U i).length), (6, boo (D i)), (7, i64 (Ω.int i))], 43, [some ⟨1, F i, false⟩]⟩) (fun i => i ≤ s.length) (fun i => s.length - i) 0 (Nat.zero_le _)
    (Sbs.mk rfl (by rw [hF0]) ⟨rfl, rfl, by have := hFl 0; rw [hF0] at this; rw [← this]; rfl, by rw [hD0]; rfl, zeroI hΩ, trivial⟩) ?_
  intro i hi
  have hFli := hFl i
  have hUli := hUl i
  have hs1i := hs1 i
  have hs2i := hs2 i
  have hsti := hst i
  have hFi1 := hFm (i + 1)
  obtain ⟨m, hm⟩ : ∃ m, (U i).length = m := ⟨_, rfl⟩
  obtain ⟨d, hd⟩ : ∃ d, D i = d := ⟨_, rfl⟩
  have e1 : ∀ n, [some (Row.mk 1 (Ω.app (Ω.take m (F i)) [i64 n]) false)] = [some (Row.mk 1 ((U i ++ [n]).map i64) false)] := fun n => by rw [hs1i n m hm]
  have l1 : ∀ n : Int, A.vw 0 0 (Ω.plus m (Ω.len [i64 n])) = .vw 0 0 (U i ++ [n]).length := fun n => by subst hΩ; rw [List.length_append, hm]; rfl
  have e2 : ∀ n n2, [some (Row.mk 1 (Ω.app (Ω.take (Ω.plus m (Ω.len [i64 n])) (Ω.app (Ω.take m (F i)) [i64 n])) [i64 n2]) false)] = [some (Row.mk 1 ((U i ++ [n] ++ [n2]).map i64) false)] := fun n n2 => by rw [hs2i n n2 m hm]
  have l2 : ∀ n n2 : Int, A.vw 0 0 (Ω.plus (Ω.plus m (Ω.len [i64 n])) (Ω.len [i64 n2])) = .vw 0 0 (U i ++ [n] ++ [n2]).length := fun n n2 => by subst hΩ; rw [List.length_append, List.length_append, hm]; rfl
  rw [hd] at hsti ⊢
  rw [hm] at hFli hUli ⊢
  cbv
  refine br (fun h => ?_) (fun h => ?_) <;> cbv
  · replace h := ltI hΩ h
    obtain ⟨c, hc⟩ := at_of (cs := s) (by omega : i < s.length)
    obtain ⟨q1, q2⟩ := hsti c hc
    have hok : (m + 1) * 8 ≤ 140737488355328 ∧ m + 1 ≤ 9223372036854775807 := by omega
    have hok2 : (Ω.plus m (Ω.len [i64 v]) + 1) * 8 ≤ 140737488355328 ∧ Ω.plus m (Ω.len [i64 v]) + 1 ≤ 9223372036854775807 := by
      have e : Ω.plus m (Ω.len [i64 v]) = m + 1 := by subst hΩ; rfl
      rw [e]; omega
    refine ⟨⟨nnI hΩ⟩, _, rdI hΩ hxs hc, ?_⟩
    cbv
    refine br (fun g1 => ?_) (fun g1 => ?_) <;> cbv
    · have g1 := gtI_t hΩ g1
      refine br (fun g2 => ?_) (fun g2 => ?_) <;> cbv
      · have g2 : d = false := notT' hΩ (by subst hΩ; exact g2)
        rw [if_pos ⟨g2, g1⟩] at q1
        refine ⟨⟨rfl, okAll rfl, hok.1, hok.2⟩, ?_⟩
        refine ⟨⟨nnI hΩ⟩, _, rdI hΩ hxs hc, ?_⟩
        cbv
        exact ⟨⟨rfl, okAll rfl, hok2.1, hok2.2⟩, i + 1, by omega, by omega, (Sbs.cut 1 rfl).trans (Sbs.mk rfl (by show _ = [some (Row.mk 1 (F (i + 1)) false)]; rw [hFi1, q1, ← e2 v c]; rfl) ⟨rfl, rfl, by rw [q1]; exact l2 v c, by rw [q2]; show boo true = _; rw [decide_eq_true g1, Bool.or_true], incI hΩ (by omega), trivial⟩)⟩
      · have g2 : d = true := notF' hΩ (by subst hΩ; exact g2)
        rw [if_neg (by rw [g2]; simp)] at q1
        refine ⟨⟨nnI hΩ⟩, _, rdI hΩ hxs hc, ?_⟩
        cbv
        exact ⟨⟨rfl, okAll rfl, hok.1, hok.2⟩, i + 1, by omega, by omega, (Sbs.cut 1 rfl).trans (Sbs.mk rfl (by show _ = [some (Row.mk 1 (F (i + 1)) false)]; rw [hFi1, q1, ← e1 c]; rfl) ⟨rfl, rfl, by rw [q1]; exact l1 c, by rw [q2, g2]; rfl, incI hΩ (by omega), trivial⟩)⟩
    · have g1 := gtI_f hΩ g1
      rw [if_neg (by omega)] at q1
      refine ⟨⟨nnI hΩ⟩, _, rdI hΩ hxs hc, ?_⟩
      cbv
      exact ⟨⟨rfl, okAll rfl, hok.1, hok.2⟩, i + 1, by omega, by omega, (Sbs.cut 1 rfl).trans (Sbs.mk rfl (by show _ = [some (Row.mk 1 (F (i + 1)) false)]; rw [hFi1, q1, ← e1 c]; rfl) ⟨rfl, rfl, by rw [q1]; exact l1 c, by rw [q2, decide_eq_false (by omega), Bool.or_false]; rfl, incI hΩ (by omega), trivial⟩)⟩
  · have h := geI hΩ h
    have hil : i = s.length := by omega
    rw [← hil] at hend
    refine br (fun g => ?_) (fun g => ?_) <;> cbv
    · have g : d = false := notT' hΩ (by subst hΩ; exact g)
      rw [hd, g, if_neg (by simp)] at hend
      refine ⟨⟨rfl, okAll rfl, by show (m + 1) * 8 ≤ 140737488355328; omega, by show m + 1 ≤ 9223372036854775807; omega⟩, ⟨rfl, ?_⟩, ?_⟩
      · show Ω.plus m (Ω.len [i64 v]) ≤ (Ω.app (Ω.take m (F i)) [i64 v]).length
        rw [hs1i v m hm]; subst hΩ; rw [List.length_map, List.length_append, hm]; exact Nat.le_refl _
      · have e : A.sl true 1 (Ω.take (Ω.plus m (Ω.len [i64 v])) (Ω.app (Ω.take m (F i)) [i64 v])) = .sl true 1 G := by
          rw [hs1i v m hm, hG, hend]; subst hΩ; exact congrArg _ (List.take_of_length_le (by rw [List.length_map, List.length_append, hm]; exact Nat.le_refl _))
        exact .of e
    · have g : d = true := notF' hΩ (by subst hΩ; exact g)
      rw [hd, g, if_pos rfl] at hend
      refine ⟨⟨rfl, ?_⟩, ?_⟩
      · show m ≤ (F i).length; omega
      · have e : A.sl true 1 (Ω.take m (F i)) = .sl true 1 G := by
          rw [hFm i, hG, hend]; subst hΩ; exact congrArg _ (List.take_of_length_le (by rw [List.length_map, hm]; exact Nat.le_refl _))
        exact .of e
end Go.Proofs.YtfmcncflooechaaGreat

/- Walks: the reference's solver, its parts. Plain theorems. -/
set_option linter.unusedVariables false
set_option linter.unusedSimpArgs false
namespace Go.Proofs.YtfmcncflooechaaGreat
open Go Go.Fw
set_option maxRecDepth 100000
/-- The numbers, each put where it belongs. -/
def sortU (s : List Int) : List Int := s.foldl (fun a v => put3 v a) []
theorem sortU_snoc (s : List Int) (v : Int) : sortU (s ++ [v]) = put3 v (sortU s) := by simp [sortU]
theorem foldl_put3_len : ∀ (s a : List Int), (s.foldl (fun a v => put3 v a) a).length = a.length + s.length
  | [], a => rfl
  | v :: s, a => by rw [List.foldl_cons, foldl_put3_len s, put3_len, List.length_cons]; omega
theorem sortU_len (s : List Int) : (sortU s).length = s.length := by simp [sortU, foldl_put3_len]
theorem put3_mem {v x : Int} : ∀ {l : List Int}, x ∈ put3 v l → x = v ∨ x ∈ l
  | [], h => by simp [put3] at h; exact .inl h
  | y :: ys, h => by
    rw [put3] at h
    split at h
    · simp at h; rcases h with h | h | h <;> simp [h]
    · rcases List.mem_cons.1 h with h | h
      · simp [h]
      · rcases put3_mem h with h | h <;> simp [h]
theorem c_l4Sorted (s : List Int) (hs : s.length ≤ 1048576) : PCtr PP n_spec_l4Sorted [.sl false 1 (s.map i64)] (.sl true 1 ((sortU s).map i64)) := by
  obtain ⟨Ω, hΩ⟩ : ∃ Ω, Ω = std := ⟨_, rfl⟩
  obtain ⟨xs, hxs⟩ : ∃ xs, xs = s.map i64 := ⟨_, rfl⟩
  have hlen : xs.length = s.length := by rw [hxs, List.length_map]
  rw [← hxs]
  obtain ⟨F, hF⟩ : ∃ F : Nat → List A, F = fun i => (sortU (s.take i)).map i64 := ⟨_, rfl⟩
  have hF0 : F 0 = [] := by rw [hF]; rfl
  have hFl : ∀ i, (F i).length ≤ i := fun i => by rw [hF]; simp [sortU_len]; omega
  have hFz : ∀ i, (F i).map frz = F i := fun i => by rw [hF]; exact frz_I _
  have hFr : ∀ i, roFree (.sl true 1 (F i)) = true := fun i => by rw [hF]; exact roF_I _
  have hput : ∀ i c, s[i]? = some c → PCtr PP n_spec_l3Put [.sl false 1 (F i), i64 c] (.sl true 1 (F (i + 1))) := fun i c h => by
    have := c_l3Put (sortU (s.take i)) c (by rw [sortU_len]; simp; omega)
    rw [← sortU_snoc] at this
    rw [hF]; show PCtr PP n_spec_l3Put [.sl false 1 ((sortU (s.take i)).map i64), i64 c] (.sl true 1 ((sortU (s.take (i + 1))).map i64))
    rw [List.take_add_one, h]; exact this
  have hend : (sortU s).map i64 = F s.length := by rw [hF]; show _ = (sortU (s.take s.length)).map i64; rw [List.take_length]
  rw [hend]
  clear hend hF
  have htab := tab
  refine PCtr.walk tab hΩ fn_spec_l4Sorted rfl ?_
  generalize PP = P at *
  cbv
  refine loopX htab hΩ (fun i : Nat => ⟨[(0, .sl false 1 xs), (3, .vw 0 0 (Ω.len (F i))), (4, i64 (Ω.int i))], 19, [some ⟨1, F i, false⟩]⟩) (fun i => i ≤ s.length) (fun i => s.length - i) 0 (Nat.zero_le _)
    (Sbs.mk rfl (by rw [hF0]) ⟨rfl, by rw [hF0]; subst hΩ; rfl, zeroI hΩ, trivial⟩) ?_
  intro i hi
  have hFli := hFl i
  have hro : ∀ {S : State}, Fw.rowAt S.rows 0 = some ⟨1, F i, false⟩ → roO S 3 (.vw 0 0 (Ω.len (F i))) = some (.sl false 1 (F i)) := fun h => ro_vw h (by subst hΩ; rfl) (hFz i)
  have hne : s.length ≤ i → F i = F s.length := fun h => by rw [show i = s.length by omega]
  have hle : Ω.len (F i) ≤ (F i).length := by subst hΩ; exact Nat.le_refl _
  have htk : Ω.take (Ω.len (F i)) (F i) = F i := takeAll hΩ _
  cbv
  refine br (fun h => ?_) (fun h => ?_) <;> cbv
  · replace h := ltI hΩ h
    obtain ⟨c, hc⟩ := at_of (cs := s) (by omega : i < s.length)
    refine ⟨⟨nnI hΩ⟩, _, rdI hΩ hxs hc, ?_⟩
    cbv
    refine call_pure hΩ 3 (hput i c hc) (mapO2 (hro rfl) rfl) (fits _) (hFr _) rfl ?_
    cbv
    exact ⟨i + 1, by omega, by omega, (Sbs.drop (r := 0) rfl).trans ((Sbs.mv (a := 1) (b := 0) rfl rfl (Nat.le_of_ble_eq_true rfl)).trans ((Sbs.cut 1 rfl).trans (Sbs.mk rfl rfl ⟨rfl, rfl, incI hΩ (by omega), trivial⟩)))⟩
  · replace h := geI hΩ h
    exact ⟨⟨rfl, hle⟩, .of (by rw [← hne (by omega)]; exact congrArg _ htk)⟩
/-- A step of the solver: what is chosen, what is denied after it. -/
def frmA (f : Int × List Int) : A := .agg [i64 f.1, .sl false 1 (f.2.map i64)]
theorem c_l4Chosen (fs : List (Int × List Int)) (hs : fs.length ≤ 1048576) : PCtr PP n_spec_l4Chosen [.sl false 2 (fs.map frmA)] (.sl true 1 ((fs.map Prod.fst).map i64)) := by
  obtain ⟨Ω, hΩ⟩ : ∃ Ω, Ω = std := ⟨_, rfl⟩
  obtain ⟨xs, hxs⟩ : ∃ xs, xs = fs.map frmA := ⟨_, rfl⟩
  have hlen : xs.length = fs.length := by rw [hxs, List.length_map]
  rw [← hxs]
  obtain ⟨F, hF⟩ : ∃ F : Nat → List A, F = fun i => ((fs.take i).map Prod.fst).map i64 := ⟨_, rfl⟩
  have hF0 : F 0 = [] := by rw [hF]; rfl
  have hFl : ∀ i, (F i).length ≤ i := fun i => by rw [hF]; simp; omega
  have hst : ∀ i c, fs[i]? = some c → Ω.app (Ω.take (Ω.len (F i)) (F i)) [i64 c.1] = F (i + 1) := fun i c h => by
    rw [takeAll hΩ]
    subst hΩ; rw [hF]; show List.map i64 (List.map Prod.fst (fs.take i)) ++ [i64 c.1] = List.map i64 (List.map Prod.fst (fs.take (i + 1)))
    rw [List.take_add_one, h, List.map_append, List.map_append]; rfl
  have hln : ∀ i c, fs[i]? = some c → Ω.plus (Ω.len (F i)) (Ω.len [i64 c.1]) = Ω.len (F (i + 1)) := fun i c h => by
    rw [← hst i c h, takeAll hΩ]; subst hΩ; show (F i).length + 1 = (F i ++ [i64 c.1]).length; rw [List.length_append]; rfl
  have hend : (fs.map Prod.fst).map i64 = F fs.length := by rw [hF]; show _ = ((fs.take fs.length).map Prod.fst).map i64; rw [List.take_length]
  rw [hend]
  clear hend hF
  have htab := tab
  refine PCtr.walk tab hΩ fn_spec_l4Chosen rfl ?_
  generalize PP = P at *
  cbv
  refine loopX htab hΩ (fun i : Nat => ⟨[(0, .sl false 2 xs), (3, .vw 0 0 (Ω.len (F i))), (4, i64 (Ω.int i))], 21, [some ⟨1, F i, false⟩]⟩) (fun i => i ≤ fs.length) (fun i => fs.length - i) 0 (Nat.zero_le _)
    (Sbs.mk rfl (by rw [hF0]) ⟨rfl, by rw [hF0]; subst hΩ; rfl, zeroI hΩ, trivial⟩) ?_
  intro i hi
  have hFli := hFl i
  have hne : fs.length ≤ i → F i = F fs.length := fun h => by rw [show i = fs.length by omega]
  have hle : Ω.len (F i) ≤ (F i).length := by subst hΩ; exact Nat.le_refl _
  have hle2 : Ω.len (F i) ≤ 1048576 := by omega
  have htk : Ω.take (Ω.len (F i)) (F i) = F i := takeAll hΩ _
  have hst2 : ∀ c, fs[i]? = some c → some (Row.mk 1 (Ω.app (Ω.take (Ω.len (F i)) (F i)) [i64 c.1]) false) = some (Row.mk 1 (F (i + 1)) false) := fun c h => by rw [hst i c h]
  have hln2 := hln i
  cbv
  refine br (fun h => ?_) (fun h => ?_) <;> cbv
  · replace h := ltI hΩ h
    obtain ⟨c, hc⟩ := at_of (cs := fs) (by omega : i < fs.length)
    have hrd : xs[(Ω.int i).toNat]? = some (.agg [i64 c.1, .sl false 1 (c.2.map i64)]) := by have := rdI hΩ hxs hc; exact this
    have hst2 := hst2 c hc
    have hln2 := hln2 c hc
    generalize c.1 = c1 at *
    generalize c.2.map i64 = c2 at *
    refine ⟨⟨nnI hΩ⟩, _, hrd, ?_⟩
    cbv
    exact ⟨⟨rfl, okAll rfl, by show (Ω.len (F i) + 1) * 8 ≤ 140737488355328; omega, by show Ω.len (F i) + 1 ≤ 9223372036854775807; omega⟩, i + 1, by omega, by omega, (Sbs.cut 1 rfl).trans (Sbs.mk rfl (by show [_] = _; rw [← hst2]; rfl) ⟨rfl, congrArg (A.vw 0 0) hln2, incI hΩ (by omega), trivial⟩)⟩
  · replace h := geI hΩ h
    exact ⟨⟨rfl, hle⟩, .of (by rw [← hne (by omega)]; exact congrArg _ htk)⟩
end Go.Proofs.YtfmcncflooechaaGreat

/- Walks: the reference's solver: what is unmet, what fits. Plain theorems. -/
set_option linter.unusedVariables false
set_option linter.unusedSimpArgs false
namespace Go.Proofs.YtfmcncflooechaaGreat
open Go Go.Fw
set_option maxRecDepth 100000
/-- Some terms. -/
def someTs (x : A) : Prop := ∃ us : List Trm, x = .sl false 7 (us.map Trm.enc) ∧ us.length ≤ 1048576
/-- One place cut out. -/
theorem seg1 {Ω : Opq} (hΩ : Ω = std) {i : Nat} {xs : List A} (h : i < xs.length) (hs : xs.length ≤ 4611686018427387904) :
    0 ≤ Ω.ar .add .i64 (Ω.int i) 1 ∧ Ω.nat (Ω.int i) ≤ Ω.nat (Ω.ar .add .i64 (Ω.int i) 1) ∧ Ω.nat (Ω.ar .add .i64 (Ω.int i) 1) ≤ xs.length ∧ ∃ z, xs[i]? = some z ∧ Ω.seg (Ω.nat (Ω.int i)) (Ω.nat (Ω.ar .add .i64 (Ω.int i) 1)) xs = [z] := by
  subst hΩ
  have e : std.ar .add .i64 (std.int i) 1 = ((i + 1 : Nat) : Int) := inc64 (by omega)
  rw [e]
  refine ⟨by omega, by show i ≤ i + 1; omega, h, xs[i], List.getElem?_eq_getElem h, ?_⟩
  show ((xs.take (i + 1)).drop i) = _
  rw [List.drop_take, List.drop_eq_getElem_cons h, show i + 1 - i = 1 by omega]; rfl
theorem fitNilT : FitX .nil (.sl false 7 (([] : List Trm).map Trm.enc)) := ⟨1, by simp [fitA]⟩
theorem r_l4Unmet (l : List Pck) (az : List Trm) (s : List Int) (hl : l.length ≤ 1048576) (hs : s.length ≤ 1048576) (ha : az.length ≤ 1048576) (ho : ∀ o ∈ l, o.Small) (hk : ∀ k ∈ s, inB k 0 ((l.length : Int) - 1) = true) :
    RCtr PP n_spec_l4Unmet [encP l, .sl false 7 (az.map Trm.enc), .sl false 1 (s.map i64)] someTs := by
  obtain ⟨Ω, hΩ⟩ : ∃ Ω, Ω = std := ⟨_, rfl⟩
  have hat : ∀ k, inB k 0 ((l.length : Int) - 1) = true → 0 ≤ k ∧ ∃ n v1 v2 v3 sz ps ds bs, (l.map (Pck.enc false))[k.toNat]? = some (.agg [str n, i64 v1, i64 v2, i64 v3, i64 sz, .sl false 1 ps, .sl false 1 ds, .sl false 7 bs]) ∧ pk l k ∈ l ∧
      ds = (pk l k).d.map (encTs false) := fun k h => by
    obtain ⟨h0, h1, h2, h3⟩ := pk_at h
    obtain ⟨ps, ds, bs, hen, hp, hd, hb⟩ := enc_raw (pk l k)
    exact ⟨h0, _, _, _, _, _, ps, ds, bs, by rw [List.getElem?_map, h2]; exact congrArg some hen, h3, hd⟩
  obtain ⟨cs, hcs⟩ : ∃ cs, cs = l.map (Pck.enc false) := ⟨_, rfl⟩
  obtain ⟨xs, hxs⟩ : ∃ xs, xs = s.map i64 := ⟨_, rfl⟩
  obtain ⟨es, hes⟩ : ∃ es, es = az.map Trm.enc := ⟨_, rfl⟩
  have hxl : xs.length = s.length := by rw [hxs, List.length_map]
  have hel : es.length = az.length := by rw [hes, List.length_map]
  have hmet : ∀ d : List Trm, d.length ≤ 1048576 → PCtr PP n_spec_l3Met [encP l, .sl false 1 xs, .sl false 7 (d.map Trm.enc)] (boo (metB l s d)) := fun d hd => by
    rw [hxs]
    exact c_l3Met l s d hl hs hd ho hk
  unfold encP at *
  rw [← hcs] at hat hmet ⊢
  rw [← hxs, ← hes]
  have htab := tab
  have hmo := hmo
  refine RCtr.walk tab hΩ fn_spec_l4Unmet rfl ?_
  generalize PP = P at *
  cbv
  refine loopX htab hΩ (fun i : Nat => ⟨[(0, .sl false 8 cs), (1, .sl false 7 es), (2, .sl false 1 xs), (7, i64 (Ω.int i))], 65, []⟩) (fun i => i ≤ az.length) (fun i => az.length - i) 0 (Nat.zero_le _)
    (Sbs.mk rfl rfl ⟨rfl, rfl, rfl, zeroI hΩ, trivial⟩) ?_
  intro i hi
  cbv
  refine br (fun h => ?_) (fun h => ?_) <;> cbv
  · replace h := ltI hΩ h
    obtain ⟨c, hc⟩ := at_of (cs := az) (by omega : i < az.length)
    obtain ⟨q1, q2, q3, z, hz, q4⟩ := seg1 hΩ (i := i) (xs := es) (by omega) (by omega)
    have hz2 : z = c.enc := by
      rw [hes, List.getElem?_map, hc] at hz; exact (Option.some.inj hz).symm
    have hcm := hmet [c] (Nat.le_of_ble_eq_true rfl)
    generalize metB l s [c] = gu at hcm
    refine ⟨⟨nnI hΩ, q1, q2, q3⟩, ?_⟩
    refine call_pure hΩ 3 hcm rfl (fitsE (by show [_, _, A.sl false 7 (Ω.seg _ _ _)] = _; rw [q4, hz2]; rfl)) rfl rfl ?_
    cbv
    refine br (fun g => ?_) (fun g => ?_) <;> cbv
    · exact ⟨⟨nnI hΩ, q1, q2, q3⟩, _, ⟨[c], rfl, Nat.le_of_ble_eq_true rfl⟩, .of (by show A.sl false 7 (Ω.seg _ _ _) = _; rw [q4, hz2]; rfl)⟩
    · exact ⟨i + 1, by omega, by omega, Sbs.mk rfl rfl ⟨rfl, rfl, rfl, incI hΩ (by omega), trivial⟩⟩
  · replace h := geI hΩ h
    refine loopX htab hΩ (fun i : Nat => ⟨[(0, .sl false 8 cs), (2, .sl false 1 xs), (8, i64 (Ω.int i))], 65, []⟩) (fun i => i ≤ s.length) (fun i => s.length - i) 0 (Nat.zero_le _)
      (Sbs.mk rfl rfl ⟨rfl, rfl, zeroI hΩ, trivial⟩) ?_
    intro j hj
    cbv
    refine br (fun h => ?_) (fun h => ?_) <;> cbv
    · replace h := ltI hΩ h
      obtain ⟨c, hc⟩ := at_of (cs := s) (by omega : j < s.length)
      obtain ⟨hc0, nn, v1, v2, v3, sz, ps, ds, bs, hx, hm, hds⟩ := hat c (hk c (List.mem_of_getElem? hc))
      have hdl : ds.length = (pk l c).d.length := by rw [hds, List.length_map]
      have hsm := ho _ hm
      have hd1 := hsm.d
      have hd2 := hsm.e
      generalize (pk l c).d = d at *
      refine ⟨⟨nnI hΩ⟩, _, rdI hΩ hxs hc, ?_⟩
      cbv
      refine ⟨⟨hc0⟩, _, hx, ?_⟩
      cbv
      refine loopX htab hΩ (fun q : Nat => ⟨[(0, .sl false 8 cs), (2, .sl false 1 xs), (8, i64 (Ω.int j)), (9, .pt 0 0 0), (10, i64 (Ω.int q))], 65,
        [some ⟨8, [.agg [str nn, i64 v1, i64 v2, i64 v3, i64 sz, .sl false 1 ps, .sl false 1 ds, .sl false 7 bs]], true⟩]⟩)
        (fun q => q ≤ d.length) (fun q => d.length - q) 0 (Nat.zero_le _) (Sbs.mk rfl rfl ⟨rfl, rfl, rfl, rfl, zeroI hΩ, trivial⟩) ?_
      intro q hq
      cbv
      refine br (fun h => ?_) (fun h => ?_) <;> cbv
      · replace h := ltI hΩ h
        obtain ⟨u, huu⟩ := at_of (cs := d) (by omega : q < d.length)
        have hul := hd2 u (List.mem_of_getElem? huu)
        have hcm := hmet u hul
        obtain ⟨us, hus⟩ : ∃ us, us = u.map Trm.enc := ⟨_, rfl⟩
        rw [← hus] at hcm
        have hrd : ds[(Ω.int q).toNat]? = some (.sl false 7 us) := (rdI hΩ hds huu).trans (by rw [hus]; rfl)
        generalize metB l s u = gu at hcm
        refine ⟨⟨nnI hΩ⟩, _, hrd, ?_⟩
        cbv
        refine call_pure hΩ 3 hcm rfl (fits _) rfl rfl ?_
        cbv
        refine br (fun g => ?_) (fun g => ?_) <;> cbv
        · refine ⟨⟨nnI hΩ⟩, _, hrd, ?_⟩
          cbv
          exact ⟨_, ⟨u, rfl, hul⟩, .of (by rw [hus]; rfl)⟩
        · exact ⟨q + 1, by omega, by omega, Sbs.mk rfl rfl ⟨rfl, rfl, rfl, rfl, incI hΩ (by omega), trivial⟩⟩
      · replace h := geI hΩ h
        exact ⟨j + 1, by omega, by omega, (Sbs.cut 0 rfl).trans (Sbs.mk rfl rfl ⟨rfl, rfl, incI hΩ (by omega), trivial⟩)⟩
    · exact ⟨_, ⟨[], rfl, Nat.zero_le _⟩, fitNilT⟩
end Go.Proofs.YtfmcncflooechaaGreat

/- Walks: the reference's solver: what fits, what is ahead, candidates. Plain theorems. -/
set_option linter.unusedVariables false
set_option linter.unusedSimpArgs false
namespace Go.Proofs.YtfmcncflooechaaGreat
open Go Go.Fw
set_option maxRecDepth 100000
def someB (x : A) : Prop := ∃ b, x = boo b
theorem r_l4Ahead (l : List Pck) (s : List Int) (a b : Int) (hl : l.length ≤ 1048576) (hs : s.length ≤ 1048576) (ha : inB a 0 ((l.length : Int) - 1) = true) (hb : inB b 0 ((l.length : Int) - 1) = true) :
    RCtr PP n_spec_l4Ahead [encP l, .sl false 1 (s.map i64), i64 a, i64 b] someB := by
  obtain ⟨Ω, hΩ⟩ : ∃ Ω, Ω = std := ⟨_, rfl⟩
  have hat : ∀ k, inB k 0 ((l.length : Int) - 1) = true → 0 ≤ k ∧ ∃ n v1 v2 v3 sz ps ds bs, (pk l k).v = ⟨v1, v2, v3⟩ ∧ (l.map (Pck.enc false))[k.toNat]? = some (.agg [str n, i64 v1, i64 v2, i64 v3, i64 sz, .sl false 1 ps, .sl false 1 ds, .sl false 7 bs]) := fun k h => by
    obtain ⟨h0, h1, h2, h3⟩ := pk_at h
    obtain ⟨ps, ds, bs, hen, hp, hd, hb⟩ := enc_raw (pk l k)
    exact ⟨h0, _, (pk l k).v.a, (pk l k).v.b, (pk l k).v.c, _, ps, ds, bs, rfl, by rw [List.getElem?_map, h2]; exact congrArg some hen⟩
  obtain ⟨ha0, n1, x1, x2, x3, z1, p1, d1, b1, -, hx⟩ := hat a ha
  obtain ⟨hb0, n2, y1, y2, y3, z2, p2, d2, b2, -, hy⟩ := hat b hb
  have hv := c_CompareVersions ⟨x1, x2, x3⟩ ⟨y1, y2, y3⟩
  generalize cmpV ⟨x1, x2, x3⟩ ⟨y1, y2, y3⟩ = cv at hv
  have hha := c_l1Has s a (by omega)
  have hhb := c_l1Has s b (by omega)
  generalize s.any (· == a) = h1 at hha
  generalize s.any (· == b) = h2 at hhb
  unfold encP Ver.enc at *
  generalize l.map (Pck.enc false) = cs at *
  generalize s.map i64 = xs at *
  have htab := tab
  have hmo := hmo
  refine RCtr.walk tab hΩ fn_spec_l4Ahead rfl ?_
  generalize PP = P at *
  cbv
  refine call_pure hΩ 3 hha rfl (fits _) rfl rfl ?_
  cbv
  refine call_pure hΩ 3 hhb rfl (fits _) rfl rfl ?_
  cbv
  refine br (fun h => ?_) (fun h => ?_) <;> cbv
  · refine call_pure hΩ 3 hha rfl (fits _) rfl rfl ?_
    cbv
    exact ⟨_, ⟨_, rfl⟩, .same⟩
  · refine ⟨VC_drawn htab hΩ hmo (by kernel_rfl) ?_⟩
    cbv
    refine ⟨⟨ha0⟩, _, hx, ?_⟩
    cbv
    refine ⟨⟨hb0⟩, _, hy, ?_⟩
    cbv
    refine QCall_pure (k := 3) hv rfl (fits _) rfl ?_
    cbv
    refine br (fun h => ?_) (fun h => ?_) <;> cbv
    · exact ⟨_, ⟨_, rfl⟩, .same⟩
    · exact ⟨_, ⟨_, rfl⟩, .same⟩
theorem r_l4Fits (l : List Pck) (s : List Int) (a : Int) (hl : l.length ≤ 1048576) (hs : s.length ≤ 1048576) (ho : ∀ o ∈ l, o.Small) (hk : ∀ k ∈ s, inB k 0 ((l.length : Int) - 1) = true) (ha : inB a 0 ((l.length : Int) - 1) = true) :
    RCtr PP n_spec_l4Fits [encP l, .sl false 1 (s.map i64), i64 a] someB := by
  obtain ⟨Ω, hΩ⟩ : ∃ Ω, Ω = std := ⟨_, rfl⟩
  have hat : ∀ k, inB k 0 ((l.length : Int) - 1) = true → 0 ≤ k ∧ ∃ n v1 v2 v3 sz ps ds bs, (l.map (Pck.enc false))[k.toNat]? = some (.agg [str n, i64 v1, i64 v2, i64 v3, i64 sz, .sl false 1 ps, .sl false 1 ds, .sl false 7 bs]) ∧
      ∀ q, inB q 0 ((l.length : Int) - 1) = true → ∃ g, PCtr PP n_spec_l4BarsOne [encP l, .sl false 7 bs, i64 q] (boo g) := fun k h => by
    obtain ⟨h0, h1, h2, h3⟩ := pk_at h
    obtain ⟨ps, ds, bs, hen, hp, hd, hb⟩ := enc_raw (pk l k)
    exact ⟨h0, _, _, _, _, _, ps, ds, bs, by rw [List.getElem?_map, h2]; exact congrArg some hen, fun q hq => ⟨_, by rw [hb]; exact c_l4BarsOne l _ q hl (ho _ h3).b ho hq⟩⟩
  obtain ⟨xs, hxs⟩ : ∃ xs, xs = s.map i64 := ⟨_, rfl⟩
  have hxl : xs.length = s.length := by rw [hxs, List.length_map]
  obtain ⟨ha0, n1, u1, u2, u3, z1, p1, d1, b1, hx, hg⟩ := hat a ha
  unfold encP at *
  generalize l.map (Pck.enc false) = cs at *
  rw [← hxs]
  have htab := tab
  have hmo := hmo
  refine RCtr.walk tab hΩ fn_spec_l4Fits rfl ?_
  generalize PP = P at *
  cbv
  refine loopX htab hΩ (fun i : Nat => ⟨[(0, .sl false 8 cs), (1, .sl false 1 xs), (2, i64 a), (7, i64 (Ω.int i))], 54, []⟩) (fun i => i ≤ s.length) (fun i => s.length - i) 0 (Nat.zero_le _)
    (Sbs.mk rfl rfl ⟨rfl, rfl, rfl, zeroI hΩ, trivial⟩) ?_
  intro i hi
  cbv
  refine br (fun h => ?_) (fun h => ?_) <;> cbv
  · replace h := ltI hΩ h
    obtain ⟨c, hc⟩ := at_of (cs := s) (by omega : i < s.length)
    have hck := hk c (List.mem_of_getElem? hc)
    obtain ⟨hc0, nn, v1, v2, v3, sz, ps, ds, bs, hx2, hg2⟩ := hat c hck
    obtain ⟨g1, hg1⟩ := hg2 a ha
    obtain ⟨g2, hg2⟩ := hg c hck
    refine ⟨VC_drawn htab hΩ hmo (by kernel_rfl) ?_⟩
    cbv
    refine ⟨⟨nnI hΩ⟩, _, rdI hΩ hxs hc, ?_⟩
    cbv
    refine ⟨⟨hc0⟩, _, hx2, ?_⟩
    cbv
    refine ⟨⟨ha0⟩, _, hx, ?_⟩
    cbv
    repeat' (first
      | (refine br (fun _ => ?_) (fun _ => ?_) <;> cbv)
      | (refine ⟨⟨nnI hΩ⟩, _, rdI hΩ hxs hc, ?_⟩; cbv)
      | (refine ⟨⟨hc0⟩, _, hx2, ?_⟩; cbv)
      | (refine ⟨⟨ha0⟩, _, hx, ?_⟩; cbv)
      | (refine QCall_pure (k := 3) hg1 rfl (fits _) rfl ?_; cbv)
      | (refine QCall_pure (k := 3) hg2 rfl (fits _) rfl ?_; cbv)
      | exact ⟨_, ⟨_, rfl⟩, .same⟩
      | exact ⟨i + 1, by omega, by omega, Sbs.mk rfl rfl ⟨rfl, rfl, rfl, incI hΩ (by omega), trivial⟩⟩)
  · replace h := geI hΩ h
    exact ⟨_, ⟨_, rfl⟩, .same⟩
end Go.Proofs.YtfmcncflooechaaGreat

/- Walks: the reference's solver: candidates. Plain theorems. -/
set_option linter.unusedVariables false
set_option linter.unusedSimpArgs false
namespace Go.Proofs.YtfmcncflooechaaGreat
open Go Go.Fw
set_option maxRecDepth 100000
theorem gtZ {Ω : Opq} (hΩ : Ω = std) {n : Nat} (h : Ω.cmp .gtr (Ω.int n) 0 = true) : 0 < n := by subst hΩ; have := gt_t h; exact Int.ofNat_lt.1 this
theorem decJ {Ω : Opq} (hΩ : Ω = std) {n : Nat} (h : 0 < n) (h2 : n ≤ 4611686018427387904) : Ω.ar .sub .i64 (Ω.int n) 1 = Ω.int (n - 1) := by
  subst hΩ; show IntKind.i64.wrap ((n : Int) - 1) = ((n - 1 : Nat) : Int); rw [wrap64 (by omega) (by omega)]; omega
theorem ints_ok (c : List Int) : (∀ y ∈ c.map i64, noOwn y = true) ∧ ∀ x ∈ flat (c.map i64), okCell x = true :=
  ⟨fun y h => by obtain ⟨k, _, rfl⟩ := List.mem_map.1 h; rfl, fun x h => by
    obtain ⟨y, hy, hx⟩ := List.mem_flatMap.1 h
    obtain ⟨k, _, rfl⟩ := List.mem_map.1 hy
    rw [show x = i64 k from List.mem_singleton.1 hx]; rfl⟩
theorem cand_new {F : List Int → List A} (hF : F = fun s => s.map i64) (c : List Int) (i : Int) (n : Nat) (hn : n ≤ c.length) :
    (((((((([] : List A).take 0 ++ ((F c).take n).drop 0).take (0 + (((F c).take n).drop 0).length)) ++ [i64 i]).take (0 + (((F c).take n).drop 0).length + 1)) ++ ((F c).take (F c).length).drop n).map frz).drop 0).take (0 + (((F c).take n).drop 0).length + 1 + (((F c).take (F c).length).drop n).length) = F (c.take n ++ [i] ++ c.drop n) := by
  rw [hF]
  simp only [List.take_nil, List.nil_append, List.drop_zero, Nat.zero_add, List.take_length]
  rw [List.take_of_length_le (l := List.take n (List.map i64 c) ++ [i64 i]) (by simp), List.take_of_length_le (by simp; omega)]
  rw [← frz_I (c.take n ++ [i] ++ c.drop n)]
  congr 1
  simp
theorem segOK {Ω : Opq} (hΩ : Ω = std) {xs : List A} (h1 : ∀ y ∈ xs, noOwn y = true) (h2 : ∀ c ∈ flat xs, okCell c = true) (l h : Nat) : (∀ y ∈ Ω.seg l h xs, noOwn y = true) ∧ (∀ c ∈ flat (Ω.seg l h xs), okCell c = true) := by
  subst hΩ
  have hs : ∀ y ∈ (xs.take h).drop l, y ∈ xs := fun y hy => List.mem_of_mem_take (List.mem_of_mem_drop hy)
  refine ⟨fun y hy => h1 y (hs y hy), fun c hc => h2 c ?_⟩
  obtain ⟨x, hx, hy⟩ := List.mem_flatMap.1 hc
  exact List.mem_flatMap.2 ⟨x, hs x hx, hy⟩
/-- Some places below n. -/
def someP (n : Nat) (x : A) : Prop := ∃ c : List Int, x = .sl false 1 (c.map i64) ∧ c.length ≤ n ∧ ∀ k ∈ c, 0 ≤ k ∧ k < (n : Int)
theorem r_l4Candidates (l : List Pck) (us : List Trm) (s d y : List Int) (hl : l.length ≤ 1048576) (hu : us.length ≤ 1048576) (hs : s.length ≤ 1048576) (hd : d.length ≤ 1048576) (hy : y.length ≤ 1048576) (ho : ∀ o ∈ l, o.Small) (hk : ∀ k ∈ s, inB k 0 ((l.length : Int) - 1) = true) :
    RCtr PP n_spec_l4Candidates [encP l, .sl false 7 (us.map Trm.enc), .sl false 1 (s.map i64), .sl false 1 (d.map i64), .sl false 1 (y.map i64)] (someP l.length) := by
  obtain ⟨Ω, hΩ⟩ : ∃ Ω, Ω = std := ⟨_, rfl⟩
  have hin : ∀ i : Nat, i < l.length → inB i 0 ((l.length : Int) - 1) = true := fun i h => by simp only [inB, Bool.and_eq_true, decide_eq_true_eq]; omega
  have hin2 : ∀ i : Int, 0 ≤ i → i < (l.length : Int) → inB i 0 ((l.length : Int) - 1) = true := fun i h h2 => by simp only [inB, Bool.and_eq_true, decide_eq_true_eq]; omega
  have hat : ∀ i : Nat, i < l.length → ∃ n v1 v2 v3 sz ps ds bs, (l.map (Pck.enc false))[i]? = some (.agg [str n, i64 v1, i64 v2, i64 v3, i64 sz, .sl false 1 ps, .sl false 1 ds, .sl false 7 bs]) ∧
      ∀ t : Trm, ∃ g, PCtr PP n_spec_l2Gives [.agg [str n, i64 v1, i64 v2, i64 v3, i64 sz, .sl false 1 ps, .sl false 1 ds, .sl false 7 bs], t.enc] (boo g) := fun i h => by
    obtain ⟨h0, h1, h2, h3⟩ := pk_at (hin i h)
    obtain ⟨ps, ds, bs, hen, hp, hd, hb⟩ := enc_raw (pk l i)
    exact ⟨_, _, _, _, _, ps, ds, bs, by rw [List.getElem?_map, show i = (i : Int).toNat from rfl, h2]; exact congrArg some hen, fun t => ⟨_, by rw [← hen]; exact c_l2Gives (pk l i) t (by have := (ho _ h3).p; omega)⟩⟩
  have hfit := fun (i : Nat) h => r_l4Fits l s i hl hs ho hk (hin i h)
  have hah := fun (i : Nat) h q h0 h1 => r_l4Ahead l y i q hl hy (hin i h) (hin2 q h0 h1)
  have hhs : ∀ i : Int, ∃ g, PCtr PP n_spec_l1Has [.sl false 1 (s.map i64), i64 i] (boo g) := fun i => ⟨_, c_l1Has s i (by omega)⟩
  have hhd : ∀ i : Int, ∃ g, PCtr PP n_spec_l1Has [.sl false 1 (d.map i64), i64 i] (boo g) := fun i => ⟨_, c_l1Has d i (by omega)⟩
  obtain ⟨L, hL⟩ : ∃ L, L = l.length := ⟨_, rfl⟩
  unfold encP at *
  obtain ⟨cs, hcs⟩ : ∃ cs, cs = l.map (Pck.enc false) := ⟨_, rfl⟩
  have hcl : cs.length = L := by rw [hcs, List.length_map, hL]
  rw [← hcs] at hat hfit hah ⊢
  rw [← hL] at hat hfit hah ⊢
  obtain ⟨es, hes⟩ : ∃ es, es = us.map Trm.enc := ⟨_, rfl⟩
  have hel : es.length = us.length := by rw [hes, List.length_map]
  rw [← hes]
  obtain ⟨F, hF⟩ : ∃ F : List Int → List A, F = fun s => s.map i64 := ⟨_, rfl⟩
  have hF0 : F [] = [] := by rw [hF]; rfl
  have hFl : ∀ s, (F s).length = s.length := fun s => by rw [hF]; exact List.length_map _
  have hFm : ∀ c : List Int, c.map i64 = F c := fun c => by rw [hF]
  have hFat : ∀ (c : List Int) (n : Nat), n < c.length → ∃ k, c[n]? = some k ∧ (F c)[n]? = some (i64 k) := fun c n h => ⟨c[n], List.getElem?_eq_getElem h, by rw [hF]; simp [h]⟩
  generalize s.map i64 = xs at *
  generalize d.map i64 = zs at *
  generalize y.map i64 = ys at *
  have htab := tab
  have hmo := hmo
  refine RCtr.walk tab hΩ fn_spec_l4Candidates rfl ?_
  generalize PP = P at *
  cbv
  refine loopX htab hΩ (fun i : Nat × List Int => ⟨[(0, .sl false 8 cs), (1, .sl false 7 es), (2, .sl false 1 xs), (3, .sl false 1 zs), (4, .sl false 1 ys), (11, .sl false 1 (F i.2)), (12, i64 (Ω.int i.1))], 90, []⟩)
    (fun i => i.1 ≤ L ∧ i.2.length ≤ i.1 ∧ ∀ k ∈ i.2, 0 ≤ k ∧ k < (L : Int)) (fun i => L - i.1) (0, []) ⟨Nat.zero_le _, Nat.le_refl _, by simp⟩
    ((Sbs.thaw (r := 0) rfl rfl).trans ((Sbs.cut 0 rfl).trans (Sbs.mk rfl rfl ⟨rfl, rfl, rfl, rfl, rfl, by dsimp only; rw [hF0]; rfl, zeroI hΩ, trivial⟩))) ?_
  rintro ⟨i, c⟩ ⟨i1, i2, i3⟩
  dsimp only at i1 i2 i3
  have hFc := hFl c
  have hcat := hFat c
  have hok := ints_ok c
  rw [hFm c] at hok
  have hlt : ∀ {n : Nat}, Ω.cmp .lss (Ω.int i) (Ω.int (Ω.len cs)) = true → i < L := fun h => by have := ltI hΩ h; omega
  cbv
  refine br (fun h => ?_) (fun h => ?_) <;> cbv
  · have h := hlt (n := 0) h
    obtain ⟨nn, v1, v2, v3, sz, ps, ds, bs, hx, hg⟩ := hat i h
    have hx2 : cs[(Ω.int i).toNat]? = some (.agg [str nn, i64 v1, i64 v2, i64 v3, i64 sz, .sl false 1 ps, .sl false 1 ds, .sl false 7 bs]) := rdJ hΩ hx
    refine loopX htab hΩ (fun j : Nat × Bool => ⟨[(0, .sl false 8 cs), (1, .sl false 7 es), (2, .sl false 1 xs), (3, .sl false 1 zs), (4, .sl false 1 ys), (11, .sl false 1 (F c)), (12, i64 (Ω.int i)), (13, boo j.2), (14, i64 (Ω.int j.1))], 90, []⟩)
      (fun j => j.1 ≤ us.length) (fun j => us.length - j.1) (0, false) (Nat.zero_le _) (Sbs.mk rfl rfl ⟨rfl, rfl, rfl, rfl, rfl, rfl, rfl, rfl, zeroI hΩ, trivial⟩) ?_
    rintro ⟨j, b⟩ hj
    dsimp only at hj
    cbv
    refine br (fun h2 => ?_) (fun h2 => ?_) <;> cbv
    · replace h2 := ltI hΩ h2
      obtain ⟨u, hu⟩ := at_of (cs := us) (by omega : j < us.length)
      obtain ⟨g, hg⟩ := hg u
      refine ⟨VC_drawn htab hΩ hmo (by kernel_rfl) ?_⟩
      cbv
      refine br (fun h3 => ?_) (fun h3 => ?_) <;> cbv
      · exact ⟨(j + 1, true), by dsimp only; omega, by dsimp only; omega, Sbs.mk rfl rfl ⟨rfl, rfl, rfl, rfl, rfl, rfl, rfl, rfl, incI hΩ (by omega), trivial⟩⟩
      · refine ⟨⟨nnI hΩ⟩, _, hx2, ?_⟩
        cbv
        refine ⟨⟨nnI hΩ⟩, _, rdI hΩ hes hu, ?_⟩
        cbv
        refine QCall_pure (k := 3) hg rfl (fits _) rfl ?_
        cbv
        exact ⟨(j + 1, Ω.ite false true g), by dsimp only; omega, by dsimp only; omega, Sbs.mk rfl rfl ⟨rfl, rfl, rfl, rfl, rfl, rfl, rfl, rfl, incI hΩ (by omega), trivial⟩⟩
    · replace h2 := geI hΩ h2
      refine br (fun h3 => ?_) (fun h3 => ?_) <;> cbv
      · exact ⟨(i + 1, c), ⟨by dsimp only; omega, by dsimp only; omega, i3⟩, by dsimp only; omega, Sbs.mk rfl rfl ⟨rfl, rfl, rfl, rfl, rfl, rfl, incI hΩ (by omega), trivial⟩⟩
      · obtain ⟨g1, hg1⟩ := hhs (Ω.int i)
        obtain ⟨g2, hg2⟩ := hhd (Ω.int i)
        refine call_pure hΩ 3 hg1 rfl (fits _) rfl rfl ?_
        cbv
        refine br (fun h4 => ?_) (fun h4 => ?_) <;> cbv
        · exact ⟨(i + 1, c), ⟨by dsimp only; omega, by dsimp only; omega, i3⟩, by dsimp only; omega, Sbs.mk rfl rfl ⟨rfl, rfl, rfl, rfl, rfl, rfl, incI hΩ (by omega), trivial⟩⟩
        · refine call_pure hΩ 3 hg2 rfl (fits _) rfl rfl ?_
          cbv
          refine br (fun h4 => ?_) (fun h4 => ?_) <;> cbv
          · exact ⟨(i + 1, c), ⟨by dsimp only; omega, by dsimp only; omega, i3⟩, by dsimp only; omega, Sbs.mk rfl rfl ⟨rfl, rfl, rfl, rfl, rfl, rfl, incI hΩ (by omega), trivial⟩⟩
          · refine call_r hΩ 3 (hfit i h) rfl (fitsE (by subst hΩ; rfl)) (fun x ⟨g, hx⟩ => ?_)
            subst hx
            refine ⟨rfl, ?_⟩
            cbv
            refine br (fun h4 => ?_) (fun h4 => ?_) <;> cbv
            · exact ⟨(i + 1, c), ⟨by dsimp only; omega, by dsimp only; omega, i3⟩, by dsimp only; omega, Sbs.mk rfl rfl ⟨rfl, rfl, rfl, rfl, rfl, rfl, incI hΩ (by omega), trivial⟩⟩
            · refine loopX htab hΩ (fun n : Nat => ⟨[(0, .sl false 8 cs), (1, .sl false 7 es), (2, .sl false 1 xs), (3, .sl false 1 zs), (4, .sl false 1 ys), (11, .sl false 1 (F c)), (12, i64 (Ω.int i)), (15, i64 (Ω.int n))], 90, []⟩)
                (fun n => n ≤ c.length) (fun n => n) c.length (Nat.le_refl _) (Sbs.mk rfl rfl ⟨rfl, rfl, rfl, rfl, rfl, rfl, rfl, by rw [← hFc]; subst hΩ; rfl, trivial⟩) ?_
              intro n hn
              cbv
              refine br (fun h5 => ?_) (fun h5 => ?_) <;> cbv
              · have h5 : 0 < n := gtZ hΩ h5
                have e5 : Ω.ar .sub .i64 (Ω.int n) 1 = Ω.int (n - 1) := decJ hΩ h5 (by omega)
                obtain ⟨k, hk1, hk2⟩ := hcat (n - 1) (by omega)
                have hk3 := i3 k (List.mem_of_getElem? hk1)
                refine ⟨⟨by show 0 ≤ Ω.ar .sub .i64 (Ω.int n) 1; rw [e5]; exact nnI hΩ⟩, i64 k, by show (F c)[(Ω.ar .sub .i64 (Ω.int n) 1).toNat]? = some (i64 k); rw [e5]; exact rdJ hΩ hk2, ?_⟩
                cbv
                refine call_r hΩ 3 (hah i h k hk3.1 hk3.2) rfl (fitsE (by subst hΩ; rfl)) (fun x ⟨g, hx⟩ => ?_)
                subst hx
                refine ⟨rfl, ?_⟩
                cbv
                refine br (fun h6 => ?_) (fun h6 => ?_) <;> cbv
                · exact ⟨n - 1, by omega, by omega, Sbs.mk rfl rfl ⟨rfl, rfl, rfl, rfl, rfl, rfl, rfl, congrArg i64 e5, trivial⟩⟩
                · refine ⟨VC_order htab hΩ hmo [1, 2, 3, 5, 8, 9, 10] (.two 0 (.two 4 (.step 6 (.step 7 (.step 11 (.step 12 .fin)))) 6 (.step 4 (.step 7 (.step 11 (.step 12 .fin))))) 6 (.step 0 (.step 4 (.step 7 (.step 11 (.step 12 .fin)))))) (by kernel_rfl) ?_⟩
                  cbv
                  have e6 : Ω.nat (Ω.int n) = n := by subst hΩ; rfl
                  have e7 : Ω.len (F c) = c.length := by rw [← hFc]; subst hΩ; rfl
                  have q1 := segOK hΩ hok.1 hok.2 0 (Ω.nat (Ω.int n))
                  have q2 := segOK hΩ hok.1 hok.2 (Ω.nat (Ω.int n)) (Ω.len (F c))
                  have l1 : (Ω.seg 0 (Ω.nat (Ω.int n)) (F c)).length ≤ 1048576 := by subst hΩ; show (((F c).take n).drop 0).length ≤ _; simp; omega
                  have l2 : (Ω.seg (Ω.nat (Ω.int n)) (Ω.len (F c)) (F c)).length ≤ 1048576 := by subst hΩ; show (((F c).take (F c).length).drop n).length ≤ _; simp; omega
                  have l3 : Ω.plus 0 (Ω.len (Ω.seg 0 (Ω.nat (Ω.int n)) (F c))) ≤ 1048576 := by subst hΩ; show 0 + (((F c).take n).drop 0).length ≤ _; simp; omega
                  have l4 : Ω.plus (Ω.plus 0 (Ω.len (Ω.seg 0 (Ω.nat (Ω.int n)) (F c)))) 1 ≤ 1048577 := by subst hΩ; show 0 + (((F c).take n).drop 0).length + 1 ≤ _; simp; omega
                  have l5 : Ω.plus (Ω.plus 0 (Ω.len (Ω.seg 0 (Ω.nat (Ω.int n)) (F c)))) (Ω.len [i64 (Ω.int i)]) ≤ 1048577 := by subst hΩ; show 0 + (((F c).take n).drop 0).length + 1 ≤ _; simp; omega
                  have hall : ∀ q ∈ c.take n ++ [Ω.int i] ++ c.drop n, 0 ≤ q ∧ q < (L : Int) := fun q hq => by
                    rcases List.mem_append.1 hq with hq | hq
                    · rcases List.mem_append.1 hq with hq | hq
                      · exact i3 q (List.mem_of_mem_take hq)
                      · rw [List.mem_singleton.1 hq]; subst hΩ; exact ⟨Int.natCast_nonneg i, by show (i : Int) < L; omega⟩
                    · exact i3 q (List.mem_of_mem_drop hq)
                  have hlen2 : (c.take n ++ [Ω.int i] ++ c.drop n).length ≤ i + 1 := by simp; omega
                  have hnew := cand_new hF c (Ω.int i) n hn
                  refine ⟨⟨⟨trivial, nnI hΩ, Nat.zero_le _, by show Ω.nat (Ω.int n) ≤ (F c).length; omega⟩⟩, ⟨⟨nnI hΩ, trivial, by show Ω.nat (Ω.int n) ≤ Ω.len (F c); omega, by show Ω.len (F c) ≤ (F c).length; omega⟩⟩, ⟨?_, ?_⟩, ?_⟩
                  · exact ⟨⟨⟨q1.1, q1.2, by show (0 + (Ω.seg 0 (Ω.nat (Ω.int n)) (F c)).length) * 8 ≤ 140737488355328; omega, by show 0 + (Ω.seg 0 (Ω.nat (Ω.int n)) (F c)).length ≤ 9223372036854775807; omega⟩⟩, ⟨⟨rfl, okAll rfl, by show (Ω.plus 0 (Ω.len (Ω.seg 0 (Ω.nat (Ω.int n)) (F c))) + 1) * 8 ≤ 140737488355328; omega, by show Ω.plus 0 (Ω.len (Ω.seg 0 (Ω.nat (Ω.int n)) (F c))) + 1 ≤ 9223372036854775807; omega⟩⟩, ⟨⟨q2.1, q2.2, by show (Ω.plus (Ω.plus 0 (Ω.len (Ω.seg 0 (Ω.nat (Ω.int n)) (F c)))) (Ω.len [i64 (Ω.int i)]) + (Ω.seg (Ω.nat (Ω.int n)) (Ω.len (F c)) (F c)).length) * 8 ≤ 140737488355328; omega, by show Ω.plus (Ω.plus 0 (Ω.len (Ω.seg 0 (Ω.nat (Ω.int n)) (F c)))) (Ω.len [i64 (Ω.int i)]) + (Ω.seg (Ω.nat (Ω.int n)) (Ω.len (F c)) (F c)).length ≤ 9223372036854775807; omega⟩⟩, (i + 1, c.take n ++ [Ω.int i] ++ c.drop n), ⟨by dsimp only; omega, hlen2, hall⟩, by dsimp only; omega, (Sbs.thaw (r := 0) rfl rfl).trans ((Sbs.cut 0 rfl).trans (Sbs.mk rfl rfl ⟨rfl, rfl, rfl, rfl, rfl, by subst hΩ; exact congrArg (A.sl false 1) hnew, incI hΩ (by omega), trivial⟩))⟩
                  · exact ⟨⟨⟨q1.1, q1.2, by show (0 + (Ω.seg 0 (Ω.nat (Ω.int n)) (F c)).length) * 8 ≤ 140737488355328; omega, by show 0 + (Ω.seg 0 (Ω.nat (Ω.int n)) (F c)).length ≤ 9223372036854775807; omega⟩⟩, ⟨⟨Nat.le_refl _, by simp [noOwn], by simp [flat, A.cells, okCell], by show (Ω.plus 0 (Ω.len (Ω.seg 0 (Ω.nat (Ω.int n)) (F c))) + 1) * 8 ≤ 140737488355328; omega, by show Ω.plus 0 (Ω.len (Ω.seg 0 (Ω.nat (Ω.int n)) (F c))) + 1 ≤ 9223372036854775807; omega⟩⟩, ⟨⟨q2.1, q2.2, by show (Ω.plus (Ω.plus 0 (Ω.len (Ω.seg 0 (Ω.nat (Ω.int n)) (F c)))) 1 + (Ω.seg (Ω.nat (Ω.int n)) (Ω.len (F c)) (F c)).length) * 8 ≤ 140737488355328; omega, by show Ω.plus (Ω.plus 0 (Ω.len (Ω.seg 0 (Ω.nat (Ω.int n)) (F c)))) 1 + (Ω.seg (Ω.nat (Ω.int n)) (Ω.len (F c)) (F c)).length ≤ 9223372036854775807; omega⟩⟩, (i + 1, c.take n ++ [Ω.int i] ++ c.drop n), ⟨by dsimp only; omega, hlen2, hall⟩, by dsimp only; omega, (Sbs.thaw (r := 0) rfl rfl).trans ((Sbs.cut 0 rfl).trans (Sbs.mk rfl rfl ⟨rfl, rfl, rfl, rfl, rfl, by subst hΩ; exact congrArg (A.sl false 1) hnew, incI hΩ (by omega), trivial⟩))⟩
                  · exact ⟨⟨⟨q1.1, q1.2, by show (0 + (Ω.seg 0 (Ω.nat (Ω.int n)) (F c)).length) * 8 ≤ 140737488355328; omega, by show 0 + (Ω.seg 0 (Ω.nat (Ω.int n)) (F c)).length ≤ 9223372036854775807; omega⟩⟩, ⟨⟨Nat.le_refl _, by simp [noOwn], by simp [flat, A.cells, okCell], by show (Ω.plus 0 (Ω.len (Ω.seg 0 (Ω.nat (Ω.int n)) (F c))) + 1) * 8 ≤ 140737488355328; omega, by show Ω.plus 0 (Ω.len (Ω.seg 0 (Ω.nat (Ω.int n)) (F c))) + 1 ≤ 9223372036854775807; omega⟩⟩, ⟨⟨q2.1, q2.2, by show (Ω.plus (Ω.plus 0 (Ω.len (Ω.seg 0 (Ω.nat (Ω.int n)) (F c)))) 1 + (Ω.seg (Ω.nat (Ω.int n)) (Ω.len (F c)) (F c)).length) * 8 ≤ 140737488355328; omega, by show Ω.plus (Ω.plus 0 (Ω.len (Ω.seg 0 (Ω.nat (Ω.int n)) (F c)))) 1 + (Ω.seg (Ω.nat (Ω.int n)) (Ω.len (F c)) (F c)).length ≤ 9223372036854775807; omega⟩⟩, (i + 1, c.take n ++ [Ω.int i] ++ c.drop n), ⟨by dsimp only; omega, hlen2, hall⟩, by dsimp only; omega, (Sbs.thaw (r := 1) rfl rfl).trans ((Sbs.cut 0 rfl).trans (Sbs.mk rfl rfl ⟨rfl, rfl, rfl, rfl, rfl, by subst hΩ; exact congrArg (A.sl false 1) hnew, incI hΩ (by omega), trivial⟩))⟩
              · refine ⟨VC_order htab hΩ hmo [1, 2, 3, 5, 8, 9, 10] (.two 0 (.two 4 (.step 6 (.step 7 (.step 11 (.step 12 .fin)))) 6 (.step 4 (.step 7 (.step 11 (.step 12 .fin))))) 6 (.step 0 (.step 4 (.step 7 (.step 11 (.step 12 .fin)))))) (by kernel_rfl) ?_⟩
                cbv
                have e6 : Ω.nat (Ω.int n) = n := by subst hΩ; rfl
                have e7 : Ω.len (F c) = c.length := by rw [← hFc]; subst hΩ; rfl
                have q1 := segOK hΩ hok.1 hok.2 0 (Ω.nat (Ω.int n))
                have q2 := segOK hΩ hok.1 hok.2 (Ω.nat (Ω.int n)) (Ω.len (F c))
                have l1 : (Ω.seg 0 (Ω.nat (Ω.int n)) (F c)).length ≤ 1048576 := by subst hΩ; show (((F c).take n).drop 0).length ≤ _; simp; omega
                have l2 : (Ω.seg (Ω.nat (Ω.int n)) (Ω.len (F c)) (F c)).length ≤ 1048576 := by subst hΩ; show (((F c).take (F c).length).drop n).length ≤ _; simp; omega
                have l3 : Ω.plus 0 (Ω.len (Ω.seg 0 (Ω.nat (Ω.int n)) (F c))) ≤ 1048576 := by subst hΩ; show 0 + (((F c).take n).drop 0).length ≤ _; simp; omega
                have l4 : Ω.plus (Ω.plus 0 (Ω.len (Ω.seg 0 (Ω.nat (Ω.int n)) (F c)))) 1 ≤ 1048577 := by subst hΩ; show 0 + (((F c).take n).drop 0).length + 1 ≤ _; simp; omega
                have l5 : Ω.plus (Ω.plus 0 (Ω.len (Ω.seg 0 (Ω.nat (Ω.int n)) (F c)))) (Ω.len [i64 (Ω.int i)]) ≤ 1048577 := by subst hΩ; show 0 + (((F c).take n).drop 0).length + 1 ≤ _; simp; omega
                have hall : ∀ q ∈ c.take n ++ [Ω.int i] ++ c.drop n, 0 ≤ q ∧ q < (L : Int) := fun q hq => by
                  rcases List.mem_append.1 hq with hq | hq
                  · rcases List.mem_append.1 hq with hq | hq
                    · exact i3 q (List.mem_of_mem_take hq)
                    · rw [List.mem_singleton.1 hq]; subst hΩ; exact ⟨Int.natCast_nonneg i, by show (i : Int) < L; omega⟩
                  · exact i3 q (List.mem_of_mem_drop hq)
                have hlen2 : (c.take n ++ [Ω.int i] ++ c.drop n).length ≤ i + 1 := by simp; omega
                have hnew := cand_new hF c (Ω.int i) n hn
                refine ⟨⟨⟨trivial, nnI hΩ, Nat.zero_le _, by show Ω.nat (Ω.int n) ≤ (F c).length; omega⟩⟩, ⟨⟨nnI hΩ, trivial, by show Ω.nat (Ω.int n) ≤ Ω.len (F c); omega, by show Ω.len (F c) ≤ (F c).length; omega⟩⟩, ⟨?_, ?_⟩, ?_⟩
                · exact ⟨⟨⟨q1.1, q1.2, by show (0 + (Ω.seg 0 (Ω.nat (Ω.int n)) (F c)).length) * 8 ≤ 140737488355328; omega, by show 0 + (Ω.seg 0 (Ω.nat (Ω.int n)) (F c)).length ≤ 9223372036854775807; omega⟩⟩, ⟨⟨rfl, okAll rfl, by show (Ω.plus 0 (Ω.len (Ω.seg 0 (Ω.nat (Ω.int n)) (F c))) + 1) * 8 ≤ 140737488355328; omega, by show Ω.plus 0 (Ω.len (Ω.seg 0 (Ω.nat (Ω.int n)) (F c))) + 1 ≤ 9223372036854775807; omega⟩⟩, ⟨⟨q2.1, q2.2, by show (Ω.plus (Ω.plus 0 (Ω.len (Ω.seg 0 (Ω.nat (Ω.int n)) (F c)))) (Ω.len [i64 (Ω.int i)]) + (Ω.seg (Ω.nat (Ω.int n)) (Ω.len (F c)) (F c)).length) * 8 ≤ 140737488355328; omega, by show Ω.plus (Ω.plus 0 (Ω.len (Ω.seg 0 (Ω.nat (Ω.int n)) (F c)))) (Ω.len [i64 (Ω.int i)]) + (Ω.seg (Ω.nat (Ω.int n)) (Ω.len (F c)) (F c)).length ≤ 9223372036854775807; omega⟩⟩, (i + 1, c.take n ++ [Ω.int i] ++ c.drop n), ⟨by dsimp only; omega, hlen2, hall⟩, by dsimp only; omega, (Sbs.thaw (r := 0) rfl rfl).trans ((Sbs.cut 0 rfl).trans (Sbs.mk rfl rfl ⟨rfl, rfl, rfl, rfl, rfl, by subst hΩ; exact congrArg (A.sl false 1) hnew, incI hΩ (by omega), trivial⟩))⟩
                · exact ⟨⟨⟨q1.1, q1.2, by show (0 + (Ω.seg 0 (Ω.nat (Ω.int n)) (F c)).length) * 8 ≤ 140737488355328; omega, by show 0 + (Ω.seg 0 (Ω.nat (Ω.int n)) (F c)).length ≤ 9223372036854775807; omega⟩⟩, ⟨⟨Nat.le_refl _, by simp [noOwn], by simp [flat, A.cells, okCell], by show (Ω.plus 0 (Ω.len (Ω.seg 0 (Ω.nat (Ω.int n)) (F c))) + 1) * 8 ≤ 140737488355328; omega, by show Ω.plus 0 (Ω.len (Ω.seg 0 (Ω.nat (Ω.int n)) (F c))) + 1 ≤ 9223372036854775807; omega⟩⟩, ⟨⟨q2.1, q2.2, by show (Ω.plus (Ω.plus 0 (Ω.len (Ω.seg 0 (Ω.nat (Ω.int n)) (F c)))) 1 + (Ω.seg (Ω.nat (Ω.int n)) (Ω.len (F c)) (F c)).length) * 8 ≤ 140737488355328; omega, by show Ω.plus (Ω.plus 0 (Ω.len (Ω.seg 0 (Ω.nat (Ω.int n)) (F c)))) 1 + (Ω.seg (Ω.nat (Ω.int n)) (Ω.len (F c)) (F c)).length ≤ 9223372036854775807; omega⟩⟩, (i + 1, c.take n ++ [Ω.int i] ++ c.drop n), ⟨by dsimp only; omega, hlen2, hall⟩, by dsimp only; omega, (Sbs.thaw (r := 0) rfl rfl).trans ((Sbs.cut 0 rfl).trans (Sbs.mk rfl rfl ⟨rfl, rfl, rfl, rfl, rfl, by subst hΩ; exact congrArg (A.sl false 1) hnew, incI hΩ (by omega), trivial⟩))⟩
                · exact ⟨⟨⟨q1.1, q1.2, by show (0 + (Ω.seg 0 (Ω.nat (Ω.int n)) (F c)).length) * 8 ≤ 140737488355328; omega, by show 0 + (Ω.seg 0 (Ω.nat (Ω.int n)) (F c)).length ≤ 9223372036854775807; omega⟩⟩, ⟨⟨Nat.le_refl _, by simp [noOwn], by simp [flat, A.cells, okCell], by show (Ω.plus 0 (Ω.len (Ω.seg 0 (Ω.nat (Ω.int n)) (F c))) + 1) * 8 ≤ 140737488355328; omega, by show Ω.plus 0 (Ω.len (Ω.seg 0 (Ω.nat (Ω.int n)) (F c))) + 1 ≤ 9223372036854775807; omega⟩⟩, ⟨⟨q2.1, q2.2, by show (Ω.plus (Ω.plus 0 (Ω.len (Ω.seg 0 (Ω.nat (Ω.int n)) (F c)))) 1 + (Ω.seg (Ω.nat (Ω.int n)) (Ω.len (F c)) (F c)).length) * 8 ≤ 140737488355328; omega, by show Ω.plus (Ω.plus 0 (Ω.len (Ω.seg 0 (Ω.nat (Ω.int n)) (F c)))) 1 + (Ω.seg (Ω.nat (Ω.int n)) (Ω.len (F c)) (F c)).length ≤ 9223372036854775807; omega⟩⟩, (i + 1, c.take n ++ [Ω.int i] ++ c.drop n), ⟨by dsimp only; omega, hlen2, hall⟩, by dsimp only; omega, (Sbs.thaw (r := 1) rfl rfl).trans ((Sbs.cut 0 rfl).trans (Sbs.mk rfl rfl ⟨rfl, rfl, rfl, rfl, rfl, by subst hΩ; exact congrArg (A.sl false 1) hnew, incI hΩ (by omega), trivial⟩))⟩
  · exact ⟨_, ⟨c, rfl, by omega, i3⟩, .of (by rw [hFm]; rfl)⟩
end Go.Proofs.YtfmcncflooechaaGreat

/- Walks: the reference's solver. Plain theorems. -/
set_option linter.unusedVariables false
set_option linter.unusedSimpArgs false
namespace Go.Proofs.YtfmcncflooechaaGreat
open Go Go.Fw
set_option maxRecDepth 100000
theorem ro_vw2 {S : State} {k r off len n : Nat} {ys zs : List A} (hr : Fw.rowAt S.rows r = some ⟨n, ys, false⟩) (hf : ((ys.drop off).take len).map frz = zs) : roO S (k + 1) (.vw r off len) = some (.sl false n zs) := by
  simp only [roO, hr]
  rw [hf]
  rfl
theorem frz_frm (fs : List (Int × List Int)) : (fs.map frmA).map frz = fs.map frmA := by
  rw [List.map_map]; exact List.map_congr_left fun c _ => by show frz (.agg _) = A.agg _; rw [frz_agg]; show A.agg [frz (i64 c.1), frz (.sl false 1 (c.2.map i64))] = _; rw [frz_sl, frz_I]; rfl
/-- What the solver tells: a code, a count, a set. -/
def someS (x : A) : Prop := ∃ (c n : Int) (s : List Int), x = .agg [i64 c, i64 n, .sl false 1 (s.map i64)] ∧ s.length ≤ 1048576
theorem fitS1 (c n : Int) : FitX (.agg [i64 c, i64 n, .nil]) (.agg [i64 c, i64 n, .sl false 1 (([] : List Int).map i64)]) := ⟨2, by simp [fitA, fitA.fitL, i64]⟩
structure SolI (L B : Nat) (fs : List (Int × List Int)) (R : List A) (d : List Int) (n : Nat) : Prop where
  row : R.take fs.length = fs.map frmA
  le : fs.length ≤ R.length
  all : ∀ f ∈ fs, 0 ≤ f.1 ∧ f.1 < (L : Int) ∧ f.2.length + 1 ≤ n
  d : d.length ≤ n
  f : fs.length ≤ n
  n : n ≤ B
theorem eq_fI {Ω : Opq} (hΩ : Ω = std) {i j : Nat} (h : Ω.cmp .eql (Ω.int i) (Ω.int j) = false) : i ≠ j := by subst hΩ; exact fun e => eq_f h (by rw [e])
theorem solPush {Ω : Opq} (hΩ : Ω = std) {L B : Nat} {fs : List (Int × List Int)} {R : List A} {d : List Int} {n m : Nat} {k : Int} {z : A} (h : SolI L B fs R d n) (hm : fs.length = m) (hn : n + 1 ≤ B) (hk : 0 ≤ k ∧ k < (L : Int)) (hz : z = frmA (k, d)) :
    SolI L B (fs ++ [(k, d)]) (Ω.app (Ω.take m R) [z]) d (n + 1) := by
  subst hΩ hz
  have e : std.app (std.take m R) [frmA (k, d)] = (fs ++ [(k, d)]).map frmA := by
    show R.take m ++ [frmA (k, d)] = _
    rw [← hm, h.row, List.map_append]; rfl
  rw [e]
  refine ⟨List.take_of_length_le (by simp), by simp, fun f hf => ?_, by have := h.d; omega, by have := h.f; simp; omega, hn⟩
  rcases List.mem_append.1 hf with hf | hf
  · obtain ⟨h1, h2, h3⟩ := h.all f hf
    exact ⟨h1, h2, by omega⟩
  · rw [List.mem_singleton.1 hf]; exact ⟨hk.1, hk.2, by have := h.d; show d.length + 1 ≤ n + 1; omega⟩
theorem solPop {L B : Nat} {fs : List (Int × List Int)} {R : List A} {d e : List Int} {n m : Nat} {p : Int} (h : SolI L B fs R d n) (hm : fs.length = m) (he : e.length + 1 ≤ n) : SolI L B (fs.take (m - 1)) R (e ++ [p]) n := by
  subst hm
  have h1 := h.row
  have h2 := h.le
  have h3 := h.f
  refine ⟨?_, by rw [List.length_take]; omega, fun f hf => h.all f (List.mem_of_mem_take hf), by simpa using he, by rw [List.length_take]; omega, h.n⟩
  rw [List.map_take, ← h1, List.take_take, List.length_take]
theorem solNew {D : List Int → List A} (hD : D = fun s => s.map i64) (e : List Int) (p : Int) :
    (((((([] : List A).take 0 ++ D e).take (0 + (D e).length)) ++ [i64 p]).map frz).drop 0).take (0 + (D e).length + 1) = D (e ++ [p]) := by
  rw [hD]
  simp only [List.take_nil, List.nil_append, List.drop_zero, Nat.zero_add, List.take_length]
  rw [List.take_of_length_le (by simp)]
  rw [← frz_I (e ++ [p])]
  congr 1
  simp
theorem r_l4Solve (l : List Pck) (az : List Trm) (y : List Int) (B : Nat) (hl : l.length ≤ 1048576) (ha : az.length ≤ 1048576) (hy : y.length ≤ 1048576) (hB : B ≤ 1048575) (ho : ∀ o ∈ l, o.Small) :
    RCtr PP n_spec_l4Solve [encP l, .sl false 7 (az.map Trm.enc), .sl false 1 (y.map i64), i64 (B : Int)] someS := by
  obtain ⟨Ω, hΩ⟩ : ∃ Ω, Ω = std := ⟨_, rfl⟩
  have hB2 : i64 (B : Int) = i64 (Ω.int B) := by subst hΩ; rfl
  have hin : ∀ {fs : List (Int × List Int)}, (∀ f ∈ fs, 0 ≤ f.1 ∧ f.1 < (l.length : Int)) → ∀ k ∈ fs.map Prod.fst, inB k 0 ((l.length : Int) - 1) = true := fun h k hk => by
    obtain ⟨f, hf, rfl⟩ := List.mem_map.1 hk
    have := h f hf
    simp only [inB, Bool.and_eq_true, decide_eq_true_eq]; omega
  have hun := fun (fs : List (Int × List Int)) (h1 : fs.length ≤ 1048576) (h : ∀ f ∈ fs, 0 ≤ f.1 ∧ f.1 < (l.length : Int)) => r_l4Unmet l az (fs.map Prod.fst) hl (by rw [List.length_map]; exact h1) ha ho (hin h)
  have hca := fun (fs : List (Int × List Int)) (us : List Trm) (d : List Int) (h1 : fs.length ≤ 1048576) (h : ∀ f ∈ fs, 0 ≤ f.1 ∧ f.1 < (l.length : Int)) (h2 : us.length ≤ 1048576) (h3 : d.length ≤ 1048576) => r_l4Candidates l us (fs.map Prod.fst) d y hl h2 (by rw [List.length_map]; exact h1) h3 hy ho (hin h)
  have hch := fun (fs : List (Int × List Int)) (h1 : fs.length ≤ 1048576) => c_l4Chosen fs h1
  have hso : ∀ fs : List (Int × List Int), fs.length ≤ 1048576 → ∃ s : List Int, s.length ≤ 1048576 ∧ PCtr PP n_spec_l4Sorted [.sl false 1 ((fs.map Prod.fst).map i64)] (.sl true 1 (s.map i64)) := fun fs h => ⟨_, by rw [sortU_len, List.length_map]; exact h, c_l4Sorted _ (by rw [List.length_map]; exact h)⟩
  obtain ⟨L, hL⟩ : ∃ L, L = l.length := ⟨_, rfl⟩
  unfold encP at *
  obtain ⟨cs, hcs⟩ : ∃ cs, cs = l.map (Pck.enc false) := ⟨_, rfl⟩
  rw [← hcs] at hun hca ⊢
  rw [← hL] at hun hca
  obtain ⟨C, hC⟩ : ∃ C : List (Int × List Int) → List A, C = fun fs => (fs.map Prod.fst).map i64 := ⟨_, rfl⟩
  have hCm : ∀ fs : List (Int × List Int), (fs.map Prod.fst).map i64 = C fs := fun fs => by rw [hC]
  have hCz : ∀ fs : List (Int × List Int), frz (.sl true 1 (C fs)) = .sl false 1 (C fs) := fun fs => by rw [hC]; rw [frz_sl]; exact congrArg _ (frz_I _)
  have hCr : ∀ fs : List (Int × List Int), roFree (.sl true 1 (C fs)) = true := fun fs => by rw [hC]; exact roF_I _
  obtain ⟨D, hD⟩ : ∃ D : List Int → List A, D = fun s => s.map i64 := ⟨_, rfl⟩
  have hDm : ∀ s : List Int, s.map i64 = D s := fun s => by rw [hD]
  have hDz : ∀ s : List Int, frz (.sl true 1 (D s)) = .sl false 1 (D s) := fun s => by rw [hD]; rw [frz_sl]; exact congrArg _ (frz_I _)
  have hDr : ∀ s : List Int, roFree (.sl true 1 (D s)) = true := fun s => by rw [hD]; exact roF_I _
  have hD0 : D [] = [] := by rw [hD]; rfl
  obtain ⟨E, hE⟩ : ∃ E : List (Int × List Int) → List A, E = fun fs => fs.map frmA := ⟨_, rfl⟩
  have hEz : ∀ fs : List (Int × List Int), (E fs).map frz = E fs := fun fs => by rw [hE]; exact frz_frm fs
  have hrow : ∀ {S : State} {fs : List (Int × List Int)} {R : List A}, R.take fs.length = E fs → Fw.rowAt S.rows 1 = some ⟨2, R, false⟩ → roO S 3 (.vw 1 0 fs.length) = some (.sl false 2 (E fs)) := fun h h1 => ro_vw2 h1 (by rw [List.drop_zero, h, hEz])
  rw [hB2]
  simp only [hCm, hDm] at hun hca hch hso ⊢
  replace hch : ∀ fs : List (Int × List Int), fs.length ≤ 1048576 → PCtr PP n_spec_l4Chosen [.sl false 2 (E fs)] (.sl true 1 (C fs)) := fun fs h => by rw [hE]; exact hch fs h
  obtain ⟨es, hes⟩ : ∃ es, es = az.map Trm.enc := ⟨_, rfl⟩
  rw [← hes] at hun ⊢
  generalize D y = ys at *
  have htab := tab
  have hmo := hmo
  refine RCtr.walk tab hΩ fn_spec_l4Solve rfl ?_
  generalize PP = P at *
  cbv
  refine loopX htab hΩ (fun i : List (Int × List Int) × List A × List Int × Nat => ⟨[(0, .sl false 8 cs), (1, .sl false 7 es), (2, .sl false 1 ys), (3, i64 (Ω.int B)), (8, .pt 0 0 0), (9, .vw 1 0 i.1.length), (10, .sl false 1 (D i.2.2.1)), (11, i64 (Ω.int i.2.2.2))], 79, [some ⟨3, [.agg [i64 0, i64 0, .nil]], true⟩, some ⟨2, i.2.1, false⟩]⟩)
    (fun i => SolI L B i.1 i.2.1 i.2.2.1 i.2.2.2) (fun i => 2 * (B - i.2.2.2) + i.1.length) ([], [], [], 0) ⟨rfl, Nat.le_refl _, by simp, Nat.le_refl _, Nat.le_refl _, Nat.zero_le _⟩
    ((Sbs.thaw (r := 2) rfl rfl).trans ((Sbs.cut 2 rfl).trans (Sbs.mk rfl rfl ⟨rfl, rfl, rfl, rfl, rfl, rfl, by dsimp only; rw [hD0]; rfl, zeroI hΩ, trivial⟩))) ?_
  rintro ⟨fs, R, d, n⟩ hI
  dsimp only at hI
  have hfl : fs.length ≤ 1048576 := by have := hI.f; have := hI.n; omega
  have hdl : d.length ≤ 1048576 := by have := hI.d; have := hI.n; omega
  have hfa : ∀ f ∈ fs, 0 ≤ f.1 ∧ f.1 < (L : Int) := fun f hf => ⟨(hI.all f hf).1, (hI.all f hf).2.1⟩
  have hun := hun fs hfl hfa
  have hca := fun us h2 => hca fs us d hfl hfa h2 hdl
  have hch := hch fs hfl
  obtain ⟨sr, hsr, hso⟩ := hso fs hfl
  have hR := hI.row
  rw [show fs.map frmA = E fs by rw [hE]] at hR
  obtain ⟨m, hm⟩ : ∃ m, fs.length = m := ⟨_, rfl⟩
  have hrw : ∀ {S : State}, Fw.rowAt S.rows 1 = some ⟨2, R, false⟩ → roO S 3 (.vw 1 0 m) = some (.sl false 2 (E fs)) := fun h1 => hm ▸ hrow hR h1
  dsimp only
  rw [hm] at hR hfl ⊢
  have hCz := hCz fs
  have hCr := hCr fs
  have hDz := hDz sr
  have hDr := hDr sr
  cbv
  refine call_pf hΩ 3 hch (mapO1 (hrw rfl)) (fits _) hCr hCz rfl ?_
  cbv
  refine call_r hΩ 3 hun rfl (fits _) (fun x ⟨us, hx, hul⟩ => ?_)
  subst hx
  refine ⟨rfl, ?_⟩
  have hca := hca us hul
  generalize us.map Trm.enc = uz at hca ⊢
  cbv
  refine br (fun h => ?_) (fun h => ?_) <;> cbv
  · refine call_pf hΩ 3 hso rfl (fits _) hDr hDz rfl ?_
    cbv
    refine ⟨_, ⟨0, Ω.int n, sr, rfl, hsr⟩, ?_⟩
    rw [hDm]
    cbv
    exact .same
  · refine call_r hΩ 3 hca rfl (fits _) (fun x ⟨ks, hx, hkl, hks⟩ => ?_)
    subst hx
    refine ⟨rfl, ?_⟩
    rw [hDm]
    have h0 : 0 < Ω.len (D ks) → ∃ k, ks[0]? = some k ∧ (D ks)[Int.toNat 0]? = some (i64 k) := fun h => by
      have e : Ω.len (D ks) = ks.length := by rw [← hDm]; subst hΩ; exact List.length_map _
      obtain ⟨k, hk⟩ := at_of (cs := ks) (i := 0) (by omega)
      exact ⟨k, hk, by rw [← hDm]; show (ks.map i64)[0]? = _; rw [List.getElem?_map, hk]; rfl⟩
    cbv
    refine br (fun hgt => ?_) (fun hgt => ?_) <;> cbv
    · refine br (fun h => ?_) (fun h => ?_) <;> cbv
      · exact ⟨_, ⟨7, Ω.int n, [], rfl, Nat.zero_le _⟩, fitS1 7 (Ω.int n)⟩
      · have hnB : n ≠ B := fun e => by have := eq_fI hΩ h; exact this e
        obtain ⟨k0, hk0, hk1⟩ := h0 (gtZ hΩ hgt)
        have hk2 := hks k0 (List.mem_of_getElem? hk0)
        have hnn := hI.n
        refine ⟨⟨Int.le_refl _⟩, _, hk1, ?_⟩
        cbv
        have hS : SolI L B (fs ++ [(k0, d)]) (Ω.app (Ω.take m R) [.agg [i64 k0, .sl false 1 (D d)]]) d (n + 1) := by
          refine solPush hΩ hI hm (by omega) hk2 ?_
          rw [← hDm]; rfl
        exact ⟨⟨rfl, okAll rfl, by show (m + 1) * 32 ≤ 140737488355328; omega, by show m + 1 ≤ 9223372036854775807; omega⟩, (fs ++ [(k0, d)], Ω.app (Ω.take m R) [.agg [i64 k0, .sl false 1 (D d)]], d, n + 1), hS, by dsimp only; rw [List.length_append, hm, List.length_singleton]; omega, (Sbs.cut 2 rfl).trans (Sbs.mk rfl rfl ⟨rfl, rfl, rfl, rfl, rfl, by dsimp only; rw [List.length_append, hm]; subst hΩ; rfl, rfl, incI hΩ (by omega), trivial⟩)⟩
    · refine br (fun h => ?_) (fun h => ?_) <;> cbv
      · exact ⟨_, ⟨4, Ω.int n, [], rfl, Nat.zero_le _⟩, fitS1 4 (Ω.int n)⟩
      · have hm0 : 0 < m := by
          rcases Nat.eq_zero_or_pos m with e | e
          · exact absurd (by rw [e]; subst hΩ; rfl : Ω.int m = 0) (by have := h; subst hΩ; exact eq_f this)
          · exact e
        have e5 : Ω.ar .sub .i64 (Ω.int m) 1 = Ω.int (m - 1) := decJ hΩ hm0 (by omega)
        obtain ⟨⟨p, e⟩, hf⟩ := at_of (cs := fs) (i := m - 1) (by omega)
        have hRf : R[m - 1]? = some (.agg [i64 p, .sl false 1 (D e)]) := by
          have h1 : (R.take m)[m - 1]? = R[m - 1]? := List.getElem?_take_of_lt (by omega)
          rw [← h1, hR, hE, ← hDm]; simp only [List.getElem?_map, hf]; rfl
        have hfm := hI.all _ (List.mem_of_getElem? hf)
        refine ⟨⟨by show 0 ≤ Ω.ar .sub .i64 (Ω.int m) 1 ∧ Ω.ar .sub .i64 (Ω.int m) 1 < (m : Int); rw [e5]; exact ixI hΩ (by omega)⟩, .agg [i64 p, .sl false 1 (D e)], by show R[Ω.plus 0 (Ω.nat (Ω.ar .sub .i64 (Ω.int m) 1))]? = _; rw [e5]; exact atI hΩ hRf, ?_⟩
        cbv
        have e6 : Ω.nat (Ω.ar .sub .i64 (Ω.int m) 1) = m - 1 := by rw [e5]; subst hΩ; rfl
        refine ⟨⟨trivial, by show 0 ≤ Ω.ar .sub .i64 (Ω.int m) 1; rw [e5]; exact nnI hΩ, Nat.zero_le _, by show Ω.nat (Ω.ar .sub .i64 (Ω.int m) 1) ≤ m; omega⟩, ?_⟩
        refine ⟨VC_lord htab hΩ hmo [1, 2, 4, 5] (.two 0 (.two 3 (.step 6 (.step 7 (.step 8 .fin))) 6 (.step 3 (.step 7 (.step 8 .fin)))) 6 (.step 0 (.step 3 (.step 7 (.step 8 .fin))))) [2] [] (by kernel_rfl) ?_⟩
        cbv
        intro vs
        cbv
        have hok := ints_ok e
        rw [hDm] at hok
        have hel : (D e).length ≤ 1048576 := by rw [← hDm, List.length_map]; have := hfm.2.2; have := hI.n; dsimp only at *; omega
        have hpl : Ω.plus 0 (Ω.len (D e)) ≤ 1048576 := by subst hΩ; show 0 + (D e).length ≤ _; omega
        have hnew := solNew hD e p
        have hS : SolI L B (fs.take (m - 1)) R (e ++ [p]) n := solPop hI hm hfm.2.2
        have hvw : A.vw 1 (Ω.plus 0 0) (Ω.minus (Ω.nat (Ω.ar .sub .i64 (Ω.int m) 1)) 0) = .vw 1 0 (fs.take (m - 1)).length := by rw [e6, List.length_take, hm, Nat.min_eq_left (by omega)]; subst hΩ; rfl
        refine ⟨⟨?_, ?_⟩, ?_⟩
        · exact ⟨⟨hok.1, hok.2, by show (0 + (D e).length) * 8 ≤ 140737488355328; omega, by show 0 + (D e).length ≤ 9223372036854775807; omega⟩, ⟨rfl, okAll rfl, by show (Ω.plus 0 (Ω.len (D e)) + 1) * 8 ≤ 140737488355328; omega, by show Ω.plus 0 (Ω.len (D e)) + 1 ≤ 9223372036854775807; omega⟩, (fs.take (m - 1), R, e ++ [p], n), hS, by dsimp only; rw [List.length_take, hm]; omega, (Sbs.thaw (r := 3) rfl rfl).trans ((Sbs.cut 2 rfl).trans (Sbs.mk rfl rfl ⟨rfl, rfl, rfl, rfl, rfl, hvw, by subst hΩ; exact congrArg (A.sl false 1) hnew, rfl, trivial⟩))⟩
        · exact ⟨⟨hok.1, hok.2, by show (0 + (D e).length) * 8 ≤ 140737488355328; omega, by show 0 + (D e).length ≤ 9223372036854775807; omega⟩, ⟨Nat.le_refl _, by simp [noOwn], by simp [flat, A.cells, okCell], by show (Ω.plus 0 (Ω.len (D e)) + 1) * 8 ≤ 140737488355328; omega, by show Ω.plus 0 (Ω.len (D e)) + 1 ≤ 9223372036854775807; omega⟩, (fs.take (m - 1), R, e ++ [p], n), hS, by dsimp only; rw [List.length_take, hm]; omega, (Sbs.thaw (r := 3) rfl rfl).trans ((Sbs.cut 2 rfl).trans (Sbs.mk rfl rfl ⟨rfl, rfl, rfl, rfl, rfl, hvw, by subst hΩ; exact congrArg (A.sl false 1) hnew, rfl, trivial⟩))⟩
        · exact ⟨⟨hok.1, hok.2, by show (0 + (D e).length) * 8 ≤ 140737488355328; omega, by show 0 + (D e).length ≤ 9223372036854775807; omega⟩, ⟨Nat.le_refl _, by simp [noOwn], by simp [flat, A.cells, okCell], by show (Ω.plus 0 (Ω.len (D e)) + 1) * 8 ≤ 140737488355328; omega, by show Ω.plus 0 (Ω.len (D e)) + 1 ≤ 9223372036854775807; omega⟩, (fs.take (m - 1), R, e ++ [p], n), hS, by dsimp only; rw [List.length_take, hm]; omega, (Sbs.thaw (r := 4) rfl rfl).trans ((Sbs.cut 2 rfl).trans (Sbs.mk rfl rfl ⟨rfl, rfl, rfl, rfl, rfl, hvw, by subst hΩ; exact congrArg (A.sl false 1) hnew, rfl, trivial⟩))⟩
end Go.Proofs.YtfmcncflooechaaGreat

/- Walks: draws of catalogs with sets. Plain theorems. -/
set_option linter.unusedVariables false
set_option linter.unusedSimpArgs false
namespace Go.Proofs.YtfmcncflooechaaGreat
open Go Go.Fw
set_option maxRecDepth 100000
theorem call_d0 {P : Program} {S : State} {Ω : Opq} (hΩ : Ω = std) (k : Nat) {g : Nat} {args : List A} {R : A → List A → Prop} {K : A → State → Prop} (hc : XCtr P g args R) (hd : args.all isData = true) (hn : args.all noOwn = true)
    (h : ∀ x outs, R x outs → outs = args ∧ noOwn (rootO Ω k S x).1 = true ∧ K (rootO Ω k S x).1 (rootO Ω k S x).2) : CallX P g args S K :=
  call_rel hΩ k hc [] (by simp) ⟨_, mutL_data hd hn⟩ fun x outs hR => let ⟨h1, h2, h3⟩ := h x outs hR; ⟨[], rfl, by rw [h1]; exact mutL_data hd hn, h2, h3⟩
theorem c_l1Source (bs : List A) : PCtr PP n_spec_l1Source [.sl false 1 bs] (src bs 0) := by
  obtain ⟨Ω, hΩ⟩ : ∃ Ω, Ω = std := ⟨_, rfl⟩
  have htab := tab
  refine PCtr.walk tab hΩ fn_spec_l1Source rfl ?_
  generalize PP = P at *
  cbv
  exact .same
/-- A draw of what is told apart from its source. -/
def D0 (bs : List A) (Q : A → Prop) : A → List A → Prop := fun x o => o = [.sl false 1 bs] ∧ Q x
end Go.Proofs.YtfmcncflooechaaGreat

/- Walks: draws of what is asked; sets that hold. Plain theorems. -/
set_option linter.unusedVariables false
set_option linter.unusedSimpArgs false
namespace Go.Proofs.YtfmcncflooechaaGreat
open Go Go.Fw
set_option maxRecDepth 100000
/-- Some terms, held alone. -/
def ownTs (n : Nat) (x : A) : Prop := ∃ ts : List Trm, x = .sl true 7 (ts.map Trm.enc) ∧ ts.length ≤ n
theorem frz_T (ts : List Trm) : (ts.map Trm.enc).map frz = ts.map Trm.enc := by rw [List.map_map]; exact List.map_congr_left fun c _ => rfl
theorem d_l3Ask {bs : List A} (hb : Src bs) (l : List Pck) (hl : l.length ≤ 40) (p : Int) (h0 : 0 ≤ p) (h1 : p + 10 ≤ 1099511627776) : XCtr PP n_spec_l3Ask [src bs p, encP l] (DR bs p 10 [encP l] (ownTs 4)) := by
  obtain ⟨Ω, hΩ⟩ : ∃ Ω, Ω = std := ⟨_, rfl⟩
  have hN := fun p n a b c => d_l1Next hb p n a b c
  have hA := fun n => d_AnyTerm n
  obtain ⟨N, hNN⟩ : ∃ N : Int, N = (l.length : Int) := ⟨_, rfl⟩
  have hN40 : N ≤ 40 := by omega
  have hat : ∀ r : Int, 0 ≤ r → r < N → ∃ nm v1 v2 v3 sz ps ds bs, (l.map (Pck.enc false))[r.toNat]? = some (.agg [str nm, i64 v1, i64 v2, i64 v3, i64 sz, .sl false 1 ps, .sl false 1 ds, .sl false 7 bs]) := fun r a b => by
    obtain ⟨h0, h1, h2, h3⟩ := pk_at (c := l) (k := r) (by simp only [inB, Bool.and_eq_true, decide_eq_true_eq]; omega)
    obtain ⟨ps, ds, bs, hen, hp, hd, hb⟩ := enc_raw (pk l r)
    exact ⟨_, _, _, _, _, ps, ds, bs, by rw [List.getElem?_map, h2]; exact congrArg some hen⟩
  obtain ⟨xs, hxs⟩ : ∃ xs, xs = l.map (Pck.enc false) := ⟨_, rfl⟩
  have hxl : Ω.int (Ω.len xs) = N := by rw [hxs, hNN]; subst hΩ; show ((l.map _).length : Int) = _; rw [List.length_map]
  unfold encP
  rw [← hxs] at hat ⊢
  obtain ⟨F, hF⟩ : ∃ F : List Trm → List A, F = fun s => s.map Trm.enc := ⟨_, rfl⟩
  have hF0 : F [] = [] := by rw [hF]; rfl
  have hFl : ∀ s, (F s).length = s.length := fun s => by rw [hF]; exact List.length_map _
  have hFs : ∀ (s : List Trm) (t : Trm), Ω.app (Ω.take s.length (F s)) [t.enc] = F (s ++ [t]) := fun s t => by
    subst hΩ; rw [hF]; show List.take s.length (List.map Trm.enc s) ++ _ = List.map Trm.enc (s ++ [t])
    rw [List.map_append, List.take_of_length_le (by simp)]; rfl
  have hFt : ∀ s, A.sl true 7 (Ω.take s.length (F s)) = .sl true 7 (s.map Trm.enc) := fun s => by
    subst hΩ; rw [hF]; exact congrArg _ (List.take_of_length_le (by simp))
  have hFt0 : ∀ s m, s.length = m → A.sl true 7 (Ω.take m (F s)) = .sl true 7 (s.map Trm.enc) := fun s m h => by rw [← h, hFt]
  clear hF hxs
  have htab := tab
  have hmo := hmo
  refine XCtr.walkO tab hΩ 3 fn_spec_l3Ask rfl rfl ?_
  generalize PP = P at *
  cbv
  refine call_dr false hΩ 3 (hN _ 3 (by omega) (by omega) (by omega)) rfl rfl rfl (fun q1 x q1a q1b ⟨r0, hx, hr0⟩ => ?_)
  subst hx
  have hr0 := hr0.2 (by omega)
  have he0 : Ω.ar .add .i64 1 r0 = 1 + r0 := by subst hΩ; exact wrap64 (by omega) (by omega)
  cbv
  refine loopX htab hΩ (fun i : Int × Int × List Trm => ⟨[(0, .pt 0 0 0), (1, .sl false 8 xs), (5, .vw 1 0 i.2.2.length), (6, i64 i.1), (33, .pt 0 0 0), (34, .sl false 8 xs)], 33, [some ⟨2, [.agg [.sl false 1 bs, i64 i.2.1]], true⟩, some ⟨7, F i.2.2, false⟩]⟩)
    (fun i => 0 ≤ i.1 ∧ i.1 ≤ 3 ∧ p ≤ i.2.1 ∧ i.2.1 + i.1 ≤ p + 5 ∧ (i.2.2.length : Int) + i.1 ≤ 3) (fun i => i.1.toNat) (1 + r0, q1, [])
    ⟨by dsimp only; omega, by dsimp only; omega, by dsimp only; omega, by dsimp only; omega, by show ((0 : Nat) : Int) + (1 + r0) ≤ 3; omega⟩ ((Sbs.cut 2 rfl).trans (Sbs.mk rfl (by show _ = [_, some (Row.mk 7 (F []) false)]; rw [hF0]; rfl) ⟨rfl, rfl, rfl, congrArg i64 he0, rfl, rfl, trivial⟩)) ?_
  rintro ⟨k, q, s⟩ ⟨i1, i2, i3, i4, i5⟩
  dsimp only at i1 i2 i3 i4 i5
  have hFli := hFl s
  obtain ⟨m, hm⟩ : ∃ m, s.length = m := ⟨_, rfl⟩
  have hrows : ∀ {R0 : Option Row} {X : A} {t : Trm}, X = t.enc → [R0, some (Row.mk 7 (Ω.app (Ω.take m (F s)) [X]) false)] = [R0, some (Row.mk 7 (F (s ++ [t])) false)] := fun {R0 X t} h => by rw [h, ← hm, hFs]
  have hvw : ∀ {X : A} {t : Trm}, A.vw 1 0 (Ω.plus m (Ω.len [X])) = .vw 1 0 (s ++ [t]).length := fun {X t} => by subst hΩ; rw [List.length_append, hm]; rfl
  have hsl : ∀ t : Trm, (((s ++ [t]).length : Nat) : Int) + (k - 1) ≤ 3 := fun t => by rw [List.length_append, List.length_singleton]; omega
  have hm3 : m ≤ 3 := by omega
  have hk1 : k ≤ 4611686018427387904 := by omega
  have hqq : q + 1 ≤ 1099511627776 := by omega
  have hqk : q ≤ p + 5 := by omega
  have hpos : ∀ {b : Bool}, Ω.cmp .gtr k 0 = true → 0 < k := fun h => by subst hΩ; exact gt_t h
  have hlp : Ω.cmp .gtr (Ω.int (Ω.len xs)) 0 = true → 1 ≤ N := fun h => by rw [hxl, hΩ] at h; have := gt_t h; omega
  have hln : Ω.int (Ω.len xs) ≤ 4294967296 := by rw [hxl]; omega
  rw [hm] at hFli i5 ⊢
  have hfin : ∀ q' : Int, p ≤ q' → q' ≤ p + 5 → ownTs 4 (A.sl true 7 (s.map Trm.enc)) := fun _ _ _ => ⟨s, rfl, by omega⟩
  cbv
  refine br (fun hk => ?_) (fun hk => ?_) <;> cbv
  · have hk := hpos (b := true) hk
    refine br (fun hg => ?_) (fun hg => ?_) <;> cbv
    · have hg2 := hlp (by subst hΩ; exact hg)
      refine call_dr false hΩ 3 (hN _ _ (by omega) (by omega) hln) rfl rfl rfl (fun q2 x q2a q2b ⟨r, hx, hr⟩ => ?_)
      subst hx
      have hr : 0 ≤ r ∧ r < Ω.int (Ω.len xs) := hr.2 (by show 1 ≤ Ω.int (Ω.len xs); rw [hxl]; exact hg2)
      rw [hxl] at hr
      obtain ⟨nm, v1, v2, v3, sz, ps, ds, bz, hx⟩ := hat r hr.1 hr.2
      cbv
      refine ⟨⟨hr.1⟩, _, hx, ?_⟩
      cbv
      refine call_pure hΩ 3 (hA nm) rfl (fits _) rfl rfl ?_
      cbv
      exact ⟨⟨rfl, okAll rfl, by show (m + 1) * 64 ≤ 140737488355328; omega, by show m + 1 ≤ 9223372036854775807; omega⟩, (k - 1, q2, s ++ [inTop nm]), ⟨by dsimp only; omega, by dsimp only; omega, by dsimp only; omega, by dsimp only; omega, hsl _⟩, by dsimp only; omega, (Sbs.cut 2 rfl).trans (Sbs.mk rfl (hrows (by rfl)) ⟨rfl, rfl, hvw, decI hΩ (by omega) hk1, rfl, rfl, trivial⟩)⟩
    · exact ⟨⟨rfl, by show m ≤ (F s).length; omega⟩, _, _, .of (hFt0 s m hm), .same, ⟨q, by omega, by omega, rfl, hfin q i3 hqk⟩, rfl⟩
  · exact ⟨⟨rfl, by show m ≤ (F s).length; omega⟩, _, _, .of (hFt0 s m hm), .same, ⟨q, by omega, by omega, rfl, hfin q i3 hqk⟩, rfl⟩
end Go.Proofs.YtfmcncflooechaaGreat

/- Walks: draws of two sets. Plain theorems. -/
set_option linter.unusedVariables false
set_option linter.unusedSimpArgs false
namespace Go.Proofs.YtfmcncflooechaaGreat
open Go Go.Fw
set_option maxRecDepth 100000
/-- A catalog, two sets. -/
def css (x : A) : Prop := ∃ (l : List Pck) (f t : List Int), x = .tup [encP l, .sl false 1 (f.map i64), .sl false 1 (t.map i64)] ∧ (∀ o ∈ l, o.Small) ∧ l.length ≤ 40 ∧ f.length ≤ 1048576 ∧ t.length ≤ 1048576
theorem d_l5Draw {bs : List A} (hb : Src bs) (p : Int) (h0 : 0 ≤ p) (h1 : p + 1200 ≤ 1099511627776) : XCtr PP n_spec_l5Draw [src bs p] (DR bs p 1200 [] css) := by
  obtain ⟨Ω, hΩ⟩ : ∃ Ω, Ω = std := ⟨_, rfl⟩
  have hcat := fun p a b => d_l2Catalog hb p a b
  have hset := fun p l a b c d => d_l3DrawSet hb l a b p c d
  have hask := fun l hl p a b => d_l3Ask hb l hl p a b
  have hC := fun p n a b c => d_l1Chance hb p n a b c
  have hflt : ∀ l : List Pck, l.length ≤ 40 → (∀ o ∈ l, o.Small) → ∃ r, PCtr PP n_spec_CatalogFault [encP l] (i64 r) := fun l a b => ⟨_, c_specCatalogFault l (by omega) b⟩
  have hl3 : ∀ (l : List Pck) (s : List Int), l.length ≤ 40 → s.length ≤ 1048576 → ∃ r, PCtr PP n_spec_l3Set [encP l, .sl false 1 (s.map i64)] (boo r) := fun l s a b => ⟨_, c_l3Set l s (by omega) b⟩
  have hsol : ∀ (l : List Pck) (ts : List Trm) (y : List Int), l.length ≤ 40 → (∀ o ∈ l, o.Small) → ts.length ≤ 1048576 → y.length ≤ 1048576 → RCtr PP n_spec_l4Solve [encP l, .sl false 7 (ts.map Trm.enc), .sl false 1 (y.map i64), i64 ((60 : Nat) : Int)] someS := fun l ts y a b c d => r_l4Solve l ts y 60 (by omega) c d (Nat.le_of_ble_eq_true rfl) b
  obtain ⟨F, hF⟩ : ∃ F : List Int → List A, F = fun s => s.map i64 := ⟨_, rfl⟩
  have hFm : ∀ s : List Int, s.map i64 = F s := fun s => by rw [hF]
  have htab := tab
  have hmo := hmo
  refine XCtr.walkO tab hΩ 3 fn_spec_l5Draw rfl rfl ?_
  generalize PP = P at *
  cbv
  refine call_dr true hΩ 3 (hcat _ (by omega) (by omega)) rfl rfl rfl (fun q1 x q1a q1b ⟨l, hx, hl, hll⟩ => ?_)
  rw [show fzA true x = encP l by rw [hx]; show frz (A.sl true 8 _) = _; rw [frz_sl, encP_frz]; rfl]
  obtain ⟨cf, hflt⟩ := hflt l hll hl
  replace hset := fun p a b => hset p l hll hl a b
  replace hask := hask l hll
  replace hsol := fun ts y c => hsol l ts y hll hl c
  replace hl3 := fun s => hl3 l s hll
  have hcss : ∀ (f t : List Int), f.length ≤ 1048576 → t.length ≤ 1048576 → css (.tup [encP l, .sl false 1 (F f), .sl false 1 (F t)]) := fun f t a b => ⟨l, f, t, by rw [hFm, hFm], hl, hll, a, b⟩
  obtain ⟨cs, hcs⟩ : ∃ cs, cs = l.map (Pck.enc false) := ⟨_, rfl⟩
  unfold encP at *
  rw [← hcs] at hflt hset hask hsol hcss hl3 ⊢
  simp only [hFm] at hl3 hsol
  have fz1 : ∀ s : List Int, fzA true (.sl true 1 (s.map i64)) = .sl false 1 (F s) := fun s => by show frz (A.sl true 1 _) = _; rw [frz_sl, frz_I, hFm]
  cbv
  refine call_dr true hΩ 3 (hset _ (by omega) (by omega)) rfl rfl rfl (fun q2 x q2a q2b ⟨s1, hx, hs1⟩ => ?_)
  rw [show fzA true x = .sl false 1 (F s1) by rw [hx, fz1]]
  cbv
  refine call_dr true hΩ 3 (hset _ (by omega) (by omega)) rfl rfl rfl (fun q3 x q3a q3b ⟨s2, hx, hs2⟩ => ?_)
  rw [show fzA true x = .sl false 1 (F s2) by rw [hx, fz1]]
  cbv
  refine loopX htab hΩ (fun i : Nat × Int × List Int × List Int => ⟨[(0, .pt 0 0 0), (5, .sl false 8 cs), (6, .sl false 1 (F i.2.2.1)), (7, .sl false 1 (F i.2.2.2)), (8, i64 (Ω.int i.1)), (51, .pt 0 0 0)], 51, [some ⟨2, [.agg [.sl false 1 bs, i64 i.2.1]], true⟩]⟩)
    (fun i => i.1 ≤ 4 ∧ p ≤ i.2.1 ∧ i.2.1 ≤ p + 1000 + 20 * i.1 ∧ i.2.2.1.length ≤ 1048576 ∧ i.2.2.2.length ≤ 1048576) (fun i => 4 - i.1) (0, q3, s1, s2)
    ⟨by dsimp only; omega, by dsimp only; omega, by dsimp only; omega, by dsimp only; omega, by dsimp only; omega⟩ (Sbs.mk rfl rfl ⟨rfl, rfl, rfl, rfl, zeroI hΩ, rfl, trivial⟩) ?_
  rintro ⟨i, q, f, t⟩ ⟨i1, i2, i3, i4, i5⟩
  dsimp only at i1 i2 i3 i4 i5
  have hout : ∀ q' : Int, p ≤ q' → q' ≤ p + 1200 → DR bs p 1200 [] css (.tup [.sl false 8 cs, .sl false 1 (F f), .sl false 1 (F t)]) [src bs q'] := fun q' a b => ⟨q', a, b, rfl, hcss f t i4 i5⟩
  obtain ⟨b3, hl3⟩ := hl3 f i4
  have hi4 : Ω.cmp .lss (Ω.int i) 4 = true → i < 4 := fun h => by subst hΩ; have h : (i : Int) < 4 := lt_t h; omega
  have hq0 : q ≤ p + 1080 := by omega
  have hnx : ∀ q' : Int, q' ≤ q + 20 → q' ≤ p + 1000 + 20 * ((i + 1 : Nat) : Int) := fun q' h => by omega
  clear i3
  dsimp only
  cbv
  repeat' (first
    | (refine br (fun h => ?_) (fun h => ?_) <;> cbv)
    | (refine call_pure hΩ 3 hflt rfl (fits _) rfl rfl ?_; cbv)
    | (refine call_pure hΩ 3 hl3 rfl (fits _) rfl rfl ?_; cbv)
    | (refine call_dr false hΩ 3 (hC _ 2 (by omega) (by omega) (by omega)) rfl rfl rfl (fun q4 x q4a q4b ⟨c4, hx⟩ => ?_); subst hx; cbv)
    | exact ⟨_, _, .same, .same, hout _ (by omega) (by omega), rfl⟩)
  refine call_dr true hΩ 3 (hask _ (by omega) (by omega)) rfl rfl rfl (fun q5 x q5a q5b ⟨t2, hx, ht2⟩ => ?_)
  rw [show fzA true x = .sl false 7 (t2.map Trm.enc) by rw [hx]; show frz (A.sl true 7 _) = _; rw [frz_sl, frz_T]]
  have hsol := hsol t2 f (by omega) i4
  obtain ⟨u2, hu2⟩ : ∃ u2, u2 = t2.map Trm.enc := ⟨_, rfl⟩
  rw [← hu2] at hsol ⊢
  cbv
  refine call_r hΩ 3 hsol rfl (fits _) (fun x ⟨c, n, s2, hx, hs2⟩ => ?_)
  subst hx
  refine ⟨rfl, ?_⟩
  rw [hFm]
  have hi5 : i < 4 := hi4 (by assumption)
  cbv
  refine br (fun h => ?_) (fun h => ?_) <;> cbv
  · exact ⟨(i + 1, q5, t, s2), ⟨by dsimp only; omega, by dsimp only; omega, hnx q5 (by omega), i5, hs2⟩, by dsimp only; omega, (Sbs.cut 1 rfl).trans (Sbs.mk rfl rfl ⟨rfl, rfl, rfl, rfl, incI hΩ (by omega), rfl, trivial⟩)⟩
  · exact ⟨(i + 1, q5, f, t), ⟨by dsimp only; omega, by dsimp only; omega, hnx q5 (by omega), i4, i5⟩, by dsimp only; omega, (Sbs.cut 1 rfl).trans (Sbs.mk rfl rfl ⟨rfl, rfl, rfl, rfl, incI hΩ (by omega), rfl, trivial⟩)⟩
theorem d_DrawChangesOf {bs : List A} (hb : Src bs) : XCtr PP n_spec_DrawChangesOf [.sl false 1 bs] (D0 bs css) := by
  obtain ⟨Ω, hΩ⟩ : ∃ Ω, Ω = std := ⟨_, rfl⟩
  have hS := c_l1Source bs
  have hD := d_l5Draw hb 0 (by omega) (by omega)
  have htab := tab
  refine XCtr.walkO tab hΩ 3 fn_spec_DrawChangesOf rfl rfl ?_
  generalize PP = P at *
  cbv
  refine call_share hΩ 3 hS rfl (fits _) rfl ?_
  cbv
  refine call_dr false hΩ 3 hD rfl rfl rfl (fun q1 x q1a q1b hx => ?_)
  obtain ⟨l, f, t, rfl, h1, h2, h3, h4⟩ := hx
  have hcss : css (.tup [encP l, .sl false 1 (f.map i64), .sl false 1 (t.map i64)]) := ⟨l, f, t, rfl, h1, h2, h3, h4⟩
  unfold encP at *
  generalize l.map (Pck.enc false) = xs at *
  generalize f.map i64 = ys at *
  generalize t.map i64 = zs at *
  cbv
  exact ⟨_, _, .same, .same, ⟨rfl, hcss⟩, rfl⟩
end Go.Proofs.YtfmcncflooechaaGreat

/- Branches told as facts on numbers. Plain theorems. -/
set_option linter.unusedVariables false
namespace Go.Proofs.YtfmcncflooechaaGreat
open Go Go.Fw
theorem iteA {Ω : Opq} (hΩ : Ω = std) {x y c : Bool} (h : Ω.ite true x y = c) : x = c := by subst hΩ; exact h
theorem iteB {Ω : Opq} (hΩ : Ω = std) {x y c : Bool} (h : Ω.ite false x y = c) : y = c := by subst hΩ; exact h
theorem notA {Ω : Opq} (hΩ : Ω = std) {x : Bool} (h : Ω.not x = true) : x = false := notT' hΩ h
theorem notB {Ω : Opq} (hΩ : Ω = std) {x : Bool} (h : Ω.not x = false) : x = true := notF' hΩ h
theorem ltZt {Ω : Opq} (hΩ : Ω = std) {x y : Int} (h : Ω.cmp .lss x y = true) : x < y := by subst hΩ; exact lt_t h
theorem ltZf {Ω : Opq} (hΩ : Ω = std) {x y : Int} (h : Ω.cmp .lss x y = false) : y ≤ x := by subst hΩ; exact lt_f h
theorem leZt {Ω : Opq} (hΩ : Ω = std) {x y : Int} (h : Ω.cmp .leq x y = true) : x ≤ y := by subst hΩ; exact le_t h
theorem leZf {Ω : Opq} (hΩ : Ω = std) {x y : Int} (h : Ω.cmp .leq x y = false) : y < x := by subst hΩ; exact le_f h
theorem gtZt {Ω : Opq} (hΩ : Ω = std) {x y : Int} (h : Ω.cmp .gtr x y = true) : y < x := by subst hΩ; exact gt_t h
theorem gtZf {Ω : Opq} (hΩ : Ω = std) {x y : Int} (h : Ω.cmp .gtr x y = false) : x ≤ y := by subst hΩ; exact gt_f h
theorem geZt {Ω : Opq} (hΩ : Ω = std) {x y : Int} (h : Ω.cmp .geq x y = true) : y ≤ x := by subst hΩ; exact ge_t h
theorem geZf {Ω : Opq} (hΩ : Ω = std) {x y : Int} (h : Ω.cmp .geq x y = false) : x < y := by subst hΩ; exact ge_f h
theorem eqZt {Ω : Opq} (hΩ : Ω = std) {x y : Int} (h : Ω.cmp .eql x y = true) : x = y := by subst hΩ; exact eq_t h
theorem eqZf {Ω : Opq} (hΩ : Ω = std) {x y : Int} (h : Ω.cmp .eql x y = false) : x ≠ y := by subst hΩ; exact eq_f h
theorem neZt {Ω : Opq} (hΩ : Ω = std) {x y : Int} (h : Ω.cmp .neq x y = true) : x ≠ y := by subst hΩ; exact ne_t h
theorem neZf {Ω : Opq} (hΩ : Ω = std) {x y : Int} (h : Ω.cmp .neq x y = false) : x = y := by subst hΩ; exact ne_f h
end Go.Proofs.YtfmcncflooechaaGreat

/- Walks: numbers' lists, one behind another. Plain theorems. -/
set_option linter.unusedVariables false
set_option linter.unusedSimpArgs false
namespace Go.Proofs
open Go.Shelf
def Tryz.growI_ren : Go.Shelf.Ren := ⟨fun | 4 => 119 | n => n, fun | 22 => 23 | 25 => 2 | 3 => 3 | 4 => 4 | 9 => 9 | 20 => 20 | 0 => 0 | n => n, fun | n => n⟩
theorem Tryz.growI : Go.Proofs.Lays8.n4 Tryz.prog Tryz.growI_ren where
  mixed := by kernel_rfl
  f4 := ⟨"slices.Grow[[]int64,int64]", by decide, Tryz.func119.trans (congrArg some (by kernel_rfl))⟩
  t0 := Tryz.underlying0
  a0 := Tryz.isAgg0
  z0 := Tryz.sizeOf0
  v0 := Tryz.zeroValue0
  t3 := Tryz.underlying3
  a3 := Tryz.isAgg3
  z3 := Tryz.sizeOf3
  v3 := Tryz.zeroValue3
  t4 := Tryz.underlying4
  a4 := Tryz.isAgg4
  z4 := Tryz.sizeOf4
  v4 := Tryz.zeroValue4
  t9 := Tryz.underlying9
  a9 := Tryz.isAgg9
  z9 := Tryz.sizeOf9
  v9 := Tryz.zeroValue9
  t20 := Tryz.underlying20
  a20 := Tryz.isAgg20
  z20 := Tryz.sizeOf20
  v20 := Tryz.zeroValue20
  t22 := Tryz.underlying23
  a22 := Tryz.isAgg23
  z22 := Tryz.sizeOf23
  v22 := Tryz.zeroValue23

end Go.Proofs
namespace Go.Proofs.YtfmcncflooechaaGreat
open Go Go.Fw Go.Proofs
set_option maxRecDepth 100000
theorem frz_S (l : List (List UInt8)) : (l.map str).map frz = l.map str := by rw [List.map_map]; exact List.map_congr_left fun c _ => rfl
theorem roF_S (l : List (List UInt8)) : roFree (.sl true 1 (l.map str)) = true := roFAll fun x hx => by obtain ⟨c, _, rfl⟩ := List.mem_map.1 hx; rfl
theorem addF {Ω : Opq} (hΩ : Ω = std) {x y z : Int} (h : x + y = z) (h0 : -9223372036854775808 ≤ z) (h1 : z ≤ 9223372036854775807) : Ω.ar .add .i64 x y = z := by subst hΩ; subst h; exact wrap64 h0 h1
theorem relC {w : World} {G : Nat → Prop} {x : A} {xs : List A} {vs : List Value} (h : RelL w G (x :: xs) vs []) : ∃ v us, vs = v :: us ∧ Rel w G x v [] ∧ RelL w G xs us [] := by
  generalize hF : ([] : List Nat) = F at h
  generalize hx : x :: xs = ys at h
  cases h with
  | nil => cases hx
  | cons h hl =>
    cases hx
    obtain ⟨rfl, rfl⟩ := List.append_eq_nil_iff.1 hF.symm
    exact ⟨_, _, rfl, h, hl⟩
theorem c_GrowI (n : Nat) (hn : n ≤ 8388608) : PCtr PP n_slices_Grow_L_int64_int64 [.nil, i64 (n : Int)] (.sl true 1 []) := by
  refine ⟨fn_slices_Grow_L_int64_int64.1, fun w G vs hG hl => ?_⟩
  obtain ⟨v1, us, rfl, h, hl⟩ := relC hl
  obtain ⟨v2, us, rfl, h2, hl⟩ := relC hl
  cases hl
  cases h
  cases h2
  rcases Nat.eq_zero_or_pos n with rfl | h0
  · refine Calls.mono (Any8.slices_Grow_room Tryz.growI none 0 0 0 w (by omega) (by omega) (by omega) (by omega)) ?_
    rintro e w' ⟨rfl, rfl⟩
    exact ⟨_, [], rfl, Go.RowKit.Below.refl _ _, List.nodup_nil, by simp, .nils⟩
  · have hi : (PP.info? (Tryz.growI_ren.t 25)).map (fun i => (i.zero, i.size, i.bytes)) = some (some (.int .i64 0), 1, 8) := by kernel_rfl
    obtain ⟨i0, hi0, hi⟩ := Option.map_eq_some_iff.1 hi
    obtain ⟨hz0, hs0, hb0⟩ : i0.zero = some (.int .i64 0) ∧ i0.size = 1 ∧ i0.bytes = 8 := by simpa using hi
    refine Calls.mono (Any8.slices_Grow_grow Tryz.growI i0 (.int .i64 0) hi0 hz0 (by omega) none 0 0 n [] w (by omega) (by omega) (by rw [hb0]; omega) (by omega) (by simp) (fun _ => rfl) (fun a h => by cases h)) ?_
    rintro e w' ⟨rfl, rfl⟩
    refine ⟨_, [w.heap.size], rfl, ⟨rfl, rfl, rfl, by simp, fun b hb => heap_alloc_old w.drew _ hb⟩, by simp, by simp, ?_⟩
    refine .ow (F := []) (heap_alloc_new w.drew _) (by simp) rfl rfl .nil (Nat.zero_le _) (grownCap_le_maxLen w (0 + n) 0 _ (by unfold maxLen; omega)) ?_ (by simp)
    have hge := grownCap_ge w (0 + n) 0 (Tryz.growI_ren.t 25)
    have hzc : (Value.int IntKind.i64 0).cells = #[.int .i64 0] := rfl
    rw [Nat.zero_add] at hge
    simp only [hzc, Builtin.zeroCells, Array.size_append]
    simp
    omega
theorem flat_take_le {ls : List (List Int)} {B : Nat} (hs : ∀ l ∈ ls, l.length ≤ B) (i : Nat) : (ls.take i).flatten.length ≤ i * B := by
  induction i with
  | zero => simp
  | succ i ih =>
    rw [Nat.succ_mul]
    rcases Nat.lt_or_ge i ls.length with h | h
    · rw [List.take_add_one, List.getElem?_eq_getElem h]
      have := hs _ (List.getElem_mem h)
      simp only [Option.toList_some, List.flatten_append, List.length_append, List.flatten_cons, List.flatten_nil, List.append_nil]
      omega
    · rw [List.take_of_length_le (by omega)]; rw [List.take_of_length_le h] at ih; omega
theorem c_ConcatI (ls : List (List Int)) (hn : ls.length ≤ 4) (hs : ∀ l ∈ ls, l.length ≤ 1048576) :
    PCtr PP n_slices_Concat_L_int64_int64 [.sl false 1 (ls.map fun l => .sl false 1 (l.map i64))] (.sl true 1 (ls.flatten.map i64)) := by
  obtain ⟨Ω, hΩ⟩ : ∃ Ω, Ω = std := ⟨_, rfl⟩
  obtain ⟨F, hF⟩ : ∃ F : List Int → List A, F = fun l => l.map i64 := ⟨_, rfl⟩
  have hFm : ∀ t : List Int, t.map i64 = F t := fun t => by rw [hF]
  have hFn : ∀ t, (∀ y ∈ F t, noOwn y = true) ∧ (∀ c ∈ flat (F t), okCell c = true) := fun t => by rw [hF]; exact ⟨(noInt t).1, (noInt t).2.1⟩
  have hlen : ∀ t : List Int, (F t).length = t.length := fun t => by rw [hF, List.length_map]
  have hlO : ∀ t : List Int, Ω.len (F t) = (F t).length := fun t => by subst hΩ; rfl
  simp only [hFm]
  obtain ⟨S, hS⟩ : ∃ S : Nat → Nat, S = fun i => (ls.take i).flatten.length := ⟨_, rfl⟩
  obtain ⟨C, hC⟩ : ∃ C : Nat → List A, C = fun i => F (ls.take i).flatten := ⟨_, rfl⟩
  have hCl : ∀ i, (C i).length = S i := fun i => by rw [hC, hS]; exact hlen _
  have hS0 : S 0 = 0 := by rw [hS]; rfl
  have hC0 : C 0 = [] := by rw [hC, hF]; rfl
  have hSi : ∀ i c, ls[i]? = some c → S (i + 1) = S i + c.length := fun i c h => by rw [hS]; simp only [List.take_add_one, h]; simp
  have hCi : ∀ i c, ls[i]? = some c → C i ++ F c = C (i + 1) := fun i c h => by rw [hC, hF]; simp only [List.take_add_one, h]; simp
  have hSb : ∀ i, S i ≤ i * 1048576 := fun i => by rw [hS]; exact flat_take_le hs i
  obtain ⟨n, hN⟩ : ∃ n, n = ls.length := ⟨_, rfl⟩
  have hfin : F ls.flatten = C n := by rw [hC, hN]; simp only [List.take_length]
  have hgr := c_GrowI (S n) (by have := hSb n; omega)
  rw [hfin]
  obtain ⟨ys, hys⟩ : ∃ ys, ys = ls.map fun l => A.sl false 1 (F l) := ⟨_, rfl⟩
  have hyl : ys.length = ls.length := by rw [hys, List.length_map]
  rw [← hys]
  clear hfin hS hC hF
  have htab := tab
  refine PCtr.walk tab hΩ fn_slices_Concat_L_int64_int64 rfl ?_
  generalize PP = P at *
  cbv
  refine loopX htab hΩ (fun i : Nat => ⟨[(0, .sl false 1 ys), (3, i64 (Ω.int (S i))), (9, .sl false 1 ys), (10, i64 (Ω.int (Ω.len ys))), (11, i64 (Ω.int i))], 36, []⟩) (fun i => i ≤ n) (fun i => n - i) 0 (Nat.zero_le _)
    (Sbs.mk rfl rfl ⟨rfl, by rw [hS0]; exact zeroI hΩ, rfl, rfl, zeroI hΩ, trivial⟩) (fun i hi => ?_)
  cbv
  refine br (fun h => ?_) (fun h => ?_) <;> cbv
  · replace h := ltI hΩ h
    obtain ⟨c, hc⟩ := at_of (cs := ls) (by omega : i < _)
    have hadd : Ω.ar .add .i64 (Ω.int (S i)) (Ω.int (Ω.len (F c))) = Ω.int (S (i + 1)) := by
      have h1 := hSi i c hc
      have h2 := hSb (i + 1)
      rw [hlO, hlen]
      subst hΩ
      exact addF rfl (by show (S i : Int) + c.length = (S (i + 1) : Nat); omega) (by show _ ≤ ((S (i + 1) : Nat) : Int); omega) (by show ((S (i + 1) : Nat) : Int) ≤ _; omega)
    refine ⟨⟨nnI hΩ⟩, _, rdI hΩ hys hc, ?_⟩
    cbv
    refine br (fun h => ?_) (fun h => ?_)
    · exact absurd (show Ω.ar .add .i64 (Ω.int (S i)) (Ω.int (Ω.len (F c))) < 0 from ltZt hΩ h) (by rw [hadd]; subst hΩ; exact Int.not_lt.2 (Int.natCast_nonneg _))
    cbv
    exact ⟨i + 1, by omega, by omega, Sbs.mk rfl rfl ⟨rfl, congrArg i64 hadd, rfl, rfl, incI hΩ (by omega), trivial⟩⟩
  · replace h := geI hΩ h
    have hi : n = i := by omega
    subst hi
    refine call_pure hΩ 3 hgr rfl (fitsE (by subst hΩ; rfl)) rfl rfl ?_
    cbv
    refine loopX htab hΩ (fun i : Nat => ⟨[(6, .vw 0 0 (Ω.len (C i))), (25, .sl false 1 ys), (26, i64 (Ω.int (Ω.len ys))), (27, i64 (Ω.int i))], 36, [some ⟨1, C i, false⟩]⟩) (fun i => i ≤ n) (fun i => n - i) 0 (Nat.zero_le _)
      (Sbs.mk rfl (by rw [hC0]) ⟨by rw [hC0]; rfl, rfl, rfl, zeroI hΩ, trivial⟩) (fun i hi => ?_)
    have hlC : Ω.len (C i) = (C i).length := by subst hΩ; rfl
    have htk : Ω.take (Ω.len (C i)) (C i) = C i := takeAll hΩ _
    have hSbi := hSb i
    have hle : Ω.len (C i) ≤ (C i).length := by rw [hlC]; exact Nat.le_refl _
    cbv
    refine br (fun h => ?_) (fun h => ?_) <;> cbv
    · replace h := ltI hΩ h
      obtain ⟨c, hc⟩ := at_of (cs := ls) (by omega : i < _)
      have hn := hFn c
      have hcl := hs c (List.mem_of_getElem? hc)
      have hcl2 := hlen c
      have hCli := hCl i
      have hap : Ω.app (C i) (F c) = C (i + 1) := by rw [← hCi i c hc]; subst hΩ; rfl
      have hpl : Ω.plus (Ω.len (C i)) (Ω.len (F c)) = Ω.len (C (i + 1)) := by rw [← hCi i c hc]; subst hΩ; exact (List.length_append).symm
      refine ⟨⟨nnI hΩ⟩, _, rdI hΩ hys hc, ?_⟩
      cbv
      refine ⟨⟨hn.1, hn.2, by show (Ω.len (C i) + (F c).length) * 8 ≤ 140737488355328; omega, by show Ω.len (C i) + (F c).length ≤ 9223372036854775807; omega⟩, i + 1, by omega, by omega, Sbs.mk rfl (by show [some (Row.mk 1 (Ω.app (Ω.take (Ω.len (C i)) (C i)) (F c)) false)] = _; rw [htk, hap]) ⟨congrArg (A.vw 0 0) hpl, rfl, rfl, incI hΩ (by omega), trivial⟩⟩
    · replace h := geI hΩ h
      have hi : n = i := by omega
      subst hi
      exact ⟨⟨rfl, hle⟩, .of (congrArg (A.sl true 1) htk)⟩
end Go.Proofs.YtfmcncflooechaaGreat

/- The library's sort of int64s, as a contract that writes into what it is handed. Plain theorems. -/
set_option linter.unusedVariables false
set_option linter.unusedSimpArgs false
namespace Go.Proofs
open Go.Shelf
def Tryz.sortI_ren : Go.Shelf.Ren := ⟨fun | 5 => 80 | 8 => 106 | 7 => 105 | 19 => 142 | 20 => 143 | 10 => 133 | 11 => 134 | 12 => 135 | 13 => 136 | 14 => 137 | 15 => 138 | 16 => 139 | 17 => 140 | 18 => 141 | 30 => 164 | 31 => 165 | 32 => 166 | 33 => 167 | 34 => 168 | 35 => 169 | 40 => 185 | n => n, fun | 23 => 23 | 25 => 2 | 3 => 3 | 32 => 140 | 22 => 23 | 0 => 0 | 44 => 177 | 46 => 179 | 4 => 4 | 36 => 169 | 35 => 168 | 41 => 174 | 5 => 5 | 9 => 9 | 53 => 195 | 57 => 199 | 63 => 210 | 64 => 211 | n => n, fun | n => n⟩
theorem Tryz.sortI : Go.Proofs.SlLaysM.n5 Tryz.prog Tryz.sortI_ren where
  mixed := by kernel_rfl
  f5 := ⟨"slices.Sort[[]int64,int64]", by decide, Tryz.func80.trans (congrArg some (by kernel_rfl))⟩
  f7 := ⟨"slices.pdqsortOrdered[int64]", by decide, Tryz.func105.trans (congrArg some (by kernel_rfl))⟩
  f8 := Tryz.func106.trans (congrArg some (by kernel_rfl))
  f10 := ⟨"slices.insertionSortOrdered[int64]", by decide, Tryz.func133.trans (congrArg some (by kernel_rfl))⟩
  f11 := ⟨"slices.heapSortOrdered[int64]", by decide, Tryz.func134.trans (congrArg some (by kernel_rfl))⟩
  f12 := ⟨"slices.breakPatternsOrdered[int64]", by decide, Tryz.func135.trans (congrArg some (by kernel_rfl))⟩
  f13 := ⟨"slices.choosePivotOrdered[int64]", by decide, Tryz.func136.trans (congrArg some (by kernel_rfl))⟩
  f14 := ⟨"slices.reverseRangeOrdered[int64]", by decide, Tryz.func137.trans (congrArg some (by kernel_rfl))⟩
  f15 := ⟨"slices.partialInsertionSortOrdered[int64]", by decide, Tryz.func138.trans (congrArg some (by kernel_rfl))⟩
  f16 := ⟨"cmp.Less[int64]", by decide, Tryz.func139.trans (congrArg some (by kernel_rfl))⟩
  f17 := ⟨"slices.partitionEqualOrdered[int64]", by decide, Tryz.func140.trans (congrArg some (by kernel_rfl))⟩
  f18 := ⟨"slices.partitionOrdered[int64]", by decide, Tryz.func141.trans (congrArg some (by kernel_rfl))⟩
  f19 := Tryz.func142.trans (congrArg some (by kernel_rfl))
  f20 := Tryz.func143.trans (congrArg some (by kernel_rfl))
  f30 := ⟨"slices.siftDownOrdered[int64]", by decide, Tryz.func164.trans (congrArg some (by kernel_rfl))⟩
  f31 := Tryz.func165.trans (congrArg some (by kernel_rfl))
  f32 := Tryz.func166.trans (congrArg some (by kernel_rfl))
  f33 := ⟨"slices.medianAdjacentOrdered[int64]", by decide, Tryz.func167.trans (congrArg some (by kernel_rfl))⟩
  f34 := ⟨"slices.medianOrdered[int64]", by decide, Tryz.func168.trans (congrArg some (by kernel_rfl))⟩
  f35 := ⟨"cmp.isNaN[int64]", by decide, Tryz.func169.trans (congrArg some (by kernel_rfl))⟩
  f40 := ⟨"slices.order2Ordered[int64]", by decide, Tryz.func185.trans (congrArg some (by kernel_rfl))⟩
  t0 := Tryz.underlying0
  a0 := Tryz.isAgg0
  z0 := Tryz.sizeOf0
  v0 := Tryz.zeroValue0
  t3 := Tryz.underlying3
  a3 := Tryz.isAgg3
  z3 := Tryz.sizeOf3
  v3 := Tryz.zeroValue3
  t4 := Tryz.underlying4
  a4 := Tryz.isAgg4
  z4 := Tryz.sizeOf4
  v4 := Tryz.zeroValue4
  t5 := Tryz.underlying5
  a5 := Tryz.isAgg5
  z5 := Tryz.sizeOf5
  v5 := Tryz.zeroValue5
  t9 := Tryz.underlying9
  a9 := Tryz.isAgg9
  z9 := Tryz.sizeOf9
  v9 := Tryz.zeroValue9
  t22 := Tryz.underlying23
  a22 := Tryz.isAgg23
  z22 := Tryz.sizeOf23
  v22 := Tryz.zeroValue23
  t23 := Tryz.underlying23
  a23 := Tryz.isAgg23
  z23 := Tryz.sizeOf23
  v23 := Tryz.zeroValue23
  t25 := Tryz.underlying2
  a25 := Tryz.isAgg2
  z25 := Tryz.sizeOf2
  v25 := Tryz.zeroValue2
  t32 := Tryz.underlying140
  a32 := Tryz.isAgg140
  z32 := Tryz.sizeOf140
  v32 := Tryz.zeroValue140
  t35 := Tryz.underlying168
  a35 := Tryz.isAgg168
  z35 := Tryz.sizeOf168
  v35 := Tryz.zeroValue168
  t36 := Tryz.underlying169
  a36 := Tryz.isAgg169
  z36 := Tryz.sizeOf169
  v36 := Tryz.zeroValue169
  t41 := Tryz.underlying174
  a41 := Tryz.isAgg174
  z41 := Tryz.sizeOf174
  v41 := Tryz.zeroValue174
  t44 := Tryz.underlying177
  a44 := Tryz.isAgg177
  z44 := Tryz.sizeOf177
  v44 := Tryz.zeroValue177
  t46 := Tryz.underlying179
  a46 := Tryz.isAgg179
  z46 := Tryz.sizeOf179
  v46 := Tryz.zeroValue179
  t53 := Tryz.underlying195
  a53 := Tryz.isAgg195
  z53 := Tryz.sizeOf195
  v53 := Tryz.zeroValue195
  t57 := Tryz.underlying199
  a57 := Tryz.isAgg199
  z57 := Tryz.sizeOf199
  v57 := Tryz.zeroValue199
  t63 := Tryz.underlying210
  a63 := Tryz.isAgg210
  z63 := Tryz.sizeOf210
  v63 := Tryz.zeroValue210
  t64 := Tryz.underlying211
  a64 := Tryz.isAgg211
  z64 := Tryz.sizeOf211
  v64 := Tryz.zeroValue211

end Go.Proofs
namespace Go.Proofs.YtfmcncflooechaaGreat
open Go Go.Fw Go.Sort Go.Proofs
theorem relI : ∀ {xs : List Int} {w : World} {G : Nat → Prop} {vs : List Value} {F : List Nat}, RelL w G (xs.map i64) vs F → vs = xs.map (Value.int .i64) ∧ F = []
  | [], _, _, _, _, h => by cases h; exact ⟨rfl, rfl⟩
  | x :: xs, _, _, _, _, h => by
    cases h with
    | cons h hl =>
      obtain ⟨rfl, rfl⟩ := relI hl
      cases h
      exact ⟨rfl, rfl⟩
theorem ofI {w : World} {G : Nat → Prop} : ∀ (xs : List Int), RelL w G (xs.map i64) (xs.map (Value.int .i64)) []
  | [] => .nil
  | x :: xs => .cons (F := []) (Fs := []) (.sc rfl) (ofI xs)
theorem flatI (xs : List Int) : flat (xs.map i64) = xs.map i64 := by
  induction xs with
  | nil => rfl
  | cons x xs ih => simp only [flat, List.map_cons, List.flatMap_cons] at *; rw [ih]; rfl
/-- The numbers in order. -/
def sortZ (xs : List Int) : List Int := xs.mergeSort fun x y => decide (x ≤ y)
theorem c_SortI (xs : List Int) (hb : xs.length ≤ 4194304) : MCtr PP n_slices_Sort_L_int64_int64 [.sl true 1 (xs.map i64)] (.tup []) [.sl true 1 ((sortZ xs).map i64)] := by
  have hlen : (sortZ xs).length = xs.length := List.length_mergeSort _
  refine ⟨fn_slices_Sort_L_int64_int64.1, fun w G vs F hG hnd hF hl => ?_⟩
  cases hl with
  | cons h hl =>
    cases hl
    rw [List.append_nil] at *
    generalize hys : xs.map i64 = ys at h
    cases h with
    | nils =>
      have h0 : xs = [] := by cases xs with
        | nil => rfl
        | cons a b => cases hys
      subst h0
      refine Calls.mono (AnyM.slices_Sort_int_none Tryz.sortI none 0 w) ?_
      rintro e w' ⟨rfl, rfl⟩
      exact ⟨_, [], [], rfl, ⟨rfl, rfl, rfl, Nat.le_refl _, fun _ _ _ => rfl⟩, List.nodup_nil, by simp, .tup .nil, .cons (F := []) (Fs := []) (by rw [show (sortZ []).map i64 = [] by simp [sortZ]]; exact .nils) .nil⟩
    | ow hh hw hlen1 hc hl hcap hm hs hv =>
      rename_i b len cap cur e cs F
      subst hys
      rw [flatI] at hl
      obtain ⟨rfl, rfl⟩ := relI hl
      have hl2 : len = xs.length := by rw [hlen1, List.length_map]
      subst hl2
      rw [Nat.mul_one] at hc
      have hH : Holds (Value.int .i64) w b 0 xs.toArray := holds_of_blockI hh hc.symm
      have hblk : b < w.heap.size := (Array.getElem?_eq_some_iff.1 hh).1
      refine Calls.mono (AnyM.slices_Sort_int Tryz.sortI b 0 cap xs w hH hblk (by omega)) ?_
      rintro e' w' ⟨rfl, n, os, rfl⟩
      have hgr := grownBy_sortedI (w := w) (g := b) (n := n) (os := os) (sortZ xs).toArray
      have hhp := heap_sortedI (n := n) (os := os) (sortZ xs).toArray hh
      have hcur : xs.length ≤ cur.size := by rw [hs]; omega
      have htk := take_putCellsI cur (sortZ xs) (by rw [hlen]; exact hcur)
      have hcap' : cur.size = cap := by rw [hs, Nat.mul_one]
      refine ⟨_, [], [b], rfl, ⟨hgr.os, hgr.tape, hgr.output, hgr.size, fun k hk hkF => hgr.block k hk (by simpa using hkF)⟩, by simp, by simp, .tup .nil, ?_⟩
      refine .cons (F := [b]) (Fs := []) (.ow (F := []) hhp ?_ ?_ rfl ?_ hcap hm ?_ ?_) .nil
      · intro x hx; obtain ⟨k, _, rfl⟩ := List.mem_map.1 hx; rfl
      · rw [List.length_map, hlen]
      · rw [flatI, Nat.mul_one, ← hlen, htk]; exact ofI _
      · simp [putCells, hcap']
      · intro v hv
        rw [Nat.mul_one, ← hlen, htk] at hv
        obtain ⟨k, _, rfl⟩ := List.mem_map.1 hv; rfl
end Go.Proofs.YtfmcncflooechaaGreat

/- The library's sort and compaction of strings, as contracts. Plain theorems. -/
set_option linter.unusedVariables false
set_option linter.unusedSimpArgs false
namespace Go.Proofs
open Go.Shelf
def Tryz.sortS_ren : Go.Shelf.Ren := ⟨fun | 6 => 120 | 8 => 106 | 9 => 156 | 19 => 142 | 20 => 143 | 21 => 173 | 22 => 174 | 23 => 175 | 24 => 176 | 25 => 177 | 26 => 178 | 27 => 179 | 28 => 180 | 29 => 181 | 36 => 186 | 31 => 165 | 32 => 166 | 37 => 187 | 38 => 188 | 39 => 189 | 41 => 192 | n => n, fun | 27 => 55 | 29 => 9 | 3 => 3 | 32 => 140 | 26 => 55 | 0 => 0 | 44 => 177 | 46 => 179 | 4 => 4 | 36 => 169 | 35 => 168 | 41 => 174 | 5 => 5 | 9 => 9 | 53 => 195 | 57 => 199 | 63 => 210 | 64 => 211 | n => n, fun | n => n⟩
theorem Tryz.sortS : Go.Proofs.SlLaysM.n6 Tryz.prog Tryz.sortS_ren where
  mixed := by kernel_rfl
  f6 := ⟨"slices.Sort[[]string,string]", by decide, Tryz.func120.trans (congrArg some (by kernel_rfl))⟩
  f8 := Tryz.func106.trans (congrArg some (by kernel_rfl))
  f9 := ⟨"slices.pdqsortOrdered[string]", by decide, Tryz.func156.trans (congrArg some (by kernel_rfl))⟩
  f19 := Tryz.func142.trans (congrArg some (by kernel_rfl))
  f20 := Tryz.func143.trans (congrArg some (by kernel_rfl))
  f21 := ⟨"slices.insertionSortOrdered[string]", by decide, Tryz.func173.trans (congrArg some (by kernel_rfl))⟩
  f22 := ⟨"slices.heapSortOrdered[string]", by decide, Tryz.func174.trans (congrArg some (by kernel_rfl))⟩
  f23 := ⟨"slices.breakPatternsOrdered[string]", by decide, Tryz.func175.trans (congrArg some (by kernel_rfl))⟩
  f24 := ⟨"slices.choosePivotOrdered[string]", by decide, Tryz.func176.trans (congrArg some (by kernel_rfl))⟩
  f25 := ⟨"slices.reverseRangeOrdered[string]", by decide, Tryz.func177.trans (congrArg some (by kernel_rfl))⟩
  f26 := ⟨"slices.partialInsertionSortOrdered[string]", by decide, Tryz.func178.trans (congrArg some (by kernel_rfl))⟩
  f27 := ⟨"cmp.Less[string]", by decide, Tryz.func179.trans (congrArg some (by kernel_rfl))⟩
  f28 := ⟨"slices.partitionEqualOrdered[string]", by decide, Tryz.func180.trans (congrArg some (by kernel_rfl))⟩
  f29 := ⟨"slices.partitionOrdered[string]", by decide, Tryz.func181.trans (congrArg some (by kernel_rfl))⟩
  f31 := Tryz.func165.trans (congrArg some (by kernel_rfl))
  f32 := Tryz.func166.trans (congrArg some (by kernel_rfl))
  f36 := ⟨"slices.siftDownOrdered[string]", by decide, Tryz.func186.trans (congrArg some (by kernel_rfl))⟩
  f37 := ⟨"slices.medianAdjacentOrdered[string]", by decide, Tryz.func187.trans (congrArg some (by kernel_rfl))⟩
  f38 := ⟨"slices.medianOrdered[string]", by decide, Tryz.func188.trans (congrArg some (by kernel_rfl))⟩
  f39 := ⟨"cmp.isNaN[string]", by decide, Tryz.func189.trans (congrArg some (by kernel_rfl))⟩
  f41 := ⟨"slices.order2Ordered[string]", by decide, Tryz.func192.trans (congrArg some (by kernel_rfl))⟩
  t0 := Tryz.underlying0
  a0 := Tryz.isAgg0
  z0 := Tryz.sizeOf0
  v0 := Tryz.zeroValue0
  t3 := Tryz.underlying3
  a3 := Tryz.isAgg3
  z3 := Tryz.sizeOf3
  v3 := Tryz.zeroValue3
  t4 := Tryz.underlying4
  a4 := Tryz.isAgg4
  z4 := Tryz.sizeOf4
  v4 := Tryz.zeroValue4
  t5 := Tryz.underlying5
  a5 := Tryz.isAgg5
  z5 := Tryz.sizeOf5
  v5 := Tryz.zeroValue5
  t9 := Tryz.underlying9
  a9 := Tryz.isAgg9
  z9 := Tryz.sizeOf9
  v9 := Tryz.zeroValue9
  t26 := Tryz.underlying55
  a26 := Tryz.isAgg55
  z26 := Tryz.sizeOf55
  v26 := Tryz.zeroValue55
  t27 := Tryz.underlying55
  a27 := Tryz.isAgg55
  z27 := Tryz.sizeOf55
  v27 := Tryz.zeroValue55
  t29 := Tryz.underlying9
  a29 := Tryz.isAgg9
  z29 := Tryz.sizeOf9
  v29 := Tryz.zeroValue9
  t32 := Tryz.underlying140
  a32 := Tryz.isAgg140
  z32 := Tryz.sizeOf140
  v32 := Tryz.zeroValue140
  t35 := Tryz.underlying168
  a35 := Tryz.isAgg168
  z35 := Tryz.sizeOf168
  v35 := Tryz.zeroValue168
  t36 := Tryz.underlying169
  a36 := Tryz.isAgg169
  z36 := Tryz.sizeOf169
  v36 := Tryz.zeroValue169
  t41 := Tryz.underlying174
  a41 := Tryz.isAgg174
  z41 := Tryz.sizeOf174
  v41 := Tryz.zeroValue174
  t44 := Tryz.underlying177
  a44 := Tryz.isAgg177
  z44 := Tryz.sizeOf177
  v44 := Tryz.zeroValue177
  t46 := Tryz.underlying179
  a46 := Tryz.isAgg179
  z46 := Tryz.sizeOf179
  v46 := Tryz.zeroValue179
  t53 := Tryz.underlying195
  a53 := Tryz.isAgg195
  z53 := Tryz.sizeOf195
  v53 := Tryz.zeroValue195
  t57 := Tryz.underlying199
  a57 := Tryz.isAgg199
  z57 := Tryz.sizeOf199
  v57 := Tryz.zeroValue199
  t63 := Tryz.underlying210
  a63 := Tryz.isAgg210
  z63 := Tryz.sizeOf210
  v63 := Tryz.zeroValue210
  t64 := Tryz.underlying211
  a64 := Tryz.isAgg211
  z64 := Tryz.sizeOf211
  v64 := Tryz.zeroValue211

def Tryz.compS_ren : Go.Shelf.Ren := ⟨fun | 44 => 121 | n => n, fun | 25 => 55 | 26 => 9 | 3 => 3 | 4 => 4 | 0 => 0 | n => n, fun | n => n⟩
theorem Tryz.compS : Go.Proofs.SlLaysN.n44 Tryz.prog Tryz.compS_ren where
  mixed := by kernel_rfl
  f44 := ⟨"slices.Compact[[]string,string]", by decide, Tryz.func121.trans (congrArg some (by kernel_rfl))⟩
  t0 := Tryz.underlying0
  a0 := Tryz.isAgg0
  z0 := Tryz.sizeOf0
  v0 := Tryz.zeroValue0
  t3 := Tryz.underlying3
  a3 := Tryz.isAgg3
  z3 := Tryz.sizeOf3
  v3 := Tryz.zeroValue3
  t4 := Tryz.underlying4
  a4 := Tryz.isAgg4
  z4 := Tryz.sizeOf4
  v4 := Tryz.zeroValue4
  t25 := Tryz.underlying55
  a25 := Tryz.isAgg55
  z25 := Tryz.sizeOf55
  v25 := Tryz.zeroValue55
  t26 := Tryz.underlying9
  a26 := Tryz.isAgg9
  z26 := Tryz.sizeOf9
  v26 := Tryz.zeroValue9
  i26 := by kernel_rfl

end Go.Proofs
namespace Go.Proofs.YtfmcncflooechaaGreat
open Go Go.Fw Go.Sort Go.Proofs
theorem relS : ∀ {xs : List (List UInt8)} {w : World} {G : Nat → Prop} {vs : List Value} {F : List Nat}, RelL w G (xs.map str) vs F → vs = xs.map encStr ∧ F = []
  | [], _, _, _, _, h => by cases h; exact ⟨rfl, rfl⟩
  | x :: xs, _, _, _, _, h => by
    cases h with
    | cons h hl =>
      obtain ⟨rfl, rfl⟩ := relS hl
      cases h
      exact ⟨rfl, rfl⟩
theorem ofS {w : World} {G : Nat → Prop} : ∀ (xs : List (List UInt8)), RelL w G (xs.map str) (xs.map encStr) []
  | [] => .nil
  | x :: xs => .cons (F := []) (Fs := []) (.sc rfl) (ofS xs)
theorem flatS (xs : List (List UInt8)) : flat (xs.map str) = xs.map str := by
  induction xs with
  | nil => rfl
  | cons x xs ih => simp only [flat, List.map_cons, List.flatMap_cons] at *; rw [ih]; rfl
/-- The texts in order. -/
def sortS (xs : List (List UInt8)) : List (List UInt8) := xs.mergeSort fun x y => decide (x ≤ y)
theorem c_SortS (xs : List (List UInt8)) (hb : xs.length ≤ 4194304) : MCtr PP n_slices_Sort_L_string_string [.sl true 1 (xs.map str)] (.tup []) [.sl true 1 ((sortS xs).map str)] := by
  have hlen : (sortS xs).length = xs.length := List.length_mergeSort _
  refine ⟨fn_slices_Sort_L_string_string.1, fun w G vs F hG hnd hF hl => ?_⟩
  cases hl with
  | cons h hl =>
    cases hl
    rw [List.append_nil] at *
    generalize hys : xs.map str = ys at h
    cases h with
    | nils =>
      have h0 : xs = [] := by cases xs with
        | nil => rfl
        | cons a b => cases hys
      subst h0
      refine Calls.mono (AnyM.slices_Sort_string_none Tryz.sortS none 0 w) ?_
      rintro e w' ⟨rfl, rfl⟩
      exact ⟨_, [], [], rfl, ⟨rfl, rfl, rfl, Nat.le_refl _, fun _ _ _ => rfl⟩, List.nodup_nil, by simp, .tup .nil, .cons (F := []) (Fs := []) (by rw [show (sortS []).map str = [] by simp [sortS]]; exact .nils) .nil⟩
    | ow hh hw hlen1 hc hl hcap hm hs hv =>
      rename_i b len cap cur e cs F
      subst hys
      rw [flatS] at hl
      obtain ⟨rfl, rfl⟩ := relS hl
      have hl2 : len = xs.length := by rw [hlen1, List.length_map]
      subst hl2
      rw [Nat.mul_one] at hc
      have hH : Holds encStr w b 0 xs.toArray := holds_of_block hh hc.symm
      have hblk : b < w.heap.size := (Array.getElem?_eq_some_iff.1 hh).1
      refine Calls.mono (AnyM.slices_Sort_string Tryz.sortS b 0 cap xs w hH hblk (by omega)) ?_
      rintro e' w' ⟨rfl, n, os, rfl⟩
      have hgr := grownBy_sorted (w := w) (g := b) (n := n) (os := os) (sortS xs).toArray
      have hhp := heap_sorted (n := n) (os := os) (sortS xs).toArray hh
      have hcur : xs.length ≤ cur.size := by rw [hs]; omega
      have htk := take_putCells cur (sortS xs) (by rw [hlen]; exact hcur)
      have hcap' : cur.size = cap := by rw [hs, Nat.mul_one]
      refine ⟨_, [], [b], rfl, ⟨hgr.os, hgr.tape, hgr.output, hgr.size, fun k hk hkF => hgr.block k hk (by simpa using hkF)⟩, by simp, by simp, .tup .nil, ?_⟩
      refine .cons (F := [b]) (Fs := []) (.ow (F := []) hhp ?_ ?_ rfl ?_ hcap hm ?_ ?_) .nil
      · intro x hx; obtain ⟨k, _, rfl⟩ := List.mem_map.1 hx; rfl
      · rw [List.length_map, hlen]
      · rw [flatS, Nat.mul_one, ← hlen, htk]; exact ofS _
      · simp [putCells, hcap']
      · intro v hv
        rw [Nat.mul_one, ← hlen, htk] at hv
        obtain ⟨k, _, rfl⟩ := List.mem_map.1 hv; rfl
/-- Each text once. -/
def compS (xs : List (List UInt8)) : List (List UInt8) := Lib.compact xs
theorem compS_len (xs : List (List UInt8)) : (compS xs).length ≤ xs.length := by
  unfold compS Lib.compact Lib.compactUpTo
  rw [List.length_map]
  exact Nat.le_trans (List.length_filter_le _ _) (by simp)
theorem c_CompactS (xs : List (List UInt8)) (hb : xs.length ≤ 4194304) : ECtr PP n_slices_Compact_L_string_string [.sl true 1 (xs.map str)] (.sl true 1 ((compS xs).map str)) := by
  have hlen := compS_len xs
  refine ⟨fn_slices_Compact_L_string_string.1, fun w G vs F hG hnd hF hl => ?_⟩
  cases hl with
  | cons h hl =>
    cases hl
    rw [List.append_nil] at *
    generalize hys : xs.map str = ys at h
    cases h with
    | nils =>
      have h0 : xs = [] := by cases xs with
        | nil => rfl
        | cons a b => cases hys
      subst h0
      refine Calls.mono (AnyG.slices_Compact_string_empty Tryz.compS none 0 w) ?_
      rintro e w' ⟨rfl, rfl⟩
      exact ⟨_, [], rfl, ⟨rfl, rfl, rfl, Nat.le_refl _, fun _ _ _ => rfl⟩, List.nodup_nil, by simp, by rw [show (compS []).map str = [] by rfl]; exact .nils⟩
    | ow hh hw hlen1 hc hl hcap hm hs hv =>
      rename_i b len cap cur e cs F
      subst hys
      rw [flatS] at hl
      obtain ⟨rfl, rfl⟩ := relS hl
      have hl2 : len = xs.length := by rw [hlen1, List.length_map]
      subst hl2
      rw [Nat.mul_one] at hc
      have hH : Holds encStr w b 0 xs.toArray := holds_of_block hh hc.symm
      have hblk : b < w.heap.size := (Array.getElem?_eq_some_iff.1 hh).1
      refine Calls.mono (AnyG.slices_Compact_string Tryz.compS b 0 cap xs w hH (by omega) hcap) ?_
      rintro e' w' ⟨rfl, n, rfl⟩
      obtain ⟨zs, hzs⟩ : ∃ zs, zs = compS xs ++ List.replicate (xs.length - (compS xs).length) [] := ⟨_, rfl⟩
      have hzl : zs.length = xs.length := by rw [hzs, List.length_append, List.length_replicate]; omega
      have e0 : grow (putRow encStr (Sort.ahead w n) b 0 zs.toArray) #[] = putRow encStr (Sort.ahead w n) b 0 zs.toArray := by simp [grow]; rfl
      have hgr := grownBy_sorted (w := w) (g := b) (n := n) (os := #[]) zs.toArray
      have hhp := heap_sorted (n := n) (os := #[]) zs.toArray hh
      have hcur : xs.length ≤ cur.size := by rw [hs]; omega
      have htk := take_putCells cur zs (by omega)
      have htk2 : (putCells encStr 0 zs.toArray cur).toList.take (compS xs).length = (compS xs).map encStr := by
        have := congrArg (List.take (compS xs).length) htk
        rw [List.take_take, Nat.min_eq_left (by omega)] at this
        rw [this, hzs, List.map_append, List.take_append_of_le_length (by simp), List.take_of_length_le (by simp)]
      have hcap' : cur.size = cap := by rw [hs, Nat.mul_one]
      rw [e0] at hgr hhp
      unfold compS at hzs
      rw [← hzs]
      refine ⟨_, [b], rfl, ⟨hgr.os, hgr.tape, hgr.output, hgr.size, fun k hk hkF => hgr.block k hk (by simpa using hkF)⟩, by simp, by simp, ?_⟩
      refine .ow (F := []) hhp ?_ ?_ rfl ?_ (by show (compS xs).length ≤ cap; omega) hm ?_ ?_
      · intro x hx; obtain ⟨k, _, rfl⟩ := List.mem_map.1 hx; rfl
      · rw [List.length_map]; rfl
      · rw [flatS, Nat.mul_one]; show RelL _ _ _ (List.take (compS xs).length _) _; rw [htk2]; exact ofS _
      · simp [putCells, hcap']
      · intro v hv
        rw [Nat.mul_one] at hv
        have hv : v ∈ (putCells encStr 0 zs.toArray cur).toList.take (compS xs).length := hv
        rw [htk2] at hv
        obtain ⟨k, _, rfl⟩ := List.mem_map.1 hv; rfl
end Go.Proofs.YtfmcncflooechaaGreat

/- Walks: a name put into names that are in order. Plain theorems. -/
set_option linter.unusedVariables false
set_option linter.unusedSimpArgs false
namespace Go.Proofs.YtfmcncflooechaaGreat
open Go Go.Fw Go.Sort
set_option maxRecDepth 100000
/-- How l5Put goes on: what is there, is v in it, what is left. -/
def putGo (v : List UInt8) (l : List (List UInt8)) : List (List UInt8) → Bool → List (List UInt8) → List (List UInt8)
  | o, d, [] => if d then o else o ++ [v]
  | o, d, x :: xs => if x = v then l else if v < x ∧ d = false then putGo v l (o ++ [v] ++ [x]) true xs else putGo v l (o ++ [x]) d xs
def put5 (v : List UInt8) (l : List (List UInt8)) : List (List UInt8) := putGo v l [] false l
theorem putGo_at {v : List UInt8} {l o : List (List UInt8)} {d : Bool} {i : Nat} {x : List UInt8} {xs : List (List UInt8)} (h : xs[i]? = some x) :
    putGo v l o d (xs.drop i) = if x = v then l else if v < x ∧ d = false then putGo v l (o ++ [v] ++ [x]) true (xs.drop (i + 1)) else putGo v l (o ++ [x]) d (xs.drop (i + 1)) := by
  obtain ⟨h1, h2⟩ := List.getElem?_eq_some_iff.1 h
  rw [List.drop_eq_getElem_cons h1, h2, putGo]
theorem eqSt {Ω : Opq} (hΩ : Ω = std) {x y : List UInt8} (h : Ω.cmpS .eql x y = true) : x = y := by subst hΩ; exact of_decide_eq_true ((by simpa [cmpSS] using (show cmpSS .eql x y = true from h)))
theorem eqSf {Ω : Opq} (hΩ : Ω = std) {x y : List UInt8} (h : Ω.cmpS .eql x y = false) : x ≠ y := by subst hΩ; exact fun e => by subst e; have h : cmpSS .eql x x = false := h; simp [cmpSS] at h
theorem gtSB {Ω : Opq} (hΩ : Ω = std) (x y : List UInt8) : Ω.cmpS .gtr x y = decide (y < x) := by
  subst hΩ
  show (!(Op.bytesLess x y || x == y)) = _
  rw [bytesLess_eq, Bool.eq_iff_iff]
  simp only [Bool.not_eq_true', Bool.or_eq_false_iff, decide_eq_false_iff_not, beq_eq_false_iff_ne, decide_eq_true_eq]
  constructor
  · rintro ⟨h1, h2⟩
    exact (List.le_iff_lt_or_eq.1 (List.not_lt.1 h1)).resolve_right fun e => h2 e.symm
  · intro h
    exact ⟨List.not_lt.2 (List.le_iff_lt_or_eq.2 (.inl h)), fun e => by subst e; exact List.lt_irrefl _ h⟩
theorem c_l5Put (l : List (List UInt8)) (v : List UInt8) (hl : l.length ≤ 1048576) : PCtr PP n_spec_l5Put [.sl false 1 (l.map str), str v] (.sl false 1 ((put5 v l).map str)) := by
  obtain ⟨Ω, hΩ⟩ : ∃ Ω, Ω = std := ⟨_, rfl⟩
  obtain ⟨F, hF⟩ : ∃ F : List (List UInt8) → List A, F = fun l => l.map str := ⟨_, rfl⟩
  have hFm : ∀ t : List (List UInt8), t.map str = F t := fun t => by rw [hF]
  have hFz : ∀ t, (F t).map frz = F t := fun t => by rw [hF]; exact frz_S t
  have hlen : ∀ t, (F t).length = t.length := fun t => by rw [hF, List.length_map]
  have hap : ∀ t x, Ω.app (Ω.take (Ω.len (F t)) (F t)) [str x] = F (t ++ [x]) := fun t x => by rw [takeAll hΩ, ← hFm, ← hFm, List.map_append]; subst hΩ; rfl
  have hpl : ∀ t x, Ω.plus (Ω.len (F t)) (Ω.len [str x]) = Ω.len (F (t ++ [x])) := fun t x => by rw [← hap, takeAll hΩ]; subst hΩ; exact (List.length_append).symm
  have hF0 : F [] = [] := by rw [hF]; rfl
  rw [hFm, hFm]
  obtain ⟨r, hr⟩ : ∃ r, r = put5 v l := ⟨_, rfl⟩
  rw [← hr]
  suffices h : RCtr PP n_spec_l5Put [.sl false 1 (F l), str v] fun x => ∃ o, x = .sl o 1 (F r) from RCtr.p (h.frz.mono fun x ⟨y, ⟨o, ho⟩, hx⟩ => by rw [hx, ho, frz_sl, hFz])
  obtain ⟨xs, hxs⟩ : ∃ xs, xs = l.map str := ⟨_, rfl⟩
  have hxl : xs.length = l.length := by rw [hxs, List.length_map]
  rw [← hFm l, ← hxs]
  have htab := tab
  refine RCtr.walk tab hΩ fn_spec_l5Put rfl ?_
  generalize PP = P at *
  cbv
  refine loopX htab hΩ (fun i : Nat × List (List UInt8) × Bool => ⟨[(0, .sl false 1 xs), (1, str v), (5, .vw 0 0 (Ω.len (F i.2.1))), (6, boo i.2.2), (7, i64 (Ω.int i.1))], 50, [some ⟨1, F i.2.1, false⟩]⟩)
    (fun i => i.1 ≤ l.length ∧ i.2.1.length ≤ i.1 + (if i.2.2 then 1 else 0) ∧ r = putGo v l i.2.1 i.2.2 (l.drop i.1)) (fun i => l.length - i.1) (0, [], false) ⟨Nat.zero_le _, Nat.zero_le _, hr⟩
    (Sbs.mk rfl (by dsimp only; rw [hF0]) ⟨rfl, rfl, by dsimp only; rw [hF0]; subst hΩ; rfl, rfl, zeroI hΩ, trivial⟩) ?_
  rintro ⟨i, o, d⟩ ⟨hi, ho, he⟩
  dsimp only at hi ho he
  have hol := hlen o
  have hlo : Ω.len (F o) = (F o).length := by subst hΩ; rfl
  have hle : Ω.len (F o) ≤ (F o).length := by rw [hlo]; exact Nat.le_refl _
  have htk : Ω.take (Ω.len (F o)) (F o) = F o := takeAll hΩ _
  have hob : o.length ≤ 1048577 := by split at ho <;> omega
  have rest : ∀ {X Y : Prop}, X → Y → X ∧ Y := fun h h' => ⟨h, h'⟩
  cbv
  refine br (fun h => ?_) (fun h => ?_) <;> cbv
  · replace h := ltI hΩ h
    obtain ⟨x, hx⟩ := at_of (cs := l) (by omega : i < l.length)
    rw [putGo_at hx] at he
    have hgt := gtSB hΩ x v
    have hap2 := hap (o ++ [v]) x
    have hpl2 := hpl (o ++ [v]) x
    have hap1 := hap o v
    have hpl1 := hpl o v
    have hap0 := hap o x
    have hpl0 := hpl o x
    refine ⟨⟨nnI hΩ⟩, _, rdI hΩ hxs hx, ?_⟩
    cbv
    refine br (fun g => ?_) (fun g => ?_) <;> cbv
    · have g := eqSt hΩ g
      exact ⟨_, ⟨false, rfl⟩, .of (congrArg (A.sl false 1) (by rw [he, if_pos g, hxs, hFm]))⟩
    have g := eqSf hΩ g
    rw [if_neg g] at he
    refine ⟨⟨nnI hΩ⟩, _, rdI hΩ hxs hx, ?_⟩
    cbv
    refine br (fun k => ?_) (fun k => ?_) <;> cbv
    · have k : v < x := by have k : Ω.cmpS .gtr x v = true := k; rw [hgt] at k; exact of_decide_eq_true k
      refine br (fun q => ?_) (fun q => ?_) <;> cbv
      · have q : d = false := notA hΩ (iteA hΩ q)
        rw [if_pos ⟨k, q⟩] at he
        rw [if_neg (by rw [q]; simp)] at ho
        refine ⟨⟨rfl, okAll rfl, by show (Ω.len (F o) + 1) * 16 ≤ 140737488355328; omega, by show Ω.len (F o) + 1 ≤ 9223372036854775807; omega⟩, ?_⟩
        cbv
        refine ⟨⟨nnI hΩ⟩, _, rdI hΩ hxs hx, ?_⟩
        cbv
        have hlv := hlen (o ++ [v])
        rw [List.length_append, List.length_singleton] at hlv
        refine ⟨⟨rfl, okAll rfl, by show (Ω.plus (Ω.len (F o)) (Ω.len [str v]) + 1) * 16 ≤ 140737488355328; rw [hpl1]; subst hΩ; show ((F (o ++ [v])).length + 1) * 16 ≤ _; omega, by show Ω.plus (Ω.len (F o)) (Ω.len [str v]) + 1 ≤ 9223372036854775807; rw [hpl1]; subst hΩ; show (F (o ++ [v])).length + 1 ≤ _; omega⟩,
          (i + 1, o ++ [v] ++ [x], true), ⟨by dsimp only; omega, by simp; omega, he⟩, by dsimp only; omega, (Sbs.cut 1 rfl).trans (Sbs.mk rfl ?_ ⟨rfl, rfl, ?_, rfl, incI hΩ (by omega), trivial⟩)⟩
        · show [some (Row.mk 1 (Ω.app (Ω.take (Ω.plus (Ω.len (F o)) (Ω.len [str v])) (Ω.app (Ω.take (Ω.len (F o)) (F o)) [str v])) [str x]) false)] = _
          rw [hap1, hpl1, hap2]
        · show A.vw 0 0 (Ω.plus (Ω.plus (Ω.len (F o)) (Ω.len [str v])) (Ω.len [str x])) = _
          rw [hpl1, hpl2]
      · have q : d = true := notB hΩ (iteA hΩ q)
        rw [if_neg (by rw [q]; simp)] at he
        rw [if_pos q] at ho
        refine ⟨⟨nnI hΩ⟩, _, rdI hΩ hxs hx, ?_⟩
        cbv
        refine ⟨⟨rfl, okAll rfl, by show (Ω.len (F o) + 1) * 16 ≤ 140737488355328; omega, by show Ω.len (F o) + 1 ≤ 9223372036854775807; omega⟩,
          (i + 1, o ++ [x], d), ⟨by dsimp only; omega, by simp [q]; omega, he⟩, by dsimp only; omega, (Sbs.cut 1 rfl).trans (Sbs.mk rfl (by show [some (Row.mk 1 (Ω.app (Ω.take (Ω.len (F o)) (F o)) [str x]) false)] = _; rw [hap0]) ⟨rfl, rfl, congrArg (A.vw 0 0) hpl0, rfl, incI hΩ (by omega), trivial⟩)⟩
    · have k : ¬ v < x := by have k : Ω.cmpS .gtr x v = false := k; rw [hgt] at k; exact of_decide_eq_false k
      rw [if_neg (fun h => k h.1)] at he
      refine ⟨⟨nnI hΩ⟩, _, rdI hΩ hxs hx, ?_⟩
      cbv
      refine ⟨⟨rfl, okAll rfl, by show (Ω.len (F o) + 1) * 16 ≤ 140737488355328; omega, by show Ω.len (F o) + 1 ≤ 9223372036854775807; omega⟩,
        (i + 1, o ++ [x], d), ⟨by dsimp only; omega, by simp; omega, he⟩, by dsimp only; omega, (Sbs.cut 1 rfl).trans (Sbs.mk rfl (by show [some (Row.mk 1 (Ω.app (Ω.take (Ω.len (F o)) (F o)) [str x]) false)] = _; rw [hap0]) ⟨rfl, rfl, congrArg (A.vw 0 0) hpl0, rfl, incI hΩ (by omega), trivial⟩)⟩
  · replace h := geI hΩ h
    rw [List.drop_of_length_le (by omega), putGo] at he
    have hap1 := hap o v
    have hpl1 := hpl o v
    refine br (fun q => ?_) (fun q => ?_) <;> cbv
    · rw [if_neg (by rw [notA hΩ q]; simp)] at he
      refine ⟨⟨rfl, okAll rfl, by show (Ω.len (F o) + 1) * 16 ≤ 140737488355328; omega, by show Ω.len (F o) + 1 ≤ 9223372036854775807; omega⟩, _, ⟨true, rfl⟩, ⟨rfl, ?_⟩, .of ?_⟩
      · show Ω.plus (Ω.len (F o)) (Ω.len [str v]) ≤ (Ω.app (Ω.take (Ω.len (F o)) (F o)) [str v]).length
        rw [hap1, hpl1]; subst hΩ; exact Nat.le_refl _
      · show A.sl true 1 (Ω.take (Ω.plus (Ω.len (F o)) (Ω.len [str v])) (Ω.app (Ω.take (Ω.len (F o)) (F o)) [str v])) = _
        rw [hap1, hpl1, takeAll hΩ, he]
    · rw [if_pos (notB hΩ q)] at he
      exact ⟨_, ⟨true, rfl⟩, ⟨rfl, hle⟩, .of (by rw [he]; exact congrArg (A.sl true 1) htk)⟩
end Go.Proofs.YtfmcncflooechaaGreat

/- Walks: names in a set, sets without a place; what they say of plain data. Plain theorems. -/
set_option linter.unusedVariables false
set_option linter.unusedSimpArgs false
namespace Go.Proofs.YtfmcncflooechaaGreat
open Go Go.Fw
set_option maxRecDepth 100000
theorem c_l5One (l : List Pck) (s : List Int) (n : List UInt8) (hl : l.length ≤ 1048576) (hs : s.length ≤ 1048576) (hk : ∀ k ∈ s, inB k 0 ((l.length : Int) - 1) = true) : PCtr PP n_spec_l5One [encP l, .sl false 1 (s.map i64), str n] (i64 (nmF l n s)) := by
  obtain ⟨Ω, hΩ⟩ : ∃ Ω, Ω = std := ⟨_, rfl⟩
  obtain ⟨r, hr⟩ : ∃ r, r = nmF l n s := ⟨_, rfl⟩
  rw [← hr]
  have hat : ∀ k, inB k 0 ((l.length : Int) - 1) = true → 0 ≤ k ∧ ∃ v1 v2 v3 sz ps ds bs, (l.map (Pck.enc false))[k.toNat]? = some (.agg [str (pk l k).n, i64 v1, i64 v2, i64 v3, i64 sz, .sl false 1 ps, .sl false 1 ds, .sl false 7 bs]) := fun k h => by
    obtain ⟨h0, h1, h2, h3⟩ := pk_at h
    obtain ⟨ps, ds, bs, hen, hp, hd, hb⟩ := enc_raw (pk l k)
    exact ⟨h0, _, _, _, _, ps, ds, bs, by rw [List.getElem?_map, h2]; exact congrArg some hen⟩
  obtain ⟨ys, hys⟩ : ∃ ys, ys = s.map i64 := ⟨_, rfl⟩
  have hylen : ys.length = s.length := by rw [hys, List.length_map]
  unfold encP at *
  rw [← hys]
  generalize l.map (Pck.enc false) = xs at *
  have htab := tab
  have hmo := hmo
  refine PCtr.walk tab hΩ fn_spec_l5One rfl ?_
  generalize PP = P at *
  cbv
  refine loopX htab hΩ (fun i : Nat => ⟨[(0, .sl false 8 xs), (1, .sl false 1 ys), (2, .sc (.string (mkS n))), (7, .sc (.int .i64 (Ω.int i)))], 28, []⟩) (fun i => i ≤ s.length ∧ r = nmF l n (s.drop i)) (fun i => s.length - i) 0
    ⟨Nat.zero_le _, hr⟩ (Sbs.mk rfl rfl ⟨rfl, rfl, rfl, zeroI hΩ, trivial⟩) ?_
  rintro i ⟨hi, he⟩
  cbv
  refine br (fun h => ?_) (fun h => ?_) <;> cbv
  · replace h := ltI hΩ h
    obtain ⟨c, hcc⟩ := at_of (cs := s) (by omega : i < s.length)
    rw [nmF_at hcc] at he
    obtain ⟨hc0, v1, v2, v3, sz, ps, ds, bs, hx⟩ := hat c (hk c (List.mem_of_getElem? hcc))
    generalize (pk l c).n = nn at hx he
    refine ⟨⟨nnI hΩ⟩, _, rdI hΩ hys hcc, ?_⟩
    cbv
    refine ⟨⟨hc0⟩, _, hx, ?_⟩
    cbv
    refine br (fun g => ?_) (fun g => ?_) <;> cbv
    · refine ⟨⟨nnI hΩ⟩, _, rdI hΩ hys hcc, ?_⟩
      cbv
      exact .of (congrArg i64 (by rw [he, if_pos (by subst hΩ; exact g)]))
    · rw [if_neg (by subst hΩ; rw [show (nn == n) = false from g]; simp)] at he
      exact ⟨i + 1, ⟨by omega, he⟩, by omega, Sbs.mk rfl rfl ⟨rfl, rfl, rfl, incI hΩ (by omega), trivial⟩⟩
  · replace h := geI hΩ h
    exact .of (congrArg i64 (by rw [he, List.drop_of_length_le (by omega)]; rfl))
/-- Is a name borne twice? -/
def twice (c : List Pck) (s : List Int) : Nat → List Int → Bool
  | _, [] => false
  | i, k :: ks => twB c s i (pk c k).n || twice c s (i + 1) ks
theorem twice_at {c : List Pck} {s : List Int} {l : List Int} {i : Nat} {k : Int} {j : Nat} (h : l[i]? = some k) : twice c s j (l.drop i) = (twB c s j (pk c k).n || twice c s (j + 1) (l.drop (i + 1))) := by
  obtain ⟨h1, h2⟩ := List.getElem?_eq_some_iff.1 h
  rw [List.drop_eq_getElem_cons h1, h2, twice]
theorem c_isTwice (l : List Pck) (s : List Int) (hl : l.length ≤ 1048576) (hs : s.length ≤ 1048576) (hk : ∀ k ∈ s, inB k 0 ((l.length : Int) - 1) = true) : PCtr PP n_impl_isTwice [encP l, .sl false 1 (s.map i64)] (boo (twice l s 0 s)) := by
  obtain ⟨Ω, hΩ⟩ : ∃ Ω, Ω = std := ⟨_, rfl⟩
  obtain ⟨r, hr⟩ : ∃ r, r = twice l s 0 s := ⟨_, rfl⟩
  rw [← hr]
  have hat : ∀ k, inB k 0 ((l.length : Int) - 1) = true → 0 ≤ k ∧ ∃ v1 v2 v3 sz ps ds bs, (l.map (Pck.enc false))[k.toNat]? = some (.agg [str (pk l k).n, i64 v1, i64 v2, i64 v3, i64 sz, .sl false 1 ps, .sl false 1 ds, .sl false 7 bs]) := fun k h => by
    obtain ⟨h0, h1, h2, h3⟩ := pk_at h
    obtain ⟨ps, ds, bs, hen, hp, hd, hb⟩ := enc_raw (pk l k)
    exact ⟨h0, _, _, _, _, ps, ds, bs, by rw [List.getElem?_map, h2]; exact congrArg some hen⟩
  have hnm : ∀ (i : Nat) (n : List UInt8), ∃ q, decide (0 ≤ q) = twB l s i n ∧ PCtr PP n_impl_named [encP l, .sl false 1 ((s.map i64).take i), str n] (i64 q) := fun i n => by
    refine ⟨nmF l n (s.take i), nmF_any fun k h => (pk_at (hk k (List.mem_of_mem_take h))).1, ?_⟩
    have := c_named l (s.take i) n hl (by rw [List.length_take]; omega) (fun k h => hk k (List.mem_of_mem_take h))
    rw [List.map_take] at this; exact this
  obtain ⟨ys, hys⟩ : ∃ ys, ys = s.map i64 := ⟨_, rfl⟩
  have hylen : ys.length = s.length := by rw [hys, List.length_map]
  unfold encP at *
  rw [← hys] at hnm ⊢
  generalize l.map (Pck.enc false) = xs at *
  have htab := tab
  have hmo := hmo
  refine PCtr.walk tab hΩ fn_impl_isTwice rfl ?_
  generalize PP = P at *
  cbv
  refine loopX htab hΩ (fun i : Nat => ⟨[(0, .sl false 8 xs), (1, .sl false 1 ys), (7, .sl false 1 ys), (8, .sc (.int .i64 (Ω.int (Ω.len ys)))), (9, .sc (.int .i64 (Ω.int i)))], 26, []⟩) (fun i => i ≤ s.length ∧ r = twice l s i (s.drop i)) (fun i => s.length - i) 0
    ⟨Nat.zero_le _, hr⟩ (Sbs.mk rfl rfl ⟨rfl, rfl, rfl, rfl, zeroI hΩ, trivial⟩) ?_
  rintro i ⟨hi, he⟩
  cbv
  refine br (fun h => ?_) (fun h => ?_) <;> cbv
  · replace h := ltI hΩ h
    obtain ⟨c, hcc⟩ := at_of (cs := s) (by omega : i < s.length)
    rw [twice_at hcc] at he
    obtain ⟨hc0, v1, v2, v3, sz, ps, ds, bs, hx⟩ := hat c (hk c (List.mem_of_getElem? hcc))
    generalize (pk l c).n = nn at hx he
    obtain ⟨q, hq, hcall⟩ := hnm i nn
    rw [← hq] at he
    refine ⟨⟨nnI hΩ⟩, _, rdI hΩ hys hcc, ?_⟩
    cbv
    refine ⟨VC_drawn htab hΩ hmo (by kernel_rfl) ?_⟩
    cbv
    refine ⟨⟨trivial, nnI hΩ, Nat.zero_le _, by subst hΩ; show ((i : Int)).toNat ≤ ys.length; omega⟩, ⟨hc0⟩, _, hx, ?_⟩
    cbv
    refine QCall_pure (k := 3) hcall rfl (fitsE (by subst hΩ; rfl)) rfl ?_
    cbv
    refine br (fun g => ?_) (fun g => ?_) <;> cbv
    · have g : 0 ≤ q := by subst hΩ; exact ge_t g
      exact .of (congrArg boo (by rw [he, decide_eq_true g]; rfl))
    · have g : ¬ 0 ≤ q := by have : q < 0 := by (subst hΩ; exact ge_f g)
                             omega
      rw [decide_eq_false g, Bool.false_or] at he
      exact ⟨i + 1, ⟨by omega, he⟩, by omega, Sbs.mk rfl rfl ⟨rfl, rfl, rfl, rfl, incI hΩ (by omega), trivial⟩⟩
  · replace h := geI hΩ h
    exact .of (congrArg boo (by rw [he, List.drop_of_length_le (by omega)]; rfl))
/-- Each name leads to its own place. -/
def apart (c : List Pck) (s : List Int) : List Int → Bool
  | [] => true
  | k :: ks => decide (nmF c (pk c k).n s = k) && apart c s ks
theorem apart_at {c : List Pck} {s : List Int} {l : List Int} {i : Nat} {k : Int} (h : l[i]? = some k) : apart c s (l.drop i) = (decide (nmF c (pk c k).n s = k) && apart c s (l.drop (i + 1))) := by
  obtain ⟨h1, h2⟩ := List.getElem?_eq_some_iff.1 h
  rw [List.drop_eq_getElem_cons h1, h2, apart]
theorem c_l5Apart (l : List Pck) (s : List Int) (hl : l.length ≤ 1048576) (hs : s.length ≤ 1048576) (hk : ∀ k ∈ s, inB k 0 ((l.length : Int) - 1) = true) : PCtr PP n_spec_l5Apart [encP l, .sl false 1 (s.map i64)] (boo (apart l s s)) := by
  obtain ⟨Ω, hΩ⟩ : ∃ Ω, Ω = std := ⟨_, rfl⟩
  obtain ⟨r, hr⟩ : ∃ r, r = apart l s s := ⟨_, rfl⟩
  rw [← hr]
  have hat : ∀ k, inB k 0 ((l.length : Int) - 1) = true → 0 ≤ k ∧ ∃ v1 v2 v3 sz ps ds bs, (l.map (Pck.enc false))[k.toNat]? = some (.agg [str (pk l k).n, i64 v1, i64 v2, i64 v3, i64 sz, .sl false 1 ps, .sl false 1 ds, .sl false 7 bs]) := fun k h => by
    obtain ⟨h0, h1, h2, h3⟩ := pk_at h
    obtain ⟨ps, ds, bs, hen, hp, hd, hb⟩ := enc_raw (pk l k)
    exact ⟨h0, _, _, _, _, ps, ds, bs, by rw [List.getElem?_map, h2]; exact congrArg some hen⟩
  have hone := fun n => c_l5One l s n hl hs hk
  obtain ⟨Q, hQ⟩ : ∃ Q : Int → Int → Bool, Q = fun a b => decide (a = b) := ⟨_, rfl⟩
  obtain ⟨ys, hys⟩ : ∃ ys, ys = s.map i64 := ⟨_, rfl⟩
  have hylen : ys.length = s.length := by rw [hys, List.length_map]
  unfold encP at *
  rw [← hys] at hone ⊢
  generalize l.map (Pck.enc false) = xs at *
  have htab := tab
  have hmo := hmo
  refine PCtr.walk tab hΩ fn_spec_l5Apart rfl ?_
  generalize PP = P at *
  cbv
  refine loopX htab hΩ (fun i : Nat => ⟨[(0, .sl false 8 xs), (1, .sl false 1 ys), (5, .sc (.int .i64 (Ω.int i)))], 28, []⟩) (fun i => i ≤ s.length ∧ r = apart l s (s.drop i)) (fun i => s.length - i) 0
    ⟨Nat.zero_le _, hr⟩ (Sbs.mk rfl rfl ⟨rfl, rfl, zeroI hΩ, trivial⟩) ?_
  rintro i ⟨hi, he⟩
  cbv
  refine br (fun h => ?_) (fun h => ?_) <;> cbv
  · replace h := ltI hΩ h
    obtain ⟨c, hcc⟩ := at_of (cs := s) (by omega : i < s.length)
    rw [apart_at hcc] at he
    obtain ⟨hc0, v1, v2, v3, sz, ps, ds, bs, hx⟩ := hat c (hk c (List.mem_of_getElem? hcc))
    have hone := hone (pk l c).n
    generalize nmF l (pk l c).n s = q at hone he
    generalize (pk l c).n = nn at hx hone
    refine ⟨VC_drawn htab hΩ hmo (by kernel_rfl) ?_⟩
    cbv
    refine ⟨⟨nnI hΩ⟩, _, rdI hΩ hys hcc, ?_⟩
    cbv
    refine ⟨⟨hc0⟩, _, hx, ?_⟩
    cbv
    refine QCall_pure (k := 3) hone rfl (fits _) rfl ?_
    cbv
    refine ⟨⟨nnI hΩ⟩, _, rdI hΩ hys hcc, ?_⟩
    cbv
    refine br (fun g => ?_) (fun g => ?_) <;> cbv
    · have g := neI_t hΩ g
      exact .of (congrArg boo (by rw [he, decide_eq_false g]; rfl))
    · have g := neI_f hΩ g
      rw [decide_eq_true g, Bool.true_and] at he
      exact ⟨i + 1, ⟨by omega, he⟩, by omega, Sbs.mk rfl rfl ⟨rfl, rfl, incI hΩ (by omega), trivial⟩⟩
  · replace h := geI hΩ h
    exact .of (congrArg boo (by rw [he, List.drop_of_length_le (by omega)]; rfl))
end Go.Proofs.YtfmcncflooechaaGreat

/- Walks: the names that change, on both sides. Plain theorems. -/
set_option linter.unusedVariables false
set_option linter.unusedSimpArgs false
namespace Go.Proofs.YtfmcncflooechaaGreat
open Go Go.Fw Go.Sort
set_option maxRecDepth 100000
theorem sortS_len (xs : List (List UInt8)) : (sortS xs).length = xs.length := List.length_mergeSort _
theorem c_sorted (xs : List (List UInt8)) (hb : xs.length ≤ 4194304) : ECtr PP n_impl_sorted [.sl true 1 (xs.map str)] (.sl true 1 ((compS (sortS xs)).map str)) := by
  obtain ⟨Ω, hΩ⟩ : ∃ Ω, Ω = std := ⟨_, rfl⟩
  have h1 := c_SortS xs hb
  have h2 := c_CompactS (sortS xs) (by rw [sortS_len]; exact hb)
  obtain ⟨ys, hys⟩ : ∃ ys, ys = (sortS xs).map str := ⟨_, rfl⟩
  obtain ⟨zs, hzs⟩ : ∃ zs, zs = (compS (sortS xs)).map str := ⟨_, rfl⟩
  have hz : roFree (.sl true 1 zs) = true := by rw [hzs]; exact roF_S _
  rw [← hys] at h1 h2
  rw [← hzs] at h2 ⊢
  obtain ⟨xa, hxa⟩ : ∃ xa, xa = xs.map str := ⟨_, rfl⟩
  have hl1 : ys.length = xa.length := by rw [hys, hxa, List.length_map, List.length_map, sortS_len]
  rw [← hxa] at h1 ⊢
  have htab := tab
  refine ECtr.walk tab hΩ 3 fn_impl_sorted rfl rfl ?_
  have hlx : Ω.len xa = xa.length := by subst hΩ; rfl
  have hlz : Ω.len zs ≤ zs.length := by subst hΩ; exact Nat.le_refl _
  have htz : Ω.take (Ω.len zs) zs = zs := takeAll hΩ _
  generalize PP = P at *
  cbv
  refine call_mut hΩ 3 (l := [(0, ys)] ++ []) h1 (.cons (mutVw rfl hlx hl1) .nil) (by simp) rfl ?_
  cbv
  refine call_eat2 (row := ⟨1, ys, false⟩) hΩ 3 h2 rfl rfl (hlx.trans hl1.symm) rfl (fits _) hz rfl ?_
  cbv
  exact ⟨⟨rfl, hlz⟩, .of (congrArg (A.sl true 1) htz)⟩
/-- Does a name change? -/
def chB (c : List Pck) (f t : List Int) (n : List UInt8) : Bool := !decide (nmF c n f = nmF c n t)
def chI (c : List Pck) (f t : List Int) : List (List UInt8) := ((f ++ t).map fun k => (pk c k).n).filter (chB c f t)
def chS (c : List Pck) (f t : List Int) : List (List UInt8) := (c.map Pck.n).foldl (fun o n => if chB c f t n then put5 n o else o) []
theorem c_changed (l : List Pck) (f t : List Int) (hl : l.length ≤ 1048576) (hf : f.length ≤ 1048576) (ht : t.length ≤ 1048576) (hkf : ∀ k ∈ f, inB k 0 ((l.length : Int) - 1) = true) (hkt : ∀ k ∈ t, inB k 0 ((l.length : Int) - 1) = true) :
    PCtr PP n_impl_changed [encP l, .sl false 1 (f.map i64), .sl false 1 (t.map i64)] (.sl true 1 ((compS (sortS (chI l f t))).map str)) := by
  obtain ⟨Ω, hΩ⟩ : ∃ Ω, Ω = std := ⟨_, rfl⟩
  have hat : ∀ k, inB k 0 ((l.length : Int) - 1) = true → 0 ≤ k ∧ ∃ v1 v2 v3 sz ps ds bs, (l.map (Pck.enc false))[k.toNat]? = some (.agg [str (pk l k).n, i64 v1, i64 v2, i64 v3, i64 sz, .sl false 1 ps, .sl false 1 ds, .sl false 7 bs]) := fun k h => by
    obtain ⟨h0, h1, h2, h3⟩ := pk_at h
    obtain ⟨ps, ds, bs, hen, hp, hd, hb⟩ := enc_raw (pk l k)
    exact ⟨h0, _, _, _, _, ps, ds, bs, by rw [List.getElem?_map, h2]; exact congrArg some hen⟩
  have hnf := fun n => c_named l f n hl hf hkf
  have hnt := fun n => c_named l t n hl ht hkt
  obtain ⟨ft, hft⟩ : ∃ ft, ft = f ++ t := ⟨_, rfl⟩
  have hk : ∀ k ∈ ft, inB k 0 ((l.length : Int) - 1) = true := fun k h => by rw [hft] at h; exact (List.mem_append.1 h).elim (hkf k) (hkt k)
  have hfl : ft.length ≤ 2097152 := by rw [hft, List.length_append]; omega
  have hcc := c_ConcatI [f, t] (by simp) (by simp; exact ⟨hf, ht⟩)
  rw [show [f, t].flatten = ft by simp [hft]] at hcc
  obtain ⟨C, hC⟩ : ∃ C : Nat → List (List UInt8), C = fun i => (((ft.take i).map fun k => (pk l k).n).filter (chB l f t)) := ⟨_, rfl⟩
  have hC0 : C 0 = [] := by rw [hC]; rfl
  have hCi : ∀ i k, ft[i]? = some k → C (i + 1) = if chB l f t (pk l k).n then C i ++ [(pk l k).n] else C i := fun i k h => by
    rw [hC]; dsimp only; rw [List.take_add_one, h, List.map_append, List.filter_append]
    cases hb : chB l f t (pk l k).n <;> simp [hb]
  have hCl : ∀ i, (C i).length ≤ i := fun i => by rw [hC]; exact Nat.le_trans (List.length_filter_le _ _) (by simp; omega)
  have hCe : C ft.length = chI l f t := by rw [hC]; dsimp only; rw [List.take_length, hft]; rfl
  rw [← hCe]
  have hso := c_sorted (C ft.length) (by have := hCl ft.length; omega)
  obtain ⟨zs, hzs⟩ : ∃ zs, zs = (compS (sortS (C ft.length))).map str := ⟨_, rfl⟩
  have hz : roFree (.sl true 1 zs) = true := by rw [hzs]; exact roF_S _
  rw [← hzs] at hso ⊢
  obtain ⟨F, hF⟩ : ∃ F : List (List UInt8) → List A, F = fun l => l.map str := ⟨_, rfl⟩
  have hFm : ∀ t : List (List UInt8), t.map str = F t := fun t => by rw [hF]
  have hap : ∀ t x, Ω.app (Ω.take (Ω.len (F t)) (F t)) [str x] = F (t ++ [x]) := fun t x => by rw [takeAll hΩ, ← hFm, ← hFm, List.map_append]; subst hΩ; rfl
  have hpl : ∀ t x, Ω.plus (Ω.len (F t)) (Ω.len [str x]) = Ω.len (F (t ++ [x])) := fun t x => by rw [← hap, takeAll hΩ]; subst hΩ; exact (List.length_append).symm
  have hF0 : F [] = [] := by rw [hF]; rfl
  have hFl : ∀ t, (F t).length = t.length := fun t => by rw [hF, List.length_map]
  rw [hFm] at hso
  obtain ⟨n, hn⟩ : ∃ n, n = ft.length := ⟨_, rfl⟩
  rw [← hn] at hso
  obtain ⟨q, hq⟩ : ∃ q, q = ft.map i64 := ⟨_, rfl⟩
  have hql : q.length = ft.length := by rw [hq, List.length_map]
  have hqq := hq
  have hqf : roFree (.sl true 1 q) = true := by rw [hq]; exact roF_I ft
  have hqz : frz (.sl true 1 q) = .sl false 1 q := by rw [frz_sl, hq, frz_I]
  rw [← hq] at hcc
  obtain ⟨fa, hfa⟩ : ∃ fa, fa = f.map i64 := ⟨_, rfl⟩
  obtain ⟨ta, hta⟩ : ∃ ta, ta = t.map i64 := ⟨_, rfl⟩
  have hcc : PCtr PP n_slices_Concat_L_int64_int64 [.sl false 1 [.sl false 1 fa, .sl false 1 ta]] (.sl true 1 q) := by rw [hfa, hta]; exact hcc
  have hfz : fa.map frz = fa := by rw [hfa]; exact frz_I f
  have htz : ta.map frz = ta := by rw [hta]; exact frz_I t
  have hrow : ∀ {S : State}, Fw.rowAt S.rows 1 = some ⟨1, [.sl false 1 fa, .sl false 1 ta], false⟩ → roO S 3 (.vw 1 0 2) = some (.sl false 1 [.sl false 1 fa, .sl false 1 ta]) := fun h => ro_vw h rfl (by simp [frz_sl, hfz, htz])
  unfold encP at *
  rw [← hfa] at hnf ⊢
  rw [← hta] at hnt ⊢
  generalize l.map (Pck.enc false) = xs at *
  have htab := tab
  have hmo := hmo
  clear hC hzs hfa hta hF hCe hft
  refine PCtr.walk tab hΩ fn_impl_changed rfl ?_
  generalize PP = P at *
  have hlz : Ω.len zs ≤ zs.length := by subst hΩ; exact Nat.le_refl _
  have htkz : Ω.take (Ω.len zs) zs = zs := takeAll hΩ _
  cbv
  refine call_pf hΩ 3 hcc (mapO1 (hrow rfl)) (fits _) hqf hqz rfl ?_
  cbv
  refine loopX htab hΩ (fun i : Nat => ⟨[(0, .sl false 8 xs), (1, .sl false 1 fa), (2, .sl false 1 ta), (7, .vw 0 0 (Ω.len (F (C i)))), (15, .sl false 1 q), (16, i64 (Ω.int (Ω.len q))), (17, i64 (Ω.int i))], 42, [some ⟨1, F (C i), false⟩]⟩) (fun i => i ≤ ft.length) (fun i => ft.length - i) 0 (Nat.zero_le _)
    ((Sbs.cut 1 rfl).trans (Sbs.mk rfl (by dsimp only; rw [hC0, hF0]; rfl) ⟨rfl, rfl, rfl, by dsimp only; rw [hC0, hF0]; subst hΩ; rfl, rfl, rfl, zeroI hΩ, trivial⟩)) (fun i hi => ?_)
  have hCli := hCl i
  have hFli := hFl (C i)
  have hlo : Ω.len (F (C i)) = (F (C i)).length := by subst hΩ; rfl
  have htk : Ω.take (Ω.len (F (C i))) (F (C i)) = F (C i) := takeAll hΩ _
  cbv
  refine br (fun h => ?_) (fun h => ?_) <;> cbv
  · replace h := ltI hΩ h
    obtain ⟨k, hk'⟩ := at_of (cs := ft) (by omega : i < ft.length)
    have hst := hCi i k hk'
    obtain ⟨hc0, v1, v2, v3, sz, ps, ds, bs, hx⟩ := hat k (hk k (List.mem_of_getElem? hk'))
    have hap := hap (C i) (pk l k).n
    have hpl := hpl (C i) (pk l k).n
    unfold chB at hst
    have hnf := hnf (pk l k).n
    have hnt := hnt (pk l k).n
    generalize (pk l k).n = nn at *
    generalize nmF l nn f = a at *
    generalize nmF l nn t = b at *
    refine ⟨⟨nnI hΩ⟩, _, rdI hΩ hqq hk', ?_⟩
    cbv
    refine ⟨⟨hc0⟩, _, hx, ?_⟩
    cbv
    refine call_pure hΩ 3 hnf rfl (fits _) rfl rfl ?_
    cbv
    refine call_pure hΩ 3 hnt rfl (fits _) rfl rfl ?_
    cbv
    refine br (fun g => ?_) (fun g => ?_) <;> cbv
    · have g := neZt hΩ g
      rw [decide_eq_false g, Bool.not_false, if_pos rfl] at hst
      refine ⟨⟨rfl, okAll rfl, by show (Ω.len (F (C i)) + 1) * 16 ≤ 140737488355328; omega, by show Ω.len (F (C i)) + 1 ≤ 9223372036854775807; omega⟩, i + 1, by omega, by omega,
        (Sbs.cut 1 rfl).trans (Sbs.mk rfl (by show [some (Row.mk 1 (Ω.app (Ω.take (Ω.len (F (C i))) (F (C i))) [str nn]) false)] = _; rw [hap, ← hst]) ⟨rfl, rfl, rfl, by rw [hst]; exact congrArg (A.vw 0 0) hpl, rfl, rfl, incI hΩ (by omega), trivial⟩)⟩
    · have g := neZf hΩ g
      rw [decide_eq_true g, Bool.not_true, if_neg (by simp)] at hst
      exact ⟨i + 1, by omega, by omega, (Sbs.cut 1 rfl).trans (Sbs.mk rfl (by rw [hst]; rfl) ⟨rfl, rfl, rfl, by rw [hst]; rfl, rfl, rfl, incI hΩ (by omega), trivial⟩)⟩
  · replace h := geI hΩ h
    obtain rfl : n = i := by omega
    refine call_eat2 (row := ⟨1, F (C n), false⟩) hΩ 3 hso rfl rfl hlo rfl (fits _) hz rfl ?_
    cbv
    exact ⟨⟨rfl, hlz⟩, .of (congrArg (A.sl true 1) htkz)⟩
theorem foldl_at {α β : Type} {g : β → α → β} {b : β} {xs : List α} {i : Nat} {x : α} (h : xs[i]? = some x) : (xs.drop i).foldl g b = (xs.drop (i + 1)).foldl g (g b x) := by
  obtain ⟨h1, h2⟩ := List.getElem?_eq_some_iff.1 h
  rw [List.drop_eq_getElem_cons h1, h2, List.foldl_cons]
theorem putGo_len {v : List UInt8} {l : List (List UInt8)} : ∀ {xs o : List (List UInt8)} {d : Bool}, l.length + 1 ≤ o.length + xs.length + (if d then 0 else 1) → (putGo v l o d xs).length ≤ o.length + xs.length + (if d then 0 else 1)
  | [], o, d, h => by rw [putGo]; split <;> simp
  | x :: xs, o, d, h => by
    rw [putGo]
    simp only [List.length_cons] at h ⊢
    split
    · omega
    · split
      · rename_i h1 h2
        rw [h2.2] at h ⊢
        have := putGo_len (v := v) (l := l) (xs := xs) (o := o ++ [v] ++ [x]) (d := true) (by simp at h ⊢; omega)
        simp at this ⊢; omega
      · have := putGo_len (v := v) (l := l) (xs := xs) (o := o ++ [x]) (d := d) (by simp at h ⊢; omega)
        simp at this ⊢; omega
theorem put5_len (v : List UInt8) (l : List (List UInt8)) : (put5 v l).length ≤ l.length + 1 := by
  have := putGo_len (v := v) (l := l) (xs := l) (o := []) (d := false) (by simp)
  simpa [put5] using this
theorem c_l5Changed (l : List Pck) (f t : List Int) (hl : l.length ≤ 1048576) (hf : f.length ≤ 1048576) (ht : t.length ≤ 1048576) (hkf : ∀ k ∈ f, inB k 0 ((l.length : Int) - 1) = true) (hkt : ∀ k ∈ t, inB k 0 ((l.length : Int) - 1) = true) :
    PCtr PP n_spec_l5Changed [encP l, .sl false 1 (f.map i64), .sl false 1 (t.map i64)] (.sl false 1 ((chS l f t).map str)) := by
  obtain ⟨Ω, hΩ⟩ : ∃ Ω, Ω = std := ⟨_, rfl⟩
  obtain ⟨r, hr⟩ : ∃ r, r = chS l f t := ⟨_, rfl⟩
  have hnf := fun n => c_l5One l f n hl hf hkf
  have hnt := fun n => c_l5One l t n hl ht hkt
  rw [← hr]
  unfold chS at hr
  obtain ⟨ns, hns⟩ : ∃ ns, ns = l.map Pck.n := ⟨_, rfl⟩
  have hnl : ns.length = l.length := by rw [hns, List.length_map]
  rw [← hns] at hr
  have hat : ∀ (i : Nat) (n : List UInt8), ns[i]? = some n → ∃ v1 v2 v3 sz ps ds bs, (l.map (Pck.enc false))[i]? = some (.agg [str n, i64 v1, i64 v2, i64 v3, i64 sz, .sl false 1 ps, .sl false 1 ds, .sl false 7 bs]) := fun i n h => by
    rw [hns, List.getElem?_map, Option.map_eq_some_iff] at h
    obtain ⟨p, hp, rfl⟩ := h
    obtain ⟨ps, ds, bs, hen, _, _, _⟩ := enc_raw p
    exact ⟨_, _, _, _, ps, ds, bs, by rw [List.getElem?_map, hp]; exact congrArg some hen⟩
  obtain ⟨F, hF⟩ : ∃ F : List (List UInt8) → List A, F = fun l => l.map str := ⟨_, rfl⟩
  have hFm : ∀ t : List (List UInt8), t.map str = F t := fun t => by rw [hF]
  have hF0 : F [] = [] := by rw [hF]; rfl
  have hpt := fun (o : List (List UInt8)) (n : List UInt8) (h : o.length ≤ 1048576) => c_l5Put o n h
  simp only [hFm] at hpt ⊢
  suffices h : RCtr PP n_spec_l5Changed [encP l, .sl false 1 (f.map i64), .sl false 1 (t.map i64)] fun x => x = .sl false 1 (F r) from RCtr.p h
  obtain ⟨fa, hfa⟩ : ∃ fa, fa = f.map i64 := ⟨_, rfl⟩
  obtain ⟨ta, hta⟩ : ∃ ta, ta = t.map i64 := ⟨_, rfl⟩
  unfold encP at *
  rw [← hfa] at hnf ⊢
  rw [← hta] at hnt ⊢
  have hxl : (l.map (Pck.enc false)).length = ns.length := by rw [List.length_map, hnl]
  generalize l.map (Pck.enc false) = xs at *
  clear hfa hta hF
  have htab := tab
  refine RCtr.walk tab hΩ fn_spec_l5Changed rfl ?_
  generalize PP = P at *
  cbv
  refine loopX htab hΩ (fun i : Nat × List (List UInt8) => ⟨[(0, .sl false 8 xs), (1, .sl false 1 fa), (2, .sl false 1 ta), (7, .sl false 1 (F i.2)), (8, i64 (Ω.int i.1))], 35, []⟩)
    (fun i => i.1 ≤ ns.length ∧ i.2.length ≤ i.1 ∧ r = (ns.drop i.1).foldl (fun o n => if chB l f t n then put5 n o else o) i.2) (fun i => ns.length - i.1) (0, []) ⟨Nat.zero_le _, Nat.le_refl _, hr⟩
    ((Sbs.thaw (r := 0) rfl rfl).trans ((Sbs.cut 0 rfl).trans (Sbs.mk rfl rfl ⟨rfl, rfl, rfl, by dsimp only; rw [hF0]; rfl, zeroI hΩ, trivial⟩))) ?_
  rintro ⟨i, o⟩ ⟨hi, ho, he⟩
  dsimp only at hi ho he
  cbv
  refine br (fun h => ?_) (fun h => ?_) <;> cbv
  · replace h := ltI hΩ h
    obtain ⟨n, hx⟩ := at_of (cs := ns) (by omega : i < ns.length)
    rw [foldl_at hx] at he
    obtain ⟨v1, v2, v3, sz, ps, ds, bs, hx⟩ := hat i n hx
    have hpt := hpt o n (by omega)
    have hpl := put5_len n o
    have hnf := hnf n
    have hnt := hnt n
    rw [show chB l f t n = !decide (nmF l n f = nmF l n t) from rfl] at he
    generalize nmF l n f = a at *
    generalize nmF l n t = b at *
    generalize put5 n o = o' at *
    refine ⟨⟨nnI hΩ⟩, _, rdJ hΩ hx, ?_⟩
    cbv
    refine call_pure hΩ 3 hnf rfl (fits _) rfl rfl ?_
    cbv
    refine call_pure hΩ 3 hnt rfl (fits _) rfl rfl ?_
    cbv
    refine br (fun g => ?_) (fun g => ?_) <;> cbv
    · have g := neZt hΩ g
      rw [decide_eq_false g, Bool.not_false, if_pos rfl] at he
      refine call_share hΩ 3 hpt rfl (fits _) rfl ?_
      cbv
      exact ⟨(i + 1, o'), ⟨by dsimp only; omega, by dsimp only; omega, he⟩, by dsimp only; omega, Sbs.mk rfl rfl ⟨rfl, rfl, rfl, rfl, incI hΩ (by omega), trivial⟩⟩
    · have g := neZf hΩ g
      rw [decide_eq_true g, Bool.not_true, if_neg (by simp)] at he
      exact ⟨(i + 1, o), ⟨by dsimp only; omega, by dsimp only; omega, he⟩, by dsimp only; omega, Sbs.mk rfl rfl ⟨rfl, rfl, rfl, rfl, incI hΩ (by omega), trivial⟩⟩
  · replace h := geI hΩ h
    rw [List.drop_of_length_le (by omega)] at he
    exact ⟨_, rfl, .of (by rw [he]; rfl)⟩
end Go.Proofs.YtfmcncflooechaaGreat

/- Lists in strict order: what compaction of a sorted list gives, and what put5 keeps. Plain theorems, no program. -/
set_option linter.unusedVariables false
set_option linter.unusedSimpArgs false
namespace Go.Proofs.YtfmcncflooechaaGreat
open Go Go.Fw Go.Sort Go.Lib
theorem strict_ext {α : Type} [LT α] (irr : ∀ a : α, ¬ a < a) (tr : ∀ a b c : α, a < b → b < c → a < c) : ∀ {a b : List α}, a.Pairwise (· < ·) → b.Pairwise (· < ·) → (∀ x, x ∈ a ↔ x ∈ b) → a = b
  | [], [], _, _, _ => rfl
  | [], y :: b, _, _, h => by have := (h y).2 (by simp); cases this
  | x :: a, [], _, _, h => by have := (h x).1 (by simp); cases this
  | x :: a, y :: b, ha, hb, h => by
    rw [List.pairwise_cons] at ha hb
    have e : x = y := by
      rcases List.mem_cons.1 ((h x).1 (by simp)) with e | hx
      · exact e
      · rcases List.mem_cons.1 ((h y).2 (by simp)) with e | hy
        · exact e.symm
        · exact absurd (tr _ _ _ (ha.1 y hy) (hb.1 x hx)) (irr _)
    subst e
    rw [strict_ext irr tr ha.2 hb.2 fun z => ⟨fun hz => ?_, fun hz => ?_⟩]
    · rcases List.mem_cons.1 ((h z).1 (by simp [hz])) with rfl | h1
      · exact absurd (ha.1 z hz) (irr z)
      · exact h1
    · rcases List.mem_cons.1 ((h z).2 (by simp [hz])) with rfl | h1
      · exact absurd (hb.1 z hz) (irr z)
      · exact h1
theorem compact_spec {α : Type} [LT α] [Inhabited α] [DecidableEq α] (tr : ∀ a b c : α, a < b → b < c → a < c) {d : Array α} (hs : ∀ i j, i < j → j < d.size → d[i]! < d[j]! ∨ d[i]! = d[j]!) : ∀ m, m ≤ d.size → (compactUpTo d m).Pairwise (· < ·) ∧ (∀ x, x ∈ compactUpTo d m ↔ ∃ j, j < m ∧ x = d[j]!)
  | 0, _ => by simp [compactUpTo]
  | m + 1, hm => by
    obtain ⟨h1, h2⟩ := compact_spec tr hs m (by omega)
    rw [compactUpTo_succ]
    cases hk : keeps d m with
    | false =>
      unfold keeps at hk
      rw [decide_eq_false_iff_not] at hk
      have h0 : m ≠ 0 := fun e => hk (.inl e)
      have he : d[m]! = d[m - 1]! := Decidable.byContradiction fun e => hk (.inr e)
      rw [if_neg (by simp), List.append_nil]
      refine ⟨h1, fun x => (h2 x).trans ⟨fun ⟨j, hj, e⟩ => ⟨j, by omega, e⟩, fun ⟨j, hj, e⟩ => ?_⟩⟩
      by_cases ej : j = m
      · exact ⟨m - 1, by omega, by rw [e, ej, he]⟩
      · exact ⟨j, by omega, e⟩
    | true =>
      rw [if_pos rfl]
      refine ⟨?_, fun x => ?_⟩
      · rw [List.pairwise_append]
        refine ⟨h1, by simp, fun x hx y hy => ?_⟩
        rw [List.mem_singleton] at hy
        subst hy
        obtain ⟨j, hj, rfl⟩ := (h2 x).1 hx
        unfold keeps at hk
        have hk := of_decide_eq_true hk
        have hne : d[m]! ≠ d[m - 1]! := hk.resolve_left (by omega)
        have hl : d[m - 1]! < d[m]! := (hs (m - 1) m (by omega) (by omega)).resolve_right fun e => hne e.symm
        by_cases e : j = m - 1
        · rw [e]; exact hl
        · rcases hs j (m - 1) (by omega) (by omega) with h | h
          · exact tr _ _ _ h hl
          · rw [h]; exact hl
      · rw [List.mem_append, h2, List.mem_singleton]
        constructor
        · rintro (⟨j, hj, e⟩ | e)
          · exact ⟨j, by omega, e⟩
          · exact ⟨m, by omega, e⟩
        · rintro ⟨j, hj, e⟩
          by_cases ej : j = m
          · exact .inr (by rw [e, ej])
          · exact .inl ⟨j, by omega, e⟩
theorem compact_strict {α : Type} [LT α] [Inhabited α] [DecidableEq α] (tr : ∀ a b c : α, a < b → b < c → a < c) {zs : List α} (hs : zs.Pairwise fun x y => x < y ∨ x = y) : (compact zs).Pairwise (· < ·) ∧ ∀ x, x ∈ compact zs ↔ x ∈ zs := by
  have hg : ∀ j (h : j < zs.length), zs.toArray[j]! = zs[j] := fun j h => by rw [getElem!_pos _ _ (by simpa using h)]; simp
  have h := compact_spec tr (d := zs.toArray) (fun i j hij hj => by
    have hj' : j < zs.length := by simpa using hj
    rw [hg i (by omega), hg j hj']; exact List.pairwise_iff_getElem.1 hs i j (by omega) hj' hij) zs.length (by simp)
  refine ⟨h.1, fun x => (h.2 x).trans ⟨?_, fun hx => ?_⟩⟩
  · rintro ⟨j, hj, rfl⟩; rw [hg j hj]; exact List.getElem_mem hj
  · obtain ⟨j, hj, rfl⟩ := List.mem_iff_getElem.1 hx; exact ⟨j, hj, (hg j hj).symm⟩
theorem ltS_irr (a : List UInt8) : ¬ a < a := List.lt_irrefl a
theorem ltS_tr (a b c : List UInt8) (h : a < b) (h' : b < c) : a < c := List.lt_trans h h'
theorem ltS_tri (a b : List UInt8) : a < b ∨ a = b ∨ b < a := by
  by_cases h : a < b
  · exact .inl h
  · rcases List.le_iff_lt_or_eq.1 (List.not_lt.1 h) with h | h
    · exact .inr (.inr h)
    · exact .inr (.inl h.symm)
theorem sortS_spec (xs : List (List UInt8)) : (compS (sortS xs)).Pairwise (· < ·) ∧ ∀ x, x ∈ compS (sortS xs) ↔ x ∈ xs := by
  have hp : (sortS xs).Pairwise fun x y => x < y ∨ x = y := by
    have := List.pairwise_mergeSort (le := fun x y : List UInt8 => decide (x ≤ y)) (by intro a b c; simp only [decide_eq_true_eq]; exact List.le_trans) (by intro a b; simp only [Bool.or_eq_true, decide_eq_true_eq]; exact List.le_total a b) xs
    exact this.imp fun h => List.le_iff_lt_or_eq.1 (by simpa using h)
  obtain ⟨h1, h2⟩ := compact_strict ltS_tr hp
  exact ⟨h1, fun x => (h2 x).trans (List.mergeSort_perm xs _).mem_iff⟩
theorem putGo_spec {v : List UInt8} {l : List (List UInt8)} : ∀ {xs o : List (List UInt8)} {d : Bool}, (o ++ xs).Pairwise (· < ·) → (d = true → v ∈ o) → (d = false → v ∉ o ∧ (∀ y ∈ o, y < v)) → (∀ x, x ∈ l → x = v ∨ x ∈ o ++ xs) → (∀ x ∈ o ++ xs, x = v ∨ x ∈ l) → l.Pairwise (· < ·) → (v ∈ xs → v ∈ l) →
    (putGo v l o d xs).Pairwise (· < ·) ∧ ∀ x, x ∈ putGo v l o d xs ↔ x = v ∨ x ∈ l
  | [], o, d, h1, h2, h3, h4, h5, h6, h7 => by
    rw [putGo]
    rw [List.append_nil] at h1 h4 h5
    cases d with
    | true => rw [if_pos rfl]; exact ⟨h1, fun x => ⟨h5 x, fun h => h.elim (fun e => e ▸ h2 rfl) fun hx => (h4 x hx).elim (fun e => e ▸ h2 rfl) id⟩⟩
    | false =>
      rw [if_neg (by simp)]
      refine ⟨?_, fun x => ?_⟩
      · rw [List.pairwise_append]; exact ⟨h1, by simp, fun a ha b hb => by rw [List.mem_singleton] at hb; subst hb; exact (h3 rfl).2 a ha⟩
      · rw [List.mem_append, List.mem_singleton]
        exact ⟨fun h => h.elim (h5 x) .inl, fun h => h.elim .inr fun hx => (h4 x hx).elim .inr .inl⟩
  | x :: xs, o, d, h1, h2, h3, h4, h5, h6, h7 => by
    rw [putGo]
    split
    · rename_i e
      have hv : v ∈ l := h7 (by simp [e])
      exact ⟨h6, fun y => ⟨.inr, fun h => h.elim (fun e => e ▸ hv) id⟩⟩
    · rename_i hne
      have ho := (List.pairwise_append.1 h1)
      split
      · rename_i hk
        obtain ⟨hk1, rfl⟩ := hk
        have h3' := h3 rfl
        have hxs := List.pairwise_cons.1 ho.2.1
        refine putGo_spec ?_ (fun _ => by simp) (fun h => by cases h) (fun y hy => ?_) (fun y hy => ?_) h6 (fun h => h7 (by simp [h]))
        · rw [List.append_assoc, List.append_assoc, List.pairwise_append]
          refine ⟨ho.1, ?_, fun a ha b hb => ?_⟩
          · simp only [List.singleton_append, List.pairwise_cons]
            exact ⟨fun b hb => (List.mem_cons.1 hb).elim (fun e => e ▸ hk1) fun hb => ltS_tr _ _ _ hk1 (hxs.1 b hb), hxs⟩
          · simp only [List.singleton_append, List.mem_cons] at hb
            rcases hb with rfl | rfl | hb
            · exact h3'.2 a ha
            · exact ho.2.2 a ha b (by simp)
            · exact ho.2.2 a ha b (by simp [hb])
        · rcases h4 y hy with h | h
          · exact .inl h
          · right; simp at h ⊢; exact h.imp id .inr
        · simp at hy
          rcases hy with hy | hy | hy | hy
          · exact h5 y (by simp [hy])
          · exact .inl hy
          · exact h5 y (by simp [hy])
          · exact h5 y (by simp [hy])
      · rename_i hk
        refine putGo_spec (by simpa using h1) (fun h => by simp [h2 h]) (fun h => ?_) (fun y hy => by simpa using h4 y hy) (fun y hy => h5 y (by simpa using hy)) h6 (fun h => h7 (by simp [h]))
        subst h
        have h3' := h3 rfl
        refine ⟨by simp [h3'.1]; exact fun e => hne e.symm, fun y hy => ?_⟩
        rcases List.mem_append.1 hy with hy | hy
        · exact h3'.2 y hy
        · rw [List.mem_singleton] at hy
          subst hy
          rcases ltS_tri y v with h | h | h
          · exact h
          · exact absurd h hne
          · exact absurd ⟨h, rfl⟩ hk
theorem put5_spec {v : List UInt8} {l : List (List UInt8)} (h : l.Pairwise (· < ·)) : (put5 v l).Pairwise (· < ·) ∧ ∀ x, x ∈ put5 v l ↔ x = v ∨ x ∈ l :=
  putGo_spec (by simpa using h) (fun h => by cases h) (fun _ => by simp) (fun x hx => by simp [hx]) (fun x hx => .inr (by simpa using hx)) h (fun h => h)
theorem foldPut_spec {p : List UInt8 → Bool} : ∀ {ns o : List (List UInt8)}, o.Pairwise (· < ·) → (ns.foldl (fun o n => if p n then put5 n o else o) o).Pairwise (· < ·) ∧ ∀ x, x ∈ ns.foldl (fun o n => if p n then put5 n o else o) o ↔ x ∈ o ∨ (x ∈ ns ∧ p x = true)
  | [], o, h => ⟨h, by simp⟩
  | n :: ns, o, h => by
    rw [List.foldl_cons]
    cases hp : p n with
    | false =>
      obtain ⟨h1, h2⟩ := foldPut_spec (p := p) (ns := ns) h
      refine ⟨h1, fun x => (h2 x).trans ⟨fun h => h.imp id fun h => ⟨by simp [h.1], h.2⟩, fun h => h.imp id fun h => ⟨?_, h.2⟩⟩⟩
      rcases List.mem_cons.1 h.1 with rfl | h1
      · rw [hp] at h; cases h.2
      · exact h1
    | true =>
      obtain ⟨g1, g2⟩ := put5_spec (v := n) h
      obtain ⟨h1, h2⟩ := foldPut_spec (p := p) (ns := ns) g1
      refine ⟨h1, fun x => (h2 x).trans ⟨fun h => ?_, fun h => ?_⟩⟩
      · rcases h with h | h
        · rcases (g2 x).1 h with rfl | h
          · exact .inr ⟨by simp, hp⟩
          · exact .inl h
        · exact .inr ⟨by simp [h.1], h.2⟩
      · rcases h with h | h
        · exact .inl ((g2 x).2 (.inr h))
        · rcases List.mem_cons.1 h.1 with rfl | h1
          · exact .inl ((g2 x).2 (.inl rfl))
          · exact .inr ⟨h1, h.2⟩
theorem nmF_none {c : List Pck} {n : List UInt8} : ∀ {s : List Int}, (∀ k ∈ s, (pk c k).n ≠ n) → nmF c n s = -1
  | [], _ => rfl
  | k :: s, h => by rw [nmF, if_neg (by simpa using h k (by simp))]; exact nmF_none fun k hk => h k (by simp [hk])
/-- Both sides tell the same names. -/
theorem ch_eq {c : List Pck} {f t : List Int} (hf : ∀ k ∈ f, inB k 0 ((c.length : Int) - 1) = true) (ht : ∀ k ∈ t, inB k 0 ((c.length : Int) - 1) = true) : compS (sortS (chI c f t)) = chS c f t := by
  obtain ⟨h1, h2⟩ := sortS_spec (chI c f t)
  obtain ⟨h3, h4⟩ := foldPut_spec (p := chB c f t) (ns := c.map Pck.n) (o := []) (by simp)
  refine strict_ext ltS_irr ltS_tr h1 h3 fun x => (h2 x).trans ((h4 x).trans ?_).symm
  unfold chI
  rw [List.mem_filter]
  simp only [List.not_mem_nil, false_or]
  refine and_congr_left fun hp => ?_
  constructor
  · intro hx
    refine Decidable.byContradiction fun hno => ?_
    have hno : ∀ k ∈ f ++ t, (pk c k).n ≠ x := fun k hk e => hno (List.mem_map.2 ⟨k, hk, e⟩)
    unfold chB at hp
    rw [nmF_none fun k hk => hno k (by simp [hk]), nmF_none fun k hk => hno k (by simp [hk])] at hp
    simp at hp
  · intro hx
    obtain ⟨k, hk, rfl⟩ := List.mem_map.1 hx
    have := (pk_at ((List.mem_append.1 hk).elim (hf k) (ht k))).2.2.2
    exact List.mem_map.2 ⟨_, this, rfl⟩
theorem ch_strict {c : List Pck} {f t : List Int} : (chS c f t).Pairwise (· < ·) := (foldPut_spec (p := chB c f t) (ns := c.map Pck.n) (o := []) (by simp)).1
theorem ch_len {c : List Pck} {f t : List Int} : (chS c f t).length ≤ c.length := by
  unfold chS
  have : ∀ (ns o : List (List UInt8)), (ns.foldl (fun o n => if chB c f t n then put5 n o else o) o).length ≤ o.length + ns.length := by
    intro ns
    induction ns with
    | nil => intro o; simp
    | cons n ns ih =>
      intro o
      rw [List.foldl_cons]
      refine Nat.le_trans (ih _) ?_
      have := put5_len n o
      split <;> simp only [List.length_cons] <;> omega
  have := this (c.map Pck.n) []
  simpa using this
end Go.Proofs.YtfmcncflooechaaGreat

/- Walks: a change put to a set. Plain theorems. -/
set_option linter.unusedVariables false
set_option linter.unusedSimpArgs false
namespace Go.Proofs.YtfmcncflooechaaGreat
open Go Go.Fw
set_option maxRecDepth 100000
def newS (c : List Pck) (s : List Int) (x : Chg) : List Int :=
  let a := if x.k = 1 then s else s.filter fun k => !decide (k = nmF c x.n s)
  if x.k = 2 then a else put3 (findF c x.n x.w) a
def newC (c : List Pck) (s : List Int) (x : Chg) : Int :=
  if inB x.k 1 3 = false then 5 else if (x.k ≠ 1 ∧ (nmF c x.n s < 0 ∨ cmpV (pk c (nmF c x.n s)).v x.o ≠ 0)) ∨ (x.k ≠ 2 ∧ findF c x.n x.w < 0) then 4 else if x.k = 1 ∧ 0 ≤ nmF c x.n s then 6 else 0
/-- A set and a code. -/
def setK (k : Int) (s : List Int) : A := .tup [.sl true 1 (s.map i64), i64 k]
theorem fitK0 (k : Int) : FitX (.tup [.nil, i64 k]) (setK k []) := ⟨2, by unfold setK; simp [fitA, fitA.fitL, i64]⟩
theorem fitK1 {k C : Int} {s : List Int} {Z : List A} (hZ : Z = (if C = 0 then s else []).map i64) (hk : k ≠ 0) (h : C = k) : FitX (.tup [.nil, i64 k]) (.tup [.sl true 1 Z, i64 C]) := by
  subst h; rw [hZ, if_neg hk]; exact fitK0 _
theorem nmF_mem {c : List Pck} {n : List UInt8} : ∀ {s : List Int}, 0 ≤ nmF c n s → nmF c n s ∈ s
  | [], h => by rw [nmF] at h; omega
  | k :: s, h => by
    rw [nmF] at h ⊢
    split
    · simp
    · rename_i h0; rw [if_neg h0] at h; exact List.mem_cons_of_mem _ (nmF_mem h)
end Go.Proofs.YtfmcncflooechaaGreat

/- Walks: the program's change of a set. Plain theorems. -/
set_option linter.unusedVariables false
set_option linter.unusedSimpArgs false
namespace Go.Proofs.YtfmcncflooechaaGreat
open Go Go.Fw
set_option maxRecDepth 100000
theorem perm_sorted : ∀ {a b : List Int}, a.Perm b → a.Pairwise (· ≤ ·) → b.Pairwise (· ≤ ·) → a = b
  | [], b, h, _, _ => h.nil_eq
  | x :: a, [], h, _, _ => by have := h.length_eq; simp at this
  | x :: a, y :: b, h, ha, hb => by
    rw [List.pairwise_cons] at ha hb
    have hx : x ∈ y :: b := h.subset (by simp)
    have hy : y ∈ x :: a := h.symm.subset (by simp)
    have e : x = y := by
      rcases List.mem_cons.1 hx with rfl | hx
      · rfl
      · rcases List.mem_cons.1 hy with rfl | hy
        · rfl
        · have := ha.1 y hy; have := hb.1 x hx; omega
    subst e
    rw [perm_sorted h.cons_inv ha.2 hb.2]
theorem put3_perm (v : Int) : ∀ l : List Int, (put3 v l).Perm (v :: l)
  | [] => .refl _
  | x :: l => by
    rw [put3]
    split
    · exact .refl _
    · exact ((put3_perm v l).cons x).trans (.swap _ _ _)
theorem put3_sorted {v : Int} : ∀ {l : List Int}, l.Pairwise (· ≤ ·) → (put3 v l).Pairwise (· ≤ ·)
  | [], _ => by simp [put3]
  | x :: l, h => by
    rw [List.pairwise_cons] at h
    rw [put3]
    split
    · rename_i hv
      rw [List.pairwise_cons, List.pairwise_cons]
      refine ⟨fun y hy => ?_, h⟩
      rcases List.mem_cons.1 hy with rfl | hy
      · omega
      · have := h.1 y hy; omega
    · rename_i hv
      rw [List.pairwise_cons]
      refine ⟨fun y hy => ?_, put3_sorted h.2⟩
      rcases put3_mem hy with rfl | hy
      · omega
      · exact h.1 y hy
theorem sortZ_sorted (l : List Int) : (sortZ l).Pairwise (· ≤ ·) := by
  have := List.pairwise_mergeSort (le := fun x y : Int => decide (x ≤ y)) (by intro a b c; simp; omega) (by intro a b; simp; omega) l
  exact this.imp fun h => by simpa using h
theorem sortZ_self {l : List Int} (h : l.Pairwise (· ≤ ·)) : sortZ l = l := perm_sorted (List.mergeSort_perm _ _) (sortZ_sorted l) h
theorem sortZ_put {l : List Int} (h : l.Pairwise (· ≤ ·)) (v : Int) : sortZ (l ++ [v]) = put3 v l :=
  perm_sorted ((List.mergeSort_perm _ _).trans (List.perm_append_singleton v l |>.trans (put3_perm v l).symm)) (sortZ_sorted _) (put3_sorted h)
theorem c_applied1 (o k : Int) : PCtr PP n_impl_applied_1 [i64 o, .rp [i64 k]] (boo (!decide (o = k))) := by
  obtain ⟨Ω, hΩ⟩ : ∃ Ω, Ω = std := ⟨_, rfl⟩
  obtain ⟨r, hr⟩ : ∃ r, r = !decide (o = k) := ⟨_, rfl⟩
  rw [← hr]
  have htab := tab
  have hmo := hmo
  refine PCtr.walk tab hΩ fn_impl_applied_1 rfl ?_
  generalize PP = P at *
  cbv
  refine .of (congrArg boo ?_)
  subst hΩ; subst hr
  simp [cmpIS, bne]
  rfl
theorem leafA {Ω : Opq} (hΩ : Ω = std) {n : Nat} {ws Z : List A} {C : Int} (h0 : n = 0) (hZ : Z = ws) (hC : C = 0) : (Ob fun _ => n = 0 ∧ Ω.len ws ≤ ws.length) ∧ FitX (.tup [.sl true 1 (Ω.take (Ω.len ws) ws), i64 0]) (.tup [.sl true 1 Z, i64 C]) := by
  subst h0 hZ hC
  exact ⟨⟨rfl, by subst hΩ; exact Nat.le_refl _⟩, .of (congrArg (fun q => A.tup [A.sl true 1 q, i64 0]) (takeAll hΩ _))⟩
theorem leafB {Ω : Opq} {m : Nat} {ws Z : List A} {C : Int} (hl : m ≤ ws.length) (hl2 : Ω.take m ws = ws) (hZ : Z = ws) (hC : C = 0) : (Ob fun _ => 0 = 0 ∧ m ≤ ws.length) ∧ FitX (.tup [.sl true 1 (Ω.take m ws), i64 0]) (.tup [.sl true 1 Z, i64 C]) := by
  subst hZ hC
  exact ⟨⟨rfl, hl⟩, .of (congrArg (fun q => A.tup [A.sl true 1 q, i64 0]) hl2)⟩


set_option maxHeartbeats 1000000 in
theorem c_applied (l : List Pck) (s : List Int) (x : Chg) (hl : l.length ≤ 1048576) (hs : s.length ≤ 1048576) (hk : ∀ k ∈ s, inB k 0 ((l.length : Int) - 1) = true) (hso : s.Pairwise (· ≤ ·)) :
    PCtr PP n_impl_applied [encP l, .sl false 1 (s.map i64), x.enc] (setK (newC l s x) (if newC l s x = 0 then newS l s x else [])) := by
  obtain ⟨Ω, hΩ⟩ : ∃ Ω, Ω = std := ⟨_, rfl⟩
  obtain ⟨K, n, o, w⟩ := x
  obtain ⟨C, hC⟩ : ∃ C, C = newC l s ⟨K, n, o, w⟩ := ⟨_, rfl⟩
  obtain ⟨R, hR⟩ : ∃ R, R = newS l s ⟨K, n, o, w⟩ := ⟨_, rfl⟩
  rw [← hC, ← hR]
  unfold newC at hC
  unfold newS at hR
  dsimp only at hC hR
  have hin := c_within K 1 3
  have hone := c_named l s n hl (by omega) hk
  have hfnd := c_find l n w hl
  have hat : ¬ nmF l n s < 0 → ∃ n' v1 v2 v3 sz ps ds bs, (pk l (nmF l n s)).v = ⟨v1, v2, v3⟩ ∧ (l.map (Pck.enc false))[(nmF l n s).toNat]? = some (.agg [str n', i64 v1, i64 v2, i64 v3, i64 sz, .sl false 1 ps, .sl false 1 ds, .sl false 7 bs]) := fun h => by
    obtain ⟨h0, h1, h2, h3⟩ := pk_at (hk _ (nmF_mem (c := l) (n := n) (s := s) (by omega)))
    obtain ⟨ps, ds, bs, hen, hp, hd, hb⟩ := enc_raw (pk l (nmF l n s))
    exact ⟨_, (pk l (nmF l n s)).v.a, (pk l (nmF l n s)).v.b, (pk l (nmF l n s)).v.c, _, ps, ds, bs, rfl, by rw [List.getElem?_map, h2]; exact congrArg some hen⟩
  obtain ⟨W, hW⟩ : ∃ W, W = s.filter fun k => !decide (k = nmF l n s) := ⟨_, rfl⟩
  have hWl : W.length ≤ s.length := by rw [hW]; exact List.length_filter_le _ _
  have hth := c_those s (by omega) n_impl_applied_1 [.rp [i64 (nmF l n s)]] (fun k => !decide (k = nmF l n s)) ⟨fun _ _ => rfl, rfl, fun _ => rfl, fun o _ => c_applied1 o _⟩
  have hWso : W.Pairwise (· ≤ ·) := by rw [hW]; exact hso.filter _
  have hWs : nmF l n s < 0 → W = s := fun h => by
    rw [hW, List.filter_eq_self]
    intro k hk'
    have := (pk_at (hk k hk')).1
    simp; omega
  have hs1 := c_SortI W (by omega)
  rw [sortZ_self hWso] at hs1
  have hs2 := c_SortI (W ++ [findF l n w]) (by rw [List.length_append, List.length_singleton]; omega)
  rw [sortZ_put hWso, List.map_append] at hs2
  unfold ints at hth
  rw [← hW] at hth hR
  obtain ⟨ws, hws⟩ : ∃ ws, ws = W.map i64 := ⟨_, rfl⟩
  obtain ⟨p2, hp2e⟩ : ∃ p, p = (put3 (findF l n w) W).map i64 := ⟨_, rfl⟩
  have hwl : ws.length = W.length := by rw [hws, List.length_map]
  have hpl : p2.length = ws.length + 1 := by rw [hp2e, List.length_map, put3_len, hwl]
  have rws : roFree (.sl true 1 ws) = true := by rw [hws]; exact roF_I _
  have lws : Ω.len ws = ws.length := by subst hΩ; rfl
  rw [← hws] at hth hs1 hs2
  rw [← hp2e] at hs2
  have eap : ∀ nx : Int, Ω.app (Ω.take (Ω.len ws) ws) [i64 nx] = ws ++ [i64 nx] := fun nx => by rw [takeAll hΩ]; subst hΩ; rfl
  have epl : ∀ nx : Int, Ω.plus (Ω.len ws) (Ω.len [i64 nx]) = (ws ++ [i64 nx]).length := fun nx => by rw [List.length_append]; subst hΩ; rfl
  clear hW
  generalize nmF l n s = nm at *
  generalize findF l n w = nx at *
  rw [show ([nx] : List Int).map i64 = [i64 nx] from rfl, ← eap nx] at hs2
  have hl1 : Ω.plus (Ω.len ws) (Ω.len [i64 nx]) = (Ω.app (Ω.take (Ω.len ws) ws) [i64 nx]).length := by rw [eap, epl]
  have hl2 : p2.length = (Ω.app (Ω.take (Ω.len ws) ws) [i64 nx]).length := by rw [eap, List.length_append, hpl]; rfl
  have hl3 : Ω.plus (Ω.len ws) (Ω.len [i64 nx]) ≤ p2.length := by rw [hl2, hl1]; exact Nat.le_refl _
  have hl4 : Ω.take (Ω.plus (Ω.len ws) (Ω.len [i64 nx])) p2 = p2 := by rw [hl1, ← hl2]; subst hΩ; exact List.take_length
  generalize (pk l nm).v = pv at *
  generalize inB K 1 3 = I at *
  obtain ⟨o1, o2, o3⟩ := o
  obtain ⟨w1, w2, w3⟩ := w
  unfold setK
  obtain ⟨Z, hZ⟩ : ∃ Z, Z = (if C = 0 then R else []).map i64 := ⟨_, rfl⟩
  rw [← hZ]
  unfold encP Chg.enc Chg.cells Ver.enc Ver.cells at *
  generalize l.map (Pck.enc false) = cs at *
  obtain ⟨xs, hxs⟩ : ∃ xs, xs = s.map i64 := ⟨_, rfl⟩
  have htab := tab
  have hmo := hmo
  have hve := verEq
  refine PCtr.walk tab hΩ fn_impl_applied rfl ?_
  generalize PP = P at *
  rw [← hxs] at *
  cbv
  refine call_pure hΩ 3 hin rfl (fits _) rfl rfl ?_
  cbv
  refine br (fun h => ?_) (fun h => ?_) <;> cbv
  · exact fitK1 (k := 5) hZ (by decide) (by rw [hC, if_pos (notT' hΩ h)])
  have hI : ¬ I = false := by rw [notF' hΩ h]; simp
  rw [if_neg hI] at hC
  refine ⟨VC_lord htab hΩ hmo [0, 1, 2, 3, 5, 6, 7, 8, 9] (.two 4 (.two 10 (.step 11 (.step 12 (.step 13 .fin))) 11 (.step 10 (.step 12 (.step 13 .fin)))) 11 (.step 4 (.step 10 (.step 12 (.step 13 .fin))))) [0] [5] (by kernel_rfl) ?_⟩
  cbv
  intro vs
  cbv
  refine ⟨?_, ?_⟩
  · refine call_pure hΩ 3 hone rfl (fits _) rfl rfl ?_
    cbv
    refine ⟨?_, ?_⟩
    · refine call_pure hΩ 3 hfnd rfl (fits _) rfl rfl ?_
      cbv
      refine ⟨VC_drawn htab hΩ hmo (by kernel_rfl) ?_⟩
      cbv
      repeat' (first
        | (refine br (fun hh => ?_) (fun hh => ?_) <;> (repeat' (first | replace hh := iteA hΩ hh | replace hh := iteB hΩ hh)) <;> (first | replace hh := neZt hΩ hh | replace hh := neZf hΩ hh | replace hh := eqZt hΩ hh | replace hh := eqZf hΩ hh | replace hh := ltZt hΩ hh | replace hh := ltZf hΩ hh | replace hh := geZt hΩ hh | replace hh := geZf hΩ hh | replace hh := gtZt hΩ hh | replace hh := gtZf hΩ hh | replace hh := leZt hΩ hh | replace hh := leZf hΩ hh | replace hh := notA hΩ hh | replace hh := notB hΩ hh | skip) <;> (first | (exfalso; (first | omega | (cases hh; done) | (simp_all; done))) | cbv))
        | (obtain ⟨n', v1, v2, v3, sz, ps, ds, bs, hv, hx⟩ := hat (by omega); refine ⟨⟨by omega⟩, _, hx, ?_⟩; cbv; refine eqX_neq hve ⟨v1, v2, v3⟩ ⟨o1, o2, o3⟩ ?_; by_cases hE : (⟨v1, v2, v3⟩ : Ver) = ⟨o1, o2, o3⟩; (rw [decide_eq_true hE]; have hz : cmpV pv ⟨o1, o2, o3⟩ = 0 := by (rw [hv]; exact cmpV_zero.2 hE)); rotate_left; (rw [decide_eq_false hE]; have hz : cmpV pv ⟨o1, o2, o3⟩ ≠ 0 := by (rw [hv]; exact fun e => hE (cmpV_zero.1 e))); all_goals cbv)
        | exact fitK1 (k := 4) hZ (by decide) (by rw [hC, if_pos (by omega)])
        | exact fitK1 (k := 6) hZ (by decide) (by rw [hC, if_neg (by omega), if_pos (by omega)])
        | (refine call_pure hΩ 5 hth (ro_clo2 rfl rfl) (fits _) rws rfl ?_; cbv)
        | (refine call_mut hΩ 3 (l := [(2, ws)] ++ []) hs1 (.cons (mutVw rfl lws rfl) .nil) (by simp) rfl ?_; cbv)
        | (refine call_mut hΩ 3 (l := [(2, p2)] ++ []) hs2 (.cons (mutVw rfl hl1 hl2) .nil) (by simp) rfl ?_; cbv)
        | exact leafA hΩ rfl (show Z = ws by rw [hZ, show C = 0 by rw [hC, if_neg (by omega), if_neg (by omega)], if_pos rfl, hR, hws, if_pos (by omega), if_neg (by omega)]) (show C = 0 by rw [hC, if_neg (by omega), if_neg (by omega)])
        | exact leafB hl3 hl4 (show Z = p2 by (rw [hZ, show C = 0 by rw [hC, if_neg (by omega), if_neg (by omega)], if_pos rfl, hR, hp2e, if_neg (by omega)]; first | rw [if_neg (by omega)] | rw [if_pos (by omega), hWs (by omega)])) (show C = 0 by rw [hC, if_neg (by omega), if_neg (by omega)])
        | (refine ⟨⟨rfl, okAll rfl, by show (Ω.len ws + 1) * 8 ≤ 140737488355328; omega, by show Ω.len ws + 1 ≤ 9223372036854775807; omega⟩, ?_⟩))
    · refine call_pure hΩ 3 hfnd rfl (fits _) rfl rfl ?_
      cbv
      refine ⟨VC_drawn htab hΩ hmo (by kernel_rfl) ?_⟩
      cbv
      repeat' (first
        | (refine br (fun hh => ?_) (fun hh => ?_) <;> (repeat' (first | replace hh := iteA hΩ hh | replace hh := iteB hΩ hh)) <;> (first | replace hh := neZt hΩ hh | replace hh := neZf hΩ hh | replace hh := eqZt hΩ hh | replace hh := eqZf hΩ hh | replace hh := ltZt hΩ hh | replace hh := ltZf hΩ hh | replace hh := geZt hΩ hh | replace hh := geZf hΩ hh | replace hh := gtZt hΩ hh | replace hh := gtZf hΩ hh | replace hh := leZt hΩ hh | replace hh := leZf hΩ hh | replace hh := notA hΩ hh | replace hh := notB hΩ hh | skip) <;> (first | (exfalso; (first | omega | (cases hh; done) | (simp_all; done))) | cbv))
        | (obtain ⟨n', v1, v2, v3, sz, ps, ds, bs, hv, hx⟩ := hat (by omega); refine ⟨⟨by omega⟩, _, hx, ?_⟩; cbv; refine eqX_neq hve ⟨v1, v2, v3⟩ ⟨o1, o2, o3⟩ ?_; by_cases hE : (⟨v1, v2, v3⟩ : Ver) = ⟨o1, o2, o3⟩; (rw [decide_eq_true hE]; have hz : cmpV pv ⟨o1, o2, o3⟩ = 0 := by (rw [hv]; exact cmpV_zero.2 hE)); rotate_left; (rw [decide_eq_false hE]; have hz : cmpV pv ⟨o1, o2, o3⟩ ≠ 0 := by (rw [hv]; exact fun e => hE (cmpV_zero.1 e))); all_goals cbv)
        | exact fitK1 (k := 4) hZ (by decide) (by rw [hC, if_pos (by omega)])
        | exact fitK1 (k := 6) hZ (by decide) (by rw [hC, if_neg (by omega), if_pos (by omega)])
        | (refine call_pure hΩ 5 hth (ro_clo2 rfl rfl) (fits _) rws rfl ?_; cbv)
        | (refine call_mut hΩ 3 (l := [(2, ws)] ++ []) hs1 (.cons (mutVw rfl lws rfl) .nil) (by simp) rfl ?_; cbv)
        | (refine call_mut hΩ 3 (l := [(2, p2)] ++ []) hs2 (.cons (mutVw rfl hl1 hl2) .nil) (by simp) rfl ?_; cbv)
        | exact leafA hΩ rfl (show Z = ws by rw [hZ, show C = 0 by rw [hC, if_neg (by omega), if_neg (by omega)], if_pos rfl, hR, hws, if_pos (by omega), if_neg (by omega)]) (show C = 0 by rw [hC, if_neg (by omega), if_neg (by omega)])
        | exact leafB hl3 hl4 (show Z = p2 by (rw [hZ, show C = 0 by rw [hC, if_neg (by omega), if_neg (by omega)], if_pos rfl, hR, hp2e, if_neg (by omega)]; first | rw [if_neg (by omega)] | rw [if_pos (by omega), hWs (by omega)])) (show C = 0 by rw [hC, if_neg (by omega), if_neg (by omega)])
        | (refine ⟨⟨rfl, okAll rfl, by show (Ω.len ws + 1) * 8 ≤ 140737488355328; omega, by show Ω.len ws + 1 ≤ 9223372036854775807; omega⟩, ?_⟩))
  · refine call_pure hΩ 3 hone rfl (fits _) rfl rfl ?_
    cbv
    refine call_pure hΩ 3 hfnd rfl (fits _) rfl rfl ?_
    cbv
    refine ⟨VC_drawn htab hΩ hmo (by kernel_rfl) ?_⟩
    cbv
    repeat' (first
      | (refine br (fun hh => ?_) (fun hh => ?_) <;> (repeat' (first | replace hh := iteA hΩ hh | replace hh := iteB hΩ hh)) <;> (first | replace hh := neZt hΩ hh | replace hh := neZf hΩ hh | replace hh := eqZt hΩ hh | replace hh := eqZf hΩ hh | replace hh := ltZt hΩ hh | replace hh := ltZf hΩ hh | replace hh := geZt hΩ hh | replace hh := geZf hΩ hh | replace hh := gtZt hΩ hh | replace hh := gtZf hΩ hh | replace hh := leZt hΩ hh | replace hh := leZf hΩ hh | replace hh := notA hΩ hh | replace hh := notB hΩ hh | skip) <;> (first | (exfalso; (first | omega | (cases hh; done) | (simp_all; done))) | cbv))
      | (obtain ⟨n', v1, v2, v3, sz, ps, ds, bs, hv, hx⟩ := hat (by omega); refine ⟨⟨by omega⟩, _, hx, ?_⟩; cbv; refine eqX_neq hve ⟨v1, v2, v3⟩ ⟨o1, o2, o3⟩ ?_; by_cases hE : (⟨v1, v2, v3⟩ : Ver) = ⟨o1, o2, o3⟩; (rw [decide_eq_true hE]; have hz : cmpV pv ⟨o1, o2, o3⟩ = 0 := by (rw [hv]; exact cmpV_zero.2 hE)); rotate_left; (rw [decide_eq_false hE]; have hz : cmpV pv ⟨o1, o2, o3⟩ ≠ 0 := by (rw [hv]; exact fun e => hE (cmpV_zero.1 e))); all_goals cbv)
      | exact fitK1 (k := 4) hZ (by decide) (by rw [hC, if_pos (by omega)])
      | exact fitK1 (k := 6) hZ (by decide) (by rw [hC, if_neg (by omega), if_pos (by omega)])
      | (refine call_pure hΩ 5 hth (ro_clo2 rfl rfl) (fits _) rws rfl ?_; cbv)
      | (refine call_mut hΩ 3 (l := [(2, ws)] ++ []) hs1 (.cons (mutVw rfl lws rfl) .nil) (by simp) rfl ?_; cbv)
      | (refine call_mut hΩ 3 (l := [(2, p2)] ++ []) hs2 (.cons (mutVw rfl hl1 hl2) .nil) (by simp) rfl ?_; cbv)
      | exact leafA hΩ rfl (show Z = ws by rw [hZ, show C = 0 by rw [hC, if_neg (by omega), if_neg (by omega)], if_pos rfl, hR, hws, if_pos (by omega), if_neg (by omega)]) (show C = 0 by rw [hC, if_neg (by omega), if_neg (by omega)])
      | exact leafB hl3 hl4 (show Z = p2 by (rw [hZ, show C = 0 by rw [hC, if_neg (by omega), if_neg (by omega)], if_pos rfl, hR, hp2e, if_neg (by omega)]; first | rw [if_neg (by omega)] | rw [if_pos (by omega), hWs (by omega)])) (show C = 0 by rw [hC, if_neg (by omega), if_neg (by omega)])
      | (refine ⟨⟨rfl, okAll rfl, by show (Ω.len ws + 1) * 8 ≤ 140737488355328; omega, by show Ω.len ws + 1 ≤ 9223372036854775807; omega⟩, ?_⟩))
end Go.Proofs.YtfmcncflooechaaGreat

/- Walks: what can be spared. Plain theorems. -/
set_option linter.unusedVariables false
set_option linter.unusedSimpArgs false
namespace Go.Proofs.YtfmcncflooechaaGreat
open Go Go.Fw
set_option maxRecDepth 100000
theorem rise_adj {s : List Int} : ∀ (n i : Nat), s.length - i = n → riseAll s i (s.drop i) = true → ∀ j x y, i ≤ j → 1 ≤ j → s[j - 1]? = some x → s[j]? = some y → x < y
  | 0, i, hn, _, j, x, y, hij, _, _, hy => by
    have := (List.getElem?_eq_some_iff.1 hy).1
    omega
  | n + 1, i, hn, h, j, x, y, hij, h1, hx, hy => by
    have hi : i < s.length := by omega
    rw [riseAll_at (List.getElem?_eq_getElem hi), Bool.and_eq_true] at h
    by_cases hji : j = i
    · subst hji
      have h2 := h.1
      rw [Bool.or_eq_true] at h2
      rcases h2 with h2 | h2
      · have : j = 0 := by simpa using h2
        omega
      · have h3 := of_decide_eq_true h2
        rw [List.getD_eq_getElem?_getD, hx] at h3
        rw [List.getElem?_eq_getElem hi] at hy
        cases hy
        exact h3
    · exact rise_adj n (i + 1) (by omega) h.2 j x y (by omega) h1 hx hy
theorem setF_rise {c : List Pck} {s : List Int} (h : setF c s = 0) : riseAll s 0 (s.drop 0) = true := by
  unfold setF at h
  split at h
  · rename_i h0; exact absurd h h0
  · split at h
    · rename_i h1
      rw [setOk_eq, Bool.and_eq_true] at h1
      exact h1.1
    · simp at h
theorem setF_lt {c : List Pck} {s : List Int} (h : setF c s = 0) : ∀ (d i : Nat) (x y : Int), s[i]? = some x → s[i + d + 1]? = some y → x < y
  | 0, i, x, y, hx, hy => rise_adj _ 0 rfl (setF_rise h) (i + 1) x y (by omega) (by omega) hx hy
  | d + 1, i, x, y, hx, hy => by
    have hlt := (List.getElem?_eq_some_iff.1 hy).1
    obtain ⟨z, hz⟩ : ∃ z, s[i + d + 1]? = some z := ⟨_, List.getElem?_eq_getElem (by omega)⟩
    have h1 := setF_lt h d i x z hx hz
    have h2 := rise_adj _ 0 rfl (setF_rise h) (i + (d + 1) + 1) z y (by omega) (by omega) hz hy
    omega
end Go.Proofs.YtfmcncflooechaaGreat

/- Walks: do all of a set's asks hold? Plain theorems. -/
set_option linter.unusedVariables false
set_option linter.unusedSimpArgs false
namespace Go.Proofs.YtfmcncflooechaaGreat
open Go Go.Fw
set_option maxRecDepth 100000
theorem setF_pw {c : List Pck} {s : List Int} (h : setF c s = 0) : s.Pairwise (· < ·) := by
  rw [List.pairwise_iff_getElem]
  intro i j hi hj hij
  exact setF_lt h (j - i - 1) i _ _ (List.getElem?_eq_getElem hi) (by rw [show i + (j - i - 1) + 1 = j by omega]; exact List.getElem?_eq_getElem hj)
end Go.Proofs.YtfmcncflooechaaGreat

/- What a change of a set keeps. Plain theorems, no program. -/
set_option linter.unusedVariables false
set_option linter.unusedSimpArgs false
namespace Go.Proofs.YtfmcncflooechaaGreat
open Go Go.Fw
theorem idxFrom_spec {α : Type} {p : α → Bool} : ∀ {l : List α} {i : Nat}, 0 ≤ idxFrom p i l → ∃ j o, l[j]? = some o ∧ p o = true ∧ idxFrom p i l = ((i + j : Nat) : Int)
  | [], i, h => by rw [idxFrom] at h; omega
  | x :: l, i, h => by
    rw [idxFrom] at h ⊢
    split
    · rename_i hp; exact ⟨0, x, rfl, hp, by simp⟩
    · rename_i hp
      rw [if_neg hp] at h
      obtain ⟨j, o, h1, h2, h3⟩ := idxFrom_spec h
      exact ⟨j + 1, o, by simpa using h1, h2, by rw [h3]; congr 1; omega⟩
theorem findF_spec {c : List Pck} {n : List UInt8} {v : Ver} (h : 0 ≤ findF c n v) : inB (findF c n v) 0 ((c.length : Int) - 1) = true ∧ (pk c (findF c n v)).n = n ∧ (pk c (findF c n v)).v = v := by
  obtain ⟨j, o, h1, h2, h3⟩ := idxFrom_spec h
  have hj := (List.getElem?_eq_some_iff.1 h1).1
  have e : findF c n v = (j : Int) := by unfold findF idx; rw [h3]; simp
  rw [e]
  have e2 : pk c (j : Int) = o := by
    unfold pk
    rw [List.getD_eq_getElem?_getD, Int.toNat_natCast, h1]; rfl
  rw [e2]
  unfold isP at h2
  simp only [Bool.and_eq_true, beq_iff_eq, decide_eq_true_eq] at h2
  refine ⟨?_, h2.1, h2.2⟩
  simp only [inB, Bool.and_eq_true, decide_eq_true_eq]; omega
/-- A set that is in order, of places, each name once. -/
structure Good (c : List Pck) (s : List Int) : Prop where
  lt : s.Pairwise (· < ·)
  at_ : ∀ k ∈ s, inB k 0 ((c.length : Int) - 1) = true
  nm : s.Pairwise fun a b => (pk c a).n ≠ (pk c b).n
theorem Good.le {c : List Pck} {s : List Int} (h : Good c s) : s.Pairwise (· ≤ ·) := h.lt.imp fun h => by omega
theorem len_bound {L : Int} : ∀ {s : List Int} {lo : Int}, s.Pairwise (· < ·) → (∀ k ∈ s, lo ≤ k ∧ k < L) → (s.length : Int) ≤ max 0 (L - lo)
  | [], lo, _, _ => by simp; omega
  | x :: s, lo, h, hk => by
    rw [List.pairwise_cons] at h
    have h1 := len_bound (lo := x + 1) h.2 fun k hk' => ⟨by have := h.1 k hk'; omega, (hk k (by simp [hk'])).2⟩
    have h2 := hk x (by simp)
    rw [List.length_cons]; omega
theorem Good.len {c : List Pck} {s : List Int} (h : Good c s) : s.length ≤ c.length := by
  have := len_bound (L := (c.length : Int)) (lo := 0) h.lt fun k hk => by
    have := h.at_ k hk
    simp only [inB, Bool.and_eq_true, decide_eq_true_eq] at this; omega
  omega
theorem nmF_no {c : List Pck} {n : List UInt8} : ∀ {s : List Int}, (∀ k ∈ s, 0 ≤ k) → nmF c n s < 0 → ∀ k ∈ s, (pk c k).n ≠ n
  | [], _, _, k, hk => by cases hk
  | x :: s, h0, h, k, hk => by
    rw [nmF] at h
    split at h
    · have := h0 x (by simp); omega
    · rename_i hx
      rcases List.mem_cons.1 hk with rfl | hk
      · intro e; exact hx (by simp [e])
      · exact nmF_no (fun k hk => h0 k (by simp [hk])) h k hk
theorem nmF_name {c : List Pck} {n : List UInt8} : ∀ {s : List Int}, 0 ≤ nmF c n s → (pk c (nmF c n s)).n = n
  | [], h => by rw [nmF] at h; omega
  | x :: s, h => by
    rw [nmF] at h ⊢
    split
    · rename_i hx; simpa using hx
    · rename_i hx; rw [if_neg hx] at h; exact nmF_name h
theorem put3_strict {v : Int} : ∀ {l : List Int}, l.Pairwise (· < ·) → v ∉ l → (put3 v l).Pairwise (· < ·)
  | [], _, _ => by simp [put3]
  | x :: l, h, hv => by
    rw [List.pairwise_cons] at h
    rw [put3]
    split
    · rename_i hlt
      rw [List.pairwise_cons, List.pairwise_cons]
      refine ⟨fun y hy => ?_, h⟩
      rcases List.mem_cons.1 hy with rfl | hy
      · exact hlt
      · have := h.1 y hy; omega
    · rename_i hlt
      rw [List.pairwise_cons]
      have hne : v ≠ x := fun e => hv (by simp [e])
      refine ⟨fun y hy => ?_, put3_strict h.2 fun hm => hv (by simp [hm])⟩
      rcases put3_mem hy with rfl | hy
      · omega
      · exact h.1 y hy
theorem pairwise_name {c : List Pck} : ∀ {s : List Int}, (s.Pairwise fun a b => (pk c a).n ≠ (pk c b).n) → ∀ {a b : Int}, a ∈ s → b ∈ s → a ≠ b → (pk c a).n ≠ (pk c b).n
  | [], _, _, _, ha, _, _ => by cases ha
  | x :: s, h, a, b, ha, hb, hne => by
    rw [List.pairwise_cons] at h
    rcases List.mem_cons.1 ha with rfl | ha'
    · rcases List.mem_cons.1 hb with rfl | hb'
      · exact absurd rfl hne
      · exact h.1 b hb'
    · rcases List.mem_cons.1 hb with rfl | hb'
      · exact (h.1 a ha').symm
      · exact pairwise_name h.2 ha' hb' hne
theorem Good.filter {c : List Pck} {s : List Int} (h : Good c s) (p : Int → Bool) : Good c (s.filter p) := ⟨h.lt.filter _, fun k hk => h.at_ k (List.mem_filter.1 hk).1, h.nm.filter _⟩
theorem Good.put {c : List Pck} {s : List Int} (h : Good c s) {v : Int} (hv : inB v 0 ((c.length : Int) - 1) = true) (hn : ∀ k ∈ s, (pk c k).n ≠ (pk c v).n) : Good c (put3 v s) := by
  have hnot : v ∉ s := fun hm => hn v hm rfl
  refine ⟨put3_strict h.lt hnot, fun k hk => ?_, ?_⟩
  · rcases put3_mem hk with rfl | hk
    · exact hv
    · exact h.at_ k hk
  · refine (put3_perm v s).symm.pairwise ?_ fun hab => Ne.symm hab
    rw [List.pairwise_cons]
    exact ⟨fun k hk => (hn k hk).symm, h.nm⟩
theorem newC_zero {c : List Pck} {s : List Int} {x : Chg} (h : newC c s x = 0) : inB x.k 1 3 = true ∧ (x.k = 1 ∨ (0 ≤ nmF c x.n s ∧ (pk c (nmF c x.n s)).v = x.o)) ∧ (x.k = 2 ∨ 0 ≤ findF c x.n x.w) ∧ (x.k = 1 → nmF c x.n s < 0) := by
  unfold newC at h
  split at h
  · cases h
  · rename_i h1
    split at h
    · cases h
    · rename_i h2
      split at h
      · cases h
      · rename_i h3
        refine ⟨by simpa using h1, ?_, by omega, by omega⟩
        by_cases hk : x.k = 1
        · exact .inl hk
        · refine .inr ⟨by omega, cmpV_zero.1 (by omega)⟩
theorem Good.new {c : List Pck} {s : List Int} {x : Chg} (hg : Good c s) (h : newC c s x = 0) : Good c (newS c s x) := by
  obtain ⟨h1, h2, h3, h4⟩ := newC_zero h
  have h0 : ∀ k ∈ s, 0 ≤ k := fun k hk => (pk_at (hg.at_ k hk)).1
  obtain ⟨a, ha⟩ : ∃ a, a = if x.k = 1 then s else s.filter fun k => !decide (k = nmF c x.n s) := ⟨_, rfl⟩
  have hga : Good c a := by rw [ha]; split <;> first | exact hg | exact hg.filter _
  have hna : ∀ k ∈ a, (pk c k).n ≠ x.n := by
    rw [ha]
    split
    · rename_i hk; exact nmF_no h0 (h4 hk)
    · rename_i hk
      intro k hk'
      obtain ⟨m1, m2⟩ := List.mem_filter.1 hk'
      have hnn := (h2.resolve_left hk).1
      have := pairwise_name hg.nm m1 (nmF_mem hnn) (by simpa using m2)
      rwa [nmF_name hnn] at this
  unfold newS
  dsimp only
  rw [← ha]
  split
  · exact hga
  · rename_i hk
    obtain ⟨f1, f2, f3⟩ := findF_spec (h3.resolve_left hk)
    exact hga.put f1 fun k hk => by rw [f2]; exact hna k hk
theorem twice_false {c : List Pck} {s : List Int} : ∀ (n i : Nat), s.length - i = n → twice c s i (s.drop i) = false → ∀ j k, i ≤ j → s[j]? = some k → twB c s j (pk c k).n = false
  | 0, i, hn, _, j, k, hij, hk => by have := (List.getElem?_eq_some_iff.1 hk).1; omega
  | n + 1, i, hn, h, j, k, hij, hk => by
    have hi : i < s.length := by omega
    rw [twice_at (List.getElem?_eq_getElem hi), Bool.or_eq_false_iff] at h
    by_cases e : j = i
    · subst e
      rw [List.getElem?_eq_getElem hi] at hk
      obtain rfl := Option.some.inj hk
      exact h.1
    · exact twice_false n (i + 1) (by omega) h.2 j k (by omega) hk
theorem twice_true {c : List Pck} {s : List Int} : ∀ (n i : Nat), s.length - i = n → (∀ j k, i ≤ j → s[j]? = some k → twB c s j (pk c k).n = false) → twice c s i (s.drop i) = false
  | 0, i, hn, _ => by rw [List.drop_of_length_le (by omega)]; rfl
  | n + 1, i, hn, h => by
    have hi : i < s.length := by omega
    rw [twice_at (List.getElem?_eq_getElem hi), Bool.or_eq_false_iff]
    exact ⟨h i _ (Nat.le_refl _) (List.getElem?_eq_getElem hi), twice_true n (i + 1) (by omega) fun j k hj => h j k (by omega)⟩
theorem twice_names {c : List Pck} {s : List Int} : twice c s 0 s = false ↔ s.Pairwise fun a b => (pk c a).n ≠ (pk c b).n := by
  have e : twice c s 0 s = twice c s 0 (s.drop 0) := by rw [List.drop_zero]
  rw [e]
  constructor
  · intro h
    rw [List.pairwise_iff_getElem]
    intro i j hi hj hij e
    have := twice_false _ 0 rfl h j _ (Nat.zero_le _) (List.getElem?_eq_getElem hj)
    unfold twB at this
    rw [List.any_eq_false] at this
    refine this s[i] ?_ (by simp [e])
    rw [List.mem_iff_getElem]
    exact ⟨i, by simp; omega, by rw [List.getElem_take]⟩
  · intro h
    refine twice_true _ 0 rfl fun j k _ hk => ?_
    unfold twB
    rw [List.any_eq_false]
    intro o ho he
    obtain ⟨i, hi, rfl⟩ := List.mem_iff_getElem.1 ho
    obtain ⟨hj, rfl⟩ := List.getElem?_eq_some_iff.1 hk
    rw [List.getElem_take] at he
    have hij : i < j := by simp at hi; omega
    exact List.pairwise_iff_getElem.1 h i j (by omega) hj hij (by simpa using he)
theorem apart_all {c : List Pck} {s : List Int} : ∀ {l : List Int}, apart c s l = true ↔ ∀ k ∈ l, nmF c (pk c k).n s = k
  | [] => by simp [apart]
  | x :: l => by rw [apart, Bool.and_eq_true, decide_eq_true_eq, apart_all]; simp
theorem nmF_self {c : List Pck} : ∀ {s : List Int}, (s.Pairwise fun a b => (pk c a).n ≠ (pk c b).n) → ∀ k ∈ s, nmF c (pk c k).n s = k
  | [], _, k, hk => by cases hk
  | x :: s, h, k, hk => by
    rw [List.pairwise_cons] at h
    rw [nmF]
    rcases List.mem_cons.1 hk with rfl | hk
    · simp
    · rw [if_neg (by simpa using h.1 k hk)]; exact nmF_self h.2 k hk
theorem apart_twice {c : List Pck} {s : List Int} (h : s.Pairwise (· < ·)) : apart c s s = !twice c s 0 s := by
  cases ht : twice c s 0 s with
  | false => rw [Bool.not_false, apart_all]; exact nmF_self (twice_names.1 ht)
  | true =>
    rw [Bool.not_true, ← Bool.not_eq_true]
    intro ha
    rw [apart_all] at ha
    have : twice c s 0 s = false := by
      rw [twice_names]
      refine h.imp_of_mem fun {a b} hma hmb hab e => ?_
      have h1 := ha a hma
      have h2 := ha b hmb
      rw [e, h2] at h1
      omega
    rw [this] at ht; cases ht
/-- Changes, one behind another. -/
def runC (c : List Pck) : List Int → List Chg → Int × List Int
  | s, [] => (0, s)
  | s, x :: xs => if newC c s x = 0 then runC c (newS c s x) xs else (newC c s x, [])
def appC (c : List Pck) (s : List Int) (g : List Chg) : Int := if setF c s ≠ 0 then setF c s else if twice c s 0 s then 6 else (runC c s g).1
def appS (c : List Pck) (s : List Int) (g : List Chg) : List Int := if appC c s g = 0 then (runC c s g).2 else []
theorem runC_at {c : List Pck} {s : List Int} {g : List Chg} {i : Nat} {x : Chg} (h : g[i]? = some x) : runC c s (g.drop i) = if newC c s x = 0 then runC c (newS c s x) (g.drop (i + 1)) else (newC c s x, []) := by
  obtain ⟨h1, h2⟩ := List.getElem?_eq_some_iff.1 h
  rw [List.drop_eq_getElem_cons h1, h2, runC]
theorem good_of {c : List Pck} {s : List Int} (h : setF c s = 0) (ht : twice c s 0 s = false) : Good c s := ⟨setF_pw h, setF_in h, twice_names.1 ht⟩
end Go.Proofs.YtfmcncflooechaaGreat

/- Walks: what is asked of two sets; the changes between them, on both sides. Plain theorems. -/
set_option linter.unusedVariables false
set_option linter.unusedSimpArgs false
namespace Go.Proofs.YtfmcncflooechaaGreat
open Go Go.Fw
set_option maxRecDepth 100000
theorem nmF_ge {c : List Pck} {n : List UInt8} : ∀ {s : List Int}, (∀ k ∈ s, inB k 0 ((c.length : Int) - 1) = true) → -1 ≤ nmF c n s
  | [], _ => by rw [nmF]; omega
  | k :: s, h => by
    rw [nmF]
    split
    · have := (pk_at (h k (by simp))).1; omega
    · exact nmF_ge fun k hk => h k (by simp [hk])
def dltC (c : List Pck) (f t : List Int) : Int := if setF c f ≠ 0 then setF c f else if setF c t ≠ 0 then setF c t else if twice c f 0 f = true ∨ twice c t 0 t = true then 6 else 0
theorem c_deltaCode (l : List Pck) (f t : List Int) (hl : l.length ≤ 1048576) (ho : ∀ o ∈ l, o.Small) (hf : f.length ≤ 1048576) (ht : t.length ≤ 1048576) : PCtr PP n_impl_deltaCode [encP l, .sl false 1 (f.map i64), .sl false 1 (t.map i64)] (i64 (dltC l f t)) := by
  obtain ⟨Ω, hΩ⟩ : ∃ Ω, Ω = std := ⟨_, rfl⟩
  have h1 := c_implSetFault l f hl ho hf
  have h2 := c_implSetFault l t hl ho ht
  have h3 : setF l f = 0 → PCtr PP n_impl_isTwice [encP l, .sl false 1 (f.map i64)] (boo (twice l f 0 f)) := fun h => c_isTwice l f hl hf (setF_in h)
  have h4 : setF l t = 0 → PCtr PP n_impl_isTwice [encP l, .sl false 1 (t.map i64)] (boo (twice l t 0 t)) := fun h => c_isTwice l t hl ht (setF_in h)
  obtain ⟨r, hr⟩ : ∃ r, r = dltC l f t := ⟨_, rfl⟩
  rw [← hr]
  unfold dltC at hr
  obtain ⟨a, ha⟩ : ∃ x, setF l f = x := ⟨_, rfl⟩
  obtain ⟨b, hb⟩ : ∃ x, setF l t = x := ⟨_, rfl⟩
  rw [ha] at h1 h3 hr
  rw [hb] at h2 h4 hr
  have h5 := c_firstCode [a, b] (by simp)
  obtain ⟨k, hk⟩ : ∃ x, orF [a, b] = x := ⟨_, rfl⟩
  have hk' : k = if a ≠ 0 then a else b := by rw [← hk]; by_cases h : a = 0 <;> by_cases h' : b = 0 <;> simp [orF, h, h']
  rw [hk] at h5
  have hro : ∀ {S : State}, Fw.rowAt S.rows 0 = some ⟨1, [i64 a, i64 b], false⟩ → roO S 3 (.vw 0 0 2) = some (.sl false 1 [i64 a, i64 b]) := fun h => ro_vw h rfl rfl
  generalize twice l f 0 f = p at *
  generalize twice l t 0 t = q at *
  unfold encP at *
  generalize l.map (Pck.enc false) = xs at *
  generalize f.map i64 = fa at *
  generalize t.map i64 = ta at *
  clear ha hb hk
  have htab := tab
  refine PCtr.walk tab hΩ fn_impl_deltaCode rfl ?_
  generalize PP = P at *
  cbv
  refine call_pure hΩ 3 h1 rfl (fits _) rfl rfl ?_
  cbv
  refine call_pure hΩ 3 h2 rfl (fits _) rfl rfl ?_
  cbv
  refine call_pure hΩ 3 h5 (mapO1 (hro rfl)) (fits _) rfl rfl ?_
  cbv
  have hk0 : k = 0 → a = 0 ∧ b = 0 := fun h => by rw [hk'] at h; split at h <;> omega
  repeat' (first | (refine br (fun hh => ?_) (fun hh => ?_) <;> (repeat' (first | replace hh := iteA hΩ hh | replace hh := iteB hΩ hh)) <;> (first | replace hh := neZt hΩ hh | replace hh := neZf hΩ hh | replace hh := eqZt hΩ hh | replace hh := eqZf hΩ hh | replace hh := ltZt hΩ hh | replace hh := ltZf hΩ hh | replace hh := geZt hΩ hh | replace hh := geZf hΩ hh | replace hh := gtZt hΩ hh | replace hh := gtZf hΩ hh | replace hh := leZt hΩ hh | replace hh := leZf hΩ hh | replace hh := notA hΩ hh | replace hh := notB hΩ hh | skip) <;> (first | (exfalso; (first | omega | (cases hh; done) | (simp_all; done))) | cbv)) | (refine call_pure hΩ 3 (h3 (hk0 (by omega)).1) rfl (fits _) rfl rfl ?_; cbv) | (refine call_pure hΩ 3 (h4 (hk0 (by omega)).2) rfl (fits _) rfl rfl ?_; cbv))
  all_goals (refine .of (congrArg i64 ?_); clear h1 h2 h3 h4 h5 htab hro; subst hΩ; subst hr; simp_all [std, cmpIS])
  all_goals omega
theorem c_l5Asked (l : List Pck) (f t : List Int) (hl : l.length ≤ 1048576) (ho : ∀ o ∈ l, o.Small) (hf : f.length ≤ 1048576) (ht : t.length ≤ 1048576) : PCtr PP n_spec_l5Asked [encP l, .sl false 1 (f.map i64), .sl false 1 (t.map i64)] (i64 (dltC l f t)) := by
  obtain ⟨Ω, hΩ⟩ : ∃ Ω, Ω = std := ⟨_, rfl⟩
  have h1 := c_specSetFault l f hl ho hf
  have h2 := c_specSetFault l t hl ho ht
  have h3 : setF l f = 0 → PCtr PP n_spec_l5Apart [encP l, .sl false 1 (f.map i64)] (boo (!twice l f 0 f)) := fun h => by
    have := c_l5Apart l f hl hf (setF_in h); rwa [apart_twice (setF_pw h)] at this
  have h4 : setF l t = 0 → PCtr PP n_spec_l5Apart [encP l, .sl false 1 (t.map i64)] (boo (!twice l t 0 t)) := fun h => by
    have := c_l5Apart l t hl ht (setF_in h); rwa [apart_twice (setF_pw h)] at this
  obtain ⟨r, hr⟩ : ∃ r, r = dltC l f t := ⟨_, rfl⟩
  rw [← hr]
  unfold dltC at hr
  generalize setF l f = a at *
  generalize setF l t = b at *
  generalize twice l f 0 f = p at *
  generalize twice l t 0 t = q at *
  obtain ⟨p', hp⟩ : ∃ x, (!p) = x := ⟨_, rfl⟩
  obtain ⟨q', hq⟩ : ∃ x, (!q) = x := ⟨_, rfl⟩
  rw [hp] at h3
  rw [hq] at h4
  unfold encP at *
  generalize l.map (Pck.enc false) = xs at *
  generalize f.map i64 = fa at *
  generalize t.map i64 = ta at *
  have htab := tab
  refine PCtr.walk tab hΩ fn_spec_l5Asked rfl ?_
  generalize PP = P at *
  cbv
  refine call_pure hΩ 3 h1 rfl (fits _) rfl rfl ?_
  cbv
  repeat' (first | (refine br (fun hh => ?_) (fun hh => ?_) <;> (repeat' (first | replace hh := iteA hΩ hh | replace hh := iteB hΩ hh)) <;> (first | replace hh := neZt hΩ hh | replace hh := neZf hΩ hh | replace hh := eqZt hΩ hh | replace hh := eqZf hΩ hh | replace hh := ltZt hΩ hh | replace hh := ltZf hΩ hh | replace hh := geZt hΩ hh | replace hh := geZf hΩ hh | replace hh := gtZt hΩ hh | replace hh := gtZf hΩ hh | replace hh := leZt hΩ hh | replace hh := leZf hΩ hh | replace hh := notA hΩ hh | replace hh := notB hΩ hh | skip) <;> (first | (exfalso; (first | omega | (cases hh; done) | (simp_all; done))) | cbv)) | (refine call_pure hΩ 3 h2 rfl (fits _) rfl rfl ?_; cbv) | (refine call_pure hΩ 3 (h3 (by omega)) rfl (fits _) rfl rfl ?_; cbv) | (refine call_pure hΩ 3 (h4 (by omega)) rfl (fits _) rfl rfl ?_; cbv))
  all_goals (refine .of (congrArg i64 ?_); clear h1 h2 h3 h4 htab; subst hΩ; subst hr; simp_all [std, cmpIS])
/-- What became of a name. -/
def chg (c : List Pck) (f t : List Int) (n : List UInt8) : Chg :=
  ⟨if nmF c n f < 0 then 1 else if nmF c n t < 0 then 2 else 3, n, if nmF c n f < 0 then Ver.zero else (pk c (nmF c n f)).v, if nmF c n t < 0 then Ver.zero else (pk c (nmF c n t)).v⟩
def chgS (c : List Pck) (f t : List Int) : List Chg := (chS c f t).map (chg c f t)
def chgR (k : Int) (g : List Chg) : A := .agg [i64 k, i64 0, .sl true 8 (g.map Chg.enc)]
theorem c_l15Changes (l : List Pck) (f t : List Int) (hl : l.length ≤ 1048576) (hf : f.length ≤ 1048576) (ht : t.length ≤ 1048576) (hkf : ∀ k ∈ f, inB k 0 ((l.length : Int) - 1) = true) (hkt : ∀ k ∈ t, inB k 0 ((l.length : Int) - 1) = true) :
    PCtr PP n_spec_l15Changes [encP l, .sl false 1 (f.map i64), .sl false 1 (t.map i64)] (.sl true 8 ((chgS l f t).map Chg.enc)) := by
  obtain ⟨Ω, hΩ⟩ : ∃ Ω, Ω = std := ⟨_, rfl⟩
  have hat : ∀ (s : List Int) n, (∀ k ∈ s, inB k 0 ((l.length : Int) - 1) = true) → 0 ≤ nmF l n s → ∃ n' v1 v2 v3 sz ps ds bs, (pk l (nmF l n s)).v = ⟨v1, v2, v3⟩ ∧ (l.map (Pck.enc false))[(nmF l n s).toNat]? = some (.agg [str n', i64 v1, i64 v2, i64 v3, i64 sz, .sl false 1 ps, .sl false 1 ds, .sl false 7 bs]) := fun s n hs h => by
    obtain ⟨h0, h1, h2, h3⟩ := pk_at (hs _ (nmF_mem (c := l) (n := n) (s := s) h))
    obtain ⟨ps, ds, bs, hen, hp, hd, hb⟩ := enc_raw (pk l (nmF l n s))
    exact ⟨_, (pk l (nmF l n s)).v.a, (pk l (nmF l n s)).v.b, (pk l (nmF l n s)).v.c, _, ps, ds, bs, rfl, by rw [List.getElem?_map, h2]; exact congrArg some hen⟩
  have hatf := fun n => hat f n hkf
  have hatt := fun n => hat t n hkt
  clear hat
  have hnf := fun n => c_l5One l f n hl hf hkf
  have hnt := fun n => c_l5One l t n hl ht hkt
  have hch := c_l5Changed l f t hl hf ht hkf hkt
  have hcl := ch_len (c := l) (f := f) (t := t)
  unfold chgS
  have hcg : ∀ n ∈ chS l f t, ¬ nmF l n f = nmF l n t ∧ -1 ≤ nmF l n f ∧ -1 ≤ nmF l n t := fun n hn => by
    have := ((foldPut_spec (p := chB l f t) (ns := l.map Pck.n) (o := []) (by simp)).2 n).1 hn
    simp only [List.not_mem_nil, false_or] at this
    refine ⟨?_, nmF_ge hkf, nmF_ge hkt⟩
    have := this.2
    unfold chB at this
    simpa using this
  generalize chS l f t = ns at *
  obtain ⟨C, hC⟩ : ∃ C : Nat → List A, C = fun i => ((ns.take i).map (chg l f t)).map Chg.enc := ⟨_, rfl⟩
  have hC0 : C 0 = [] := by rw [hC]; rfl
  have hCl : ∀ i, (C i).length ≤ i := fun i => by rw [hC]; simp only [List.length_map, List.length_take]; omega
  have hCi : ∀ i n, ns[i]? = some n → Ω.app (Ω.take (Ω.len (C i)) (C i)) [(chg l f t n).enc] = C (i + 1) := fun i n h => by
    rw [takeAll hΩ, hC]; dsimp only; rw [List.take_add_one, h, List.map_append, List.map_append]; subst hΩ; rfl
  have hpl : ∀ i n (x : A), ns[i]? = some n → Ω.plus (Ω.len (C i)) (Ω.len [x]) = Ω.len (C (i + 1)) := fun i n x h => by rw [show Ω.len [x] = Ω.len [(chg l f t n).enc] by subst hΩ; rfl]; rw [← hCi i n h, takeAll hΩ]; subst hΩ; exact (List.length_append).symm
  have hfin : (ns.map (chg l f t)).map Chg.enc = C ns.length := by rw [hC]; dsimp only; rw [List.take_length]
  rw [hfin]
  obtain ⟨m, hm⟩ : ∃ m, m = ns.length := ⟨_, rfl⟩
  rw [← hm]
  obtain ⟨q, hq⟩ : ∃ q, q = ns.map str := ⟨_, rfl⟩
  have hql : q.length = ns.length := by rw [hq, List.length_map]
  have hqz : q.map frz = q := by rw [hq]; exact frz_S _
  rw [← hq] at hch
  unfold chg Chg.enc Chg.cells at hCi
  dsimp only at hCi
  unfold encP at *
  generalize f.map i64 = fa at *
  generalize t.map i64 = ta at *
  generalize l.map (Pck.enc false) = xs at *
  clear hC hfin
  have htab := tab
  refine PCtr.walk tab hΩ fn_spec_l15Changes rfl ?_
  generalize PP = P at *
  cbv
  refine call_share hΩ 3 hch rfl (fits _) rfl ?_
  cbv
  refine loopX htab hΩ (fun i : Nat => ⟨[(0, .sl false 8 xs), (1, .sl false 1 fa), (2, .sl false 1 ta), (7, .vw 0 0 (Ω.len (C i))), (8, .sl false 1 q), (9, i64 (Ω.int i))], 66, [some ⟨8, C i, false⟩]⟩) (fun i => i ≤ ns.length) (fun i => ns.length - i) 0 (Nat.zero_le _)
    (Sbs.mk rfl (by rw [hC0]) ⟨rfl, rfl, rfl, by rw [hC0]; subst hΩ; rfl, rfl, zeroI hΩ, trivial⟩) (fun i hi => ?_)
  have hCli := hCl i
  have hlo : Ω.len (C i) = (C i).length := by subst hΩ; rfl
  have hle : Ω.len (C i) ≤ (C i).length := by rw [hlo]; exact Nat.le_refl _
  have htk : Ω.take (Ω.len (C i)) (C i) = C i := takeAll hΩ _
  cbv
  refine br (fun h => ?_) (fun h => ?_) <;> cbv
  · replace h := ltI hΩ h
    obtain ⟨n, hn⟩ := at_of (cs := ns) (by omega : i < ns.length)
    have hCi := hCi i n hn
    have hpl := fun x => hpl i n x hn
    obtain ⟨hne, hg1, hg2⟩ := hcg n (List.mem_of_getElem? hn)
    have hnf := hnf n
    have hnt := hnt n
    have hatf := hatf n
    have hatt := hatt n
    generalize nmF l n f = a at *
    generalize nmF l n t = b at *
    refine ⟨⟨nnI hΩ⟩, _, rdI hΩ hq hn, ?_⟩
    cbv
    refine call_pure hΩ 3 hnf rfl (fits _) rfl rfl ?_
    cbv
    refine ⟨⟨nnI hΩ⟩, _, rdI hΩ hq hn, ?_⟩
    cbv
    refine call_pure hΩ 3 hnt rfl (fits _) rfl rfl ?_
    cbv
    refine ⟨⟨nnI hΩ⟩, _, rdI hΩ hq hn, ?_⟩
    cbv
    repeat' (first
      | (refine br (fun hh => ?_) (fun hh => ?_) <;> (repeat' (first | replace hh := iteA hΩ hh | replace hh := iteB hΩ hh)) <;> (first | replace hh := neZt hΩ hh | replace hh := neZf hΩ hh | replace hh := eqZt hΩ hh | replace hh := eqZf hΩ hh | replace hh := ltZt hΩ hh | replace hh := ltZf hΩ hh | replace hh := geZt hΩ hh | replace hh := geZf hΩ hh | replace hh := gtZt hΩ hh | replace hh := gtZf hΩ hh | replace hh := leZt hΩ hh | replace hh := leZf hΩ hh | replace hh := notA hΩ hh | replace hh := notB hΩ hh | skip) <;> (first | (exfalso; (first | omega | (cases hh; done) | (simp_all; done))) | cbv))
      | (obtain ⟨n', v1, v2, v3, sz, ps, ds, bs, hv, hx⟩ := hatf (by omega); rw [hv] at hCi; refine ⟨⟨by omega⟩, _, hx, ?_⟩; clear hatf; cbv)
      | (obtain ⟨n', v1, v2, v3, sz, ps, ds, bs, hv, hx⟩ := hatt (by omega); rw [hv] at hCi; refine ⟨⟨by omega⟩, _, hx, ?_⟩; clear hatt; cbv))
    all_goals (first
      | (have e1 : ¬ a < 0 := by omega)
      | (have e1 : a < 0 := by omega))
    all_goals (first
      | (have e2 : ¬ b < 0 := by omega)
      | (have e2 : b < 0 := by omega))
    all_goals simp only [e1, e2, if_true, if_false] at hCi
    all_goals exact ⟨⟨rfl, okAll rfl, by show (Ω.len (C i) + 1) * 72 ≤ 140737488355328; omega, by show Ω.len (C i) + 1 ≤ 9223372036854775807; omega⟩, i + 1, by omega, by omega,
        (Sbs.cut 1 rfl).trans (Sbs.mk rfl (by rw [← hCi]; rfl) ⟨rfl, rfl, rfl, congrArg (A.vw 0 0) (hpl _), rfl, incI hΩ (by omega), trivial⟩)⟩
  · replace h := geI hΩ h
    obtain rfl : m = i := by omega
    exact ⟨⟨rfl, hle⟩, .of (congrArg (A.sl true 8) htk)⟩
end Go.Proofs.YtfmcncflooechaaGreat

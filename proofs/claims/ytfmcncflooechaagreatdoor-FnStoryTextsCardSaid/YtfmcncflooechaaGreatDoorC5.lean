/- Walks: draws of packages. Plain theorems. -/
import Derived.Test.YtfmcncflooechaaGreatDoorC4
import Derived.Shelf.SortM.Plain
import Derived.Shelf.SortM.SortNone
import Derived.Ground.SlgmProg
import Derived.Sort.OwnSortedInts
import Derived.Shelf.SlicesG.CompactS
import Derived.Ground.SlgnProg
import Derived.Sort.OwnSorted
import Derived.Shelf.Spec.SlicesGrow
import Derived.Ground.Names8Prog
set_option linter.unusedVariables false
set_option linter.unusedSimpArgs false
namespace Go.Proofs.YtfmcncflooechaaGreatDoor
open Go Go.Fw
set_option maxRecDepth 100000
theorem decI {Ω : Opq} (hΩ : Ω = std) {k : Int} (h0 : 0 ≤ k) (h1 : k ≤ 4611686018427387904) : i64 (Ω.ar .sub .i64 k 1) = i64 (k - 1) := by subst hΩ; exact congrArg i64 (i64w (by omega) (by omega))
structure Pck.Tiny (o : Pck) : Prop where
  p : o.p.length ≤ 8
  d : o.d.length ≤ 8
  b : o.b.length ≤ 8
  e : ∀ l ∈ o.d, l.length ≤ 8
structure Pck.Tiny2 (o : Pck) : Prop where
  p : o.p.length ≤ 16
  d : o.d.length ≤ 16
  b : o.b.length ≤ 16
  e : ∀ l ∈ o.d, l.length ≤ 16
theorem Pck.Tiny2.small {o : Pck} (h : o.Tiny2) : o.Small := ⟨by have := h.p; omega, by have := h.d; omega, by have := h.b; omega, fun l hl => by have := h.e l hl; omega⟩
theorem Pck.Tiny.two {o : Pck} (h : o.Tiny) : o.Tiny2 := ⟨by have := h.p; omega, by have := h.d; omega, by have := h.b; omega, fun l hl => by have := h.e l hl; omega⟩
theorem Pck.Tiny.small {o : Pck} (h : o.Tiny) : o.Small := ⟨by have := h.p; omega, by have := h.d; omega, by have := h.b; omega, fun l hl => by have := h.e l hl; omega⟩
theorem fit_pack {o : Pck} {X D B : A} (hX : X = .sl true 1 (o.p.map str) ∨ X = .nil ∧ o.p = []) (hD : D = .sl true 1 (o.d.map (encTs true)) ∨ D = .nil ∧ o.d = [] ∨ fitA 2 D (.sl true 1 (o.d.map (encTs true)))) (hB : B = .sl true 7 (o.b.map Trm.enc) ∨ B = .nil ∧ o.b = []) :
    FitX (.agg [str o.n, i64 o.v.a, i64 o.v.b, i64 o.v.c, i64 o.s, X, D, B]) (o.enc true) := by
  refine ⟨3, ?_⟩
  have e : ∀ (n : Nat) (Y : A) (ys : List A), (Y = .sl true n ys ∨ Y = .nil ∧ ys = []) → fitA 2 Y (.sl true n ys) := fun n Y ys h => by
    rcases h with rfl | ⟨rfl, rfl⟩
    · exact fitA_refl _ _
    · rfl
  have hD' : fitA 2 D (.sl true 1 (o.d.map (encTs true))) := by
    rcases hD with h | h | h
    · exact e _ _ _ (.inl h)
    · exact e _ _ _ (.inr ⟨h.1, by rw [h.2]; rfl⟩)
    · exact h
  show fitA.fitL 2 _ [str o.n, i64 o.v.a, i64 o.v.b, i64 o.v.c, i64 o.s, .sl true 1 (o.p.map str), .sl true 1 (o.d.map (encTs true)), .sl true 7 (o.b.map Trm.enc)]
  exact ⟨fitA_refl _ _, fitA_refl _ _, fitA_refl _ _, fitA_refl _ _, fitA_refl _ _, e _ _ _ (hX.imp id fun h => ⟨h.1, by rw [h.2]; rfl⟩), hD', e _ _ _ (hB.imp id fun h => ⟨h.1, by rw [h.2]; rfl⟩), trivial⟩
theorem d_l2Pack {bs : List A} (hb : Src bs) (p : Int) (h0 : 0 ≤ p) (h1 : p + 60 ≤ 1099511627776) : XCtr PP n_spec_l2Pack [src bs p] (DR bs p 60 [] fun x => ∃ o : Pck, x = o.enc true ∧ o.Tiny) := by
  obtain ⟨Ω, hΩ⟩ : ∃ Ω, Ω = std := ⟨_, rfl⟩
  have hA := d_AnyTerm
  have hN := fun p n a b c => d_l1Next hb p n a b c
  have hC := fun p n a b c => d_l1Chance hb p n a b c
  have hP := fun p ns a b c d => d_l1Pick hb p ns a b c d
  have hl1DrawName := fun p a b => d_l1DrawName hb p a b
  have hl1Version := fun p a b => d_l1Version hb p a b
  have hl1Term := fun p a b => d_l1Term hb p a b
  have htab := tab
  have hmo := hmo
  refine XCtr.walkO tab hΩ 3 fn_spec_l2Pack rfl rfl ?_
  generalize PP = P at *
  cbv
  refine call_dr false hΩ 3 (hl1DrawName _ (by omega) (by omega)) rfl rfl rfl (fun q1 x q1a q1b ⟨nm, hx⟩ => ?_)
  subst hx
  cbv
  refine call_dr false hΩ 3 (hN _ _ (by omega) (by omega) (by omega)) rfl rfl rfl (fun q2 x q2a q2b ⟨va, hx, hva⟩ => ?_)
  subst hx
  cbv
  refine call_dr false hΩ 3 (hN _ _ (by omega) (by omega) (by omega)) rfl rfl rfl (fun q3 x q3a q3b ⟨sz, hx, hsz⟩ => ?_)
  subst hx
  cbv
  refine call_dr false hΩ 3 (hC _ _ (by omega) (by omega) (by omega)) rfl rfl rfl (fun q4 x q4a q4b ⟨cp, hx⟩ => ?_)
  subst hx
  cbv
  refine br (fun hcp => ?_) (fun hcp => ?_) <;> cbv
  · refine call_dr false hΩ 3 (hN _ 2 (by omega) (by omega) (by omega)) rfl rfl rfl (fun q5 x q5a q5b ⟨r, hx, hr⟩ => ?_)
    subst hx
    cbv
    obtain ⟨pn, _, hnm⟩ := nth_of (f := str) (ns := [[109, 97, 105, 108], [100, 98]]) hΩ rfl (hr.2 (by omega)).1 (hr.2 (by omega)).2
    refine ⟨⟨hr.2 (by omega)⟩, _, hnm, ?_⟩
    cbv
    refine call_pick (ns := [0, 0, 1, 1, 2]) hΩ (hP _ _ (by omega) (by omega) (Nat.zero_lt_succ _) (Nat.le_of_ble_eq_true rfl)) rfl rfl rfl rfl (by decide) (fun q6 n q6a q6b hn => ?_)
    replace hn : 0 ≤ n ∧ n ≤ 2 := by simp at hn; omega
    cbv
    obtain ⟨F, hF⟩ : ∃ F : List (List Trm) → List A, F = fun ds => ds.map (encTs true) := ⟨_, rfl⟩
    have hF0 : F [] = [] := by rw [hF]; rfl
    have hFl : ∀ ds, (F ds).length = ds.length := fun ds => by rw [hF]; exact List.length_map _
    have hFs : ∀ (ds : List (List Trm)) (ts : List Trm), Ω.app (Ω.take ds.length (F ds)) [.sl true 7 (ts.map Trm.enc)] = F (ds ++ [ts]) := fun ds ts => by
      subst hΩ; rw [hF]; show List.take ds.length (List.map (encTs true) ds) ++ _ = List.map (encTs true) (ds ++ [ts])
      rw [List.map_append, List.take_of_length_le (by simp)]; rfl
    have hFd : ∀ ds : List (List Trm), Ω.take ds.length (F ds) = ds.map (encTs true) := fun ds => by subst hΩ; rw [hF]; exact List.take_of_length_le (by simp)
    clear hF
    refine loopX htab hΩ (fun i : Int × Int × List (List Trm) => ⟨[(0, .pt 0 0 0), (2, .pt 1 0 0), (3, .pt 2 0 0), (4, i64 i.1), (63, .pt 0 0 0)], 63, [some ⟨2, [.agg [.sl false 1 bs, i64 i.2.1]], true⟩, some ⟨8, [.agg [str [], i64 0, i64 0, i64 0, i64 0, .nil, .nil, .nil]], true⟩, some ⟨8, [.agg [str nm, i64 (Ω.ar .add .i64 1 va), i64 0, i64 0, i64 (Ω.ar .add .i64 1 sz), .vw 4 0 1, .vw 5 0 i.2.2.length, .nil]], true⟩, none, some ⟨1, [str pn], false⟩, some ⟨1, F i.2.2, false⟩]⟩) (fun i => 0 ≤ i.1 ∧ i.1 ≤ 2 ∧ p ≤ i.2.1 ∧ i.2.1 + 20 * i.1 ≤ p + 46 ∧ (i.2.2.length : Int) + i.1 ≤ 2 ∧ ∀ l ∈ i.2.2, l.length ≤ 8) (fun i => i.1.toNat) (n, q6, [])
      ⟨by dsimp only; omega, by dsimp only; omega, by dsimp only; omega, by dsimp only; omega, by show ((0 : Nat) : Int) + n ≤ 2; omega, by simp⟩ ((Sbs.cut 5 rfl).trans ((Sbs.drop (r := 3) rfl).trans ((Sbs.nilCell (r := 2) (j := 0) (q := 6) (n := 1) rfl rfl rfl).trans (Sbs.mk rfl (by show _ = [_, _, _, _, _, some (Row.mk 1 (F []) false)]; rw [hF0]; rfl) ⟨rfl, rfl, rfl, rfl, rfl, trivial⟩)))) ?_
    rintro ⟨k, q, ds⟩ ⟨i1, i2, i3, i4, i5, i6⟩
    dsimp only at i1 i2 i3 i4 i5 i6
    have hFli := hFl ds
    have hFsi := hFs ds
    obtain ⟨m, hm⟩ : ∃ m, ds.length = m := ⟨_, rfl⟩
    have hrows : ∀ {R0 R1 R4 : Option Row} {a0 a1 a2 a3 a4 a5 a7 : A} {l : Nat} {X : List A} {ts : List Trm}, X = ts.map Trm.enc → l = m + 1 → [R0, R1, some (Row.mk 8 [.agg [a0, a1, a2, a3, a4, a5, .vw 5 0 l, a7]] true), none, R4, some (Row.mk 1 (Ω.app (Ω.take m (F ds)) [.sl true 7 X]) false)] =
        [R0, R1, some (Row.mk 8 [.agg [a0, a1, a2, a3, a4, a5, .vw 5 0 (ds ++ [ts]).length, a7]] true), none, R4, some (Row.mk 1 (F (ds ++ [ts])) false)] := fun {R0 R1 R4 a0 a1 a2 a3 a4 a5 a7 l X ts} h1 h2 => by
      rw [h1, h2, ← hm, hFsi, List.length_append]; rfl
    have hall : ∀ ts : List Trm, ts.length ≤ 8 → ∀ l ∈ ds ++ [ts], l.length ≤ 8 := fun ts h l hl => by
      rcases List.mem_append.1 hl with h1 | h1
      · exact i6 l h1
      · rw [List.mem_singleton.1 h1]; exact h
    rw [hm] at hFli hFsi i5 ⊢
    have hm2 : m ≤ 2 := by omega
    have hds : ds.length ≤ 8 := by omega
    have hFdi : A.sl true 1 (Ω.take m (F ds)) = .sl true 1 (ds.map (encTs true)) := by rw [← hm, hFd]
    have h5 : ∀ ts : List Trm, ((ds ++ [ts]).length : Int) + (k - 1) ≤ 2 := fun ts => by rw [List.length_append, hm, List.length_singleton]; omega
    cbv
    refine br (fun hk => ?_) (fun hk => ?_) <;> cbv
    · have hk := gtI_t hΩ hk
      refine call_dr false hΩ 3 (hl1Term _ (by omega) (by omega)) rfl rfl rfl (fun r1 x r1a r1b ⟨t1, hx⟩ => ?_)
      obtain ⟨t1n, ⟨t1a, t1b, t1c⟩, ⟨t1d, t1e, t1f⟩⟩ := t1
      subst hx
      cbv
      refine call_dr false hΩ 3 (hC _ _ (by omega) (by omega) (by omega)) rfl rfl rfl (fun r2 x r2a r2b ⟨c1, hx⟩ => ?_)
      subst hx
      cbv
      refine br (fun hc1 => ?_) (fun hc1 => ?_) <;> cbv
      · refine call_dr false hΩ 3 (hl1Term _ (by omega) (by omega)) rfl rfl rfl (fun r3 x r3a r3b ⟨t2, hx⟩ => ?_)
        obtain ⟨t2n, ⟨t2a, t2b, t2c⟩, ⟨t2d, t2e, t2f⟩⟩ := t2
        subst hx
        cbv
        refine ⟨⟨rfl, okAll rfl, by show (1 + 1) * 64 ≤ 140737488355328; omega, by show 1 + 1 ≤ 9223372036854775807; omega⟩, ?_⟩
        refine call_dr false hΩ 3 (hC _ _ (by omega) (by omega) (by omega)) rfl rfl rfl (fun r4 x r4a r4b ⟨c2, hx⟩ => ?_)
        subst hx
        cbv
        refine br (fun hc2 => ?_) (fun hc2 => ?_) <;> cbv
        · refine call_pure hΩ 3 (hA _) rfl (fits _) rfl rfl ?_
          cbv
          refine ⟨⟨by subst hΩ; exact ⟨Int.le_refl _, Int.ofNat_lt.2 (Nat.zero_lt_succ _)⟩⟩, ⟨by subst hΩ; exact ⟨show 0 + 0 < _ from Nat.zero_lt_succ _, fun z hz => List.all_eq_true.1 (show List.all _ (isAggN 7) = true from rfl) z hz⟩⟩, ⟨by subst hΩ; exact ⟨rfl, Nat.le_refl _⟩⟩, ⟨rfl, okAll rfl, by show (m + 1) * 24 ≤ 140737488355328; omega, by show m + 1 ≤ 9223372036854775807; omega⟩, (k - 1, r4, ds ++ [[inTop [109, 97, 105, 108], ⟨t2n, ⟨t2a, t2b, t2c⟩, ⟨t2d, t2e, t2f⟩⟩]]), ⟨by dsimp only; omega, by dsimp only; omega, by dsimp only; omega, by dsimp only; omega, h5 _, hall _ (by simp)⟩, by dsimp only; omega, (Sbs.cut 6 rfl).trans (Sbs.mk rfl (hrows (by subst hΩ; rfl) (by subst hΩ; rfl)) ⟨rfl, rfl, rfl, decI hΩ (by omega) (by omega), rfl, trivial⟩)⟩
        · refine ⟨⟨by subst hΩ; exact ⟨rfl, Nat.le_refl _⟩⟩, ⟨rfl, okAll rfl, by show (m + 1) * 24 ≤ 140737488355328; omega, by show m + 1 ≤ 9223372036854775807; omega⟩, (k - 1, r4, ds ++ [[⟨t1n, ⟨t1a, t1b, t1c⟩, ⟨t1d, t1e, t1f⟩⟩, ⟨t2n, ⟨t2a, t2b, t2c⟩, ⟨t2d, t2e, t2f⟩⟩]]), ⟨by dsimp only; omega, by dsimp only; omega, by dsimp only; omega, by dsimp only; omega, h5 _, hall _ (by simp)⟩, by dsimp only; omega, (Sbs.cut 6 rfl).trans (Sbs.mk rfl (hrows (by subst hΩ; rfl) (by subst hΩ; rfl)) ⟨rfl, rfl, rfl, decI hΩ (by omega) (by omega), rfl, trivial⟩)⟩
      · refine call_dr false hΩ 3 (hC _ _ (by omega) (by omega) (by omega)) rfl rfl rfl (fun r4 x r4a r4b ⟨c2, hx⟩ => ?_)
        subst hx
        cbv
        refine br (fun hc2 => ?_) (fun hc2 => ?_) <;> cbv
        · refine call_pure hΩ 3 (hA _) rfl (fits _) rfl rfl ?_
          cbv
          refine ⟨⟨by subst hΩ; exact ⟨Int.le_refl _, Int.ofNat_lt.2 (Nat.zero_lt_succ _)⟩⟩, ⟨by subst hΩ; exact ⟨show 0 + 0 < _ from Nat.zero_lt_succ _, fun z hz => List.all_eq_true.1 (show List.all _ (isAggN 7) = true from rfl) z hz⟩⟩, ⟨by subst hΩ; exact ⟨rfl, Nat.le_refl _⟩⟩, ⟨rfl, okAll rfl, by show (m + 1) * 24 ≤ 140737488355328; omega, by show m + 1 ≤ 9223372036854775807; omega⟩, (k - 1, r4, ds ++ [[inTop [109, 97, 105, 108]]]), ⟨by dsimp only; omega, by dsimp only; omega, by dsimp only; omega, by dsimp only; omega, h5 _, hall _ (by simp)⟩, by dsimp only; omega, (Sbs.cut 6 rfl).trans (Sbs.mk rfl (hrows (by subst hΩ; rfl) (by subst hΩ; rfl)) ⟨rfl, rfl, rfl, decI hΩ (by omega) (by omega), rfl, trivial⟩)⟩
        · refine ⟨⟨by subst hΩ; exact ⟨rfl, Nat.le_refl _⟩⟩, ⟨rfl, okAll rfl, by show (m + 1) * 24 ≤ 140737488355328; omega, by show m + 1 ≤ 9223372036854775807; omega⟩, (k - 1, r4, ds ++ [[⟨t1n, ⟨t1a, t1b, t1c⟩, ⟨t1d, t1e, t1f⟩⟩]]), ⟨by dsimp only; omega, by dsimp only; omega, by dsimp only; omega, by dsimp only; omega, h5 _, hall _ (by simp)⟩, by dsimp only; omega, (Sbs.cut 6 rfl).trans (Sbs.mk rfl (hrows (by subst hΩ; rfl) (by subst hΩ; rfl)) ⟨rfl, rfl, rfl, decI hΩ (by omega) (by omega), rfl, trivial⟩)⟩
    · have hk := gtI_f hΩ hk
      refine call_dr false hΩ 3 (hC _ _ (by omega) (by omega) (by omega)) rfl rfl rfl (fun r5 x r5a r5b ⟨c3, hx⟩ => ?_)
      subst hx
      cbv
      refine br (fun hc3 => ?_) (fun hc3 => ?_) <;> cbv
      · refine ⟨VC_lent htab hΩ hmo [0, 1] [2, 3, 4] [5, 6, 7] [2, 4, 5] [3] (by kernel_rfl) ?_⟩
        cbv
        intro vs
        cbv
        refine call_dr false hΩ 3 (hl1Term _ (by omega) (by omega)) rfl rfl rfl (fun r6 x r6a r6b ⟨t3, hx⟩ => ?_)
        obtain ⟨t3n, ⟨t3a, t3b, t3c⟩, ⟨t3d, t3e, t3f⟩⟩ := t3
        subst hx
        cbv
        exact ⟨⟨Nat.le_refl _, fun y hy => List.all_eq_true.1 (show List.all _ noOwn = true from rfl) y hy, okAll rfl, by decide, by decide⟩, ⟨rfl, Nat.le_refl _⟩, ⟨rfl, by show m ≤ (F ds).length; omega⟩, ⟨rfl, by subst hΩ; exact Nat.le_refl _⟩, _, _,
          fit_pack (o := ⟨nm, ⟨Ω.ar .add .i64 1 va, 0, 0⟩, Ω.ar .add .i64 1 sz, [pn], ds, [⟨t3n, ⟨t3a, t3b, t3c⟩, ⟨t3d, t3e, t3f⟩⟩]⟩) (.inl (by subst hΩ; rfl)) (.inl hFdi) (.inl (by subst hΩ; rfl)), .same, ⟨r6, by omega, by omega, rfl, _, rfl, ⟨Nat.le_of_ble_eq_true rfl, hds, Nat.le_of_ble_eq_true rfl, i6⟩⟩, rfl⟩
      · exact ⟨⟨rfl, Nat.le_refl _⟩, ⟨rfl, by show m ≤ (F ds).length; omega⟩, _, _,
          fit_pack (o := ⟨nm, ⟨Ω.ar .add .i64 1 va, 0, 0⟩, Ω.ar .add .i64 1 sz, [pn], ds, []⟩) (.inl (by subst hΩ; rfl)) (.inl hFdi) (.inr ⟨rfl, rfl⟩), .same, ⟨r5, by omega, by omega, rfl, _, rfl, ⟨Nat.le_of_ble_eq_true rfl, hds, Nat.le_of_ble_eq_true rfl, i6⟩⟩, rfl⟩
  · refine call_pick (ns := [0, 0, 1, 1, 2]) hΩ (hP _ _ (by omega) (by omega) (Nat.zero_lt_succ _) (Nat.le_of_ble_eq_true rfl)) rfl rfl rfl rfl (by decide) (fun q5 n q5a q5b hn => ?_)
    replace hn : 0 ≤ n ∧ n ≤ 2 := by simp at hn; omega
    cbv
    obtain ⟨F, hF⟩ : ∃ F : List (List Trm) → List A, F = fun ds => ds.map (encTs true) := ⟨_, rfl⟩
    have hF0 : F [] = [] := by rw [hF]; rfl
    have hFl : ∀ ds, (F ds).length = ds.length := fun ds => by rw [hF]; exact List.length_map _
    have hFs : ∀ (ds : List (List Trm)) (ts : List Trm), Ω.app (Ω.take ds.length (F ds)) [.sl true 7 (ts.map Trm.enc)] = F (ds ++ [ts]) := fun ds ts => by
      subst hΩ; rw [hF]; show List.take ds.length (List.map (encTs true) ds) ++ _ = List.map (encTs true) (ds ++ [ts])
      rw [List.map_append, List.take_of_length_le (by simp)]; rfl
    have hFd : ∀ ds : List (List Trm), Ω.take ds.length (F ds) = ds.map (encTs true) := fun ds => by subst hΩ; rw [hF]; exact List.take_of_length_le (by simp)
    clear hF
    refine loopX htab hΩ (fun i : Int × Int × List (List Trm) => ⟨[(0, .pt 0 0 0), (2, .pt 1 0 0), (3, .pt 2 0 0), (4, i64 i.1), (63, .pt 0 0 0)], 63, [some ⟨2, [.agg [.sl false 1 bs, i64 i.2.1]], true⟩, some ⟨8, [.agg [str [], i64 0, i64 0, i64 0, i64 0, .nil, .nil, .nil]], true⟩, some ⟨8, [.agg [str nm, i64 (Ω.ar .add .i64 1 va), i64 0, i64 0, i64 (Ω.ar .add .i64 1 sz), .vw 4 0 0, .vw 5 0 i.2.2.length, .nil]], true⟩, none, some ⟨1, [], false⟩, some ⟨1, F i.2.2, false⟩]⟩) (fun i => 0 ≤ i.1 ∧ i.1 ≤ 2 ∧ p ≤ i.2.1 ∧ i.2.1 + 20 * i.1 ≤ p + 46 ∧ (i.2.2.length : Int) + i.1 ≤ 2 ∧ ∀ l ∈ i.2.2, l.length ≤ 8) (fun i => i.1.toNat) (n, q5, [])
      ⟨by dsimp only; omega, by dsimp only; omega, by dsimp only; omega, by dsimp only; omega, by show ((0 : Nat) : Int) + n ≤ 2; omega, by simp⟩ ((Sbs.drop (r := 3) rfl).trans ((Sbs.nilCell (r := 2) (j := 0) (q := 5) (n := 1) rfl rfl rfl).trans ((Sbs.nilCell (r := 2) (j := 0) (q := 6) (n := 1) rfl rfl rfl).trans (Sbs.mk rfl (by show _ = [_, _, _, _, _, some (Row.mk 1 (F []) false)]; rw [hF0]; rfl) ⟨rfl, rfl, rfl, rfl, rfl, trivial⟩)))) ?_
    rintro ⟨k, q, ds⟩ ⟨i1, i2, i3, i4, i5, i6⟩
    dsimp only at i1 i2 i3 i4 i5 i6
    have hFli := hFl ds
    have hFsi := hFs ds
    obtain ⟨m, hm⟩ : ∃ m, ds.length = m := ⟨_, rfl⟩
    have hrows : ∀ {R0 R1 R4 : Option Row} {a0 a1 a2 a3 a4 a5 a7 : A} {l : Nat} {X : List A} {ts : List Trm}, X = ts.map Trm.enc → l = m + 1 → [R0, R1, some (Row.mk 8 [.agg [a0, a1, a2, a3, a4, a5, .vw 5 0 l, a7]] true), none, R4, some (Row.mk 1 (Ω.app (Ω.take m (F ds)) [.sl true 7 X]) false)] =
        [R0, R1, some (Row.mk 8 [.agg [a0, a1, a2, a3, a4, a5, .vw 5 0 (ds ++ [ts]).length, a7]] true), none, R4, some (Row.mk 1 (F (ds ++ [ts])) false)] := fun {R0 R1 R4 a0 a1 a2 a3 a4 a5 a7 l X ts} h1 h2 => by
      rw [h1, h2, ← hm, hFsi, List.length_append]; rfl
    have hall : ∀ ts : List Trm, ts.length ≤ 8 → ∀ l ∈ ds ++ [ts], l.length ≤ 8 := fun ts h l hl => by
      rcases List.mem_append.1 hl with h1 | h1
      · exact i6 l h1
      · rw [List.mem_singleton.1 h1]; exact h
    rw [hm] at hFli hFsi i5 ⊢
    have hm2 : m ≤ 2 := by omega
    have hds : ds.length ≤ 8 := by omega
    have hFdi : A.sl true 1 (Ω.take m (F ds)) = .sl true 1 (ds.map (encTs true)) := by rw [← hm, hFd]
    have h5 : ∀ ts : List Trm, ((ds ++ [ts]).length : Int) + (k - 1) ≤ 2 := fun ts => by rw [List.length_append, hm, List.length_singleton]; omega
    cbv
    refine br (fun hk => ?_) (fun hk => ?_) <;> cbv
    · have hk := gtI_t hΩ hk
      refine call_dr false hΩ 3 (hl1Term _ (by omega) (by omega)) rfl rfl rfl (fun r1 x r1a r1b ⟨t1, hx⟩ => ?_)
      obtain ⟨t1n, ⟨t1a, t1b, t1c⟩, ⟨t1d, t1e, t1f⟩⟩ := t1
      subst hx
      cbv
      refine call_dr false hΩ 3 (hC _ _ (by omega) (by omega) (by omega)) rfl rfl rfl (fun r2 x r2a r2b ⟨c1, hx⟩ => ?_)
      subst hx
      cbv
      refine br (fun hc1 => ?_) (fun hc1 => ?_) <;> cbv
      · refine call_dr false hΩ 3 (hl1Term _ (by omega) (by omega)) rfl rfl rfl (fun r3 x r3a r3b ⟨t2, hx⟩ => ?_)
        obtain ⟨t2n, ⟨t2a, t2b, t2c⟩, ⟨t2d, t2e, t2f⟩⟩ := t2
        subst hx
        cbv
        refine ⟨⟨rfl, okAll rfl, by show (1 + 1) * 64 ≤ 140737488355328; omega, by show 1 + 1 ≤ 9223372036854775807; omega⟩, ?_⟩
        refine call_dr false hΩ 3 (hC _ _ (by omega) (by omega) (by omega)) rfl rfl rfl (fun r4 x r4a r4b ⟨c2, hx⟩ => ?_)
        subst hx
        cbv
        refine br (fun hc2 => ?_) (fun hc2 => ?_) <;> cbv
        · refine call_pure hΩ 3 (hA _) rfl (fits _) rfl rfl ?_
          cbv
          refine ⟨⟨by subst hΩ; exact ⟨Int.le_refl _, Int.ofNat_lt.2 (Nat.zero_lt_succ _)⟩⟩, ⟨by subst hΩ; exact ⟨show 0 + 0 < _ from Nat.zero_lt_succ _, fun z hz => List.all_eq_true.1 (show List.all _ (isAggN 7) = true from rfl) z hz⟩⟩, ⟨by subst hΩ; exact ⟨rfl, Nat.le_refl _⟩⟩, ⟨rfl, okAll rfl, by show (m + 1) * 24 ≤ 140737488355328; omega, by show m + 1 ≤ 9223372036854775807; omega⟩, (k - 1, r4, ds ++ [[inTop [109, 97, 105, 108], ⟨t2n, ⟨t2a, t2b, t2c⟩, ⟨t2d, t2e, t2f⟩⟩]]), ⟨by dsimp only; omega, by dsimp only; omega, by dsimp only; omega, by dsimp only; omega, h5 _, hall _ (by simp)⟩, by dsimp only; omega, (Sbs.cut 6 rfl).trans (Sbs.mk rfl (hrows (by subst hΩ; rfl) (by subst hΩ; rfl)) ⟨rfl, rfl, rfl, decI hΩ (by omega) (by omega), rfl, trivial⟩)⟩
        · refine ⟨⟨by subst hΩ; exact ⟨rfl, Nat.le_refl _⟩⟩, ⟨rfl, okAll rfl, by show (m + 1) * 24 ≤ 140737488355328; omega, by show m + 1 ≤ 9223372036854775807; omega⟩, (k - 1, r4, ds ++ [[⟨t1n, ⟨t1a, t1b, t1c⟩, ⟨t1d, t1e, t1f⟩⟩, ⟨t2n, ⟨t2a, t2b, t2c⟩, ⟨t2d, t2e, t2f⟩⟩]]), ⟨by dsimp only; omega, by dsimp only; omega, by dsimp only; omega, by dsimp only; omega, h5 _, hall _ (by simp)⟩, by dsimp only; omega, (Sbs.cut 6 rfl).trans (Sbs.mk rfl (hrows (by subst hΩ; rfl) (by subst hΩ; rfl)) ⟨rfl, rfl, rfl, decI hΩ (by omega) (by omega), rfl, trivial⟩)⟩
      · refine call_dr false hΩ 3 (hC _ _ (by omega) (by omega) (by omega)) rfl rfl rfl (fun r4 x r4a r4b ⟨c2, hx⟩ => ?_)
        subst hx
        cbv
        refine br (fun hc2 => ?_) (fun hc2 => ?_) <;> cbv
        · refine call_pure hΩ 3 (hA _) rfl (fits _) rfl rfl ?_
          cbv
          refine ⟨⟨by subst hΩ; exact ⟨Int.le_refl _, Int.ofNat_lt.2 (Nat.zero_lt_succ _)⟩⟩, ⟨by subst hΩ; exact ⟨show 0 + 0 < _ from Nat.zero_lt_succ _, fun z hz => List.all_eq_true.1 (show List.all _ (isAggN 7) = true from rfl) z hz⟩⟩, ⟨by subst hΩ; exact ⟨rfl, Nat.le_refl _⟩⟩, ⟨rfl, okAll rfl, by show (m + 1) * 24 ≤ 140737488355328; omega, by show m + 1 ≤ 9223372036854775807; omega⟩, (k - 1, r4, ds ++ [[inTop [109, 97, 105, 108]]]), ⟨by dsimp only; omega, by dsimp only; omega, by dsimp only; omega, by dsimp only; omega, h5 _, hall _ (by simp)⟩, by dsimp only; omega, (Sbs.cut 6 rfl).trans (Sbs.mk rfl (hrows (by subst hΩ; rfl) (by subst hΩ; rfl)) ⟨rfl, rfl, rfl, decI hΩ (by omega) (by omega), rfl, trivial⟩)⟩
        · refine ⟨⟨by subst hΩ; exact ⟨rfl, Nat.le_refl _⟩⟩, ⟨rfl, okAll rfl, by show (m + 1) * 24 ≤ 140737488355328; omega, by show m + 1 ≤ 9223372036854775807; omega⟩, (k - 1, r4, ds ++ [[⟨t1n, ⟨t1a, t1b, t1c⟩, ⟨t1d, t1e, t1f⟩⟩]]), ⟨by dsimp only; omega, by dsimp only; omega, by dsimp only; omega, by dsimp only; omega, h5 _, hall _ (by simp)⟩, by dsimp only; omega, (Sbs.cut 6 rfl).trans (Sbs.mk rfl (hrows (by subst hΩ; rfl) (by subst hΩ; rfl)) ⟨rfl, rfl, rfl, decI hΩ (by omega) (by omega), rfl, trivial⟩)⟩
    · have hk := gtI_f hΩ hk
      refine call_dr false hΩ 3 (hC _ _ (by omega) (by omega) (by omega)) rfl rfl rfl (fun r5 x r5a r5b ⟨c3, hx⟩ => ?_)
      subst hx
      cbv
      refine br (fun hc3 => ?_) (fun hc3 => ?_) <;> cbv
      · refine ⟨VC_lent htab hΩ hmo [0, 1] [2, 3, 4] [5, 6, 7] [2, 4, 5] [3] (by kernel_rfl) ?_⟩
        cbv
        intro vs
        cbv
        refine call_dr false hΩ 3 (hl1Term _ (by omega) (by omega)) rfl rfl rfl (fun r6 x r6a r6b ⟨t3, hx⟩ => ?_)
        obtain ⟨t3n, ⟨t3a, t3b, t3c⟩, ⟨t3d, t3e, t3f⟩⟩ := t3
        subst hx
        cbv
        exact ⟨⟨Nat.le_refl _, fun y hy => List.all_eq_true.1 (show List.all _ noOwn = true from rfl) y hy, okAll rfl, by decide, by decide⟩, ⟨rfl, Nat.le_refl _⟩, ⟨rfl, by show m ≤ (F ds).length; omega⟩, ⟨rfl, by subst hΩ; exact Nat.le_refl _⟩, _, _,
          fit_pack (o := ⟨nm, ⟨Ω.ar .add .i64 1 va, 0, 0⟩, Ω.ar .add .i64 1 sz, [], ds, [⟨t3n, ⟨t3a, t3b, t3c⟩, ⟨t3d, t3e, t3f⟩⟩]⟩) (.inl (by subst hΩ; rfl)) (.inl hFdi) (.inl (by subst hΩ; rfl)), .same, ⟨r6, by omega, by omega, rfl, _, rfl, ⟨Nat.le_of_ble_eq_true rfl, hds, Nat.le_of_ble_eq_true rfl, i6⟩⟩, rfl⟩
      · exact ⟨⟨rfl, Nat.le_refl _⟩, ⟨rfl, by show m ≤ (F ds).length; omega⟩, _, _,
          fit_pack (o := ⟨nm, ⟨Ω.ar .add .i64 1 va, 0, 0⟩, Ω.ar .add .i64 1 sz, [], ds, []⟩) (.inl (by subst hΩ; rfl)) (.inl hFdi) (.inr ⟨rfl, rfl⟩), .same, ⟨r5, by omega, by omega, rfl, _, rfl, ⟨Nat.le_of_ble_eq_true rfl, hds, Nat.le_of_ble_eq_true rfl, i6⟩⟩, rfl⟩

theorem fitL_snoc {k : Nat} {x y : A} (h2 : fitA k x y) : ∀ {xs ys : List A}, fitA.fitL k xs ys → fitA.fitL k (xs ++ [x]) (ys ++ [y])
  | [], [], _ => ⟨h2, trivial⟩
  | a :: xs, b :: ys, h => ⟨h.1, fitL_snoc h2 h.2⟩
theorem tkl {Ω : Opq} (hΩ : Ω = std) (xs : List A) : Ω.take (Ω.len xs) xs = xs := by subst hΩ; exact List.take_length
theorem tka {Ω : Opq} (hΩ : Ω = std) (xs ys : List A) : Ω.take (Ω.plus (Ω.len xs) (Ω.len ys)) (Ω.app (Ω.take (Ω.len xs) xs) ys) = xs ++ ys := by
  subst hΩ; show List.take (xs.length + ys.length) (List.take xs.length xs ++ ys) = _
  rw [List.take_length, List.take_of_length_le (by simp)]
theorem d_l2BentPack {bs : List A} (hb : Src bs) (p : Int) (h0 : 0 ≤ p) (h1 : p + 100 ≤ 1099511627776) : XCtr PP n_spec_l2BentPack [src bs p] (DR bs p 100 [] fun x => ∃ o : Pck, x = o.enc true ∧ o.Tiny2) := by
  obtain ⟨Ω, hΩ⟩ : ∃ Ω, Ω = std := ⟨_, rfl⟩
  have hN := fun p n a b c => d_l1Next hb p n a b c
  have hP := fun p ns a b c d => d_l1Pick hb p ns a b c d
  have hl2Pack := fun p a b => d_l2Pack hb p a b
  have hl1BentName := fun p a b => d_l1BentName hb p a b
  have hl1BentVersion := fun p a b => d_l1BentVersion hb p a b
  have hl1BentTerm := fun p a b => d_l1BentTerm hb p a b
  have htab := tab
  have hmo := hmo
  refine XCtr.walkO tab hΩ 3 fn_spec_l2BentPack rfl rfl ?_
  generalize PP = P at *
  cbv
  refine call_dr false hΩ 3 (hl2Pack _ (by omega) (by omega)) rfl rfl rfl (fun q1 x q1a q1b ⟨o, hx, ht⟩ => ?_)
  subst hx
  obtain ⟨ps, ds, es, hen, hps, hds, hes⟩ := enc_own o
  have hpl : ps.length = o.p.length := by rw [hps, List.length_map]
  have hdl : ds.length = o.d.length := by rw [hds, List.length_map]
  have hel : es.length = o.b.length := by rw [hes, List.length_map]
  have hp8 := ht.p
  have hd8 := ht.d
  have hb8 := ht.b
  have he8 := ht.e
  have he16 : ∀ l ∈ o.d, l.length ≤ 16 := fun l hl => by have := he8 l hl; omega
  have hP2 : ∀ a b, A.sl true 1 (Ω.take (Ω.plus (Ω.len ps) (Ω.len [str a, str b])) (Ω.app (Ω.take (Ω.len ps) ps) [str a, str b])) = .sl true 1 ((o.p ++ [a, b]).map str) := fun a b => by rw [tka hΩ, hps, List.map_append]; rfl
  have hD2 : ∀ (X : A) (l : List Trm), X = encTs true l → A.sl true 1 (Ω.take (Ω.plus (Ω.len ds) (Ω.len [X])) (Ω.app (Ω.take (Ω.len ds) ds) [X])) = .sl true 1 ((o.d ++ [l]).map (encTs true)) := fun X l h => by rw [tka hΩ, hds, List.map_append, h]; rfl
  have hD3 : fitA 2 (A.sl true 1 (Ω.take (Ω.plus (Ω.len ds) (Ω.len [.nil])) (Ω.app (Ω.take (Ω.len ds) ds) [.nil]))) (.sl true 1 ((o.d ++ [[]]).map (encTs true))) := by
    rw [tka hΩ, hds, List.map_append]
    exact ⟨rfl, rfl, fitL_snoc (k := 1) (x := .nil) (y := encTs true []) rfl (fits _)⟩
  have hE2 : ∀ (t : Trm), A.sl true 7 (Ω.take (Ω.plus (Ω.len es) (Ω.len [t.enc])) (Ω.app (Ω.take (Ω.len es) es) [t.enc])) = .sl true 7 ((o.b ++ [t]).map Trm.enc) := fun t => by rw [tka hΩ, hes, List.map_append]; rfl
  have he17 : ∀ l : List Trm, l.length ≤ 16 → ∀ l' ∈ o.d ++ [l], l'.length ≤ 16 := fun l h l' hl => by
    rcases List.mem_append.1 hl with h1 | h1
    · exact he16 _ h1
    · rw [List.mem_singleton.1 h1]; exact h
  have hXp : A.sl true 1 (Ω.take (Ω.len ps) ps) = .sl true 1 (o.p.map str) := by rw [tkl hΩ, hps]
  have hXd : A.sl true 1 (Ω.take (Ω.len ds) ds) = .sl true 1 (o.d.map (encTs true)) := by rw [tkl hΩ, hds]
  have hXe : A.sl true 7 (Ω.take (Ω.len es) es) = .sl true 7 (o.b.map Trm.enc) := by rw [tkl hΩ, hes]
  have hlp : Ω.len ps = o.p.length := by subst hΩ; exact hpl
  have hld : Ω.len ds = o.d.length := by subst hΩ; exact hdl
  have hle : Ω.len es = o.b.length := by subst hΩ; exact hel
  rw [hen]
  cbv
  refine call_dr false hΩ 3 (hN _ 24 (by omega) (by omega) (by omega)) rfl rfl rfl (fun q2 x q2a q2b ⟨sw, hx, hsw⟩ => ?_)
  subst hx
  cbv
  refine br (fun hs => ?_) (fun hs => ?_) <;> cbv
  · refine call_dr false hΩ 3 (hl1BentName _ (by omega) (by omega)) rfl rfl rfl (fun q3 x q3a q3b ⟨nm, hx⟩ => ?_)
    subst hx
    cbv
    exact ⟨⟨rfl, by subst hΩ; exact Nat.le_refl _⟩, ⟨rfl, by subst hΩ; exact Nat.le_refl _⟩, ⟨rfl, by subst hΩ; exact Nat.le_refl _⟩, _, _, fit_pack (o := ⟨nm, o.v, o.s, o.p, o.d, o.b⟩) (.inl hXp) (.inl hXd) (.inl hXe), .same, ⟨q3, by omega, by omega, rfl, _, rfl, ⟨by show o.p.length ≤ 16; omega, by show o.d.length ≤ 16; omega, by show o.b.length ≤ 16; omega, he16⟩⟩, rfl⟩
  refine br (fun hs => ?_) (fun hs => ?_) <;> cbv
  · refine call_dr false hΩ 3 (hl1BentVersion _ (by omega) (by omega)) rfl rfl rfl (fun q3 x q3a q3b ⟨v, hx⟩ => ?_)
    obtain ⟨va, vb, vc⟩ := v
    subst hx
    cbv
    exact ⟨⟨rfl, by subst hΩ; exact Nat.le_refl _⟩, ⟨rfl, by subst hΩ; exact Nat.le_refl _⟩, ⟨rfl, by subst hΩ; exact Nat.le_refl _⟩, _, _, fit_pack (o := ⟨o.n, ⟨va, vb, vc⟩, o.s, o.p, o.d, o.b⟩) (.inl hXp) (.inl hXd) (.inl hXe), .same, ⟨q3, by omega, by omega, rfl, _, rfl, ⟨by show o.p.length ≤ 16; omega, by show o.d.length ≤ 16; omega, by show o.b.length ≤ 16; omega, he16⟩⟩, rfl⟩
  refine br (fun hs => ?_) (fun hs => ?_) <;> cbv
  · refine call_pick (ns := [0, 200, 201]) hΩ (hP _ _ (by omega) (by omega) (Nat.zero_lt_succ _) (Nat.le_of_ble_eq_true rfl)) rfl rfl rfl rfl (by decide) (fun q3 sz q3a q3b hsz => ?_)
    cbv
    exact ⟨⟨rfl, by subst hΩ; exact Nat.le_refl _⟩, ⟨rfl, by subst hΩ; exact Nat.le_refl _⟩, ⟨rfl, by subst hΩ; exact Nat.le_refl _⟩, _, _, fit_pack (o := ⟨o.n, o.v, sz, o.p, o.d, o.b⟩) (.inl hXp) (.inl hXd) (.inl hXe), .same, ⟨q3, by omega, by omega, rfl, _, rfl, ⟨by show o.p.length ≤ 16; omega, by show o.d.length ≤ 16; omega, by show o.b.length ≤ 16; omega, he16⟩⟩, rfl⟩
  refine br (fun hs => ?_) (fun hs => ?_) <;> cbv
  · refine ⟨VC_lent htab hΩ hmo [0, 1, 4, 5] [2, 3, 6] [7, 8, 9] [5, 2, 3, 4] [3, 27] (by kernel_rfl) ?_⟩
    cbv
    intro vs
    cbv
    refine call_dr false hΩ 3 (hl1BentName _ (by omega) (by omega)) rfl rfl rfl (fun q3 x q3a q3b ⟨nm, hx⟩ => ?_)
    subst hx
    cbv
    exact ⟨⟨rfl, okAll rfl, by show (Ω.len ps + 2) * 16 ≤ _; rw [hlp]; omega, by show Ω.len ps + 2 ≤ 9223372036854775807; rw [hlp]; omega⟩, ⟨rfl, by subst hΩ; show ps.length + _ ≤ (List.take ps.length ps ++ _).length; rw [List.take_length, List.length_append]; exact Nat.le_refl _⟩, ⟨rfl, by subst hΩ; exact Nat.le_refl _⟩, ⟨rfl, by subst hΩ; exact Nat.le_refl _⟩, _, _, fit_pack (o := ⟨o.n, o.v, o.s, o.p ++ [nm, o.n], o.d, o.b⟩) (.inl (hP2 nm o.n)) (.inl hXd) (.inl hXe), .same, ⟨q3, by omega, by omega, rfl, _, rfl, ⟨by show (o.p ++ [nm, o.n]).length ≤ 16; simp; omega, by show o.d.length ≤ 16; omega, by show o.b.length ≤ 16; omega, he16⟩⟩, rfl⟩
  refine br (fun hs => ?_) (fun hs => ?_) <;> cbv
  · exact ⟨⟨rfl, okAll rfl, by show (Ω.len ds + 1) * 24 ≤ _; rw [hld]; omega, by show Ω.len ds + 1 ≤ 9223372036854775807; rw [hld]; omega⟩, ⟨rfl, by subst hΩ; exact Nat.le_refl _⟩, ⟨rfl, by subst hΩ; show ds.length + _ ≤ (List.take ds.length ds ++ _).length; rw [List.take_length, List.length_append]; exact Nat.le_refl _⟩, ⟨rfl, by subst hΩ; exact Nat.le_refl _⟩, _, _, fit_pack (o := ⟨o.n, o.v, o.s, o.p, o.d ++ [[]], o.b⟩) (.inl hXp) (.inr (.inr hD3)) (.inl hXe), .same, ⟨q2, by omega, by omega, rfl, _, rfl, ⟨by show o.p.length ≤ 16; omega, by show (o.d ++ [[]]).length ≤ 16; simp; omega, by show o.b.length ≤ 16; omega, he17 [] (by simp)⟩⟩, rfl⟩
  refine br (fun hs => ?_) (fun hs => ?_) <;> cbv
  · refine ⟨VC_lent htab hΩ hmo [0, 1, 4] [2, 3, 5, 6, 7] [8, 9, 10] [5, 2, 3, 4] [3, 45] (by kernel_rfl) ?_⟩
    cbv
    intro vs
    cbv
    refine call_dr false hΩ 3 (hl1BentTerm _ (by omega) (by omega)) rfl rfl rfl (fun q3 x q3a q3b ⟨t1, hx⟩ => ?_)
    obtain ⟨t1n, ⟨t1a, t1b, t1c⟩, ⟨t1d, t1e, t1f⟩⟩ := t1
    subst hx
    cbv
    refine call_dr false hΩ 3 (hl1BentTerm _ (by omega) (by omega)) rfl rfl rfl (fun q4 x q4a q4b ⟨t2, hx⟩ => ?_)
    obtain ⟨t2n, ⟨t2a, t2b, t2c⟩, ⟨t2d, t2e, t2f⟩⟩ := t2
    subst hx
    cbv
    exact ⟨⟨rfl, by subst hΩ; exact Nat.le_refl _⟩, ⟨rfl, okAll rfl, by show (Ω.len ds + 1) * 24 ≤ _; rw [hld]; omega, by show Ω.len ds + 1 ≤ 9223372036854775807; rw [hld]; omega⟩, ⟨rfl, by subst hΩ; exact Nat.le_refl _⟩, ⟨rfl, by subst hΩ; show ds.length + _ ≤ (List.take ds.length ds ++ _).length; rw [List.take_length, List.length_append]; exact Nat.le_refl _⟩, ⟨rfl, by subst hΩ; exact Nat.le_refl _⟩, _, _, fit_pack (o := ⟨o.n, o.v, o.s, o.p, o.d ++ [[(⟨t1n, ⟨t1a, t1b, t1c⟩, ⟨t1d, t1e, t1f⟩⟩ : Trm), (⟨t2n, ⟨t2a, t2b, t2c⟩, ⟨t2d, t2e, t2f⟩⟩ : Trm)]], o.b⟩) (.inl hXp) (.inl (hD2 _ [(⟨t1n, ⟨t1a, t1b, t1c⟩, ⟨t1d, t1e, t1f⟩⟩ : Trm), (⟨t2n, ⟨t2a, t2b, t2c⟩, ⟨t2d, t2e, t2f⟩⟩ : Trm)] (by subst hΩ; rfl))) (.inl hXe), .same, ⟨q4, by omega, by omega, rfl, _, rfl, ⟨by show o.p.length ≤ 16; omega, by show (o.d ++ [_]).length ≤ 16; simp; omega, by show o.b.length ≤ 16; omega, he17 _ (Nat.le_of_ble_eq_true rfl)⟩⟩, rfl⟩
  refine br (fun hs => ?_) (fun hs => ?_) <;> cbv
  · refine ⟨VC_lent htab hΩ hmo [0, 1] [2, 3, 4] [5, 6, 7] [5, 2, 3, 4] [3, 57] (by kernel_rfl) ?_⟩
    cbv
    intro vs
    cbv
    refine call_dr false hΩ 3 (hl1BentTerm _ (by omega) (by omega)) rfl rfl rfl (fun q3 x q3a q3b ⟨t1, hx⟩ => ?_)
    obtain ⟨t1n, ⟨t1a, t1b, t1c⟩, ⟨t1d, t1e, t1f⟩⟩ := t1
    subst hx
    cbv
    exact ⟨⟨rfl, okAll rfl, by show (Ω.len es + 1) * 64 ≤ _; rw [hle]; omega, by show Ω.len es + 1 ≤ 9223372036854775807; rw [hle]; omega⟩, ⟨rfl, by subst hΩ; exact Nat.le_refl _⟩, ⟨rfl, by subst hΩ; exact Nat.le_refl _⟩, ⟨rfl, by subst hΩ; show es.length + _ ≤ (List.take es.length es ++ _).length; rw [List.take_length, List.length_append]; exact Nat.le_refl _⟩, _, _, fit_pack (o := ⟨o.n, o.v, o.s, o.p, o.d, o.b ++ [(⟨t1n, ⟨t1a, t1b, t1c⟩, ⟨t1d, t1e, t1f⟩⟩ : Trm)]⟩) (.inl hXp) (.inl hXd) (.inl (hE2 (⟨t1n, ⟨t1a, t1b, t1c⟩, ⟨t1d, t1e, t1f⟩⟩ : Trm))), .same, ⟨q3, by omega, by omega, rfl, _, rfl, ⟨by show o.p.length ≤ 16; omega, by show o.d.length ≤ 16; omega, by show (o.b ++ [_]).length ≤ 16; simp; omega, he16⟩⟩, rfl⟩
  refine br (fun hs => ?_) (fun hs => ?_) <;> cbv
  · exact ⟨⟨rfl, by decide, by decide, by decide⟩, ⟨rfl, by subst hΩ; exact Nat.le_refl _⟩, ⟨rfl, by subst hΩ; exact Nat.le_refl _⟩, ⟨rfl, by subst hΩ; exact Nat.le_refl _⟩, _, _, fit_pack (o := ⟨o.n, o.v, o.s, o.p, o.d, (List.replicate 5 Trm.zero)⟩) (.inl hXp) (.inl hXd) (.inl (by subst hΩ; rfl)), .same, ⟨q2, by omega, by omega, rfl, _, rfl, ⟨by show o.p.length ≤ 16; omega, by show o.d.length ≤ 16; omega, Nat.le_of_ble_eq_true rfl, he16⟩⟩, rfl⟩
  refine br (fun hs => ?_) (fun hs => ?_) <;> cbv
  · refine ⟨VC_lent htab hΩ hmo [0, 1] [2, 3] [4, 5, 6] [5, 2, 3, 4] [3, 70] (by kernel_rfl) ?_⟩
    cbv
    intro vs
    cbv
    exact ⟨⟨rfl, by decide, by decide, by decide⟩, ⟨rfl, by subst hΩ; exact Nat.le_refl _⟩, ⟨rfl, okAll rfl, by show (Ω.len ds + 1) * 24 ≤ _; rw [hld]; omega, by show Ω.len ds + 1 ≤ 9223372036854775807; rw [hld]; omega⟩, ⟨rfl, by subst hΩ; exact Nat.le_refl _⟩, ⟨rfl, by subst hΩ; show ds.length + _ ≤ (List.take ds.length ds ++ _).length; rw [List.take_length, List.length_append]; exact Nat.le_refl _⟩, ⟨rfl, by subst hΩ; exact Nat.le_refl _⟩, _, _, fit_pack (o := ⟨o.n, o.v, o.s, o.p, o.d ++ [(List.replicate 5 Trm.zero)], o.b⟩) (.inl hXp) (.inl (hD2 _ (List.replicate 5 Trm.zero) (by subst hΩ; rfl))) (.inl hXe), .same, ⟨q2, by omega, by omega, rfl, _, rfl, ⟨by show o.p.length ≤ 16; omega, by show (o.d ++ [_]).length ≤ 16; simp; omega, by show o.b.length ≤ 16; omega, he17 _ (Nat.le_of_ble_eq_true rfl)⟩⟩, rfl⟩
  exact ⟨⟨rfl, by subst hΩ; exact Nat.le_refl _⟩, ⟨rfl, by subst hΩ; exact Nat.le_refl _⟩, ⟨rfl, by subst hΩ; exact Nat.le_refl _⟩, _, _, fit_pack (o := o) (.inl hXp) (.inl hXd) (.inl hXe), .same, ⟨q2, by omega, by omega, rfl, _, rfl, ⟨by show o.p.length ≤ 16; omega, by show o.d.length ≤ 16; omega, by show o.b.length ≤ 16; omega, he16⟩⟩, rfl⟩
end Go.Proofs.YtfmcncflooechaaGreatDoor

/- Walks: draws of catalogs. Plain theorems. -/
set_option linter.unusedVariables false
set_option linter.unusedSimpArgs false
namespace Go.Proofs.YtfmcncflooechaaGreatDoor
open Go Go.Fw
set_option maxRecDepth 100000
theorem frz_encP (o : Pck) : fzA true (o.enc true) = o.enc false := frz_Pck o
theorem encF (o : Pck) : frz (o.enc false) = o.enc false := by
  show frz (.agg _) = A.agg _
  rw [frz_agg]
  have h1 : (o.p.map str).map frz = o.p.map str := by rw [List.map_map]; exact List.map_congr_left fun c _ => rfl
  have h2 : (o.d.map (encTs false)).map frz = o.d.map (encTs false) := by
    rw [List.map_map]
    refine List.map_congr_left fun c _ => ?_
    show frz (A.sl false 7 _) = A.sl false 7 _
    rw [frz_sl, List.map_map]; rfl
  have h3 : (o.b.map Trm.enc).map frz = o.b.map Trm.enc := by rw [List.map_map]; exact List.map_congr_left fun c _ => rfl
  simp only [Pck.cells, List.map_cons, List.map_nil, frz_sl, h1, h2, h3]
  rfl
theorem fitL_rep {k : Nat} {x y : A} (h : fitA k x y) : ∀ n : Nat, fitA.fitL k (List.replicate n x) (List.replicate n y)
  | 0 => trivial
  | n + 1 => ⟨h, fitL_rep h n⟩
theorem fit25 {Ω : Opq} (hΩ : Ω = std) : FitX (.sl true 8 (Ω.take (Ω.nat 25) (Ω.rep (Ω.nat 25) (.agg [str [], i64 0, i64 0, i64 0, i64 0, .nil, .nil, .nil])))) (.sl true 8 ((List.replicate 25 (⟨[], Ver.zero, 0, [], [], []⟩ : Pck)).map (Pck.enc false))) := by
  subst hΩ
  refine ⟨3, rfl, rfl, ?_⟩
  show fitA.fitL 2 (List.take 25 (List.replicate 25 _)) _
  rw [List.take_of_length_le (by simp), List.map_replicate]
  exact fitL_rep (k := 2) (x := .agg [str [], i64 0, i64 0, i64 0, i64 0, .nil, .nil, .nil]) (y := .agg [str [], i64 0, i64 0, i64 0, i64 0, .sl false 1 [], .sl false 1 [], .sl false 7 []]) ⟨rfl, rfl, rfl, rfl, rfl, rfl, rfl, rfl, trivial⟩ 25
theorem encP_frz (l : List Pck) : (l.map (Pck.enc false)).map frz = l.map (Pck.enc false) := by rw [List.map_map]; exact List.map_congr_left fun o _ => encF o
theorem d_l2Catalog {bs : List A} (hb : Src bs) (p : Int) (h0 : 0 ≤ p) (h1 : p + 900 ≤ 1099511627776) : XCtr PP n_spec_l2Catalog [src bs p] (DR bs p 900 [] fun x => ∃ l : List Pck, x = .sl true 8 (l.map (Pck.enc false)) ∧ (∀ o ∈ l, o.Small) ∧ l.length ≤ 40) := by
  obtain ⟨Ω, hΩ⟩ : ∃ Ω, Ω = std := ⟨_, rfl⟩
  have hfd : ∀ l : List Pck, l.length ≤ 1048576 → ∀ (n : List UInt8) (v : Ver), ∃ r, PCtr PP n_spec_l2Find [encP l, str n, v.enc] (i64 r) := fun l h n v => ⟨_, c_l2Find l n v h⟩
  unfold encP at hfd
  have hN := fun p n a b c => d_l1Next hb p n a b c
  have hP := fun p ns a b c d => d_l1Pick hb p ns a b c d
  have hl2Pack := fun p a b => d_l2Pack hb p a b
  have hl2BentPack := fun p a b => d_l2BentPack hb p a b
  have htab := tab
  have hmo := hmo
  refine XCtr.walkO tab hΩ 3 fn_spec_l2Catalog rfl rfl ?_
  generalize PP = P at *
  cbv
  refine call_dr false hΩ 3 (hN _ 12 (by omega) (by omega) (by omega)) rfl rfl rfl (fun q1 x q1a q1b ⟨r7, hx, hr7⟩ => ?_)
  subst hx
  cbv
  refine call_pick (ns := [3, 4, 5, 6, 7, 8, r7]) hΩ (hP _ _ (by omega) (by omega) (Nat.zero_lt_succ _) (Nat.le_of_ble_eq_true rfl)) rfl rfl rfl rfl (by decide) (fun q2 n q2a q2b hn => ?_)
  replace hn : 0 ≤ n ∧ n ≤ 11 := by
    have := hr7.2 (by omega)
    simp at hn
    omega
  cbv
  obtain ⟨F, hF⟩ : ∃ F : List Pck → List A, F = fun l => l.map (Pck.enc false) := ⟨_, rfl⟩
  have hF0 : F [] = [] := by rw [hF]; rfl
  have hFl : ∀ l, (F l).length = l.length := fun l => by rw [hF]; exact List.length_map _
  have hFz : ∀ l, (F l).map frz = F l := fun l => by rw [hF]; exact encP_frz l
  have hFs : ∀ (l : List Pck) (o : Pck), Ω.app (Ω.take l.length (F l)) [o.enc false] = F (l ++ [o]) := fun l o => by
    subst hΩ; rw [hF]; show List.take l.length (List.map (Pck.enc false) l) ++ _ = List.map (Pck.enc false) (l ++ [o])
    rw [List.map_append, List.take_of_length_le (by simp)]; rfl
  have hFm : ∀ l, F l = l.map (Pck.enc false) := fun l => by rw [hF]
  clear hF
  replace hfd : ∀ l : List Pck, l.length ≤ 1048576 → ∀ (n : List UInt8) (v : Ver), ∃ r, PCtr P n_spec_l2Find [.sl false 8 (F l), str n, v.enc] (i64 r) := fun l h n v => by rw [hFm]; exact hfd l h n v
  refine loopX htab hΩ (fun i : Int × Int × List Pck => ⟨[(0, .pt 0 0 0), (3, .vw 1 0 i.2.2.length), (4, i64 i.1), (53, .pt 0 0 0)], 53, [some ⟨2, [.agg [.sl false 1 bs, i64 i.2.1]], true⟩, some ⟨8, F i.2.2, false⟩]⟩)
    (fun i => 0 ≤ i.1 ∧ i.1 ≤ 11 ∧ p ≤ i.2.1 ∧ i.2.1 + 60 * i.1 ≤ p + 700 ∧ (i.2.2.length : Int) + i.1 ≤ 11 ∧ ∀ o ∈ i.2.2, o.Small) (fun i => i.1.toNat) (n, q2, [])
    ⟨by dsimp only; omega, by dsimp only; omega, by dsimp only; omega, by dsimp only; omega, by show ((0 : Nat) : Int) + n ≤ 11; omega, by simp⟩ ((Sbs.cut 2 rfl).trans (Sbs.mk rfl (by show _ = [_, some (Row.mk 8 (F []) false)]; rw [hF0]; rfl) ⟨rfl, rfl, rfl, rfl, trivial⟩)) ?_
  rintro ⟨k, q, l⟩ ⟨i1, i2, i3, i4, i5, i6⟩
  dsimp only at i1 i2 i3 i4 i5 i6
  have hFli := hFl l
  have hFzi := hFz l
  obtain ⟨m, hm⟩ : ∃ m, l.length = m := ⟨_, rfl⟩
  have hfi := hfd l (by omega)
  have hrows : ∀ {R0 : Option Row} {X : A} {o : Pck}, X = o.enc false → [R0, some (Row.mk 8 (Ω.app (Ω.take m (F l)) [X]) false)] = [R0, some (Row.mk 8 (F (l ++ [o])) false)] := fun {R0 X o} h => by rw [h, ← hm, hFs]
  have hvw : ∀ {X : A} {o : Pck}, A.vw 1 0 (Ω.plus m (Ω.len [X])) = .vw 1 0 (l ++ [o]).length := fun {X o} => by subst hΩ; rw [List.length_append, hm]; rfl
  have hall : ∀ o : Pck, o.Small → ∀ o' ∈ l ++ [o], o'.Small := fun o h o' ho => by
    rcases List.mem_append.1 ho with h1 | h1
    · exact i6 o' h1
    · rw [List.mem_singleton.1 h1]; exact h
  have hFe : A.sl true 8 (Ω.take m (F l)) = .sl true 8 (l.map (Pck.enc false)) := by rw [← hFm, ← hm]; subst hΩ; exact congrArg _ (List.take_of_length_le (by rw [hFl]; exact Nat.le_refl _))
  have hlm : l.length ≤ 11 := by omega
  have h6 : (l.length : Int) + (k - 1) ≤ 11 := by omega
  have hl40 : ∀ o : Pck, (l ++ [o]).length ≤ 40 := fun o => by rw [List.length_append, List.length_singleton]; omega
  have hl41 : l.length ≤ 40 := by omega
  have hle1 : m ≤ (F l).length := by rw [hFl]; omega
  have hle2 : ∀ {X : A}, Ω.plus m (Ω.len [X]) ≤ (Ω.app (Ω.take m (F l)) [X]).length := fun {X} => by
    subst hΩ; show m + 1 ≤ (List.take m (F l) ++ [X]).length
    rw [List.take_of_length_le (by rw [hFl]; omega), List.length_append, hFl]; show m + 1 ≤ l.length + 1; omega
  have hFe2 : ∀ {X : A} {o : Pck}, X = o.enc false → A.sl true 8 (Ω.take (Ω.plus m (Ω.len [X])) (Ω.app (Ω.take m (F l)) [X])) = .sl true 8 ((l ++ [o]).map (Pck.enc false)) := fun {X o} h => by
    rw [h, ← hm, hFs, ← hFm]; subst hΩ; exact congrArg _ (List.take_of_length_le (by rw [hFl, List.length_append]; exact Nat.le_refl _))
  have hpos : 0 < Ω.int m → 0 < l.length := fun h => by subst hΩ; have h : (0 : Int) < (m : Int) := h; omega
  have hpos2 : 0 < Ω.int m → 0 < (m : Int) := fun h => by subst hΩ; exact h
  have hat : ∀ {o : Pck}, l[0]? = some o → (F l)[Ω.plus 0 (Ω.nat 0)]? = some (o.enc false) := fun {o} h => by
    subst hΩ; show (F l)[0]? = _; rw [hFm, List.getElem?_map, h]; rfl
  have h5 : ∀ o : Pck, ((l ++ [o]).length : Int) + (k - 1) ≤ 11 := fun o => by rw [List.length_append, List.length_singleton]; omega
  rw [hm] at hFli i5 hlm ⊢
  cbv
  refine br (fun hk => ?_) (fun hk => ?_) <;> cbv
  · have hk := gtI_t hΩ hk
    refine call_dr true hΩ 3 (hl2Pack _ (by omega) (by omega)) rfl rfl rfl (fun q3 x q3a q3b ⟨o, hx, ht⟩ => ?_)
    rw [show fzA true x = Pck.enc false o by rw [hx]; exact frz_encP o]
    clear hx
    obtain ⟨op, od, ob, oh, o1, o2, o3⟩ := enc_raw o
    rw [oh]
    cbv
    obtain ⟨fr, hfr⟩ := hfi o.n o.v
    refine call_pure hΩ 3 hfr (mapO3 (ro_vw rfl hFli.symm hFzi) rfl rfl) (fits _) rfl rfl ?_
    cbv
    refine br (fun hf => ?_) (fun hf => ?_) <;> cbv
    · exact ⟨⟨rfl, okAll rfl, by show (m + 1) * 120 ≤ 140737488355328; omega, by show m + 1 ≤ 9223372036854775807; omega⟩, (k - 1, q3, l ++ [o]), ⟨by dsimp only; omega, by dsimp only; omega, by dsimp only; omega, by dsimp only; omega, h5 o, hall o ht.two.small⟩, by dsimp only; omega, (Sbs.cut 2 rfl).trans (Sbs.mk rfl (hrows oh.symm) ⟨rfl, hvw, decI hΩ (by omega) (by omega), rfl, trivial⟩)⟩
    · exact ⟨(k - 1, q3, l), ⟨by dsimp only; omega, by dsimp only; omega, by dsimp only; omega, by dsimp only; omega, h6, i6⟩, by dsimp only; omega, (Sbs.cut 2 rfl).trans (Sbs.mk rfl rfl ⟨rfl, congrArg (A.vw 1 0) hm.symm, decI hΩ (by omega) (by omega), rfl, trivial⟩)⟩
  · have hk := gtI_f hΩ hk
    refine call_dr false hΩ 3 (hN _ 40 (by omega) (by omega) (by omega)) rfl rfl rfl (fun q3 x q3a q3b ⟨sw, hx, hsw⟩ => ?_)
    subst hx
    cbv
    refine br (fun hs => ?_) (fun hs => ?_) <;> cbv
    · refine call_dr true hΩ 3 (hl2BentPack _ (by omega) (by omega)) rfl rfl rfl (fun q4 x q4a q4b ⟨o, hx, ht⟩ => ?_)
      rw [show fzA true x = Pck.enc false o by rw [hx]; exact frz_encP o]
      clear hx
      obtain ⟨op, od, ob, oh, o1, o2, o3⟩ := enc_raw o
      rw [oh]
      cbv
      exact ⟨⟨rfl, okAll rfl, by show (m + 1) * 120 ≤ 140737488355328; omega, by show m + 1 ≤ 9223372036854775807; omega⟩, ⟨rfl, hle2⟩, _, _, .of (hFe2 oh.symm), .same, ⟨q4, by omega, by omega, rfl, l ++ [o], rfl, hall o ht.small, hl40 o⟩, rfl⟩
    refine br (fun hs => ?_) (fun hs => ?_) <;> cbv
    · refine br (fun hz => ?_) (fun hz => ?_) <;> cbv
      · have hz := gtI_t hΩ hz
        obtain ⟨o, ho⟩ := at_of (cs := l) (i := 0) (hpos hz)
        obtain ⟨op, od, ob, oh, o1, o2, o3⟩ := enc_raw o
        refine ⟨⟨Int.le_refl _, hpos2 hz⟩, _, (hat ho).trans (congrArg some oh), ?_⟩
        cbv
        exact ⟨⟨rfl, okAll rfl, by show (m + 1) * 120 ≤ 140737488355328; omega, by show m + 1 ≤ 9223372036854775807; omega⟩, ⟨rfl, hle2⟩, _, _, .of (hFe2 oh.symm), .same, ⟨q3, by omega, by omega, rfl, l ++ [o], rfl, hall o (i6 o (List.mem_of_getElem? ho)), hl40 o⟩, rfl⟩
      · exact ⟨⟨rfl, hle1⟩, _, _, .of hFe, .same, ⟨q3, by omega, by omega, rfl, l, rfl, i6, hl41⟩, rfl⟩
    refine br (fun hs => ?_) (fun hs => ?_) <;> cbv
    · exact ⟨⟨rfl, by decide, by decide, by decide⟩, ⟨rfl, by subst hΩ; exact Nat.le_refl _⟩, _, _, fit25 hΩ, .same, ⟨q3, by omega, by omega, rfl, List.replicate 25 ⟨[], Ver.zero, 0, [], [], []⟩, rfl, fun o ho => by rw [(List.mem_replicate.1 ho).2]; exact ⟨by decide, by decide, by decide, by simp⟩, by decide⟩, rfl⟩
    exact ⟨⟨rfl, hle1⟩, _, _, .of hFe, .same, ⟨q3, by omega, by omega, rfl, l, rfl, i6, hl41⟩, rfl⟩
end Go.Proofs.YtfmcncflooechaaGreatDoor

/- Walks: faults of a set. Plain theorems. -/
set_option linter.unusedVariables false
set_option linter.unusedSimpArgs false
namespace Go.Proofs.YtfmcncflooechaaGreatDoor
open Go Go.Fw
set_option maxRecDepth 100000
structure Flt where
  k : Int
  p : Int
  a : Int
def Flt.enc (f : Flt) : A := .agg [i64 f.k, i64 f.p, i64 f.a]
def twB (c : List Pck) (s : List Int) (i : Nat) (n : List UInt8) : Bool := (s.take i).any fun j => (pk c j).n == n
def metB (c : List Pck) (s : List Int) (l : List Trm) : Bool := s.any fun o => l.any (givesB (pk c o))
def givB (c : List Pck) (s : List Int) (k : Int) (t : Trm) : Bool := s.any fun o => !decide (o = k) && givesB (pk c o) t
def nF (c : List Pck) (s : List Int) (k : Int) : Nat → List (List Trm) → List Flt
  | _, [] => []
  | j, l :: ls => (if metB c s l then [] else [⟨2, k, (j : Int)⟩]) ++ nF c s k (j + 1) ls
def bF (c : List Pck) (s : List Int) (k : Int) : Nat → List Trm → List Flt
  | _, [] => []
  | j, t :: ts => (if givB c s k t then [⟨3, k, (j : Int)⟩] else []) ++ bF c s k (j + 1) ts
def tF (c : List Pck) (s : List Int) (i : Nat) (k : Int) : List Flt := if twB c s i (pk c k).n then [⟨1, k, 0⟩] else []
def aF (c : List Pck) (s : List Int) : Nat → List Int → List Flt
  | _, [] => []
  | i, k :: ks => tF c s i k ++ (nF c s k 0 (pk c k).d ++ (bF c s k 0 (pk c k).b ++ aF c s (i + 1) ks))
/-- All faults of a set. -/
def fltS (c : List Pck) (s : List Int) : List Flt := aF c s 0 s
theorem nF_at {c : List Pck} {s : List Int} {k : Int} {d : List (List Trm)} {j : Nat} {l : List Trm} (h : d[j]? = some l) : nF c s k j (d.drop j) = (if metB c s l then [] else [⟨2, k, (j : Int)⟩]) ++ nF c s k (j + 1) (d.drop (j + 1)) := by
  obtain ⟨h1, h2⟩ := List.getElem?_eq_some_iff.1 h
  rw [List.drop_eq_getElem_cons h1, h2, nF]
theorem bF_at {c : List Pck} {s : List Int} {k : Int} {d : List Trm} {j : Nat} {l : Trm} (h : d[j]? = some l) : bF c s k j (d.drop j) = (if givB c s k l then [⟨3, k, (j : Int)⟩] else []) ++ bF c s k (j + 1) (d.drop (j + 1)) := by
  obtain ⟨h1, h2⟩ := List.getElem?_eq_some_iff.1 h
  rw [List.drop_eq_getElem_cons h1, h2, bF]
theorem aF_at {c : List Pck} {s l : List Int} {i : Nat} {k : Int} (h : l[i]? = some k) : aF c s i (l.drop i) = tF c s i k ++ (nF c s k 0 (pk c k).d ++ (bF c s k 0 (pk c k).b ++ aF c s (i + 1) (l.drop (i + 1)))) := by
  obtain ⟨h1, h2⟩ := List.getElem?_eq_some_iff.1 h
  rw [List.drop_eq_getElem_cons h1, h2, aF]
theorem nF_len (c : List Pck) (s : List Int) (k : Int) : ∀ (d : List (List Trm)) (j : Nat), (nF c s k j d).length ≤ d.length
  | [], _ => by simp [nF]
  | l :: d, j => by
    have := nF_len c s k d (j + 1)
    rw [nF, List.length_append, List.length_cons]
    split <;> simp <;> omega
theorem bF_len (c : List Pck) (s : List Int) (k : Int) : ∀ (d : List Trm) (j : Nat), (bF c s k j d).length ≤ d.length
  | [], _ => by simp [bF]
  | l :: d, j => by
    have := bF_len c s k d (j + 1)
    rw [bF, List.length_append, List.length_cons]
    split <;> simp <;> omega
theorem aF_len (c : List Pck) (s : List Int) : ∀ (l : List Int) (i : Nat), (∀ k ∈ l, (pk c k).d.length ≤ 1048576 ∧ (pk c k).b.length ≤ 1048576) → (aF c s i l).length ≤ l.length * 2097153
  | [], _, _ => by simp [aF]
  | k :: l, i, h => by
    have h1 := aF_len c s l (i + 1) fun x hx => h x (by simp [hx])
    have h2 := nF_len c s k (pk c k).d 0
    have h3 := bF_len c s k (pk c k).b 0
    have h4 := h k (by simp)
    have h5 : (tF c s i k).length ≤ 1 := by unfold tF; split <;> simp
    rw [aF, List.length_append, List.length_append, List.length_append, List.length_cons]
    omega
theorem fltS_len {c : List Pck} {s : List Int} (h : ∀ k ∈ s, (pk c k).d.length ≤ 1048576 ∧ (pk c k).b.length ≤ 1048576) (hs : s.length ≤ 1048576) : (fltS c s).length ≤ 2199024304128 := by
  have := aF_len c s s 0 h
  unfold fltS
  omega
theorem metB_eq {c : List Pck} {s : List Int} (h : ∀ k ∈ s, 0 ≤ k) (l : List Trm) : metB c s l = l.any (givB c s (-1)) := by
  unfold metB givB
  rw [Bool.eq_iff_iff]
  simp only [List.any_eq_true, Bool.and_eq_true, Bool.not_eq_true', decide_eq_false_iff_not]
  constructor
  · rintro ⟨o, ho, t, ht, hg⟩
    exact ⟨t, ht, o, ho, by have := h o ho; omega, hg⟩
  · rintro ⟨t, ht, o, ho, _, hg⟩
    exact ⟨o, ho, t, ht, hg⟩
theorem c_l3Given (l : List Pck) (s : List Int) (t : Trm) (but : Int) (hl : l.length ≤ 1048576) (hs : s.length ≤ 1048576) (ho : ∀ o ∈ l, o.Small) (hk : ∀ k ∈ s, inB k 0 ((l.length : Int) - 1) = true) : PCtr PP n_spec_l3Given [encP l, .sl false 1 (s.map i64), t.enc, i64 but] (boo (givB l s but t)) := by
  obtain ⟨Ω, hΩ⟩ : ∃ Ω, Ω = std := ⟨_, rfl⟩
  obtain ⟨r, hr⟩ : ∃ r, r = givB l s but t := ⟨_, rfl⟩
  rw [← hr]
  unfold givB at hr
  obtain ⟨xs, hxs⟩ : ∃ xs, xs = l.map (Pck.enc false) := ⟨_, rfl⟩
  have hlen : xs.length = l.length := by rw [hxs, List.length_map]
  obtain ⟨ys, hys⟩ : ∃ ys, ys = s.map i64 := ⟨_, rfl⟩
  have hylen : ys.length = s.length := by rw [hys, List.length_map]
  unfold encP at *
  rw [← hxs, ← hys]
  have hat : ∀ k ∈ s, 0 ≤ k ∧ ∃ n v1 v2 v3 sz ps ds bs, xs[k.toNat]? = some (.agg [str n, i64 v1, i64 v2, i64 v3, i64 sz, .sl false 1 ps, .sl false 1 ds, .sl false 7 bs]) ∧ PCtr PP n_spec_l2Gives [.agg [str n, i64 v1, i64 v2, i64 v3, i64 sz, .sl false 1 ps, .sl false 1 ds, .sl false 7 bs], t.enc] (boo (givesB (pk l k) t)) := fun k h => by
    obtain ⟨h0, h1, h2, h3⟩ := pk_at (hk k h)
    obtain ⟨ps, ds, bs, hen, -, -, -⟩ := enc_raw (pk l k)
    have := c_l2Gives (pk l k) t (by have := (ho _ h3).p; omega)
    rw [hen] at this
    exact ⟨h0, _, _, _, _, _, ps, ds, bs, by rw [hxs, List.getElem?_map, h2]; exact congrArg some hen, this⟩
  clear hk ho hxs
  have htab := tab
  have hmo := hmo
  refine PCtr.walk tab hΩ fn_spec_l3Given rfl ?_
  generalize PP = P at *
  cbv
  refine loopX htab hΩ (fun i : Nat => ⟨[(0, .sl false 8 xs), (1, .sl false 1 ys), (3, .sc (.int .i64 but)), (6, .pt 0 0 0), (9, .sc (.int .i64 (Ω.int i)))], 33, [some ⟨7, [t.enc], true⟩]⟩) (fun i => i ≤ s.length ∧ r = (s.drop i).any fun o => !decide (o = but) && givesB (pk l o) t) (fun i => s.length - i) 0
    ⟨Nat.zero_le _, hr⟩ (Sbs.mk rfl rfl ⟨rfl, rfl, rfl, rfl, zeroI hΩ, trivial⟩) ?_
  rintro i ⟨hi, he⟩
  cbv
  refine br (fun h => ?_) (fun h => ?_) <;> cbv
  · replace h := ltI hΩ h
    obtain ⟨c, hcc⟩ := at_of (cs := s) (by omega : i < s.length)
    rw [any_at _ hcc] at he
    obtain ⟨hc0, n, v1, v2, v3, sz, ps, ds, bs, hx, hg⟩ := hat c (List.mem_of_getElem? hcc)
    generalize givesB (pk l c) t = gb at hg he
    refine ⟨VC_drawn htab hΩ hmo (by kernel_rfl) ?_⟩
    cbv
    refine ⟨⟨nnI hΩ⟩, _, rdI hΩ hys hcc, ?_⟩
    cbv
    refine br (fun g => ?_) (fun g => ?_) <;> cbv
    · have g := neI_t hΩ g
      refine ⟨⟨nnI hΩ⟩, _, rdI hΩ hys hcc, ?_⟩
      cbv
      refine ⟨⟨hc0⟩, _, hx, ?_⟩
      cbv
      refine QCall_pure (k := 3) hg rfl (fits _) rfl ?_
      cbv
      refine br (fun h => ?_) (fun h => ?_) <;> cbv
      · have h : gb = true := by subst hΩ; exact h
        exact .of (congrArg boo (by rw [he, h, decide_eq_false g]; rfl))
      · have h : gb = false := by subst hΩ; exact h
        rw [h, Bool.and_false, Bool.false_or] at he
        exact ⟨i + 1, ⟨by omega, he⟩, by omega, Sbs.mk rfl rfl ⟨rfl, rfl, rfl, rfl, incI hΩ (by omega), trivial⟩⟩
    · have g := neI_f hΩ g
      rw [decide_eq_true g, Bool.not_true, Bool.false_and, Bool.false_or] at he
      exact ⟨i + 1, ⟨by omega, he⟩, by omega, Sbs.mk rfl rfl ⟨rfl, rfl, rfl, rfl, incI hΩ (by omega), trivial⟩⟩
  · replace h := geI hΩ h
    exact .of (congrArg boo (by rw [he, List.drop_of_length_le (by omega)]; rfl))
theorem c_l3Met (l : List Pck) (s : List Int) (d : List Trm) (hl : l.length ≤ 1048576) (hs : s.length ≤ 1048576) (hd : d.length ≤ 1048576) (ho : ∀ o ∈ l, o.Small) (hk : ∀ k ∈ s, inB k 0 ((l.length : Int) - 1) = true) : PCtr PP n_spec_l3Met [encP l, .sl false 1 (s.map i64), .sl false 7 (d.map Trm.enc)] (boo (metB l s d)) := by
  obtain ⟨Ω, hΩ⟩ : ∃ Ω, Ω = std := ⟨_, rfl⟩
  obtain ⟨r, hr⟩ : ∃ r, r = metB l s d := ⟨_, rfl⟩
  rw [← hr]
  rw [metB_eq (fun k h => (pk_at (hk k h)).1)] at hr
  obtain ⟨zs, hzs⟩ : ∃ zs, zs = d.map Trm.enc := ⟨_, rfl⟩
  have hlen : zs.length = d.length := by rw [hzs, List.length_map]
  rw [← hzs]
  have hg := fun t => c_l3Given l s t (-1) hl hs ho hk
  unfold encP at *
  generalize givB l s (-1) = G at *
  generalize l.map (Pck.enc false) = xs at *
  generalize s.map i64 = ys at *
  have htab := tab
  have hmo := hmo
  refine PCtr.walk tab hΩ fn_spec_l3Met rfl ?_
  generalize PP = P at *
  cbv
  refine loopX htab hΩ (fun i : Nat => ⟨[(0, .sl false 8 xs), (1, .sl false 1 ys), (2, .sl false 7 zs), (7, .sc (.int .i64 (Ω.int i)))], 21, []⟩) (fun i => i ≤ d.length ∧ r = (d.drop i).any G) (fun i => d.length - i) 0
    ⟨Nat.zero_le _, hr⟩ (Sbs.mk rfl rfl ⟨rfl, rfl, rfl, zeroI hΩ, trivial⟩) ?_
  rintro i ⟨hi, he⟩
  cbv
  refine br (fun h => ?_) (fun h => ?_) <;> cbv
  · replace h := ltI hΩ h
    obtain ⟨c, hcc⟩ := at_of (cs := d) (by omega : i < d.length)
    rw [any_at _ hcc] at he
    refine ⟨⟨nnI hΩ⟩, _, rdI hΩ hzs hcc, ?_⟩
    cbv
    refine call_pure hΩ 3 (hg c) rfl (fits _) rfl rfl ?_
    cbv
    refine br (fun g => ?_) (fun g => ?_) <;> cbv
    · exact .of (congrArg boo (by rw [he, show G c = true from g]; rfl))
    · rw [show G c = false from g, Bool.false_or] at he
      exact ⟨i + 1, ⟨by omega, he⟩, by omega, Sbs.mk rfl rfl ⟨rfl, rfl, rfl, incI hΩ (by omega), trivial⟩⟩
  · replace h := geI hΩ h
    exact .of (congrArg boo (by rw [he, List.drop_of_length_le (by omega)]; rfl))
/-- The place of the package of a name. -/
def nmF (c : List Pck) (n : List UInt8) : List Int → Int
  | [] => -1
  | k :: ks => if (pk c k).n == n then k else nmF c n ks
theorem nmF_at {c : List Pck} {n : List UInt8} {l : List Int} {i : Nat} {k : Int} (h : l[i]? = some k) : nmF c n (l.drop i) = if (pk c k).n == n then k else nmF c n (l.drop (i + 1)) := by
  obtain ⟨h1, h2⟩ := List.getElem?_eq_some_iff.1 h
  rw [List.drop_eq_getElem_cons h1, h2, nmF]
theorem c_l3Faults (l : List Pck) (s : List Int) (hl : l.length ≤ 1048576) (hs : s.length ≤ 1048576) (ho : ∀ o ∈ l, o.Small) (hk : ∀ k ∈ s, inB k 0 ((l.length : Int) - 1) = true) : PCtr PP n_spec_l3Faults [encP l, .sl false 1 (s.map i64)] (.sl true 3 ((fltS l s).map Flt.enc)) := by
  obtain ⟨Ω, hΩ⟩ : ∃ Ω, Ω = std := ⟨_, rfl⟩
  have hat : ∀ k, inB k 0 ((l.length : Int) - 1) = true → 0 ≤ k ∧ ∃ v1 v2 v3 sz ps ds bs, (l.map (Pck.enc false))[k.toNat]? = some (.agg [str (pk l k).n, i64 v1, i64 v2, i64 v3, i64 sz, .sl false 1 ps, .sl false 1 ds, .sl false 7 bs]) ∧ pk l k ∈ l ∧
      Pck.enc false (pk l k) = .agg [str (pk l k).n, i64 v1, i64 v2, i64 v3, i64 sz, .sl false 1 ps, .sl false 1 ds, .sl false 7 bs] ∧ ds = (pk l k).d.map (encTs false) ∧ bs = (pk l k).b.map Trm.enc := fun k h => by
    obtain ⟨h0, h1, h2, h3⟩ := pk_at h
    obtain ⟨ps, ds, bs, hen, hp, hd, hb⟩ := enc_raw (pk l k)
    exact ⟨h0, _, _, _, _, ps, ds, bs, by rw [List.getElem?_map, h2]; exact congrArg some hen, h3, hen, hd, hb⟩
  obtain ⟨tot, htot⟩ : ∃ tot, tot = fltS l s := ⟨_, rfl⟩
  have hb : tot.length ≤ 2199024304128 := by rw [htot]; exact fltS_len (fun k h => ⟨(ho _ (pk_at (hk k h)).2.2.2).d, (ho _ (pk_at (hk k h)).2.2.2).b⟩) hs
  rw [← htot]
  obtain ⟨e, he⟩ : ∃ e : List Flt → List A, e = List.map Flt.enc := ⟨_, rfl⟩
  have hel : ∀ o, (e o).length = o.length := fun o => by rw [he, List.length_map]
  have hea : ∀ o f, e (o ++ [f]) = e o ++ [f.enc] := fun o f => by rw [he, List.map_append]; rfl
  have he0 : e [] = [] := by rw [he]; rfl
  have hap : ∀ o f m, o.length = m → Ω.app (Ω.take m (e o)) [f.enc] = e (o ++ [f]) := fun o f m h => by
    rw [hea]
    subst hΩ
    show (e o).take m ++ [f.enc] = _
    rw [List.take_of_length_le (by rw [hel]; omega)]
  have hlp : ∀ (o : List Flt) (f : Flt) (x : A) m, o.length = m → Ω.plus m (Ω.len [x]) = (o ++ [f]).length := fun o f x m h => by
    rw [List.length_append, h]; subst hΩ; rfl
  rw [show List.map Flt.enc = e from he.symm]
  clear he
  obtain ⟨cs, hcs⟩ : ∃ cs, cs = l.map (Pck.enc false) := ⟨_, rfl⟩
  obtain ⟨xs, hxs⟩ : ∃ xs, xs = s.map i64 := ⟨_, rfl⟩
  have hxl : xs.length = s.length := by rw [hxs, List.length_map]
  have hmet : ∀ d : List Trm, d.length ≤ 1048576 → PCtr PP n_spec_l3Met [encP l, .sl false 1 xs, .sl false 7 (d.map Trm.enc)] (boo (metB l s d)) := fun d hd => by
    rw [hxs]
    exact c_l3Met l s d hl hs hd ho hk
  have hgiv : ∀ q t, PCtr PP n_spec_l3Given [encP l, .sl false 1 xs, t.enc, i64 q] (boo (givB l s q t)) := fun q t => by
    rw [hxs]
    exact c_l3Given l s t q hl hs ho hk
  unfold encP at *
  unfold fltS at htot
  rw [← hcs] at hat hmet hgiv ⊢
  rw [← hxs]
  have htab := tab
  have hmo := hmo
  refine PCtr.walk tab hΩ fn_spec_l3Faults rfl ?_
  generalize PP = P at *
  cbv
  refine loopX htab hΩ (fun i : Nat × List Flt => ⟨[(0, .sl false 8 cs), (1, .sl false 1 xs), (5, .vw 0 0 i.2.length), (6, .sc (.int .i64 (Ω.int i.1)))], 103,
      [some ⟨3, e i.2, false⟩]⟩) (fun i => i.1 ≤ s.length ∧ i.2 ++ aF l s i.1 (s.drop i.1) = tot) (fun i => s.length - i.1) (0, []) ⟨Nat.zero_le _, htot.symm⟩
    (Sbs.mk rfl (by dsimp only; rw [he0]) ⟨rfl, rfl, rfl, zeroI hΩ, trivial⟩) ?_
  rintro ⟨i, out⟩ ⟨hi, hout⟩
  dsimp only at hi hout
  dsimp only
  obtain ⟨m, hm⟩ : ∃ m, out.length = m := ⟨_, rfl⟩
  rw [hm]
  cbv
  refine br (fun h => ?_) (fun h => ?_) <;> cbv
  · replace h := ltI hΩ h
    obtain ⟨c, hcc⟩ := at_of (cs := s) (by omega : i < s.length)
    rw [aF_at hcc] at hout
    have hcin := hk c (List.mem_of_getElem? hcc)
    obtain ⟨hc0, v1, v2, v3, sz, ps, ds, bs, hx, hm2, hen, hds, hbs⟩ := hat c hcin
    have hdl : ds.length = (pk l c).d.length := by rw [hds, List.length_map]
    have hbl : bs.length = (pk l c).b.length := by rw [hbs, List.length_map]
    have hsm := ho _ hm2
    unfold tF at hout
    have hd1 := hsm.d
    have hd2 := hsm.e
    have hb1 := hsm.b
    generalize (pk l c).d = d at *
    generalize (pk l c).b = b at *
    generalize (pk l c).n = nn at *
    obtain ⟨tw, htw⟩ : ∃ tw, tw = twB l s i nn := ⟨_, rfl⟩
    rw [← htw] at hout
    unfold twB at htw
    refine ⟨⟨nnI hΩ⟩, _, rdI hΩ hxs hcc, ?_⟩
    cbv
    refine ⟨⟨hc0⟩, _, hx, ?_⟩
    cbv
    obtain ⟨rest, hrest⟩ : ∃ rest, rest = nF l s c 0 d ++ (bF l s c 0 b ++ aF l s (i + 1) (s.drop (i + 1))) := ⟨_, rfl⟩
    rw [← hrest] at hout
    have hml : tw = true → m + 1 ≤ 2199024304129 := fun _ => by
      have := congrArg List.length hout
      simp only [List.length_append] at this
      omega
    refine loopX htab hΩ (fun q : Nat => ⟨[(0, .sl false 8 cs), (1, .sl false 1 xs), (5, .vw 0 0 m), (6, .sc (.int .i64 (Ω.int i))), (7, .pt 1 0 0), (8, .sc (.int .i64 (Ω.int q)))], 103,
        [some ⟨3, e out, false⟩, some ⟨8, [.agg [str nn, i64 v1, i64 v2, i64 v3, i64 sz, .sl false 1 ps, .sl false 1 ds, .sl false 7 bs]], true⟩]⟩)
      (fun q => q ≤ i ∧ tw = ((s.take i).drop q).any fun j => (pk l j).n == nn) (fun q => i - q) 0 ⟨Nat.zero_le _, htw⟩ (Sbs.mk rfl rfl ⟨rfl, rfl, rfl, rfl, rfl, zeroI hΩ, trivial⟩) ?_
    rintro q ⟨hq, hqa⟩
    cbv
    refine br (fun g => ?_) (fun g => ?_) <;> cbv
    · replace g := ltN hΩ g
      obtain ⟨p, hpp⟩ := at_of (cs := s) (by omega : q < s.length)
      rw [any_at _ (show (s.take i)[q]? = some p by rw [List.getElem?_take_of_lt g]; exact hpp)] at hqa
      obtain ⟨hp0, w1, w2, w3, wz, ps', ds', bs', hx', -, -, -, -⟩ := hat p (hk p (List.mem_of_getElem? hpp))
      generalize (pk l p).n = n2 at hqa hx'
      refine ⟨VC_drawn htab hΩ hmo (by kernel_rfl) ?_⟩
      cbv
      refine ⟨⟨nnI hΩ⟩, _, rdI hΩ hxs hpp, ?_⟩
      cbv
      refine ⟨⟨hp0⟩, _, hx', ?_⟩
      cbv
      refine br (fun g2 => ?_) (fun g2 => ?_) <;> cbv
      · have g2 : tw = true := by rw [hqa, show (n2 == nn) = true by subst hΩ; exact g2]; rfl
        have hml := hml g2
        rw [g2, if_pos rfl, ← List.append_assoc] at hout
        refine ⟨⟨nnI hΩ⟩, _, rdI hΩ hxs hcc, ?_⟩
        cbv
        refine ⟨⟨rfl, okAll rfl, by show (m + 1) * 24 ≤ 140737488355328; omega, by show m + 1 ≤ 9223372036854775807; omega⟩, ?_⟩
        refine loopX htab hΩ (fun j : Nat × List Flt => ⟨[(0, .sl false 8 cs), (1, .sl false 1 xs), (5, .vw 0 0 j.2.length), (6, .sc (.int .i64 (Ω.int i))), (7, .pt 1 0 0), (9, .sc (.int .i64 (Ω.int j.1)))], 103, [some ⟨3, e j.2, false⟩, some ⟨8, [.agg [str nn, i64 v1, i64 v2, i64 v3, i64 sz, .sl false 1 ps, .sl false 1 ds, .sl false 7 bs]], true⟩]⟩) (fun j => j.1 ≤ d.length ∧ j.2 ++ (nF l s c j.1 (d.drop j.1) ++ (bF l s c 0 b ++ aF l s (i + 1) (s.drop (i + 1)))) = tot) (fun j => d.length - j.1) (0, out ++ [(⟨1, c, 0⟩ : Flt)]) ⟨Nat.zero_le _, by rw [hrest] at hout; exact hout⟩
          (Sbs.trans (Sbs.lastN (rows := [_, _]) rfl) (Sbs.mk rfl (by dsimp only; rw [← hap out ⟨1, c, 0⟩ m hm]; subst hΩ; rfl) ⟨rfl, rfl, congrArg (A.vw 0 0) (hlp out ⟨1, c, 0⟩ _ m hm), rfl, rfl, zeroI hΩ, trivial⟩)) ?_
        rintro ⟨j, o2⟩ ⟨hj, hj2⟩
        dsimp only at hj hj2
        dsimp only
        obtain ⟨m2, hm2⟩ : ∃ m2, o2.length = m2 := ⟨_, rfl⟩
        rw [hm2]
        cbv
        have hml2 : m2 ≤ 2199024304128 := by
          have := congrArg List.length hj2
          rw [List.length_append, hm2] at this
          omega
        refine br (fun h => ?_) (fun h => ?_) <;> cbv
        · replace h := ltI hΩ h
          obtain ⟨u, huu⟩ := at_of (cs := d) (by omega : j < d.length)
          rw [nF_at huu, List.append_assoc] at hj2
          have hc := hmet u (hd2 u (List.mem_of_getElem? huu))
          obtain ⟨us, hus⟩ : ∃ us, us = u.map Trm.enc := ⟨_, rfl⟩
          rw [← hus] at hc
          have hrd : ds[(Ω.int j).toNat]? = some (.sl false 7 us) := (rdI hΩ hds huu).trans (by rw [hus]; rfl)
          generalize metB l s u = gu at hc hj2
          refine ⟨⟨nnI hΩ⟩, _, hrd, ?_⟩
          cbv
          refine call_pure hΩ 3 hc rfl (fits _) rfl rfl ?_
          cbv
          refine br (fun g => ?_) (fun g => ?_) <;> cbv
          · have g : gu = false := notT' hΩ g
            rw [g, if_neg (by simp), ← List.append_assoc] at hj2
            refine ⟨⟨nnI hΩ⟩, _, rdI hΩ hxs hcc, ?_⟩
            cbv
            refine ⟨⟨rfl, okAll rfl, by show (m2 + 1) * 24 ≤ 140737488355328; omega, by show m2 + 1 ≤ 9223372036854775807; omega⟩, (j + 1, o2 ++ [⟨2, c, j⟩]), ⟨by dsimp only; omega, hj2⟩, by dsimp only; omega, ?_⟩
            exact Sbs.trans (Sbs.lastN (rows := [_, _]) rfl) (Sbs.mk rfl (by dsimp only; rw [← hap o2 ⟨2, c, j⟩ m2 hm2]; subst hΩ; rfl) ⟨rfl, rfl, congrArg (A.vw 0 0) (hlp o2 ⟨2, c, j⟩ _ m2 hm2), rfl, rfl, incI hΩ (by omega), trivial⟩)
          · have g : gu = true := notF' hΩ g
            rw [g] at hj2
            exact ⟨(j + 1, o2), ⟨by dsimp only; omega, hj2⟩, by dsimp only; omega, Sbs.mk rfl rfl ⟨rfl, rfl, congrArg (A.vw 0 0) hm2.symm, rfl, rfl, incI hΩ (by omega), trivial⟩⟩
        · replace h := geI hΩ h
          rw [List.drop_of_length_le (by omega : d.length ≤ j), nF, List.nil_append] at hj2
          obtain ⟨o1, m1, hm1, rfl⟩ : ∃ o1 m1, o1.length = m1 ∧ o1 = o2 := ⟨_, _, rfl, rfl⟩
          obtain rfl : m2 = m1 := hm2.symm.trans hm1
          clear hm2
          refine loopX htab hΩ (fun j : Nat × List Flt => ⟨[(0, .sl false 8 cs), (1, .sl false 1 xs), (5, .vw 0 0 j.2.length), (6, .sc (.int .i64 (Ω.int i))), (7, .pt 1 0 0), (10, .sc (.int .i64 (Ω.int j.1)))], 103, [some ⟨3, e j.2, false⟩, some ⟨8, [.agg [str nn, i64 v1, i64 v2, i64 v3, i64 sz, .sl false 1 ps, .sl false 1 ds, .sl false 7 bs]], true⟩]⟩) (fun j => j.1 ≤ b.length ∧ j.2 ++ (bF l s c j.1 (b.drop j.1) ++ aF l s (i + 1) (s.drop (i + 1))) = tot) (fun j => b.length - j.1) (0, o1) ⟨Nat.zero_le _, hj2⟩
            (Sbs.mk rfl rfl ⟨rfl, rfl, congrArg (A.vw 0 0) hm1.symm, rfl, rfl, zeroI hΩ, trivial⟩) ?_
          rintro ⟨j, o2⟩ ⟨hj, hj2⟩
          dsimp only at hj hj2
          dsimp only
          obtain ⟨m2, hm2⟩ : ∃ m2, o2.length = m2 := ⟨_, rfl⟩
          rw [hm2]
          cbv
          have hml2 : m2 ≤ 2199024304128 := by
            have := congrArg List.length hj2
            rw [List.length_append, hm2] at this
            omega
          refine br (fun h => ?_) (fun h => ?_) <;> cbv
          · replace h := ltI hΩ h
            obtain ⟨u, huu⟩ := at_of (cs := b) (by omega : j < b.length)
            rw [bF_at huu, List.append_assoc] at hj2
            have hc := hgiv c u
            generalize givB l s c u = gu at hc hj2
            refine ⟨VC_drawn htab hΩ hmo (by kernel_rfl) ?_⟩
            cbv
            refine ⟨⟨nnI hΩ⟩, _, rdI hΩ hbs huu, ?_⟩
            cbv
            refine ⟨⟨nnI hΩ⟩, _, rdI hΩ hxs hcc, ?_⟩
            cbv
            refine QCall_pure (k := 3) hc rfl (fits _) rfl ?_
            cbv
            refine br (fun g => ?_) (fun g => ?_) <;> cbv
            · have g : gu = true := g
              rw [g, if_pos rfl, ← List.append_assoc] at hj2
              refine ⟨⟨nnI hΩ⟩, _, rdI hΩ hxs hcc, ?_⟩
              cbv
              refine ⟨⟨rfl, okAll rfl, by show (m2 + 1) * 24 ≤ 140737488355328; omega, by show m2 + 1 ≤ 9223372036854775807; omega⟩, (j + 1, o2 ++ [⟨3, c, j⟩]), ⟨by dsimp only; omega, hj2⟩, by dsimp only; omega, ?_⟩
              exact Sbs.trans (Sbs.lastN (rows := [_, _]) rfl) (Sbs.mk rfl (by dsimp only; rw [← hap o2 ⟨3, c, j⟩ m2 hm2]; subst hΩ; rfl) ⟨rfl, rfl, congrArg (A.vw 0 0) (hlp o2 ⟨3, c, j⟩ _ m2 hm2), rfl, rfl, incI hΩ (by omega), trivial⟩)
            · have g : gu = false := g
              rw [g] at hj2
              exact ⟨(j + 1, o2), ⟨by dsimp only; omega, hj2⟩, by dsimp only; omega, Sbs.mk rfl rfl ⟨rfl, rfl, congrArg (A.vw 0 0) hm2.symm, rfl, rfl, incI hΩ (by omega), trivial⟩⟩
          · replace h := geI hΩ h
            rw [List.drop_of_length_le (by omega : b.length ≤ j), bF, List.nil_append] at hj2
            exact ⟨(i + 1, o2), ⟨by dsimp only; omega, hj2⟩, by dsimp only; omega, Sbs.mkL (rows := [_]) rfl rfl rfl ⟨rfl, rfl, congrArg (A.vw 0 0) hm2.symm, incI hΩ (by omega), trivial⟩⟩

      · rw [show (n2 == nn) = false by subst hΩ; exact g2, Bool.false_or] at hqa
        exact ⟨q + 1, ⟨by omega, hqa⟩, by omega, Sbs.mk rfl rfl ⟨rfl, rfl, rfl, rfl, rfl, incI hΩ (by omega), trivial⟩⟩
    · replace g := geN hΩ g
      rw [List.drop_of_length_le (by simp; omega), List.any_nil] at hqa
      rw [hqa] at hout
      refine loopX htab hΩ (fun j : Nat × List Flt => ⟨[(0, .sl false 8 cs), (1, .sl false 1 xs), (5, .vw 0 0 j.2.length), (6, .sc (.int .i64 (Ω.int i))), (7, .pt 1 0 0), (9, .sc (.int .i64 (Ω.int j.1)))], 103, [some ⟨3, e j.2, false⟩, some ⟨8, [.agg [str nn, i64 v1, i64 v2, i64 v3, i64 sz, .sl false 1 ps, .sl false 1 ds, .sl false 7 bs]], true⟩]⟩) (fun j => j.1 ≤ d.length ∧ j.2 ++ (nF l s c j.1 (d.drop j.1) ++ (bF l s c 0 b ++ aF l s (i + 1) (s.drop (i + 1)))) = tot) (fun j => d.length - j.1) (0, out) ⟨Nat.zero_le _, by rw [hrest] at hout; exact hout⟩
        (Sbs.mk rfl rfl ⟨rfl, rfl, congrArg (A.vw 0 0) hm.symm, rfl, rfl, zeroI hΩ, trivial⟩) ?_
      rintro ⟨j, o2⟩ ⟨hj, hj2⟩
      dsimp only at hj hj2
      dsimp only
      obtain ⟨m2, hm2⟩ : ∃ m2, o2.length = m2 := ⟨_, rfl⟩
      rw [hm2]
      cbv
      have hml2 : m2 ≤ 2199024304128 := by
        have := congrArg List.length hj2
        rw [List.length_append, hm2] at this
        omega
      refine br (fun h => ?_) (fun h => ?_) <;> cbv
      · replace h := ltI hΩ h
        obtain ⟨u, huu⟩ := at_of (cs := d) (by omega : j < d.length)
        rw [nF_at huu, List.append_assoc] at hj2
        have hc := hmet u (hd2 u (List.mem_of_getElem? huu))
        obtain ⟨us, hus⟩ : ∃ us, us = u.map Trm.enc := ⟨_, rfl⟩
        rw [← hus] at hc
        have hrd : ds[(Ω.int j).toNat]? = some (.sl false 7 us) := (rdI hΩ hds huu).trans (by rw [hus]; rfl)
        generalize metB l s u = gu at hc hj2
        refine ⟨⟨nnI hΩ⟩, _, hrd, ?_⟩
        cbv
        refine call_pure hΩ 3 hc rfl (fits _) rfl rfl ?_
        cbv
        refine br (fun g => ?_) (fun g => ?_) <;> cbv
        · have g : gu = false := notT' hΩ g
          rw [g, if_neg (by simp), ← List.append_assoc] at hj2
          refine ⟨⟨nnI hΩ⟩, _, rdI hΩ hxs hcc, ?_⟩
          cbv
          refine ⟨⟨rfl, okAll rfl, by show (m2 + 1) * 24 ≤ 140737488355328; omega, by show m2 + 1 ≤ 9223372036854775807; omega⟩, (j + 1, o2 ++ [⟨2, c, j⟩]), ⟨by dsimp only; omega, hj2⟩, by dsimp only; omega, ?_⟩
          exact Sbs.trans (Sbs.lastN (rows := [_, _]) rfl) (Sbs.mk rfl (by dsimp only; rw [← hap o2 ⟨2, c, j⟩ m2 hm2]; subst hΩ; rfl) ⟨rfl, rfl, congrArg (A.vw 0 0) (hlp o2 ⟨2, c, j⟩ _ m2 hm2), rfl, rfl, incI hΩ (by omega), trivial⟩)
        · have g : gu = true := notF' hΩ g
          rw [g] at hj2
          exact ⟨(j + 1, o2), ⟨by dsimp only; omega, hj2⟩, by dsimp only; omega, Sbs.mk rfl rfl ⟨rfl, rfl, congrArg (A.vw 0 0) hm2.symm, rfl, rfl, incI hΩ (by omega), trivial⟩⟩
      · replace h := geI hΩ h
        rw [List.drop_of_length_le (by omega : d.length ≤ j), nF, List.nil_append] at hj2
        obtain ⟨o1, m1, hm1, rfl⟩ : ∃ o1 m1, o1.length = m1 ∧ o1 = o2 := ⟨_, _, rfl, rfl⟩
        obtain rfl : m2 = m1 := hm2.symm.trans hm1
        clear hm2
        refine loopX htab hΩ (fun j : Nat × List Flt => ⟨[(0, .sl false 8 cs), (1, .sl false 1 xs), (5, .vw 0 0 j.2.length), (6, .sc (.int .i64 (Ω.int i))), (7, .pt 1 0 0), (10, .sc (.int .i64 (Ω.int j.1)))], 103, [some ⟨3, e j.2, false⟩, some ⟨8, [.agg [str nn, i64 v1, i64 v2, i64 v3, i64 sz, .sl false 1 ps, .sl false 1 ds, .sl false 7 bs]], true⟩]⟩) (fun j => j.1 ≤ b.length ∧ j.2 ++ (bF l s c j.1 (b.drop j.1) ++ aF l s (i + 1) (s.drop (i + 1))) = tot) (fun j => b.length - j.1) (0, o1) ⟨Nat.zero_le _, hj2⟩
          (Sbs.mk rfl rfl ⟨rfl, rfl, congrArg (A.vw 0 0) hm1.symm, rfl, rfl, zeroI hΩ, trivial⟩) ?_
        rintro ⟨j, o2⟩ ⟨hj, hj2⟩
        dsimp only at hj hj2
        dsimp only
        obtain ⟨m2, hm2⟩ : ∃ m2, o2.length = m2 := ⟨_, rfl⟩
        rw [hm2]
        cbv
        have hml2 : m2 ≤ 2199024304128 := by
          have := congrArg List.length hj2
          rw [List.length_append, hm2] at this
          omega
        refine br (fun h => ?_) (fun h => ?_) <;> cbv
        · replace h := ltI hΩ h
          obtain ⟨u, huu⟩ := at_of (cs := b) (by omega : j < b.length)
          rw [bF_at huu, List.append_assoc] at hj2
          have hc := hgiv c u
          generalize givB l s c u = gu at hc hj2
          refine ⟨VC_drawn htab hΩ hmo (by kernel_rfl) ?_⟩
          cbv
          refine ⟨⟨nnI hΩ⟩, _, rdI hΩ hbs huu, ?_⟩
          cbv
          refine ⟨⟨nnI hΩ⟩, _, rdI hΩ hxs hcc, ?_⟩
          cbv
          refine QCall_pure (k := 3) hc rfl (fits _) rfl ?_
          cbv
          refine br (fun g => ?_) (fun g => ?_) <;> cbv
          · have g : gu = true := g
            rw [g, if_pos rfl, ← List.append_assoc] at hj2
            refine ⟨⟨nnI hΩ⟩, _, rdI hΩ hxs hcc, ?_⟩
            cbv
            refine ⟨⟨rfl, okAll rfl, by show (m2 + 1) * 24 ≤ 140737488355328; omega, by show m2 + 1 ≤ 9223372036854775807; omega⟩, (j + 1, o2 ++ [⟨3, c, j⟩]), ⟨by dsimp only; omega, hj2⟩, by dsimp only; omega, ?_⟩
            exact Sbs.trans (Sbs.lastN (rows := [_, _]) rfl) (Sbs.mk rfl (by dsimp only; rw [← hap o2 ⟨3, c, j⟩ m2 hm2]; subst hΩ; rfl) ⟨rfl, rfl, congrArg (A.vw 0 0) (hlp o2 ⟨3, c, j⟩ _ m2 hm2), rfl, rfl, incI hΩ (by omega), trivial⟩)
          · have g : gu = false := g
            rw [g] at hj2
            exact ⟨(j + 1, o2), ⟨by dsimp only; omega, hj2⟩, by dsimp only; omega, Sbs.mk rfl rfl ⟨rfl, rfl, congrArg (A.vw 0 0) hm2.symm, rfl, rfl, incI hΩ (by omega), trivial⟩⟩
        · replace h := geI hΩ h
          rw [List.drop_of_length_le (by omega : b.length ≤ j), bF, List.nil_append] at hj2
          exact ⟨(i + 1, o2), ⟨by dsimp only; omega, hj2⟩, by dsimp only; omega, Sbs.mkL (rows := [_]) rfl rfl rfl ⟨rfl, rfl, congrArg (A.vw 0 0) hm2.symm, incI hΩ (by omega), trivial⟩⟩

  · have hil : i = s.length := by have := geI hΩ h; omega
    rw [hil, List.drop_length, aF, List.append_nil] at hout
    refine ⟨⟨rfl, by show m ≤ (e out).length; rw [hel, hm]; exact Nat.le_refl _⟩, .of ?_⟩
    rw [← hout]
    subst hΩ
    show A.sl true 3 ((e out).take m) = _
    rw [List.take_of_length_le (by rw [hel]; omega)]
end Go.Proofs.YtfmcncflooechaaGreatDoor

/- Walks: draws of sets. Plain theorems. -/
set_option linter.unusedVariables false
set_option linter.unusedSimpArgs false
namespace Go.Proofs.YtfmcncflooechaaGreatDoor
open Go Go.Fw
set_option maxRecDepth 100000
theorem nF_mem {c : List Pck} {s : List Int} {k : Int} : ∀ {d : List (List Trm)} {j : Nat} {f : Flt}, f ∈ nF c s k j d → f.p = k
  | [], _, _, h => by simp [nF] at h
  | l :: d, j, f, h => by
    rw [nF, List.mem_append] at h
    rcases h with h | h
    · split at h
      · cases h
      · simp at h; rw [h]
    · exact nF_mem h
theorem bF_mem {c : List Pck} {s : List Int} {k : Int} : ∀ {d : List Trm} {j : Nat} {f : Flt}, f ∈ bF c s k j d → f.p = k
  | [], _, _, h => by simp [bF] at h
  | l :: d, j, f, h => by
    rw [bF, List.mem_append] at h
    rcases h with h | h
    · split at h
      · simp at h; rw [h]
      · cases h
    · exact bF_mem h
theorem aF_mem {c : List Pck} {s : List Int} : ∀ {l : List Int} {i : Nat} {f : Flt}, f ∈ aF c s i l → f.p ∈ l
  | [], _, _, h => by simp [aF] at h
  | k :: l, i, f, h => by
    rw [aF, List.mem_append, List.mem_append, List.mem_append] at h
    rcases h with h | h | h | h
    · unfold tF at h
      split at h
      · simp at h; rw [h]; simp
      · cases h
    · rw [nF_mem h]; simp
    · rw [bF_mem h]; simp
    · exact List.mem_cons_of_mem _ (aF_mem h)
theorem fltS_mem {c : List Pck} {s : List Int} {f : Flt} (h : f ∈ fltS c s) : f.p ∈ s := aF_mem h
theorem d_l3DrawSet {bs : List A} (hb : Src bs) (l : List Pck) (hl : l.length ≤ 40) (ho : ∀ o ∈ l, o.Small) (p : Int) (h0 : 0 ≤ p) (h1 : p + 50 ≤ 1099511627776) :
    XCtr PP n_spec_l3DrawSet [src bs p, encP l] (DR bs p 50 [encP l] fun x => ∃ s : List Int, x = .sl true 1 (s.map i64) ∧ s.length ≤ 41) := by
  obtain ⟨Ω, hΩ⟩ : ∃ Ω, Ω = std := ⟨_, rfl⟩
  have hC := fun p n a b c => d_l1Chance hb p n a b c
  have hP := fun p ns a b c d => d_l1Pick hb p ns a b c d
  have hcat := c_specCatalogFault l (by omega) ho
  have hflt : ∀ s : List Int, s.length ≤ 40 → (∀ k ∈ s, 0 ≤ k ∧ k < (l.length : Int)) → PCtr PP n_spec_l3Faults [encP l, .sl false 1 (s.map i64)] (.sl true 3 ((fltS l s).map Flt.enc)) := fun s hs hk =>
    c_l3Faults l s (by omega) (by omega) ho fun k h => by
      have := hk k h
      simp only [inB, Bool.and_eq_true, decide_eq_true_eq]; omega
  generalize catF l = cf at *
  obtain ⟨F, hF⟩ : ∃ F : List Int → List A, F = fun s => s.map i64 := ⟨_, rfl⟩
  have hF0 : F [] = [] := by rw [hF]; rfl
  have hFl : ∀ s, (F s).length = s.length := fun s => by rw [hF]; exact List.length_map _
  have hFz : ∀ s, (F s).map frz = F s := fun s => by rw [hF]; exact frz_I s
  have hFs : ∀ (s : List Int) (n : Int), Ω.app (Ω.take s.length (F s)) [i64 n] = F (s ++ [n]) := fun s n => by
    subst hΩ; rw [hF]; show List.take s.length (List.map i64 s) ++ _ = List.map i64 (s ++ [n])
    rw [List.map_append, List.take_of_length_le (by simp)]; rfl
  have hFt : ∀ s, A.sl true 1 (Ω.take s.length (F s)) = .sl true 1 (s.map i64) := fun s => by
    subst hΩ; rw [hF]; exact congrArg _ (List.take_of_length_le (by simp))
  have hFt0 : ∀ s m, s.length = m → A.sl true 1 (Ω.take m (F s)) = .sl true 1 (s.map i64) := fun s m h => by rw [← h, hFt]
  have hFt1 : ∀ s n m, s.length = m → A.sl true 1 (Ω.take (Ω.plus m (Ω.len [i64 n])) (Ω.app (Ω.take m (F s)) [i64 n])) = .sl true 1 ((s ++ [n]).map i64) := fun s n m h => by
    rw [← h, hFs, ← hFt]; congr 2; subst hΩ; rw [List.length_append]; rfl
  have hFle0 : ∀ s {m}, s.length = m → m ≤ (F s).length := fun s {m} h => by rw [hFl]; omega
  have hFle : ∀ s {m} {X : A}, s.length = m → Ω.plus m (Ω.len [X]) ≤ (Ω.app (Ω.take m (F s)) [X]).length := fun s {m X} h => by
    subst hΩ; show m + 1 ≤ (List.take m (F s) ++ [X]).length
    rw [List.take_of_length_le (by rw [hFl]; omega), List.length_append, hFl]; show m + 1 ≤ s.length + 1; omega
  have hFat : ∀ (s : List Int) (j : Nat) (c : Int), s[j]? = some c → (F s)[Ω.plus 0 (Ω.nat (Ω.int j))]? = some (i64 c) := fun s j c h => by
    subst hΩ; show (F s)[0 + j]? = _; rw [Nat.zero_add, hF]; simp [h]
  replace hflt : ∀ s : List Int, s.length ≤ 40 → (∀ k ∈ s, 0 ≤ k ∧ k < (l.length : Int)) → PCtr PP n_spec_l3Faults [encP l, .sl false 1 (F s)] (.sl true 3 ((fltS l s).map Flt.enc)) := fun s a b => by rw [hF]; exact hflt s a b
  clear hF
  obtain ⟨xs, hxs⟩ : ∃ xs, xs = l.map (Pck.enc false) := ⟨_, rfl⟩
  have hxl : xs.length = l.length := by rw [hxs, List.length_map]
  obtain ⟨L, hL⟩ : ∃ L, L = l.length := ⟨_, rfl⟩
  have hlx : Ω.int (Ω.len xs) = (L : Int) := by subst hΩ; rw [hL, ← hxl]; rfl
  unfold encP at *
  rw [← hxs] at hcat hflt ⊢
  rw [← hL] at hflt hl hxl
  have htab := tab
  have hmo := hmo
  refine XCtr.walkO tab hΩ 3 fn_spec_l3DrawSet rfl rfl ?_
  generalize PP = P at *
  cbv
  refine loopX htab hΩ (fun i : Nat × Int × List Int => ⟨[(0, .pt 0 0 0), (1, .sl false 8 xs), (5, .vw 1 0 i.2.2.length), (6, i64 (Ω.int i.1)), (73, .pt 0 0 0), (74, .sl false 8 xs)], 73, [some ⟨2, [.agg [.sl false 1 bs, i64 i.2.1]], true⟩, some ⟨1, F i.2.2, false⟩]⟩)
    (fun i => i.1 ≤ L ∧ p ≤ i.2.1 ∧ i.2.1 ≤ p + (i.1 : Int) ∧ i.2.2.length ≤ i.1 ∧ ∀ k ∈ i.2.2, 0 ≤ k ∧ k < (i.1 : Int)) (fun i => L - i.1) (0, p, [])
    ⟨Nat.zero_le _, by dsimp only; omega, by dsimp only; omega, Nat.le_refl _, by simp⟩ (Sbs.mk rfl (by show _ = [_, some (Row.mk 1 (F []) false)]; rw [hF0]; rfl) ⟨rfl, rfl, rfl, zeroI hΩ, rfl, rfl, trivial⟩) ?_
  rintro ⟨i, q, s⟩ ⟨i1, i2, i3, i4, i5⟩
  dsimp only at i1 i2 i3 i4 i5
  have hFli := hFl s
  obtain ⟨m, hm⟩ : ∃ m, s.length = m := ⟨_, rfl⟩
  have hrows : ∀ {R0 : Option Row} {n : Int}, [R0, some (Row.mk 1 (Ω.app (Ω.take m (F s)) [i64 n]) false)] = [R0, some (Row.mk 1 (F (s ++ [n])) false)] := fun {R0 n} => by rw [← hm, hFs]
  have hvw : ∀ {X : A} {n : Int}, A.vw 1 0 (Ω.plus m (Ω.len [X])) = .vw 1 0 (s ++ [n]).length := fun {X n} => by subst hΩ; rw [List.length_append, hm]; rfl
  have hall : ∀ k ∈ s ++ [Ω.int i], 0 ≤ k ∧ k < ((i + 1 : Nat) : Int) := fun k hk => by
    rcases List.mem_append.1 hk with h | h
    · have := i5 k h; omega
    · rw [List.mem_singleton.1 h]; subst hΩ; show 0 ≤ (i : Int) ∧ (i : Int) < _; omega
  have hall2 : ∀ k ∈ s, 0 ≤ k ∧ k < ((i + 1 : Nat) : Int) := fun k hk => by have := i5 k hk; omega
  have hqb : q + 10 ≤ p + 50 := by omega
  have hq3 : ∀ q' : Int, q' ≤ q + 1 → q' ≤ p + ((i + 1 : Nat) : Int) := fun q' h => by omega
  have hsl : (s ++ [Ω.int i]).length ≤ i + 1 := by rw [List.length_append, hm, List.length_singleton]; omega
  have hlt : Ω.cmp .lss (Ω.int i) (Ω.int (Ω.len xs)) = true → i < L := fun h => by have := ltI hΩ h; omega
  have hsF : ∀ k ∈ s, 0 ≤ k ∧ k < (L : Int) := fun k hk => by have := i5 k hk; omega
  rw [hm] at hFli i4 ⊢
  cbv
  refine br (fun hk => ?_) (fun hk => ?_) <;> cbv
  · have hk := hlt hk
    refine call_dr false hΩ 3 (hC _ _ (by omega) (by omega) (by omega)) rfl rfl rfl (fun q2 x q2a q2b ⟨c1, hx⟩ => ?_)
    subst hx
    cbv
    refine br (fun hc => ?_) (fun hc => ?_) <;> cbv
    · exact ⟨⟨rfl, okAll rfl, by show (m + 1) * 8 ≤ 140737488355328; omega, by show m + 1 ≤ 9223372036854775807; omega⟩, (i + 1, q2, s ++ [Ω.int i]), ⟨by dsimp only; omega, by dsimp only; omega, hq3 q2 q2b, hsl, hall⟩, by dsimp only; omega, (Sbs.cut 2 rfl).trans (Sbs.mk rfl hrows ⟨rfl, rfl, hvw, incI hΩ (by omega), rfl, rfl, trivial⟩)⟩
    · exact ⟨(i + 1, q2, s), ⟨by dsimp only; omega, by dsimp only; omega, hq3 q2 q2b, by dsimp only; omega, hall2⟩, by dsimp only; omega, (Sbs.cut 2 rfl).trans (Sbs.mk rfl rfl ⟨rfl, rfl, congrArg (A.vw 1 0) hm.symm, incI hΩ (by omega), rfl, rfl, trivial⟩)⟩
  · refine call_dr false hΩ 3 (hC _ _ (by omega) (by omega) (by omega)) rfl rfl rfl (fun q4 x q4a q4b ⟨c2, hx⟩ => ?_)
    subst hx
    cbv
    refine br (fun hc2 => ?_) (fun hc2 => ?_) <;> cbv
    · refine call_pure hΩ 3 hcat rfl (fits _) rfl rfl ?_
      cbv
      refine br (fun hc4 => ?_) (fun hc4 => ?_) <;> cbv
      · refine loopX htab hΩ (fun t : List Int => ⟨[(0, .pt 0 0 0), (1, .sl false 8 xs), (5, .vw 1 0 t.length), (73, .pt 0 0 0), (74, .sl false 8 xs)], 73, [some ⟨2, [.agg [.sl false 1 bs, i64 q4]], true⟩, some ⟨1, F t, false⟩]⟩)
          (fun t => t.length ≤ 40 ∧ ∀ k ∈ t, 0 ≤ k ∧ k < (L : Int)) (fun t => t.length) s ⟨by omega, hsF⟩ (Sbs.mk rfl rfl ⟨rfl, rfl, congrArg (A.vw 1 0) hm.symm, rfl, rfl, trivial⟩) ?_
        rintro t ⟨t1, t2⟩
        have hft := hflt t t1 t2
        have hFlt := hFl t
        have hFzt := hFz t
        obtain ⟨es, hes⟩ : ∃ es, es = (fltS l t).map Flt.enc := ⟨_, rfl⟩
        have hro : roFree (.sl true 3 es) = true := by rw [hes]; exact roFAll fun x hx => by obtain ⟨c, _, rfl⟩ := List.mem_map.1 hx; rfl
        have hesl : es.length = (fltS l t).length := by rw [hes, List.length_map]
        have hfirst : 0 < es.length → ∃ f : Flt, es[0]? = some f.enc ∧ f.p ∈ t := fun h => by
          obtain ⟨f, hf⟩ := at_of (cs := fltS l t) (i := 0) (by omega)
          exact ⟨f, by rw [hes, List.getElem?_map, hf]; rfl, fltS_mem (List.mem_of_getElem? hf)⟩
        have hgt : Ω.cmp .gtr (Ω.int (Ω.len es)) 0 = true → 0 < es.length := fun h => by have := gtI_t hΩ h; subst hΩ; have this : (0 : Int) < (es.length : Int) := this; omega
        rw [← hes] at hft
        obtain ⟨M, hM⟩ : ∃ M, t.length = M := ⟨_, rfl⟩
        rw [hM] at hFlt t1 ⊢
        clear hes hesl hflt
        cbv
        refine call_pure hΩ 3 hft (mapO2 rfl (ro_vw rfl hFlt.symm hFzt)) (fits _) hro rfl ?_
        cbv
        refine br (fun hg => ?_) (fun hg => ?_) <;> cbv
        · obtain ⟨f, hf, hfp⟩ := hfirst (hgt hg)
          refine call_pure hΩ 3 hft (mapO2 rfl (ro_vw rfl hFlt.symm hFzt)) (fits _) hro rfl ?_
          cbv
          refine ⟨⟨by subst hΩ; exact ⟨Int.le_refl _, Int.ofNat_lt.2 (hgt hg)⟩⟩, _, (show es[Ω.plus 0 (Ω.nat 0)]? = some (.agg [i64 f.k, i64 f.p, i64 f.a]) by subst hΩ; exact hf), ?_⟩
          cbv
          obtain ⟨fp, hfp2⟩ : ∃ x, x = f.p := ⟨_, rfl⟩
          have hflt1 : (t.filter fun k => !decide (k = fp)).length < M := by
            rw [← hM, hfp2]
            refine List.length_filter_lt_length_iff_exists.2 ⟨f.p, hfp, by simp⟩
          refine loopX htab hΩ (fun i : Nat × List Int => ⟨[(0, .pt 0 0 0), (1, .sl false 8 xs), (5, .vw 1 0 M), (7, .pt 4 0 0), (8, .vw 5 0 i.2.length), (9, i64 (Ω.int i.1)), (73, .pt 0 0 0), (74, .sl false 8 xs)], 73,
              [some ⟨2, [.agg [.sl false 1 bs, i64 q4]], true⟩, some ⟨1, F t, false⟩, none, none, some ⟨3, [.agg [i64 f.k, i64 fp, i64 f.a]], true⟩, some ⟨1, F i.2, false⟩]⟩)
            (fun i => i.1 ≤ M ∧ i.2 = (t.take i.1).filter fun k => !decide (k = fp)) (fun i => M - i.1) (0, []) ⟨Nat.zero_le _, rfl⟩
            ((Sbs.drop (r := 2) rfl).trans ((Sbs.drop (r := 3) rfl).trans (Sbs.mk rfl (by show _ = [_, _, none, none, some (Row.mk 3 [.agg [i64 f.k, i64 fp, i64 f.a]] true), some (Row.mk 1 (F []) false)]; rw [hF0, hfp2]; rfl) ⟨rfl, rfl, rfl, rfl, rfl, zeroI hΩ, rfl, rfl, trivial⟩))) ?_
          rintro ⟨j, r⟩ ⟨j1, j2⟩
          dsimp only at j1 j2
          have hrl : r.length ≤ j := by rw [j2]; exact Nat.le_trans (List.length_filter_le _ _) (by simp; omega)
          have hFr := hFs r
          obtain ⟨R, hR⟩ : ∃ R, r.length = R := ⟨_, rfl⟩
          have hvr : ∀ {X : A} {n : Int}, A.vw 5 0 (Ω.plus R (Ω.len [X])) = .vw 5 0 (r ++ [n]).length := fun {X n} => by subst hΩ; rw [List.length_append, hR]; rfl
          have hstep : ∀ c, t[j]? = some c → (t.take (j + 1)).filter (fun k => !decide (k = fp)) = r ++ (if c = fp then [] else [c]) := fun c hc => by
            rw [List.take_add_one, hc, List.filter_append, ← j2]
            congr 1
            by_cases h : c = fp <;> simp [h]
          have hend : j = M → r.length < M ∧ r.length ≤ 40 ∧ ∀ k ∈ r, 0 ≤ k ∧ k < (L : Int) := fun h => by
            have e : r = t.filter fun k => !decide (k = fp) := by rw [j2, h, ← hM, List.take_length]
            refine ⟨by rw [e]; exact hflt1, by rw [e]; omega, fun k hk => t2 k ?_⟩
            rw [e] at hk; exact (List.mem_filter.1 hk).1
          rw [hR] at hrl hFr ⊢
          have hat : ∀ c, t[j]? = some c → (F t)[Ω.plus 0 (Ω.nat (Ω.int j))]? = some (i64 c) := hFat t j
          cbv
          refine br (fun hj => ?_) (fun hj => ?_) <;> cbv
          · have hj := ltN hΩ hj
            obtain ⟨c, hc⟩ := at_of (cs := t) (i := j) (by omega)
            refine ⟨VC_drawn htab hΩ hmo (by kernel_rfl) ?_⟩
            cbv
            refine ⟨⟨ixI hΩ hj⟩, _, hat c hc, ?_⟩
            cbv
            refine br (fun hn => ?_) (fun hn => ?_) <;> cbv
            · have hn := neI_t hΩ hn
              have e := hstep c hc
              rw [if_neg hn] at e
              refine ⟨⟨ixI hΩ hj⟩, _, hat c hc, ?_⟩
              cbv
              exact ⟨⟨rfl, okAll rfl, by show (R + 1) * 8 ≤ 140737488355328; omega, by show R + 1 ≤ 9223372036854775807; omega⟩, (j + 1, r ++ [c]), ⟨by dsimp only; omega, e.symm⟩, by dsimp only; omega, (Sbs.cut 6 rfl).trans (Sbs.mk rfl (by rw [show some (Row.mk 1 (F (r ++ [c])) false) = some (Row.mk 1 (Ω.app (Ω.take R (F r)) [i64 c]) false) by rw [hFr]]; rfl) ⟨rfl, rfl, rfl, rfl, hvr, incI hΩ (by omega), rfl, rfl, trivial⟩)⟩
            · have hn := neI_f hΩ hn
              have e := hstep c hc
              rw [if_pos hn, List.append_nil] at e
              exact ⟨(j + 1, r), ⟨by dsimp only; omega, e.symm⟩, by dsimp only; omega, (Sbs.cut 6 rfl).trans (Sbs.mk rfl rfl ⟨rfl, rfl, rfl, rfl, congrArg (A.vw 5 0) hR.symm, incI hΩ (by omega), rfl, rfl, trivial⟩)⟩
          · have hj := geN hΩ hj
            obtain ⟨e1, e2, e3⟩ := hend (by omega)
            exact ⟨r, ⟨e2, e3⟩, by omega, (Sbs.drop (r := 1) rfl).trans ((Sbs.mv (a := 5) (b := 1) rfl rfl (Nat.le_of_ble_eq_true rfl)).trans ((Sbs.cut 2 rfl).trans (Sbs.mk rfl rfl ⟨rfl, rfl, congrArg (A.vw 1 0) hR.symm, rfl, rfl, trivial⟩)))⟩
        · clear hfirst hgt
          refine call_dr false hΩ 3 (hC _ _ (by omega) (by omega) (by omega)) rfl rfl rfl (fun q8 x q8a q8b ⟨c3, hx⟩ => ?_)
          subst hx
          cbv
          refine br (fun hc3 => ?_) (fun hc3 => ?_) <;> cbv
          · refine call_pick (ns := [_, -1, 0]) hΩ (hP _ _ (by omega) (by omega) (Nat.zero_lt_succ _) (Nat.le_of_ble_eq_true rfl)) rfl rfl rfl rfl (by decide) (fun q9 n q9a q9b hn => ?_)
            cbv
            exact ⟨⟨rfl, okAll rfl, by show (M + 1) * 8 ≤ 140737488355328; omega, by show M + 1 ≤ 9223372036854775807; omega⟩, ⟨rfl, hFle _ hM⟩, _, _, .of (hFt1 t n M hM), .same, ⟨q9, by omega, by omega, rfl, t ++ [n], rfl, by rw [List.length_append, List.length_singleton, hM]; omega⟩, rfl⟩
          · exact ⟨⟨rfl, hFle0 _ hM⟩, _, _, .of (hFt0 t M hM), .same, ⟨q8, by omega, by omega, rfl, t, rfl, by rw [hM]; omega⟩, rfl⟩
      · refine call_dr false hΩ 3 (hC _ _ (by omega) (by omega) (by omega)) rfl rfl rfl (fun q8 x q8a q8b ⟨c3, hx⟩ => ?_)
        subst hx
        cbv
        refine br (fun hc3 => ?_) (fun hc3 => ?_) <;> cbv
        · refine call_pick (ns := [_, -1, 0]) hΩ (hP _ _ (by omega) (by omega) (Nat.zero_lt_succ _) (Nat.le_of_ble_eq_true rfl)) rfl rfl rfl rfl (by decide) (fun q9 n q9a q9b hn => ?_)
          cbv
          exact ⟨⟨rfl, okAll rfl, by show (m + 1) * 8 ≤ 140737488355328; omega, by show m + 1 ≤ 9223372036854775807; omega⟩, ⟨rfl, hFle _ hm⟩, _, _, .of (hFt1 s n m hm), .same, ⟨q9, by omega, by omega, rfl, s ++ [n], rfl, by rw [List.length_append, List.length_singleton, hm]; omega⟩, rfl⟩
        · exact ⟨⟨rfl, hFle0 _ hm⟩, _, _, .of (hFt0 s m hm), .same, ⟨q8, by omega, by omega, rfl, s, rfl, by rw [hm]; omega⟩, rfl⟩
    · refine call_dr false hΩ 3 (hC _ _ (by omega) (by omega) (by omega)) rfl rfl rfl (fun q8 x q8a q8b ⟨c3, hx⟩ => ?_)
      subst hx
      cbv
      refine br (fun hc3 => ?_) (fun hc3 => ?_) <;> cbv
      · refine call_pick (ns := [_, -1, 0]) hΩ (hP _ _ (by omega) (by omega) (Nat.zero_lt_succ _) (Nat.le_of_ble_eq_true rfl)) rfl rfl rfl rfl (by decide) (fun q9 n q9a q9b hn => ?_)
        cbv
        exact ⟨⟨rfl, okAll rfl, by show (m + 1) * 8 ≤ 140737488355328; omega, by show m + 1 ≤ 9223372036854775807; omega⟩, ⟨rfl, hFle _ hm⟩, _, _, .of (hFt1 s n m hm), .same, ⟨q9, by omega, by omega, rfl, s ++ [n], rfl, by rw [List.length_append, List.length_singleton, hm]; omega⟩, rfl⟩
      · exact ⟨⟨rfl, hFle0 _ hm⟩, _, _, .of (hFt0 s m hm), .same, ⟨q8, by omega, by omega, rfl, s, rfl, by rw [hm]; omega⟩, rfl⟩
end Go.Proofs.YtfmcncflooechaaGreatDoor

/- Walks: who is barred. Plain theorems. -/
set_option linter.unusedVariables false
set_option linter.unusedSimpArgs false
namespace Go.Proofs.YtfmcncflooechaaGreatDoor
open Go Go.Fw
set_option maxRecDepth 100000
theorem c_l4BarsOne (l : List Pck) (bs : List Trm) (k : Int) (hl : l.length ≤ 1048576) (hb : bs.length ≤ 1048576) (hs : ∀ o ∈ l, o.Small) (hk : inB k 0 ((l.length : Int) - 1) = true) : PCtr PP n_spec_l4BarsOne [encP l, .sl false 7 (bs.map Trm.enc), i64 k] (boo (bs.any (givesB (pk l k)))) := by
  obtain ⟨Ω, hΩ⟩ : ∃ Ω, Ω = std := ⟨_, rfl⟩
  obtain ⟨r, hr⟩ : ∃ r, r = bs.any (givesB (pk l k)) := ⟨_, rfl⟩
  rw [← hr]
  obtain ⟨xs, hxs⟩ : ∃ xs, xs = l.map (Pck.enc false) := ⟨_, rfl⟩
  have hlen : xs.length = l.length := by rw [hxs, List.length_map]
  unfold encP at *
  rw [← hxs]
  obtain ⟨ys, hys⟩ : ∃ ys, ys = bs.map Trm.enc := ⟨_, rfl⟩
  have hylen : ys.length = bs.length := by rw [hys, List.length_map]
  rw [← hys]
  obtain ⟨hk0, hkl, hka, hkm⟩ := pk_at hk
  obtain ⟨ps2, ds2, bs2, hen2, hps2, hds2, hbs2⟩ := enc_raw (pk l k)
  have hx2 : xs[k.toNat]? = some (Pck.enc false (pk l k)) := by rw [hxs, List.getElem?_map, hka]; rfl
  rw [hen2] at hx2
  have hg := fun t => c_l2Gives (pk l k) t (by have := (hs _ hkm).p; omega)
  rw [hen2] at hg
  generalize givesB (pk l k) = G at *
  clear hka hkm hps2 hds2 hbs2 hen2
  generalize pk l k = pp at *
  have htab := tab
  have hmo := hmo
  have hve := verEq
  refine PCtr.walk tab hΩ fn_spec_l4BarsOne rfl ?_
  generalize PP = P at *
  cbv
  refine loopX htab hΩ (fun i : Nat => ⟨[(0, .sl false 8 xs), (1, .sl false 7 ys), (2, .sc (.int .i64 k)), (7, .sc (.int .i64 (Ω.int i)))], 23, []⟩) (fun i => i ≤ bs.length ∧ r = (bs.drop i).any G) (fun i => bs.length - i) 0
    ⟨Nat.zero_le _, hr⟩ (Sbs.mk rfl rfl ⟨rfl, rfl, rfl, zeroI hΩ, trivial⟩) ?_
  rintro i ⟨hi, he⟩
  cbv
  refine br (fun h => ?_) (fun h => ?_) <;> cbv
  · replace h := ltI hΩ h
    obtain ⟨c, hcc⟩ := at_of (cs := bs) (by omega : i < bs.length)
    rw [any_at _ hcc] at he
    refine ⟨VC_drawn htab hΩ hmo (by kernel_rfl) ?_⟩
    cbv
    refine ⟨⟨hk0⟩, _, hx2, ?_⟩
    cbv
    refine ⟨⟨nnI hΩ⟩, _, rdI hΩ hys hcc, ?_⟩
    cbv
    refine QCall_pure (k := 3) (hg c) rfl (fits _) rfl ?_
    cbv
    refine br (fun g => ?_) (fun g => ?_) <;> cbv
    · exact .of (congrArg boo (by rw [he, show G c = true from g]; rfl))
    · rw [show G c = false from g, Bool.false_or] at he
      exact ⟨i + 1, ⟨by omega, he⟩, by omega, Sbs.mk rfl rfl ⟨rfl, rfl, rfl, incI hΩ (by omega), trivial⟩⟩
  · replace h := geI hΩ h
    exact .of (congrArg boo (by rw [he, List.drop_of_length_le (by omega)]; rfl))
end Go.Proofs.YtfmcncflooechaaGreatDoor

/- Walks: who leans on one. Plain theorems. -/
set_option linter.unusedVariables false
set_option linter.unusedSimpArgs false
namespace Go.Proofs.YtfmcncflooechaaGreatDoor
open Go Go.Fw
set_option maxRecDepth 100000
theorem c_l1Has (l : List Int) (s : Int) (hl : l.length ≤ 4611686018427387904) : PCtr PP n_spec_l1Has [.sl false 1 (l.map i64), i64 s] (boo (l.any (· == s))) := by
  obtain ⟨Ω, hΩ⟩ : ∃ Ω, Ω = std := ⟨_, rfl⟩
  obtain ⟨r, hr⟩ : ∃ r, r = l.any (· == s) := ⟨_, rfl⟩
  rw [← hr]
  obtain ⟨xs, hxs⟩ : ∃ xs, xs = l.map i64 := ⟨_, rfl⟩
  have hlen : xs.length = l.length := by rw [hxs, List.length_map]
  rw [← hxs]
  have htab := tab
  have hmo := hmo
  have hve := verEq
  refine PCtr.walk tab hΩ fn_spec_l1Has rfl ?_
  generalize PP = P at *
  cbv
  refine loopX htab hΩ (fun i : Nat => ⟨[(0, .sl false 1 xs), (1, .sc (.int .i64 s)), (5, .sc (.int .i64 (Ω.int i)))], 18, []⟩) (fun i => i ≤ l.length ∧ r = (l.drop i).any (· == s)) (fun i => l.length - i) 0
    ⟨Nat.zero_le _, hr⟩ (Sbs.mk rfl rfl ⟨rfl, rfl, zeroI hΩ, trivial⟩) ?_
  rintro i ⟨hi, he⟩
  cbv
  refine br (fun h => ?_) (fun h => ?_) <;> cbv
  · replace h := ltI hΩ h
    obtain ⟨c, hcc⟩ := at_of (cs := l) (by omega : i < l.length)
    rw [any_at _ hcc] at he
    refine ⟨⟨nnI hΩ⟩, _, rdI hΩ hxs hcc, ?_⟩
    cbv
    refine br (fun g => ?_) (fun g => ?_) <;> cbv
    · exact .of (congrArg boo (by rw [he, show (c == s) = true by simp [eqI_t hΩ g]]; rfl))
    · rw [show (c == s) = false by simp [eqI_f hΩ g], Bool.false_or] at he
      exact ⟨i + 1, ⟨by omega, he⟩, by omega, Sbs.mk rfl rfl ⟨rfl, rfl, incI hΩ (by omega), trivial⟩⟩
  · replace h := geI hΩ h
    exact .of (congrArg boo (by rw [he, List.drop_of_length_le (by omega)]; rfl))
end Go.Proofs.YtfmcncflooechaaGreatDoor

/- Walks: the reference's solver, as far as draws ask for it. Plain theorems. -/
set_option linter.unusedVariables false
set_option linter.unusedSimpArgs false
namespace Go.Proofs.YtfmcncflooechaaGreatDoor
open Go Go.Fw
set_option maxRecDepth 100000
/-- A number put into a rising list. -/
def put3 (v : Int) : List Int → List Int
  | [] => [v]
  | x :: xs => if v < x then v :: x :: xs else x :: put3 v xs
theorem put3_len (v : Int) : ∀ l : List Int, (put3 v l).length = l.length + 1
  | [] => rfl
  | x :: xs => by rw [put3]; split <;> simp [put3_len v xs]
theorem put3_not {v : Int} : ∀ {l : List Int}, l.any (fun x => decide (v < x)) = false → put3 v l = l ++ [v]
  | [], _ => rfl
  | x :: xs, h => by
    simp only [List.any_cons, Bool.or_eq_false_iff, decide_eq_false_iff_not] at h
    rw [put3, if_neg h.1, put3_not h.2]; rfl
theorem put3_snoc {v x : Int} : ∀ {l : List Int}, l.any (fun x => decide (v < x)) = true → put3 v (l ++ [x]) = put3 v l ++ [x]
  | [], h => by cases h
  | y :: ys, h => by
    rw [List.cons_append, put3, put3]
    split
    · rfl
    · rename_i hy
      simp only [List.any_cons, Bool.or_eq_true, decide_eq_true_eq] at h
      rw [put3_snoc (h.resolve_left hy)]; rfl
theorem put3_snoc2 {v x : Int} : ∀ {l : List Int}, l.any (fun x => decide (v < x)) = false → v < x → put3 v (l ++ [x]) = l ++ [v] ++ [x]
  | [], _, h => by show put3 v [x] = _; rw [put3, if_pos h]; rfl
  | y :: ys, h, hx => by
    simp only [List.any_cons, Bool.or_eq_false_iff, decide_eq_false_iff_not] at h
    rw [List.cons_append, put3, if_neg h.1, put3_snoc2 h.2 hx]; rfl
/-- What stands behind i numbers of the list. -/
def putUp (v : Int) (l : List Int) : List Int := if l.any (fun x => decide (v < x)) then put3 v l else l
theorem putUp_step {v x : Int} {l : List Int} : putUp v (l ++ [x]) = if l.any (fun x => decide (v < x)) = false ∧ v < x then putUp v l ++ [v] ++ [x] else putUp v l ++ [x] := by
  unfold putUp
  rw [List.any_append]
  simp only [List.any_cons, List.any_nil, Bool.or_false]
  cases h : l.any (fun x => decide (v < x)) with
  | true => simp [put3_snoc h]
  | false =>
    by_cases hx : v < x
    · simp [hx, put3_snoc2 h hx]
    · simp [hx]
theorem putUp_end {v : Int} {l : List Int} : put3 v l = if l.any (fun x => decide (v < x)) then putUp v l else putUp v l ++ [v] := by
  unfold putUp
  cases h : l.any (fun x => decide (v < x)) with
  | true => simp
  | false => simp [put3_not h]
theorem putUp_len (v : Int) (l : List Int) : (putUp v l).length ≤ l.length + 1 := by unfold putUp; split <;> simp [put3_len]
theorem c_l3Put (s : List Int) (v : Int) (hs : s.length ≤ 1048576) : PCtr PP n_spec_l3Put [.sl false 1 (s.map i64), i64 v] (.sl true 1 ((put3 v s).map i64)) := by
  obtain ⟨Ω, hΩ⟩ : ∃ Ω, Ω = std := ⟨_, rfl⟩
  obtain ⟨xs, hxs⟩ : ∃ xs, xs = s.map i64 := ⟨_, rfl⟩
  have hlen : xs.length = s.length := by rw [hxs, List.length_map]
  rw [← hxs]
  obtain ⟨U, hU⟩ : ∃ U : Nat → List Int, U = fun i => putUp v (s.take i) := ⟨_, rfl⟩
  obtain ⟨D, hD⟩ : ∃ D : Nat → Bool, D = fun i => (s.take i).any fun x => decide (v < x) := ⟨_, rfl⟩
  obtain ⟨F, hF⟩ : ∃ F : Nat → List A, F = fun i => (U i).map i64 := ⟨_, rfl⟩
  have hF0 : F 0 = [] := by rw [hF, hU]; rfl
  have hD0 : D 0 = false := by rw [hD]; rfl
  have hFl : ∀ i, (F i).length = (U i).length := fun i => by rw [hF]; exact List.length_map _
  have hUl : ∀ i, (U i).length ≤ i + 1 := fun i => by rw [hU]; exact Nat.le_trans (putUp_len _ _) (by simp; omega)
  have hst : ∀ i c, s[i]? = some c → U (i + 1) = (if D i = false ∧ v < c then U i ++ [v] ++ [c] else U i ++ [c]) ∧ D (i + 1) = (D i || decide (v < c)) := fun i c h => by
    rw [hU, hD]; dsimp only
    rw [List.take_add_one, h]
    exact ⟨putUp_step, by rw [List.any_append]; simp⟩
  have hs1 : ∀ i n L, (U i).length = L → Ω.app (Ω.take L (F i)) [i64 n] = (U i ++ [n]).map i64 := fun i n L h => by
    subst hΩ; rw [hF]; show List.take L (List.map i64 (U i)) ++ _ = _
    rw [List.map_append, List.take_of_length_le (by simp; omega)]; rfl
  have hs2 : ∀ i n n2 L, (U i).length = L → Ω.app (Ω.take (Ω.plus L (Ω.len [i64 n])) (Ω.app (Ω.take L (F i)) [i64 n])) [i64 n2] = (U i ++ [n] ++ [n2]).map i64 := fun i n n2 L h => by
    rw [hs1 i n L h]; subst hΩ; show List.take (L + 1) _ ++ _ = _
    rw [List.map_append (l₂ := [n2]), List.take_of_length_le (by simp; omega)]; rfl
  have hend : put3 v s = if D s.length then U s.length else U s.length ++ [v] := by
    have h0 := @putUp_end v (s.take s.length)
    rw [hU, hD]; show put3 v s = if ((s.take s.length).any fun x => decide (v < x)) = true then putUp v (s.take s.length) else putUp v (s.take s.length) ++ [v]
    rw [← h0, List.take_length]
  have hFm : ∀ i, F i = (U i).map i64 := fun i => by rw [hF]
  clear hF hU hD
  have htab := tab
  refine PCtr.walk tab hΩ fn_spec_l3Put rfl ?_
  obtain ⟨R, hR⟩ : ∃ R, R = put3 v s := ⟨_, rfl⟩
  rw [← hR] at hend ⊢
  obtain ⟨G, hG⟩ : ∃ G, G = R.map i64 := ⟨_, rfl⟩
  rw [← hG]
  generalize PP = P at *
  cbv
  refine loopX htab hΩ (fun i : Nat => ⟨[(0, .sl false 1 xs), (1, i64 v), (5, .vw 0 0 (U i).length), (6, boo (D i)), (7, i64 (Ω.int i))], 43, [some ⟨1, F i, false⟩]⟩) (fun i => i ≤ s.length) (fun i => s.length - i) 0 (Nat.zero_le _)
    (Sbs.mk rfl (by rw [hF0]) ⟨rfl, rfl, by have := hFl 0; rw [hF0] at this; rw [← this]; rfl, by rw [hD0]; rfl, zeroI hΩ, trivial⟩) ?_
  intro i hi
  have hFli := hFl i
  have hUli := hUl i
  have hs1i := hs1 i
  have hs2i := hs2 i
  have hsti := hst i
  have hFi1 := hFm (i + 1)
  obtain ⟨m, hm⟩ : ∃ m, (U i).length = m := ⟨_, rfl⟩
  obtain ⟨d, hd⟩ : ∃ d, D i = d := ⟨_, rfl⟩
  have e1 : ∀ n, [some (Row.mk 1 (Ω.app (Ω.take m (F i)) [i64 n]) false)] = [some (Row.mk 1 ((U i ++ [n]).map i64) false)] := fun n => by rw [hs1i n m hm]
  have l1 : ∀ n : Int, A.vw 0 0 (Ω.plus m (Ω.len [i64 n])) = .vw 0 0 (U i ++ [n]).length := fun n => by subst hΩ; rw [List.length_append, hm]; rfl
  have e2 : ∀ n n2, [some (Row.mk 1 (Ω.app (Ω.take (Ω.plus m (Ω.len [i64 n])) (Ω.app (Ω.take m (F i)) [i64 n])) [i64 n2]) false)] = [some (Row.mk 1 ((U i ++ [n] ++ [n2]).map i64) false)] := fun n n2 => by rw [hs2i n n2 m hm]
  have l2 : ∀ n n2 : Int, A.vw 0 0 (Ω.plus (Ω.plus m (Ω.len [i64 n])) (Ω.len [i64 n2])) = .vw 0 0 (U i ++ [n] ++ [n2]).length := fun n n2 => by subst hΩ; rw [List.length_append, List.length_append, hm]; rfl
  rw [hd] at hsti ⊢
  rw [hm] at hFli hUli ⊢
  cbv
  refine br (fun h => ?_) (fun h => ?_) <;> cbv
  · replace h := ltI hΩ h
    obtain ⟨c, hc⟩ := at_of (cs := s) (by omega : i < s.length)
    obtain ⟨q1, q2⟩ := hsti c hc
    have hok : (m + 1) * 8 ≤ 140737488355328 ∧ m + 1 ≤ 9223372036854775807 := by omega
    have hok2 : (Ω.plus m (Ω.len [i64 v]) + 1) * 8 ≤ 140737488355328 ∧ Ω.plus m (Ω.len [i64 v]) + 1 ≤ 9223372036854775807 := by
      have e : Ω.plus m (Ω.len [i64 v]) = m + 1 := by subst hΩ; rfl
      rw [e]; omega
    refine ⟨⟨nnI hΩ⟩, _, rdI hΩ hxs hc, ?_⟩
    cbv
    refine br (fun g1 => ?_) (fun g1 => ?_) <;> cbv
    · have g1 := gtI_t hΩ g1
      refine br (fun g2 => ?_) (fun g2 => ?_) <;> cbv
      · have g2 : d = false := notT' hΩ (by subst hΩ; exact g2)
        rw [if_pos ⟨g2, g1⟩] at q1
        refine ⟨⟨rfl, okAll rfl, hok.1, hok.2⟩, ?_⟩
        refine ⟨⟨nnI hΩ⟩, _, rdI hΩ hxs hc, ?_⟩
        cbv
        exact ⟨⟨rfl, okAll rfl, hok2.1, hok2.2⟩, i + 1, by omega, by omega, (Sbs.cut 1 rfl).trans (Sbs.mk rfl (by show _ = [some (Row.mk 1 (F (i + 1)) false)]; rw [hFi1, q1, ← e2 v c]; rfl) ⟨rfl, rfl, by rw [q1]; exact l2 v c, by rw [q2]; show boo true = _; rw [decide_eq_true g1, Bool.or_true], incI hΩ (by omega), trivial⟩)⟩
      · have g2 : d = true := notF' hΩ (by subst hΩ; exact g2)
        rw [if_neg (by rw [g2]; simp)] at q1
        refine ⟨⟨nnI hΩ⟩, _, rdI hΩ hxs hc, ?_⟩
        cbv
        exact ⟨⟨rfl, okAll rfl, hok.1, hok.2⟩, i + 1, by omega, by omega, (Sbs.cut 1 rfl).trans (Sbs.mk rfl (by show _ = [some (Row.mk 1 (F (i + 1)) false)]; rw [hFi1, q1, ← e1 c]; rfl) ⟨rfl, rfl, by rw [q1]; exact l1 c, by rw [q2, g2]; rfl, incI hΩ (by omega), trivial⟩)⟩
    · have g1 := gtI_f hΩ g1
      rw [if_neg (by omega)] at q1
      refine ⟨⟨nnI hΩ⟩, _, rdI hΩ hxs hc, ?_⟩
      cbv
      exact ⟨⟨rfl, okAll rfl, hok.1, hok.2⟩, i + 1, by omega, by omega, (Sbs.cut 1 rfl).trans (Sbs.mk rfl (by show _ = [some (Row.mk 1 (F (i + 1)) false)]; rw [hFi1, q1, ← e1 c]; rfl) ⟨rfl, rfl, by rw [q1]; exact l1 c, by rw [q2, decide_eq_false (by omega), Bool.or_false]; rfl, incI hΩ (by omega), trivial⟩)⟩
  · have h := geI hΩ h
    have hil : i = s.length := by omega
    rw [← hil] at hend
    refine br (fun g => ?_) (fun g => ?_) <;> cbv
    · have g : d = false := notT' hΩ (by subst hΩ; exact g)
      rw [hd, g, if_neg (by simp)] at hend
      refine ⟨⟨rfl, okAll rfl, by show (m + 1) * 8 ≤ 140737488355328; omega, by show m + 1 ≤ 9223372036854775807; omega⟩, ⟨rfl, ?_⟩, ?_⟩
      · show Ω.plus m (Ω.len [i64 v]) ≤ (Ω.app (Ω.take m (F i)) [i64 v]).length
        rw [hs1i v m hm]; subst hΩ; rw [List.length_map, List.length_append, hm]; exact Nat.le_refl _
      · have e : A.sl true 1 (Ω.take (Ω.plus m (Ω.len [i64 v])) (Ω.app (Ω.take m (F i)) [i64 v])) = .sl true 1 G := by
          rw [hs1i v m hm, hG, hend]; subst hΩ; exact congrArg _ (List.take_of_length_le (by rw [List.length_map, List.length_append, hm]; exact Nat.le_refl _))
        exact .of e
    · have g : d = true := notF' hΩ (by subst hΩ; exact g)
      rw [hd, g, if_pos rfl] at hend
      refine ⟨⟨rfl, ?_⟩, ?_⟩
      · show m ≤ (F i).length; omega
      · have e : A.sl true 1 (Ω.take m (F i)) = .sl true 1 G := by
          rw [hFm i, hG, hend]; subst hΩ; exact congrArg _ (List.take_of_length_le (by rw [List.length_map, hm]; exact Nat.le_refl _))
        exact .of e
end Go.Proofs.YtfmcncflooechaaGreatDoor

/- Walks: the reference's solver, its parts. Plain theorems. -/
set_option linter.unusedVariables false
set_option linter.unusedSimpArgs false
namespace Go.Proofs.YtfmcncflooechaaGreatDoor
open Go Go.Fw
set_option maxRecDepth 100000
/-- The numbers, each put where it belongs. -/
def sortU (s : List Int) : List Int := s.foldl (fun a v => put3 v a) []
theorem sortU_snoc (s : List Int) (v : Int) : sortU (s ++ [v]) = put3 v (sortU s) := by simp [sortU]
theorem foldl_put3_len : ∀ (s a : List Int), (s.foldl (fun a v => put3 v a) a).length = a.length + s.length
  | [], a => rfl
  | v :: s, a => by rw [List.foldl_cons, foldl_put3_len s, put3_len, List.length_cons]; omega
theorem sortU_len (s : List Int) : (sortU s).length = s.length := by simp [sortU, foldl_put3_len]
theorem put3_mem {v x : Int} : ∀ {l : List Int}, x ∈ put3 v l → x = v ∨ x ∈ l
  | [], h => by simp [put3] at h; exact .inl h
  | y :: ys, h => by
    rw [put3] at h
    split at h
    · simp at h; rcases h with h | h | h <;> simp [h]
    · rcases List.mem_cons.1 h with h | h
      · simp [h]
      · rcases put3_mem h with h | h <;> simp [h]
theorem c_l4Sorted (s : List Int) (hs : s.length ≤ 1048576) : PCtr PP n_spec_l4Sorted [.sl false 1 (s.map i64)] (.sl true 1 ((sortU s).map i64)) := by
  obtain ⟨Ω, hΩ⟩ : ∃ Ω, Ω = std := ⟨_, rfl⟩
  obtain ⟨xs, hxs⟩ : ∃ xs, xs = s.map i64 := ⟨_, rfl⟩
  have hlen : xs.length = s.length := by rw [hxs, List.length_map]
  rw [← hxs]
  obtain ⟨F, hF⟩ : ∃ F : Nat → List A, F = fun i => (sortU (s.take i)).map i64 := ⟨_, rfl⟩
  have hF0 : F 0 = [] := by rw [hF]; rfl
  have hFl : ∀ i, (F i).length ≤ i := fun i => by rw [hF]; simp [sortU_len]; omega
  have hFz : ∀ i, (F i).map frz = F i := fun i => by rw [hF]; exact frz_I _
  have hFr : ∀ i, roFree (.sl true 1 (F i)) = true := fun i => by rw [hF]; exact roF_I _
  have hput : ∀ i c, s[i]? = some c → PCtr PP n_spec_l3Put [.sl false 1 (F i), i64 c] (.sl true 1 (F (i + 1))) := fun i c h => by
    have := c_l3Put (sortU (s.take i)) c (by rw [sortU_len]; simp; omega)
    rw [← sortU_snoc] at this
    rw [hF]; show PCtr PP n_spec_l3Put [.sl false 1 ((sortU (s.take i)).map i64), i64 c] (.sl true 1 ((sortU (s.take (i + 1))).map i64))
    rw [List.take_add_one, h]; exact this
  have hend : (sortU s).map i64 = F s.length := by rw [hF]; show _ = (sortU (s.take s.length)).map i64; rw [List.take_length]
  rw [hend]
  clear hend hF
  have htab := tab
  refine PCtr.walk tab hΩ fn_spec_l4Sorted rfl ?_
  generalize PP = P at *
  cbv
  refine loopX htab hΩ (fun i : Nat => ⟨[(0, .sl false 1 xs), (3, .vw 0 0 (Ω.len (F i))), (4, i64 (Ω.int i))], 19, [some ⟨1, F i, false⟩]⟩) (fun i => i ≤ s.length) (fun i => s.length - i) 0 (Nat.zero_le _)
    (Sbs.mk rfl (by rw [hF0]) ⟨rfl, by rw [hF0]; subst hΩ; rfl, zeroI hΩ, trivial⟩) ?_
  intro i hi
  have hFli := hFl i
  have hro : ∀ {S : State}, Fw.rowAt S.rows 0 = some ⟨1, F i, false⟩ → roO S 3 (.vw 0 0 (Ω.len (F i))) = some (.sl false 1 (F i)) := fun h => ro_vw h (by subst hΩ; rfl) (hFz i)
  have hne : s.length ≤ i → F i = F s.length := fun h => by rw [show i = s.length by omega]
  have hle : Ω.len (F i) ≤ (F i).length := by subst hΩ; exact Nat.le_refl _
  have htk : Ω.take (Ω.len (F i)) (F i) = F i := takeAll hΩ _
  cbv
  refine br (fun h => ?_) (fun h => ?_) <;> cbv
  · replace h := ltI hΩ h
    obtain ⟨c, hc⟩ := at_of (cs := s) (by omega : i < s.length)
    refine ⟨⟨nnI hΩ⟩, _, rdI hΩ hxs hc, ?_⟩
    cbv
    refine call_pure hΩ 3 (hput i c hc) (mapO2 (hro rfl) rfl) (fits _) (hFr _) rfl ?_
    cbv
    exact ⟨i + 1, by omega, by omega, (Sbs.drop (r := 0) rfl).trans ((Sbs.mv (a := 1) (b := 0) rfl rfl (Nat.le_of_ble_eq_true rfl)).trans ((Sbs.cut 1 rfl).trans (Sbs.mk rfl rfl ⟨rfl, rfl, incI hΩ (by omega), trivial⟩)))⟩
  · replace h := geI hΩ h
    exact ⟨⟨rfl, hle⟩, .of (by rw [← hne (by omega)]; exact congrArg _ htk)⟩
/-- A step of the solver: what is chosen, what is denied after it. -/
def frmA (f : Int × List Int) : A := .agg [i64 f.1, .sl false 1 (f.2.map i64)]
theorem c_l4Chosen (fs : List (Int × List Int)) (hs : fs.length ≤ 1048576) : PCtr PP n_spec_l4Chosen [.sl false 2 (fs.map frmA)] (.sl true 1 ((fs.map Prod.fst).map i64)) := by
  obtain ⟨Ω, hΩ⟩ : ∃ Ω, Ω = std := ⟨_, rfl⟩
  obtain ⟨xs, hxs⟩ : ∃ xs, xs = fs.map frmA := ⟨_, rfl⟩
  have hlen : xs.length = fs.length := by rw [hxs, List.length_map]
  rw [← hxs]
  obtain ⟨F, hF⟩ : ∃ F : Nat → List A, F = fun i => ((fs.take i).map Prod.fst).map i64 := ⟨_, rfl⟩
  have hF0 : F 0 = [] := by rw [hF]; rfl
  have hFl : ∀ i, (F i).length ≤ i := fun i => by rw [hF]; simp; omega
  have hst : ∀ i c, fs[i]? = some c → Ω.app (Ω.take (Ω.len (F i)) (F i)) [i64 c.1] = F (i + 1) := fun i c h => by
    rw [takeAll hΩ]
    subst hΩ; rw [hF]; show List.map i64 (List.map Prod.fst (fs.take i)) ++ [i64 c.1] = List.map i64 (List.map Prod.fst (fs.take (i + 1)))
    rw [List.take_add_one, h, List.map_append, List.map_append]; rfl
  have hln : ∀ i c, fs[i]? = some c → Ω.plus (Ω.len (F i)) (Ω.len [i64 c.1]) = Ω.len (F (i + 1)) := fun i c h => by
    rw [← hst i c h, takeAll hΩ]; subst hΩ; show (F i).length + 1 = (F i ++ [i64 c.1]).length; rw [List.length_append]; rfl
  have hend : (fs.map Prod.fst).map i64 = F fs.length := by rw [hF]; show _ = ((fs.take fs.length).map Prod.fst).map i64; rw [List.take_length]
  rw [hend]
  clear hend hF
  have htab := tab
  refine PCtr.walk tab hΩ fn_spec_l4Chosen rfl ?_
  generalize PP = P at *
  cbv
  refine loopX htab hΩ (fun i : Nat => ⟨[(0, .sl false 2 xs), (3, .vw 0 0 (Ω.len (F i))), (4, i64 (Ω.int i))], 21, [some ⟨1, F i, false⟩]⟩) (fun i => i ≤ fs.length) (fun i => fs.length - i) 0 (Nat.zero_le _)
    (Sbs.mk rfl (by rw [hF0]) ⟨rfl, by rw [hF0]; subst hΩ; rfl, zeroI hΩ, trivial⟩) ?_
  intro i hi
  have hFli := hFl i
  have hne : fs.length ≤ i → F i = F fs.length := fun h => by rw [show i = fs.length by omega]
  have hle : Ω.len (F i) ≤ (F i).length := by subst hΩ; exact Nat.le_refl _
  have hle2 : Ω.len (F i) ≤ 1048576 := by omega
  have htk : Ω.take (Ω.len (F i)) (F i) = F i := takeAll hΩ _
  have hst2 : ∀ c, fs[i]? = some c → some (Row.mk 1 (Ω.app (Ω.take (Ω.len (F i)) (F i)) [i64 c.1]) false) = some (Row.mk 1 (F (i + 1)) false) := fun c h => by rw [hst i c h]
  have hln2 := hln i
  cbv
  refine br (fun h => ?_) (fun h => ?_) <;> cbv
  · replace h := ltI hΩ h
    obtain ⟨c, hc⟩ := at_of (cs := fs) (by omega : i < fs.length)
    have hrd : xs[(Ω.int i).toNat]? = some (.agg [i64 c.1, .sl false 1 (c.2.map i64)]) := by have := rdI hΩ hxs hc; exact this
    have hst2 := hst2 c hc
    have hln2 := hln2 c hc
    generalize c.1 = c1 at *
    generalize c.2.map i64 = c2 at *
    refine ⟨⟨nnI hΩ⟩, _, hrd, ?_⟩
    cbv
    exact ⟨⟨rfl, okAll rfl, by show (Ω.len (F i) + 1) * 8 ≤ 140737488355328; omega, by show Ω.len (F i) + 1 ≤ 9223372036854775807; omega⟩, i + 1, by omega, by omega, (Sbs.cut 1 rfl).trans (Sbs.mk rfl (by show [_] = _; rw [← hst2]; rfl) ⟨rfl, congrArg (A.vw 0 0) hln2, incI hΩ (by omega), trivial⟩)⟩
  · replace h := geI hΩ h
    exact ⟨⟨rfl, hle⟩, .of (by rw [← hne (by omega)]; exact congrArg _ htk)⟩
end Go.Proofs.YtfmcncflooechaaGreatDoor

/- Walks: the reference's solver: what is unmet, what fits. Plain theorems. -/
set_option linter.unusedVariables false
set_option linter.unusedSimpArgs false
namespace Go.Proofs.YtfmcncflooechaaGreatDoor
open Go Go.Fw
set_option maxRecDepth 100000
/-- Some terms. -/
def someTs (x : A) : Prop := ∃ us : List Trm, x = .sl false 7 (us.map Trm.enc) ∧ us.length ≤ 1048576
/-- One place cut out. -/
theorem seg1 {Ω : Opq} (hΩ : Ω = std) {i : Nat} {xs : List A} (h : i < xs.length) (hs : xs.length ≤ 4611686018427387904) :
    0 ≤ Ω.ar .add .i64 (Ω.int i) 1 ∧ Ω.nat (Ω.int i) ≤ Ω.nat (Ω.ar .add .i64 (Ω.int i) 1) ∧ Ω.nat (Ω.ar .add .i64 (Ω.int i) 1) ≤ xs.length ∧ ∃ z, xs[i]? = some z ∧ Ω.seg (Ω.nat (Ω.int i)) (Ω.nat (Ω.ar .add .i64 (Ω.int i) 1)) xs = [z] := by
  subst hΩ
  have e : std.ar .add .i64 (std.int i) 1 = ((i + 1 : Nat) : Int) := inc64 (by omega)
  rw [e]
  refine ⟨by omega, by show i ≤ i + 1; omega, h, xs[i], List.getElem?_eq_getElem h, ?_⟩
  show ((xs.take (i + 1)).drop i) = _
  rw [List.drop_take, List.drop_eq_getElem_cons h, show i + 1 - i = 1 by omega]; rfl
theorem fitNilT : FitX .nil (.sl false 7 (([] : List Trm).map Trm.enc)) := ⟨1, by simp [fitA]⟩
theorem r_l4Unmet (l : List Pck) (az : List Trm) (s : List Int) (hl : l.length ≤ 1048576) (hs : s.length ≤ 1048576) (ha : az.length ≤ 1048576) (ho : ∀ o ∈ l, o.Small) (hk : ∀ k ∈ s, inB k 0 ((l.length : Int) - 1) = true) :
    RCtr PP n_spec_l4Unmet [encP l, .sl false 7 (az.map Trm.enc), .sl false 1 (s.map i64)] someTs := by
  obtain ⟨Ω, hΩ⟩ : ∃ Ω, Ω = std := ⟨_, rfl⟩
  have hat : ∀ k, inB k 0 ((l.length : Int) - 1) = true → 0 ≤ k ∧ ∃ n v1 v2 v3 sz ps ds bs, (l.map (Pck.enc false))[k.toNat]? = some (.agg [str n, i64 v1, i64 v2, i64 v3, i64 sz, .sl false 1 ps, .sl false 1 ds, .sl false 7 bs]) ∧ pk l k ∈ l ∧
      ds = (pk l k).d.map (encTs false) := fun k h => by
    obtain ⟨h0, h1, h2, h3⟩ := pk_at h
    obtain ⟨ps, ds, bs, hen, hp, hd, hb⟩ := enc_raw (pk l k)
    exact ⟨h0, _, _, _, _, _, ps, ds, bs, by rw [List.getElem?_map, h2]; exact congrArg some hen, h3, hd⟩
  obtain ⟨cs, hcs⟩ : ∃ cs, cs = l.map (Pck.enc false) := ⟨_, rfl⟩
  obtain ⟨xs, hxs⟩ : ∃ xs, xs = s.map i64 := ⟨_, rfl⟩
  obtain ⟨es, hes⟩ : ∃ es, es = az.map Trm.enc := ⟨_, rfl⟩
  have hxl : xs.length = s.length := by rw [hxs, List.length_map]
  have hel : es.length = az.length := by rw [hes, List.length_map]
  have hmet : ∀ d : List Trm, d.length ≤ 1048576 → PCtr PP n_spec_l3Met [encP l, .sl false 1 xs, .sl false 7 (d.map Trm.enc)] (boo (metB l s d)) := fun d hd => by
    rw [hxs]
    exact c_l3Met l s d hl hs hd ho hk
  unfold encP at *
  rw [← hcs] at hat hmet ⊢
  rw [← hxs, ← hes]
  have htab := tab
  have hmo := hmo
  refine RCtr.walk tab hΩ fn_spec_l4Unmet rfl ?_
  generalize PP = P at *
  cbv
  refine loopX htab hΩ (fun i : Nat => ⟨[(0, .sl false 8 cs), (1, .sl false 7 es), (2, .sl false 1 xs), (7, i64 (Ω.int i))], 65, []⟩) (fun i => i ≤ az.length) (fun i => az.length - i) 0 (Nat.zero_le _)
    (Sbs.mk rfl rfl ⟨rfl, rfl, rfl, zeroI hΩ, trivial⟩) ?_
  intro i hi
  cbv
  refine br (fun h => ?_) (fun h => ?_) <;> cbv
  · replace h := ltI hΩ h
    obtain ⟨c, hc⟩ := at_of (cs := az) (by omega : i < az.length)
    obtain ⟨q1, q2, q3, z, hz, q4⟩ := seg1 hΩ (i := i) (xs := es) (by omega) (by omega)
    have hz2 : z = c.enc := by
      rw [hes, List.getElem?_map, hc] at hz; exact (Option.some.inj hz).symm
    have hcm := hmet [c] (Nat.le_of_ble_eq_true rfl)
    generalize metB l s [c] = gu at hcm
    refine ⟨⟨nnI hΩ, q1, q2, q3⟩, ?_⟩
    refine call_pure hΩ 3 hcm rfl (fitsE (by show [_, _, A.sl false 7 (Ω.seg _ _ _)] = _; rw [q4, hz2]; rfl)) rfl rfl ?_
    cbv
    refine br (fun g => ?_) (fun g => ?_) <;> cbv
    · exact ⟨⟨nnI hΩ, q1, q2, q3⟩, _, ⟨[c], rfl, Nat.le_of_ble_eq_true rfl⟩, .of (by show A.sl false 7 (Ω.seg _ _ _) = _; rw [q4, hz2]; rfl)⟩
    · exact ⟨i + 1, by omega, by omega, Sbs.mk rfl rfl ⟨rfl, rfl, rfl, incI hΩ (by omega), trivial⟩⟩
  · replace h := geI hΩ h
    refine loopX htab hΩ (fun i : Nat => ⟨[(0, .sl false 8 cs), (2, .sl false 1 xs), (8, i64 (Ω.int i))], 65, []⟩) (fun i => i ≤ s.length) (fun i => s.length - i) 0 (Nat.zero_le _)
      (Sbs.mk rfl rfl ⟨rfl, rfl, zeroI hΩ, trivial⟩) ?_
    intro j hj
    cbv
    refine br (fun h => ?_) (fun h => ?_) <;> cbv
    · replace h := ltI hΩ h
      obtain ⟨c, hc⟩ := at_of (cs := s) (by omega : j < s.length)
      obtain ⟨hc0, nn, v1, v2, v3, sz, ps, ds, bs, hx, hm, hds⟩ := hat c (hk c (List.mem_of_getElem? hc))
      have hdl : ds.length = (pk l c).d.length := by rw [hds, List.length_map]
      have hsm := ho _ hm
      have hd1 := hsm.d
      have hd2 := hsm.e
      generalize (pk l c).d = d at *
      refine ⟨⟨nnI hΩ⟩, _, rdI hΩ hxs hc, ?_⟩
      cbv
      refine ⟨⟨hc0⟩, _, hx, ?_⟩
      cbv
      refine loopX htab hΩ (fun q : Nat => ⟨[(0, .sl false 8 cs), (2, .sl false 1 xs), (8, i64 (Ω.int j)), (9, .pt 0 0 0), (10, i64 (Ω.int q))], 65,
        [some ⟨8, [.agg [str nn, i64 v1, i64 v2, i64 v3, i64 sz, .sl false 1 ps, .sl false 1 ds, .sl false 7 bs]], true⟩]⟩)
        (fun q => q ≤ d.length) (fun q => d.length - q) 0 (Nat.zero_le _) (Sbs.mk rfl rfl ⟨rfl, rfl, rfl, rfl, zeroI hΩ, trivial⟩) ?_
      intro q hq
      cbv
      refine br (fun h => ?_) (fun h => ?_) <;> cbv
      · replace h := ltI hΩ h
        obtain ⟨u, huu⟩ := at_of (cs := d) (by omega : q < d.length)
        have hul := hd2 u (List.mem_of_getElem? huu)
        have hcm := hmet u hul
        obtain ⟨us, hus⟩ : ∃ us, us = u.map Trm.enc := ⟨_, rfl⟩
        rw [← hus] at hcm
        have hrd : ds[(Ω.int q).toNat]? = some (.sl false 7 us) := (rdI hΩ hds huu).trans (by rw [hus]; rfl)
        generalize metB l s u = gu at hcm
        refine ⟨⟨nnI hΩ⟩, _, hrd, ?_⟩
        cbv
        refine call_pure hΩ 3 hcm rfl (fits _) rfl rfl ?_
        cbv
        refine br (fun g => ?_) (fun g => ?_) <;> cbv
        · refine ⟨⟨nnI hΩ⟩, _, hrd, ?_⟩
          cbv
          exact ⟨_, ⟨u, rfl, hul⟩, .of (by rw [hus]; rfl)⟩
        · exact ⟨q + 1, by omega, by omega, Sbs.mk rfl rfl ⟨rfl, rfl, rfl, rfl, incI hΩ (by omega), trivial⟩⟩
      · replace h := geI hΩ h
        exact ⟨j + 1, by omega, by omega, (Sbs.cut 0 rfl).trans (Sbs.mk rfl rfl ⟨rfl, rfl, incI hΩ (by omega), trivial⟩)⟩
    · exact ⟨_, ⟨[], rfl, Nat.zero_le _⟩, fitNilT⟩
end Go.Proofs.YtfmcncflooechaaGreatDoor

/- Walks: the reference's solver: what fits, what is ahead, candidates. Plain theorems. -/
set_option linter.unusedVariables false
set_option linter.unusedSimpArgs false
namespace Go.Proofs.YtfmcncflooechaaGreatDoor
open Go Go.Fw
set_option maxRecDepth 100000
def someB (x : A) : Prop := ∃ b, x = boo b
theorem r_l4Ahead (l : List Pck) (s : List Int) (a b : Int) (hl : l.length ≤ 1048576) (hs : s.length ≤ 1048576) (ha : inB a 0 ((l.length : Int) - 1) = true) (hb : inB b 0 ((l.length : Int) - 1) = true) :
    RCtr PP n_spec_l4Ahead [encP l, .sl false 1 (s.map i64), i64 a, i64 b] someB := by
  obtain ⟨Ω, hΩ⟩ : ∃ Ω, Ω = std := ⟨_, rfl⟩
  have hat : ∀ k, inB k 0 ((l.length : Int) - 1) = true → 0 ≤ k ∧ ∃ n v1 v2 v3 sz ps ds bs, (pk l k).v = ⟨v1, v2, v3⟩ ∧ (l.map (Pck.enc false))[k.toNat]? = some (.agg [str n, i64 v1, i64 v2, i64 v3, i64 sz, .sl false 1 ps, .sl false 1 ds, .sl false 7 bs]) := fun k h => by
    obtain ⟨h0, h1, h2, h3⟩ := pk_at h
    obtain ⟨ps, ds, bs, hen, hp, hd, hb⟩ := enc_raw (pk l k)
    exact ⟨h0, _, (pk l k).v.a, (pk l k).v.b, (pk l k).v.c, _, ps, ds, bs, rfl, by rw [List.getElem?_map, h2]; exact congrArg some hen⟩
  obtain ⟨ha0, n1, x1, x2, x3, z1, p1, d1, b1, -, hx⟩ := hat a ha
  obtain ⟨hb0, n2, y1, y2, y3, z2, p2, d2, b2, -, hy⟩ := hat b hb
  have hv := c_CompareVersions ⟨x1, x2, x3⟩ ⟨y1, y2, y3⟩
  generalize cmpV ⟨x1, x2, x3⟩ ⟨y1, y2, y3⟩ = cv at hv
  have hha := c_l1Has s a (by omega)
  have hhb := c_l1Has s b (by omega)
  generalize s.any (· == a) = h1 at hha
  generalize s.any (· == b) = h2 at hhb
  unfold encP Ver.enc at *
  generalize l.map (Pck.enc false) = cs at *
  generalize s.map i64 = xs at *
  have htab := tab
  have hmo := hmo
  refine RCtr.walk tab hΩ fn_spec_l4Ahead rfl ?_
  generalize PP = P at *
  cbv
  refine call_pure hΩ 3 hha rfl (fits _) rfl rfl ?_
  cbv
  refine call_pure hΩ 3 hhb rfl (fits _) rfl rfl ?_
  cbv
  refine br (fun h => ?_) (fun h => ?_) <;> cbv
  · refine call_pure hΩ 3 hha rfl (fits _) rfl rfl ?_
    cbv
    exact ⟨_, ⟨_, rfl⟩, .same⟩
  · refine ⟨VC_drawn htab hΩ hmo (by kernel_rfl) ?_⟩
    cbv
    refine ⟨⟨ha0⟩, _, hx, ?_⟩
    cbv
    refine ⟨⟨hb0⟩, _, hy, ?_⟩
    cbv
    refine QCall_pure (k := 3) hv rfl (fits _) rfl ?_
    cbv
    refine br (fun h => ?_) (fun h => ?_) <;> cbv
    · exact ⟨_, ⟨_, rfl⟩, .same⟩
    · exact ⟨_, ⟨_, rfl⟩, .same⟩
theorem r_l4Fits (l : List Pck) (s : List Int) (a : Int) (hl : l.length ≤ 1048576) (hs : s.length ≤ 1048576) (ho : ∀ o ∈ l, o.Small) (hk : ∀ k ∈ s, inB k 0 ((l.length : Int) - 1) = true) (ha : inB a 0 ((l.length : Int) - 1) = true) :
    RCtr PP n_spec_l4Fits [encP l, .sl false 1 (s.map i64), i64 a] someB := by
  obtain ⟨Ω, hΩ⟩ : ∃ Ω, Ω = std := ⟨_, rfl⟩
  have hat : ∀ k, inB k 0 ((l.length : Int) - 1) = true → 0 ≤ k ∧ ∃ n v1 v2 v3 sz ps ds bs, (l.map (Pck.enc false))[k.toNat]? = some (.agg [str n, i64 v1, i64 v2, i64 v3, i64 sz, .sl false 1 ps, .sl false 1 ds, .sl false 7 bs]) ∧
      ∀ q, inB q 0 ((l.length : Int) - 1) = true → ∃ g, PCtr PP n_spec_l4BarsOne [encP l, .sl false 7 bs, i64 q] (boo g) := fun k h => by
    obtain ⟨h0, h1, h2, h3⟩ := pk_at h
    obtain ⟨ps, ds, bs, hen, hp, hd, hb⟩ := enc_raw (pk l k)
    exact ⟨h0, _, _, _, _, _, ps, ds, bs, by rw [List.getElem?_map, h2]; exact congrArg some hen, fun q hq => ⟨_, by rw [hb]; exact c_l4BarsOne l _ q hl (ho _ h3).b ho hq⟩⟩
  obtain ⟨xs, hxs⟩ : ∃ xs, xs = s.map i64 := ⟨_, rfl⟩
  have hxl : xs.length = s.length := by rw [hxs, List.length_map]
  obtain ⟨ha0, n1, u1, u2, u3, z1, p1, d1, b1, hx, hg⟩ := hat a ha
  unfold encP at *
  generalize l.map (Pck.enc false) = cs at *
  rw [← hxs]
  have htab := tab
  have hmo := hmo
  refine RCtr.walk tab hΩ fn_spec_l4Fits rfl ?_
  generalize PP = P at *
  cbv
  refine loopX htab hΩ (fun i : Nat => ⟨[(0, .sl false 8 cs), (1, .sl false 1 xs), (2, i64 a), (7, i64 (Ω.int i))], 54, []⟩) (fun i => i ≤ s.length) (fun i => s.length - i) 0 (Nat.zero_le _)
    (Sbs.mk rfl rfl ⟨rfl, rfl, rfl, zeroI hΩ, trivial⟩) ?_
  intro i hi
  cbv
  refine br (fun h => ?_) (fun h => ?_) <;> cbv
  · replace h := ltI hΩ h
    obtain ⟨c, hc⟩ := at_of (cs := s) (by omega : i < s.length)
    have hck := hk c (List.mem_of_getElem? hc)
    obtain ⟨hc0, nn, v1, v2, v3, sz, ps, ds, bs, hx2, hg2⟩ := hat c hck
    obtain ⟨g1, hg1⟩ := hg2 a ha
    obtain ⟨g2, hg2⟩ := hg c hck
    refine ⟨VC_drawn htab hΩ hmo (by kernel_rfl) ?_⟩
    cbv
    refine ⟨⟨nnI hΩ⟩, _, rdI hΩ hxs hc, ?_⟩
    cbv
    refine ⟨⟨hc0⟩, _, hx2, ?_⟩
    cbv
    refine ⟨⟨ha0⟩, _, hx, ?_⟩
    cbv
    repeat' (first
      | (refine br (fun _ => ?_) (fun _ => ?_) <;> cbv)
      | (refine ⟨⟨nnI hΩ⟩, _, rdI hΩ hxs hc, ?_⟩; cbv)
      | (refine ⟨⟨hc0⟩, _, hx2, ?_⟩; cbv)
      | (refine ⟨⟨ha0⟩, _, hx, ?_⟩; cbv)
      | (refine QCall_pure (k := 3) hg1 rfl (fits _) rfl ?_; cbv)
      | (refine QCall_pure (k := 3) hg2 rfl (fits _) rfl ?_; cbv)
      | exact ⟨_, ⟨_, rfl⟩, .same⟩
      | exact ⟨i + 1, by omega, by omega, Sbs.mk rfl rfl ⟨rfl, rfl, rfl, incI hΩ (by omega), trivial⟩⟩)
  · replace h := geI hΩ h
    exact ⟨_, ⟨_, rfl⟩, .same⟩
end Go.Proofs.YtfmcncflooechaaGreatDoor

/- Walks: the reference's solver: candidates. Plain theorems. -/
set_option linter.unusedVariables false
set_option linter.unusedSimpArgs false
namespace Go.Proofs.YtfmcncflooechaaGreatDoor
open Go Go.Fw
set_option maxRecDepth 100000
theorem gtZ {Ω : Opq} (hΩ : Ω = std) {n : Nat} (h : Ω.cmp .gtr (Ω.int n) 0 = true) : 0 < n := by subst hΩ; have := gt_t h; exact Int.ofNat_lt.1 this
theorem decJ {Ω : Opq} (hΩ : Ω = std) {n : Nat} (h : 0 < n) (h2 : n ≤ 4611686018427387904) : Ω.ar .sub .i64 (Ω.int n) 1 = Ω.int (n - 1) := by
  subst hΩ; show IntKind.i64.wrap ((n : Int) - 1) = ((n - 1 : Nat) : Int); rw [wrap64 (by omega) (by omega)]; omega
theorem ints_ok (c : List Int) : (∀ y ∈ c.map i64, noOwn y = true) ∧ ∀ x ∈ flat (c.map i64), okCell x = true :=
  ⟨fun y h => by obtain ⟨k, _, rfl⟩ := List.mem_map.1 h; rfl, fun x h => by
    obtain ⟨y, hy, hx⟩ := List.mem_flatMap.1 h
    obtain ⟨k, _, rfl⟩ := List.mem_map.1 hy
    rw [show x = i64 k from List.mem_singleton.1 hx]; rfl⟩
theorem cand_new {F : List Int → List A} (hF : F = fun s => s.map i64) (c : List Int) (i : Int) (n : Nat) (hn : n ≤ c.length) :
    (((((((([] : List A).take 0 ++ ((F c).take n).drop 0).take (0 + (((F c).take n).drop 0).length)) ++ [i64 i]).take (0 + (((F c).take n).drop 0).length + 1)) ++ ((F c).take (F c).length).drop n).map frz).drop 0).take (0 + (((F c).take n).drop 0).length + 1 + (((F c).take (F c).length).drop n).length) = F (c.take n ++ [i] ++ c.drop n) := by
  rw [hF]
  simp only [List.take_nil, List.nil_append, List.drop_zero, Nat.zero_add, List.take_length]
  rw [List.take_of_length_le (l := List.take n (List.map i64 c) ++ [i64 i]) (by simp), List.take_of_length_le (by simp; omega)]
  rw [← frz_I (c.take n ++ [i] ++ c.drop n)]
  congr 1
  simp
theorem segOK {Ω : Opq} (hΩ : Ω = std) {xs : List A} (h1 : ∀ y ∈ xs, noOwn y = true) (h2 : ∀ c ∈ flat xs, okCell c = true) (l h : Nat) : (∀ y ∈ Ω.seg l h xs, noOwn y = true) ∧ (∀ c ∈ flat (Ω.seg l h xs), okCell c = true) := by
  subst hΩ
  have hs : ∀ y ∈ (xs.take h).drop l, y ∈ xs := fun y hy => List.mem_of_mem_take (List.mem_of_mem_drop hy)
  refine ⟨fun y hy => h1 y (hs y hy), fun c hc => h2 c ?_⟩
  obtain ⟨x, hx, hy⟩ := List.mem_flatMap.1 hc
  exact List.mem_flatMap.2 ⟨x, hs x hx, hy⟩
/-- Some places below n. -/
def someP (n : Nat) (x : A) : Prop := ∃ c : List Int, x = .sl false 1 (c.map i64) ∧ c.length ≤ n ∧ ∀ k ∈ c, 0 ≤ k ∧ k < (n : Int)
theorem r_l4Candidates (l : List Pck) (us : List Trm) (s d y : List Int) (hl : l.length ≤ 1048576) (hu : us.length ≤ 1048576) (hs : s.length ≤ 1048576) (hd : d.length ≤ 1048576) (hy : y.length ≤ 1048576) (ho : ∀ o ∈ l, o.Small) (hk : ∀ k ∈ s, inB k 0 ((l.length : Int) - 1) = true) :
    RCtr PP n_spec_l4Candidates [encP l, .sl false 7 (us.map Trm.enc), .sl false 1 (s.map i64), .sl false 1 (d.map i64), .sl false 1 (y.map i64)] (someP l.length) := by
  obtain ⟨Ω, hΩ⟩ : ∃ Ω, Ω = std := ⟨_, rfl⟩
  have hin : ∀ i : Nat, i < l.length → inB i 0 ((l.length : Int) - 1) = true := fun i h => by simp only [inB, Bool.and_eq_true, decide_eq_true_eq]; omega
  have hin2 : ∀ i : Int, 0 ≤ i → i < (l.length : Int) → inB i 0 ((l.length : Int) - 1) = true := fun i h h2 => by simp only [inB, Bool.and_eq_true, decide_eq_true_eq]; omega
  have hat : ∀ i : Nat, i < l.length → ∃ n v1 v2 v3 sz ps ds bs, (l.map (Pck.enc false))[i]? = some (.agg [str n, i64 v1, i64 v2, i64 v3, i64 sz, .sl false 1 ps, .sl false 1 ds, .sl false 7 bs]) ∧
      ∀ t : Trm, ∃ g, PCtr PP n_spec_l2Gives [.agg [str n, i64 v1, i64 v2, i64 v3, i64 sz, .sl false 1 ps, .sl false 1 ds, .sl false 7 bs], t.enc] (boo g) := fun i h => by
    obtain ⟨h0, h1, h2, h3⟩ := pk_at (hin i h)
    obtain ⟨ps, ds, bs, hen, hp, hd, hb⟩ := enc_raw (pk l i)
    exact ⟨_, _, _, _, _, ps, ds, bs, by rw [List.getElem?_map, show i = (i : Int).toNat from rfl, h2]; exact congrArg some hen, fun t => ⟨_, by rw [← hen]; exact c_l2Gives (pk l i) t (by have := (ho _ h3).p; omega)⟩⟩
  have hfit := fun (i : Nat) h => r_l4Fits l s i hl hs ho hk (hin i h)
  have hah := fun (i : Nat) h q h0 h1 => r_l4Ahead l y i q hl hy (hin i h) (hin2 q h0 h1)
  have hhs : ∀ i : Int, ∃ g, PCtr PP n_spec_l1Has [.sl false 1 (s.map i64), i64 i] (boo g) := fun i => ⟨_, c_l1Has s i (by omega)⟩
  have hhd : ∀ i : Int, ∃ g, PCtr PP n_spec_l1Has [.sl false 1 (d.map i64), i64 i] (boo g) := fun i => ⟨_, c_l1Has d i (by omega)⟩
  obtain ⟨L, hL⟩ : ∃ L, L = l.length := ⟨_, rfl⟩
  unfold encP at *
  obtain ⟨cs, hcs⟩ : ∃ cs, cs = l.map (Pck.enc false) := ⟨_, rfl⟩
  have hcl : cs.length = L := by rw [hcs, List.length_map, hL]
  rw [← hcs] at hat hfit hah ⊢
  rw [← hL] at hat hfit hah ⊢
  obtain ⟨es, hes⟩ : ∃ es, es = us.map Trm.enc := ⟨_, rfl⟩
  have hel : es.length = us.length := by rw [hes, List.length_map]
  rw [← hes]
  obtain ⟨F, hF⟩ : ∃ F : List Int → List A, F = fun s => s.map i64 := ⟨_, rfl⟩
  have hF0 : F [] = [] := by rw [hF]; rfl
  have hFl : ∀ s, (F s).length = s.length := fun s => by rw [hF]; exact List.length_map _
  have hFm : ∀ c : List Int, c.map i64 = F c := fun c => by rw [hF]
  have hFat : ∀ (c : List Int) (n : Nat), n < c.length → ∃ k, c[n]? = some k ∧ (F c)[n]? = some (i64 k) := fun c n h => ⟨c[n], List.getElem?_eq_getElem h, by rw [hF]; simp [h]⟩
  generalize s.map i64 = xs at *
  generalize d.map i64 = zs at *
  generalize y.map i64 = ys at *
  have htab := tab
  have hmo := hmo
  refine RCtr.walk tab hΩ fn_spec_l4Candidates rfl ?_
  generalize PP = P at *
  cbv
  refine loopX htab hΩ (fun i : Nat × List Int => ⟨[(0, .sl false 8 cs), (1, .sl false 7 es), (2, .sl false 1 xs), (3, .sl false 1 zs), (4, .sl false 1 ys), (11, .sl false 1 (F i.2)), (12, i64 (Ω.int i.1))], 90, []⟩)
    (fun i => i.1 ≤ L ∧ i.2.length ≤ i.1 ∧ ∀ k ∈ i.2, 0 ≤ k ∧ k < (L : Int)) (fun i => L - i.1) (0, []) ⟨Nat.zero_le _, Nat.le_refl _, by simp⟩
    ((Sbs.thaw (r := 0) rfl rfl).trans ((Sbs.cut 0 rfl).trans (Sbs.mk rfl rfl ⟨rfl, rfl, rfl, rfl, rfl, by dsimp only; rw [hF0]; rfl, zeroI hΩ, trivial⟩))) ?_
  rintro ⟨i, c⟩ ⟨i1, i2, i3⟩
  dsimp only at i1 i2 i3
  have hFc := hFl c
  have hcat := hFat c
  have hok := ints_ok c
  rw [hFm c] at hok
  have hlt : ∀ {n : Nat}, Ω.cmp .lss (Ω.int i) (Ω.int (Ω.len cs)) = true → i < L := fun h => by have := ltI hΩ h; omega
  cbv
  refine br (fun h => ?_) (fun h => ?_) <;> cbv
  · have h := hlt (n := 0) h
    obtain ⟨nn, v1, v2, v3, sz, ps, ds, bs, hx, hg⟩ := hat i h
    have hx2 : cs[(Ω.int i).toNat]? = some (.agg [str nn, i64 v1, i64 v2, i64 v3, i64 sz, .sl false 1 ps, .sl false 1 ds, .sl false 7 bs]) := rdJ hΩ hx
    refine loopX htab hΩ (fun j : Nat × Bool => ⟨[(0, .sl false 8 cs), (1, .sl false 7 es), (2, .sl false 1 xs), (3, .sl false 1 zs), (4, .sl false 1 ys), (11, .sl false 1 (F c)), (12, i64 (Ω.int i)), (13, boo j.2), (14, i64 (Ω.int j.1))], 90, []⟩)
      (fun j => j.1 ≤ us.length) (fun j => us.length - j.1) (0, false) (Nat.zero_le _) (Sbs.mk rfl rfl ⟨rfl, rfl, rfl, rfl, rfl, rfl, rfl, rfl, zeroI hΩ, trivial⟩) ?_
    rintro ⟨j, b⟩ hj
    dsimp only at hj
    cbv
    refine br (fun h2 => ?_) (fun h2 => ?_) <;> cbv
    · replace h2 := ltI hΩ h2
      obtain ⟨u, hu⟩ := at_of (cs := us) (by omega : j < us.length)
      obtain ⟨g, hg⟩ := hg u
      refine ⟨VC_drawn htab hΩ hmo (by kernel_rfl) ?_⟩
      cbv
      refine br (fun h3 => ?_) (fun h3 => ?_) <;> cbv
      · exact ⟨(j + 1, true), by dsimp only; omega, by dsimp only; omega, Sbs.mk rfl rfl ⟨rfl, rfl, rfl, rfl, rfl, rfl, rfl, rfl, incI hΩ (by omega), trivial⟩⟩
      · refine ⟨⟨nnI hΩ⟩, _, hx2, ?_⟩
        cbv
        refine ⟨⟨nnI hΩ⟩, _, rdI hΩ hes hu, ?_⟩
        cbv
        refine QCall_pure (k := 3) hg rfl (fits _) rfl ?_
        cbv
        exact ⟨(j + 1, Ω.ite false true g), by dsimp only; omega, by dsimp only; omega, Sbs.mk rfl rfl ⟨rfl, rfl, rfl, rfl, rfl, rfl, rfl, rfl, incI hΩ (by omega), trivial⟩⟩
    · replace h2 := geI hΩ h2
      refine br (fun h3 => ?_) (fun h3 => ?_) <;> cbv
      · exact ⟨(i + 1, c), ⟨by dsimp only; omega, by dsimp only; omega, i3⟩, by dsimp only; omega, Sbs.mk rfl rfl ⟨rfl, rfl, rfl, rfl, rfl, rfl, incI hΩ (by omega), trivial⟩⟩
      · obtain ⟨g1, hg1⟩ := hhs (Ω.int i)
        obtain ⟨g2, hg2⟩ := hhd (Ω.int i)
        refine call_pure hΩ 3 hg1 rfl (fits _) rfl rfl ?_
        cbv
        refine br (fun h4 => ?_) (fun h4 => ?_) <;> cbv
        · exact ⟨(i + 1, c), ⟨by dsimp only; omega, by dsimp only; omega, i3⟩, by dsimp only; omega, Sbs.mk rfl rfl ⟨rfl, rfl, rfl, rfl, rfl, rfl, incI hΩ (by omega), trivial⟩⟩
        · refine call_pure hΩ 3 hg2 rfl (fits _) rfl rfl ?_
          cbv
          refine br (fun h4 => ?_) (fun h4 => ?_) <;> cbv
          · exact ⟨(i + 1, c), ⟨by dsimp only; omega, by dsimp only; omega, i3⟩, by dsimp only; omega, Sbs.mk rfl rfl ⟨rfl, rfl, rfl, rfl, rfl, rfl, incI hΩ (by omega), trivial⟩⟩
          · refine call_r hΩ 3 (hfit i h) rfl (fitsE (by subst hΩ; rfl)) (fun x ⟨g, hx⟩ => ?_)
            subst hx
            refine ⟨rfl, ?_⟩
            cbv
            refine br (fun h4 => ?_) (fun h4 => ?_) <;> cbv
            · exact ⟨(i + 1, c), ⟨by dsimp only; omega, by dsimp only; omega, i3⟩, by dsimp only; omega, Sbs.mk rfl rfl ⟨rfl, rfl, rfl, rfl, rfl, rfl, incI hΩ (by omega), trivial⟩⟩
            · refine loopX htab hΩ (fun n : Nat => ⟨[(0, .sl false 8 cs), (1, .sl false 7 es), (2, .sl false 1 xs), (3, .sl false 1 zs), (4, .sl false 1 ys), (11, .sl false 1 (F c)), (12, i64 (Ω.int i)), (15, i64 (Ω.int n))], 90, []⟩)
                (fun n => n ≤ c.length) (fun n => n) c.length (Nat.le_refl _) (Sbs.mk rfl rfl ⟨rfl, rfl, rfl, rfl, rfl, rfl, rfl, by rw [← hFc]; subst hΩ; rfl, trivial⟩) ?_
              intro n hn
              cbv
              refine br (fun h5 => ?_) (fun h5 => ?_) <;> cbv
              · have h5 : 0 < n := gtZ hΩ h5
                have e5 : Ω.ar .sub .i64 (Ω.int n) 1 = Ω.int (n - 1) := decJ hΩ h5 (by omega)
                obtain ⟨k, hk1, hk2⟩ := hcat (n - 1) (by omega)
                have hk3 := i3 k (List.mem_of_getElem? hk1)
                refine ⟨⟨by show 0 ≤ Ω.ar .sub .i64 (Ω.int n) 1; rw [e5]; exact nnI hΩ⟩, i64 k, by show (F c)[(Ω.ar .sub .i64 (Ω.int n) 1).toNat]? = some (i64 k); rw [e5]; exact rdJ hΩ hk2, ?_⟩
                cbv
                refine call_r hΩ 3 (hah i h k hk3.1 hk3.2) rfl (fitsE (by subst hΩ; rfl)) (fun x ⟨g, hx⟩ => ?_)
                subst hx
                refine ⟨rfl, ?_⟩
                cbv
                refine br (fun h6 => ?_) (fun h6 => ?_) <;> cbv
                · exact ⟨n - 1, by omega, by omega, Sbs.mk rfl rfl ⟨rfl, rfl, rfl, rfl, rfl, rfl, rfl, congrArg i64 e5, trivial⟩⟩
                · refine ⟨VC_order htab hΩ hmo [1, 2, 3, 5, 8, 9, 10] (.two 0 (.two 4 (.step 6 (.step 7 (.step 11 (.step 12 .fin)))) 6 (.step 4 (.step 7 (.step 11 (.step 12 .fin))))) 6 (.step 0 (.step 4 (.step 7 (.step 11 (.step 12 .fin)))))) (by kernel_rfl) ?_⟩
                  cbv
                  have e6 : Ω.nat (Ω.int n) = n := by subst hΩ; rfl
                  have e7 : Ω.len (F c) = c.length := by rw [← hFc]; subst hΩ; rfl
                  have q1 := segOK hΩ hok.1 hok.2 0 (Ω.nat (Ω.int n))
                  have q2 := segOK hΩ hok.1 hok.2 (Ω.nat (Ω.int n)) (Ω.len (F c))
                  have l1 : (Ω.seg 0 (Ω.nat (Ω.int n)) (F c)).length ≤ 1048576 := by subst hΩ; show (((F c).take n).drop 0).length ≤ _; simp; omega
                  have l2 : (Ω.seg (Ω.nat (Ω.int n)) (Ω.len (F c)) (F c)).length ≤ 1048576 := by subst hΩ; show (((F c).take (F c).length).drop n).length ≤ _; simp; omega
                  have l3 : Ω.plus 0 (Ω.len (Ω.seg 0 (Ω.nat (Ω.int n)) (F c))) ≤ 1048576 := by subst hΩ; show 0 + (((F c).take n).drop 0).length ≤ _; simp; omega
                  have l4 : Ω.plus (Ω.plus 0 (Ω.len (Ω.seg 0 (Ω.nat (Ω.int n)) (F c)))) 1 ≤ 1048577 := by subst hΩ; show 0 + (((F c).take n).drop 0).length + 1 ≤ _; simp; omega
                  have l5 : Ω.plus (Ω.plus 0 (Ω.len (Ω.seg 0 (Ω.nat (Ω.int n)) (F c)))) (Ω.len [i64 (Ω.int i)]) ≤ 1048577 := by subst hΩ; show 0 + (((F c).take n).drop 0).length + 1 ≤ _; simp; omega
                  have hall : ∀ q ∈ c.take n ++ [Ω.int i] ++ c.drop n, 0 ≤ q ∧ q < (L : Int) := fun q hq => by
                    rcases List.mem_append.1 hq with hq | hq
                    · rcases List.mem_append.1 hq with hq | hq
                      · exact i3 q (List.mem_of_mem_take hq)
                      · rw [List.mem_singleton.1 hq]; subst hΩ; exact ⟨Int.natCast_nonneg i, by show (i : Int) < L; omega⟩
                    · exact i3 q (List.mem_of_mem_drop hq)
                  have hlen2 : (c.take n ++ [Ω.int i] ++ c.drop n).length ≤ i + 1 := by simp; omega
                  have hnew := cand_new hF c (Ω.int i) n hn
                  refine ⟨⟨⟨trivial, nnI hΩ, Nat.zero_le _, by show Ω.nat (Ω.int n) ≤ (F c).length; omega⟩⟩, ⟨⟨nnI hΩ, trivial, by show Ω.nat (Ω.int n) ≤ Ω.len (F c); omega, by show Ω.len (F c) ≤ (F c).length; omega⟩⟩, ⟨?_, ?_⟩, ?_⟩
                  · exact ⟨⟨⟨q1.1, q1.2, by show (0 + (Ω.seg 0 (Ω.nat (Ω.int n)) (F c)).length) * 8 ≤ 140737488355328; omega, by show 0 + (Ω.seg 0 (Ω.nat (Ω.int n)) (F c)).length ≤ 9223372036854775807; omega⟩⟩, ⟨⟨rfl, okAll rfl, by show (Ω.plus 0 (Ω.len (Ω.seg 0 (Ω.nat (Ω.int n)) (F c))) + 1) * 8 ≤ 140737488355328; omega, by show Ω.plus 0 (Ω.len (Ω.seg 0 (Ω.nat (Ω.int n)) (F c))) + 1 ≤ 9223372036854775807; omega⟩⟩, ⟨⟨q2.1, q2.2, by show (Ω.plus (Ω.plus 0 (Ω.len (Ω.seg 0 (Ω.nat (Ω.int n)) (F c)))) (Ω.len [i64 (Ω.int i)]) + (Ω.seg (Ω.nat (Ω.int n)) (Ω.len (F c)) (F c)).length) * 8 ≤ 140737488355328; omega, by show Ω.plus (Ω.plus 0 (Ω.len (Ω.seg 0 (Ω.nat (Ω.int n)) (F c)))) (Ω.len [i64 (Ω.int i)]) + (Ω.seg (Ω.nat (Ω.int n)) (Ω.len (F c)) (F c)).length ≤ 9223372036854775807; omega⟩⟩, (i + 1, c.take n ++ [Ω.int i] ++ c.drop n), ⟨by dsimp only; omega, hlen2, hall⟩, by dsimp only; omega, (Sbs.thaw (r := 0) rfl rfl).trans ((Sbs.cut 0 rfl).trans (Sbs.mk rfl rfl ⟨rfl, rfl, rfl, rfl, rfl, by subst hΩ; exact congrArg (A.sl false 1) hnew, incI hΩ (by omega), trivial⟩))⟩
                  · exact ⟨⟨⟨q1.1, q1.2, by show (0 + (Ω.seg 0 (Ω.nat (Ω.int n)) (F c)).length) * 8 ≤ 140737488355328; omega, by show 0 + (Ω.seg 0 (Ω.nat (Ω.int n)) (F c)).length ≤ 9223372036854775807; omega⟩⟩, ⟨⟨Nat.le_refl _, by simp [noOwn], by simp [flat, A.cells, okCell], by show (Ω.plus 0 (Ω.len (Ω.seg 0 (Ω.nat (Ω.int n)) (F c))) + 1) * 8 ≤ 140737488355328; omega, by show Ω.plus 0 (Ω.len (Ω.seg 0 (Ω.nat (Ω.int n)) (F c))) + 1 ≤ 9223372036854775807; omega⟩⟩, ⟨⟨q2.1, q2.2, by show (Ω.plus (Ω.plus 0 (Ω.len (Ω.seg 0 (Ω.nat (Ω.int n)) (F c)))) 1 + (Ω.seg (Ω.nat (Ω.int n)) (Ω.len (F c)) (F c)).length) * 8 ≤ 140737488355328; omega, by show Ω.plus (Ω.plus 0 (Ω.len (Ω.seg 0 (Ω.nat (Ω.int n)) (F c)))) 1 + (Ω.seg (Ω.nat (Ω.int n)) (Ω.len (F c)) (F c)).length ≤ 9223372036854775807; omega⟩⟩, (i + 1, c.take n ++ [Ω.int i] ++ c.drop n), ⟨by dsimp only; omega, hlen2, hall⟩, by dsimp only; omega, (Sbs.thaw (r := 0) rfl rfl).trans ((Sbs.cut 0 rfl).trans (Sbs.mk rfl rfl ⟨rfl, rfl, rfl, rfl, rfl, by subst hΩ; exact congrArg (A.sl false 1) hnew, incI hΩ (by omega), trivial⟩))⟩
                  · exact ⟨⟨⟨q1.1, q1.2, by show (0 + (Ω.seg 0 (Ω.nat (Ω.int n)) (F c)).length) * 8 ≤ 140737488355328; omega, by show 0 + (Ω.seg 0 (Ω.nat (Ω.int n)) (F c)).length ≤ 9223372036854775807; omega⟩⟩, ⟨⟨Nat.le_refl _, by simp [noOwn], by simp [flat, A.cells, okCell], by show (Ω.plus 0 (Ω.len (Ω.seg 0 (Ω.nat (Ω.int n)) (F c))) + 1) * 8 ≤ 140737488355328; omega, by show Ω.plus 0 (Ω.len (Ω.seg 0 (Ω.nat (Ω.int n)) (F c))) + 1 ≤ 9223372036854775807; omega⟩⟩, ⟨⟨q2.1, q2.2, by show (Ω.plus (Ω.plus 0 (Ω.len (Ω.seg 0 (Ω.nat (Ω.int n)) (F c)))) 1 + (Ω.seg (Ω.nat (Ω.int n)) (Ω.len (F c)) (F c)).length) * 8 ≤ 140737488355328; omega, by show Ω.plus (Ω.plus 0 (Ω.len (Ω.seg 0 (Ω.nat (Ω.int n)) (F c)))) 1 + (Ω.seg (Ω.nat (Ω.int n)) (Ω.len (F c)) (F c)).length ≤ 9223372036854775807; omega⟩⟩, (i + 1, c.take n ++ [Ω.int i] ++ c.drop n), ⟨by dsimp only; omega, hlen2, hall⟩, by dsimp only; omega, (Sbs.thaw (r := 1) rfl rfl).trans ((Sbs.cut 0 rfl).trans (Sbs.mk rfl rfl ⟨rfl, rfl, rfl, rfl, rfl, by subst hΩ; exact congrArg (A.sl false 1) hnew, incI hΩ (by omega), trivial⟩))⟩
              · refine ⟨VC_order htab hΩ hmo [1, 2, 3, 5, 8, 9, 10] (.two 0 (.two 4 (.step 6 (.step 7 (.step 11 (.step 12 .fin)))) 6 (.step 4 (.step 7 (.step 11 (.step 12 .fin))))) 6 (.step 0 (.step 4 (.step 7 (.step 11 (.step 12 .fin)))))) (by kernel_rfl) ?_⟩
                cbv
                have e6 : Ω.nat (Ω.int n) = n := by subst hΩ; rfl
                have e7 : Ω.len (F c) = c.length := by rw [← hFc]; subst hΩ; rfl
                have q1 := segOK hΩ hok.1 hok.2 0 (Ω.nat (Ω.int n))
                have q2 := segOK hΩ hok.1 hok.2 (Ω.nat (Ω.int n)) (Ω.len (F c))
                have l1 : (Ω.seg 0 (Ω.nat (Ω.int n)) (F c)).length ≤ 1048576 := by subst hΩ; show (((F c).take n).drop 0).length ≤ _; simp; omega
                have l2 : (Ω.seg (Ω.nat (Ω.int n)) (Ω.len (F c)) (F c)).length ≤ 1048576 := by subst hΩ; show (((F c).take (F c).length).drop n).length ≤ _; simp; omega
                have l3 : Ω.plus 0 (Ω.len (Ω.seg 0 (Ω.nat (Ω.int n)) (F c))) ≤ 1048576 := by subst hΩ; show 0 + (((F c).take n).drop 0).length ≤ _; simp; omega
                have l4 : Ω.plus (Ω.plus 0 (Ω.len (Ω.seg 0 (Ω.nat (Ω.int n)) (F c)))) 1 ≤ 1048577 := by subst hΩ; show 0 + (((F c).take n).drop 0).length + 1 ≤ _; simp; omega
                have l5 : Ω.plus (Ω.plus 0 (Ω.len (Ω.seg 0 (Ω.nat (Ω.int n)) (F c)))) (Ω.len [i64 (Ω.int i)]) ≤ 1048577 := by subst hΩ; show 0 + (((F c).take n).drop 0).length + 1 ≤ _; simp; omega
                have hall : ∀ q ∈ c.take n ++ [Ω.int i] ++ c.drop n, 0 ≤ q ∧ q < (L : Int) := fun q hq => by
                  rcases List.mem_append.1 hq with hq | hq
                  · rcases List.mem_append.1 hq with hq | hq
                    · exact i3 q (List.mem_of_mem_take hq)
                    · rw [List.mem_singleton.1 hq]; subst hΩ; exact ⟨Int.natCast_nonneg i, by show (i : Int) < L; omega⟩
                  · exact i3 q (List.mem_of_mem_drop hq)
                have hlen2 : (c.take n ++ [Ω.int i] ++ c.drop n).length ≤ i + 1 := by simp; omega
                have hnew := cand_new hF c (Ω.int i) n hn
                refine ⟨⟨⟨trivial, nnI hΩ, Nat.zero_le _, by show Ω.nat (Ω.int n) ≤ (F c).length; omega⟩⟩, ⟨⟨nnI hΩ, trivial, by show Ω.nat (Ω.int n) ≤ Ω.len (F c); omega, by show Ω.len (F c) ≤ (F c).length; omega⟩⟩, ⟨?_, ?_⟩, ?_⟩
                · exact ⟨⟨⟨q1.1, q1.2, by show (0 + (Ω.seg 0 (Ω.nat (Ω.int n)) (F c)).length) * 8 ≤ 140737488355328; omega, by show 0 + (Ω.seg 0 (Ω.nat (Ω.int n)) (F c)).length ≤ 9223372036854775807; omega⟩⟩, ⟨⟨rfl, okAll rfl, by show (Ω.plus 0 (Ω.len (Ω.seg 0 (Ω.nat (Ω.int n)) (F c))) + 1) * 8 ≤ 140737488355328; omega, by show Ω.plus 0 (Ω.len (Ω.seg 0 (Ω.nat (Ω.int n)) (F c))) + 1 ≤ 9223372036854775807; omega⟩⟩, ⟨⟨q2.1, q2.2, by show (Ω.plus (Ω.plus 0 (Ω.len (Ω.seg 0 (Ω.nat (Ω.int n)) (F c)))) (Ω.len [i64 (Ω.int i)]) + (Ω.seg (Ω.nat (Ω.int n)) (Ω.len (F c)) (F c)).length) * 8 ≤ 140737488355328; omega, by show Ω.plus (Ω.plus 0 (Ω.len (Ω.seg 0 (Ω.nat (Ω.int n)) (F c)))) (Ω.len [i64 (Ω.int i)]) + (Ω.seg (Ω.nat (Ω.int n)) (Ω.len (F c)) (F c)).length ≤ 9223372036854775807; omega⟩⟩, (i + 1, c.take n ++ [Ω.int i] ++ c.drop n), ⟨by dsimp only; omega, hlen2, hall⟩, by dsimp only; omega, (Sbs.thaw (r := 0) rfl rfl).trans ((Sbs.cut 0 rfl).trans (Sbs.mk rfl rfl ⟨rfl, rfl, rfl, rfl, rfl, by subst hΩ; exact congrArg (A.sl false 1) hnew, incI hΩ (by omega), trivial⟩))⟩
                · exact ⟨⟨⟨q1.1, q1.2, by show (0 + (Ω.seg 0 (Ω.nat (Ω.int n)) (F c)).length) * 8 ≤ 140737488355328; omega, by show 0 + (Ω.seg 0 (Ω.nat (Ω.int n)) (F c)).length ≤ 9223372036854775807; omega⟩⟩, ⟨⟨Nat.le_refl _, by simp [noOwn], by simp [flat, A.cells, okCell], by show (Ω.plus 0 (Ω.len (Ω.seg 0 (Ω.nat (Ω.int n)) (F c))) + 1) * 8 ≤ 140737488355328; omega, by show Ω.plus 0 (Ω.len (Ω.seg 0 (Ω.nat (Ω.int n)) (F c))) + 1 ≤ 9223372036854775807; omega⟩⟩, ⟨⟨q2.1, q2.2, by show (Ω.plus (Ω.plus 0 (Ω.len (Ω.seg 0 (Ω.nat (Ω.int n)) (F c)))) 1 + (Ω.seg (Ω.nat (Ω.int n)) (Ω.len (F c)) (F c)).length) * 8 ≤ 140737488355328; omega, by show Ω.plus (Ω.plus 0 (Ω.len (Ω.seg 0 (Ω.nat (Ω.int n)) (F c)))) 1 + (Ω.seg (Ω.nat (Ω.int n)) (Ω.len (F c)) (F c)).length ≤ 9223372036854775807; omega⟩⟩, (i + 1, c.take n ++ [Ω.int i] ++ c.drop n), ⟨by dsimp only; omega, hlen2, hall⟩, by dsimp only; omega, (Sbs.thaw (r := 0) rfl rfl).trans ((Sbs.cut 0 rfl).trans (Sbs.mk rfl rfl ⟨rfl, rfl, rfl, rfl, rfl, by subst hΩ; exact congrArg (A.sl false 1) hnew, incI hΩ (by omega), trivial⟩))⟩
                · exact ⟨⟨⟨q1.1, q1.2, by show (0 + (Ω.seg 0 (Ω.nat (Ω.int n)) (F c)).length) * 8 ≤ 140737488355328; omega, by show 0 + (Ω.seg 0 (Ω.nat (Ω.int n)) (F c)).length ≤ 9223372036854775807; omega⟩⟩, ⟨⟨Nat.le_refl _, by simp [noOwn], by simp [flat, A.cells, okCell], by show (Ω.plus 0 (Ω.len (Ω.seg 0 (Ω.nat (Ω.int n)) (F c))) + 1) * 8 ≤ 140737488355328; omega, by show Ω.plus 0 (Ω.len (Ω.seg 0 (Ω.nat (Ω.int n)) (F c))) + 1 ≤ 9223372036854775807; omega⟩⟩, ⟨⟨q2.1, q2.2, by show (Ω.plus (Ω.plus 0 (Ω.len (Ω.seg 0 (Ω.nat (Ω.int n)) (F c)))) 1 + (Ω.seg (Ω.nat (Ω.int n)) (Ω.len (F c)) (F c)).length) * 8 ≤ 140737488355328; omega, by show Ω.plus (Ω.plus 0 (Ω.len (Ω.seg 0 (Ω.nat (Ω.int n)) (F c)))) 1 + (Ω.seg (Ω.nat (Ω.int n)) (Ω.len (F c)) (F c)).length ≤ 9223372036854775807; omega⟩⟩, (i + 1, c.take n ++ [Ω.int i] ++ c.drop n), ⟨by dsimp only; omega, hlen2, hall⟩, by dsimp only; omega, (Sbs.thaw (r := 1) rfl rfl).trans ((Sbs.cut 0 rfl).trans (Sbs.mk rfl rfl ⟨rfl, rfl, rfl, rfl, rfl, by subst hΩ; exact congrArg (A.sl false 1) hnew, incI hΩ (by omega), trivial⟩))⟩
  · exact ⟨_, ⟨c, rfl, by omega, i3⟩, .of (by rw [hFm]; rfl)⟩
end Go.Proofs.YtfmcncflooechaaGreatDoor

/- Walks: the reference's solver. Plain theorems. -/
set_option linter.unusedVariables false
set_option linter.unusedSimpArgs false
namespace Go.Proofs.YtfmcncflooechaaGreatDoor
open Go Go.Fw
set_option maxRecDepth 100000
theorem ro_vw2 {S : State} {k r off len n : Nat} {ys zs : List A} (hr : Fw.rowAt S.rows r = some ⟨n, ys, false⟩) (hf : ((ys.drop off).take len).map frz = zs) : roO S (k + 1) (.vw r off len) = some (.sl false n zs) := by
  simp only [roO, hr]
  rw [hf]
  rfl
theorem frz_frm (fs : List (Int × List Int)) : (fs.map frmA).map frz = fs.map frmA := by
  rw [List.map_map]; exact List.map_congr_left fun c _ => by show frz (.agg _) = A.agg _; rw [frz_agg]; show A.agg [frz (i64 c.1), frz (.sl false 1 (c.2.map i64))] = _; rw [frz_sl, frz_I]; rfl
/-- What the solver tells: a code, a count, a set. -/
def someS (x : A) : Prop := ∃ (c n : Int) (s : List Int), x = .agg [i64 c, i64 n, .sl false 1 (s.map i64)] ∧ s.length ≤ 1048576
theorem fitS1 (c n : Int) : FitX (.agg [i64 c, i64 n, .nil]) (.agg [i64 c, i64 n, .sl false 1 (([] : List Int).map i64)]) := ⟨2, by simp [fitA, fitA.fitL, i64]⟩
structure SolI (L B : Nat) (fs : List (Int × List Int)) (R : List A) (d : List Int) (n : Nat) : Prop where
  row : R.take fs.length = fs.map frmA
  le : fs.length ≤ R.length
  all : ∀ f ∈ fs, 0 ≤ f.1 ∧ f.1 < (L : Int) ∧ f.2.length + 1 ≤ n
  d : d.length ≤ n
  f : fs.length ≤ n
  n : n ≤ B
theorem eq_fI {Ω : Opq} (hΩ : Ω = std) {i j : Nat} (h : Ω.cmp .eql (Ω.int i) (Ω.int j) = false) : i ≠ j := by subst hΩ; exact fun e => eq_f h (by rw [e])
theorem solPush {Ω : Opq} (hΩ : Ω = std) {L B : Nat} {fs : List (Int × List Int)} {R : List A} {d : List Int} {n m : Nat} {k : Int} {z : A} (h : SolI L B fs R d n) (hm : fs.length = m) (hn : n + 1 ≤ B) (hk : 0 ≤ k ∧ k < (L : Int)) (hz : z = frmA (k, d)) :
    SolI L B (fs ++ [(k, d)]) (Ω.app (Ω.take m R) [z]) d (n + 1) := by
  subst hΩ hz
  have e : std.app (std.take m R) [frmA (k, d)] = (fs ++ [(k, d)]).map frmA := by
    show R.take m ++ [frmA (k, d)] = _
    rw [← hm, h.row, List.map_append]; rfl
  rw [e]
  refine ⟨List.take_of_length_le (by simp), by simp, fun f hf => ?_, by have := h.d; omega, by have := h.f; simp; omega, hn⟩
  rcases List.mem_append.1 hf with hf | hf
  · obtain ⟨h1, h2, h3⟩ := h.all f hf
    exact ⟨h1, h2, by omega⟩
  · rw [List.mem_singleton.1 hf]; exact ⟨hk.1, hk.2, by have := h.d; show d.length + 1 ≤ n + 1; omega⟩
theorem solPop {L B : Nat} {fs : List (Int × List Int)} {R : List A} {d e : List Int} {n m : Nat} {p : Int} (h : SolI L B fs R d n) (hm : fs.length = m) (he : e.length + 1 ≤ n) : SolI L B (fs.take (m - 1)) R (e ++ [p]) n := by
  subst hm
  have h1 := h.row
  have h2 := h.le
  have h3 := h.f
  refine ⟨?_, by rw [List.length_take]; omega, fun f hf => h.all f (List.mem_of_mem_take hf), by simpa using he, by rw [List.length_take]; omega, h.n⟩
  rw [List.map_take, ← h1, List.take_take, List.length_take]
theorem solNew {D : List Int → List A} (hD : D = fun s => s.map i64) (e : List Int) (p : Int) :
    (((((([] : List A).take 0 ++ D e).take (0 + (D e).length)) ++ [i64 p]).map frz).drop 0).take (0 + (D e).length + 1) = D (e ++ [p]) := by
  rw [hD]
  simp only [List.take_nil, List.nil_append, List.drop_zero, Nat.zero_add, List.take_length]
  rw [List.take_of_length_le (by simp)]
  rw [← frz_I (e ++ [p])]
  congr 1
  simp
theorem r_l4Solve (l : List Pck) (az : List Trm) (y : List Int) (B : Nat) (hl : l.length ≤ 1048576) (ha : az.length ≤ 1048576) (hy : y.length ≤ 1048576) (hB : B ≤ 1048575) (ho : ∀ o ∈ l, o.Small) :
    RCtr PP n_spec_l4Solve [encP l, .sl false 7 (az.map Trm.enc), .sl false 1 (y.map i64), i64 (B : Int)] someS := by
  obtain ⟨Ω, hΩ⟩ : ∃ Ω, Ω = std := ⟨_, rfl⟩
  have hB2 : i64 (B : Int) = i64 (Ω.int B) := by subst hΩ; rfl
  have hin : ∀ {fs : List (Int × List Int)}, (∀ f ∈ fs, 0 ≤ f.1 ∧ f.1 < (l.length : Int)) → ∀ k ∈ fs.map Prod.fst, inB k 0 ((l.length : Int) - 1) = true := fun h k hk => by
    obtain ⟨f, hf, rfl⟩ := List.mem_map.1 hk
    have := h f hf
    simp only [inB, Bool.and_eq_true, decide_eq_true_eq]; omega
  have hun := fun (fs : List (Int × List Int)) (h1 : fs.length ≤ 1048576) (h : ∀ f ∈ fs, 0 ≤ f.1 ∧ f.1 < (l.length : Int)) => r_l4Unmet l az (fs.map Prod.fst) hl (by rw [List.length_map]; exact h1) ha ho (hin h)
  have hca := fun (fs : List (Int × List Int)) (us : List Trm) (d : List Int) (h1 : fs.length ≤ 1048576) (h : ∀ f ∈ fs, 0 ≤ f.1 ∧ f.1 < (l.length : Int)) (h2 : us.length ≤ 1048576) (h3 : d.length ≤ 1048576) => r_l4Candidates l us (fs.map Prod.fst) d y hl h2 (by rw [List.length_map]; exact h1) h3 hy ho (hin h)
  have hch := fun (fs : List (Int × List Int)) (h1 : fs.length ≤ 1048576) => c_l4Chosen fs h1
  have hso : ∀ fs : List (Int × List Int), fs.length ≤ 1048576 → ∃ s : List Int, s.length ≤ 1048576 ∧ PCtr PP n_spec_l4Sorted [.sl false 1 ((fs.map Prod.fst).map i64)] (.sl true 1 (s.map i64)) := fun fs h => ⟨_, by rw [sortU_len, List.length_map]; exact h, c_l4Sorted _ (by rw [List.length_map]; exact h)⟩
  obtain ⟨L, hL⟩ : ∃ L, L = l.length := ⟨_, rfl⟩
  unfold encP at *
  obtain ⟨cs, hcs⟩ : ∃ cs, cs = l.map (Pck.enc false) := ⟨_, rfl⟩
  rw [← hcs] at hun hca ⊢
  rw [← hL] at hun hca
  obtain ⟨C, hC⟩ : ∃ C : List (Int × List Int) → List A, C = fun fs => (fs.map Prod.fst).map i64 := ⟨_, rfl⟩
  have hCm : ∀ fs : List (Int × List Int), (fs.map Prod.fst).map i64 = C fs := fun fs => by rw [hC]
  have hCz : ∀ fs : List (Int × List Int), frz (.sl true 1 (C fs)) = .sl false 1 (C fs) := fun fs => by rw [hC]; rw [frz_sl]; exact congrArg _ (frz_I _)
  have hCr : ∀ fs : List (Int × List Int), roFree (.sl true 1 (C fs)) = true := fun fs => by rw [hC]; exact roF_I _
  obtain ⟨D, hD⟩ : ∃ D : List Int → List A, D = fun s => s.map i64 := ⟨_, rfl⟩
  have hDm : ∀ s : List Int, s.map i64 = D s := fun s => by rw [hD]
  have hDz : ∀ s : List Int, frz (.sl true 1 (D s)) = .sl false 1 (D s) := fun s => by rw [hD]; rw [frz_sl]; exact congrArg _ (frz_I _)
  have hDr : ∀ s : List Int, roFree (.sl true 1 (D s)) = true := fun s => by rw [hD]; exact roF_I _
  have hD0 : D [] = [] := by rw [hD]; rfl
  obtain ⟨E, hE⟩ : ∃ E : List (Int × List Int) → List A, E = fun fs => fs.map frmA := ⟨_, rfl⟩
  have hEz : ∀ fs : List (Int × List Int), (E fs).map frz = E fs := fun fs => by rw [hE]; exact frz_frm fs
  have hrow : ∀ {S : State} {fs : List (Int × List Int)} {R : List A}, R.take fs.length = E fs → Fw.rowAt S.rows 1 = some ⟨2, R, false⟩ → roO S 3 (.vw 1 0 fs.length) = some (.sl false 2 (E fs)) := fun h h1 => ro_vw2 h1 (by rw [List.drop_zero, h, hEz])
  rw [hB2]
  simp only [hCm, hDm] at hun hca hch hso ⊢
  replace hch : ∀ fs : List (Int × List Int), fs.length ≤ 1048576 → PCtr PP n_spec_l4Chosen [.sl false 2 (E fs)] (.sl true 1 (C fs)) := fun fs h => by rw [hE]; exact hch fs h
  obtain ⟨es, hes⟩ : ∃ es, es = az.map Trm.enc := ⟨_, rfl⟩
  rw [← hes] at hun ⊢
  generalize D y = ys at *
  have htab := tab
  have hmo := hmo
  refine RCtr.walk tab hΩ fn_spec_l4Solve rfl ?_
  generalize PP = P at *
  cbv
  refine loopX htab hΩ (fun i : List (Int × List Int) × List A × List Int × Nat => ⟨[(0, .sl false 8 cs), (1, .sl false 7 es), (2, .sl false 1 ys), (3, i64 (Ω.int B)), (8, .pt 0 0 0), (9, .vw 1 0 i.1.length), (10, .sl false 1 (D i.2.2.1)), (11, i64 (Ω.int i.2.2.2))], 79, [some ⟨3, [.agg [i64 0, i64 0, .nil]], true⟩, some ⟨2, i.2.1, false⟩]⟩)
    (fun i => SolI L B i.1 i.2.1 i.2.2.1 i.2.2.2) (fun i => 2 * (B - i.2.2.2) + i.1.length) ([], [], [], 0) ⟨rfl, Nat.le_refl _, by simp, Nat.le_refl _, Nat.le_refl _, Nat.zero_le _⟩
    ((Sbs.thaw (r := 2) rfl rfl).trans ((Sbs.cut 2 rfl).trans (Sbs.mk rfl rfl ⟨rfl, rfl, rfl, rfl, rfl, rfl, by dsimp only; rw [hD0]; rfl, zeroI hΩ, trivial⟩))) ?_
  rintro ⟨fs, R, d, n⟩ hI
  dsimp only at hI
  have hfl : fs.length ≤ 1048576 := by have := hI.f; have := hI.n; omega
  have hdl : d.length ≤ 1048576 := by have := hI.d; have := hI.n; omega
  have hfa : ∀ f ∈ fs, 0 ≤ f.1 ∧ f.1 < (L : Int) := fun f hf => ⟨(hI.all f hf).1, (hI.all f hf).2.1⟩
  have hun := hun fs hfl hfa
  have hca := fun us h2 => hca fs us d hfl hfa h2 hdl
  have hch := hch fs hfl
  obtain ⟨sr, hsr, hso⟩ := hso fs hfl
  have hR := hI.row
  rw [show fs.map frmA = E fs by rw [hE]] at hR
  obtain ⟨m, hm⟩ : ∃ m, fs.length = m := ⟨_, rfl⟩
  have hrw : ∀ {S : State}, Fw.rowAt S.rows 1 = some ⟨2, R, false⟩ → roO S 3 (.vw 1 0 m) = some (.sl false 2 (E fs)) := fun h1 => hm ▸ hrow hR h1
  dsimp only
  rw [hm] at hR hfl ⊢
  have hCz := hCz fs
  have hCr := hCr fs
  have hDz := hDz sr
  have hDr := hDr sr
  cbv
  refine call_pf hΩ 3 hch (mapO1 (hrw rfl)) (fits _) hCr hCz rfl ?_
  cbv
  refine call_r hΩ 3 hun rfl (fits _) (fun x ⟨us, hx, hul⟩ => ?_)
  subst hx
  refine ⟨rfl, ?_⟩
  have hca := hca us hul
  generalize us.map Trm.enc = uz at hca ⊢
  cbv
  refine br (fun h => ?_) (fun h => ?_) <;> cbv
  · refine call_pf hΩ 3 hso rfl (fits _) hDr hDz rfl ?_
    cbv
    refine ⟨_, ⟨0, Ω.int n, sr, rfl, hsr⟩, ?_⟩
    rw [hDm]
    cbv
    exact .same
  · refine call_r hΩ 3 hca rfl (fits _) (fun x ⟨ks, hx, hkl, hks⟩ => ?_)
    subst hx
    refine ⟨rfl, ?_⟩
    rw [hDm]
    have h0 : 0 < Ω.len (D ks) → ∃ k, ks[0]? = some k ∧ (D ks)[Int.toNat 0]? = some (i64 k) := fun h => by
      have e : Ω.len (D ks) = ks.length := by rw [← hDm]; subst hΩ; exact List.length_map _
      obtain ⟨k, hk⟩ := at_of (cs := ks) (i := 0) (by omega)
      exact ⟨k, hk, by rw [← hDm]; show (ks.map i64)[0]? = _; rw [List.getElem?_map, hk]; rfl⟩
    cbv
    refine br (fun hgt => ?_) (fun hgt => ?_) <;> cbv
    · refine br (fun h => ?_) (fun h => ?_) <;> cbv
      · exact ⟨_, ⟨7, Ω.int n, [], rfl, Nat.zero_le _⟩, fitS1 7 (Ω.int n)⟩
      · have hnB : n ≠ B := fun e => by have := eq_fI hΩ h; exact this e
        obtain ⟨k0, hk0, hk1⟩ := h0 (gtZ hΩ hgt)
        have hk2 := hks k0 (List.mem_of_getElem? hk0)
        have hnn := hI.n
        refine ⟨⟨Int.le_refl _⟩, _, hk1, ?_⟩
        cbv
        have hS : SolI L B (fs ++ [(k0, d)]) (Ω.app (Ω.take m R) [.agg [i64 k0, .sl false 1 (D d)]]) d (n + 1) := by
          refine solPush hΩ hI hm (by omega) hk2 ?_
          rw [← hDm]; rfl
        exact ⟨⟨rfl, okAll rfl, by show (m + 1) * 32 ≤ 140737488355328; omega, by show m + 1 ≤ 9223372036854775807; omega⟩, (fs ++ [(k0, d)], Ω.app (Ω.take m R) [.agg [i64 k0, .sl false 1 (D d)]], d, n + 1), hS, by dsimp only; rw [List.length_append, hm, List.length_singleton]; omega, (Sbs.cut 2 rfl).trans (Sbs.mk rfl rfl ⟨rfl, rfl, rfl, rfl, rfl, by dsimp only; rw [List.length_append, hm]; subst hΩ; rfl, rfl, incI hΩ (by omega), trivial⟩)⟩
    · refine br (fun h => ?_) (fun h => ?_) <;> cbv
      · exact ⟨_, ⟨4, Ω.int n, [], rfl, Nat.zero_le _⟩, fitS1 4 (Ω.int n)⟩
      · have hm0 : 0 < m := by
          rcases Nat.eq_zero_or_pos m with e | e
          · exact absurd (by rw [e]; subst hΩ; rfl : Ω.int m = 0) (by have := h; subst hΩ; exact eq_f this)
          · exact e
        have e5 : Ω.ar .sub .i64 (Ω.int m) 1 = Ω.int (m - 1) := decJ hΩ hm0 (by omega)
        obtain ⟨⟨p, e⟩, hf⟩ := at_of (cs := fs) (i := m - 1) (by omega)
        have hRf : R[m - 1]? = some (.agg [i64 p, .sl false 1 (D e)]) := by
          have h1 : (R.take m)[m - 1]? = R[m - 1]? := List.getElem?_take_of_lt (by omega)
          rw [← h1, hR, hE, ← hDm]; simp only [List.getElem?_map, hf]; rfl
        have hfm := hI.all _ (List.mem_of_getElem? hf)
        refine ⟨⟨by show 0 ≤ Ω.ar .sub .i64 (Ω.int m) 1 ∧ Ω.ar .sub .i64 (Ω.int m) 1 < (m : Int); rw [e5]; exact ixI hΩ (by omega)⟩, .agg [i64 p, .sl false 1 (D e)], by show R[Ω.plus 0 (Ω.nat (Ω.ar .sub .i64 (Ω.int m) 1))]? = _; rw [e5]; exact atI hΩ hRf, ?_⟩
        cbv
        have e6 : Ω.nat (Ω.ar .sub .i64 (Ω.int m) 1) = m - 1 := by rw [e5]; subst hΩ; rfl
        refine ⟨⟨trivial, by show 0 ≤ Ω.ar .sub .i64 (Ω.int m) 1; rw [e5]; exact nnI hΩ, Nat.zero_le _, by show Ω.nat (Ω.ar .sub .i64 (Ω.int m) 1) ≤ m; omega⟩, ?_⟩
        refine ⟨VC_lord htab hΩ hmo [1, 2, 4, 5] (.two 0 (.two 3 (.step 6 (.step 7 (.step 8 .fin))) 6 (.step 3 (.step 7 (.step 8 .fin)))) 6 (.step 0 (.step 3 (.step 7 (.step 8 .fin))))) [2] [] (by kernel_rfl) ?_⟩
        cbv
        intro vs
        cbv
        have hok := ints_ok e
        rw [hDm] at hok
        have hel : (D e).length ≤ 1048576 := by rw [← hDm, List.length_map]; have := hfm.2.2; have := hI.n; dsimp only at *; omega
        have hpl : Ω.plus 0 (Ω.len (D e)) ≤ 1048576 := by subst hΩ; show 0 + (D e).length ≤ _; omega
        have hnew := solNew hD e p
        have hS : SolI L B (fs.take (m - 1)) R (e ++ [p]) n := solPop hI hm hfm.2.2
        have hvw : A.vw 1 (Ω.plus 0 0) (Ω.minus (Ω.nat (Ω.ar .sub .i64 (Ω.int m) 1)) 0) = .vw 1 0 (fs.take (m - 1)).length := by rw [e6, List.length_take, hm, Nat.min_eq_left (by omega)]; subst hΩ; rfl
        refine ⟨⟨?_, ?_⟩, ?_⟩
        · exact ⟨⟨hok.1, hok.2, by show (0 + (D e).length) * 8 ≤ 140737488355328; omega, by show 0 + (D e).length ≤ 9223372036854775807; omega⟩, ⟨rfl, okAll rfl, by show (Ω.plus 0 (Ω.len (D e)) + 1) * 8 ≤ 140737488355328; omega, by show Ω.plus 0 (Ω.len (D e)) + 1 ≤ 9223372036854775807; omega⟩, (fs.take (m - 1), R, e ++ [p], n), hS, by dsimp only; rw [List.length_take, hm]; omega, (Sbs.thaw (r := 3) rfl rfl).trans ((Sbs.cut 2 rfl).trans (Sbs.mk rfl rfl ⟨rfl, rfl, rfl, rfl, rfl, hvw, by subst hΩ; exact congrArg (A.sl false 1) hnew, rfl, trivial⟩))⟩
        · exact ⟨⟨hok.1, hok.2, by show (0 + (D e).length) * 8 ≤ 140737488355328; omega, by show 0 + (D e).length ≤ 9223372036854775807; omega⟩, ⟨Nat.le_refl _, by simp [noOwn], by simp [flat, A.cells, okCell], by show (Ω.plus 0 (Ω.len (D e)) + 1) * 8 ≤ 140737488355328; omega, by show Ω.plus 0 (Ω.len (D e)) + 1 ≤ 9223372036854775807; omega⟩, (fs.take (m - 1), R, e ++ [p], n), hS, by dsimp only; rw [List.length_take, hm]; omega, (Sbs.thaw (r := 3) rfl rfl).trans ((Sbs.cut 2 rfl).trans (Sbs.mk rfl rfl ⟨rfl, rfl, rfl, rfl, rfl, hvw, by subst hΩ; exact congrArg (A.sl false 1) hnew, rfl, trivial⟩))⟩
        · exact ⟨⟨hok.1, hok.2, by show (0 + (D e).length) * 8 ≤ 140737488355328; omega, by show 0 + (D e).length ≤ 9223372036854775807; omega⟩, ⟨Nat.le_refl _, by simp [noOwn], by simp [flat, A.cells, okCell], by show (Ω.plus 0 (Ω.len (D e)) + 1) * 8 ≤ 140737488355328; omega, by show Ω.plus 0 (Ω.len (D e)) + 1 ≤ 9223372036854775807; omega⟩, (fs.take (m - 1), R, e ++ [p], n), hS, by dsimp only; rw [List.length_take, hm]; omega, (Sbs.thaw (r := 4) rfl rfl).trans ((Sbs.cut 2 rfl).trans (Sbs.mk rfl rfl ⟨rfl, rfl, rfl, rfl, rfl, hvw, by subst hΩ; exact congrArg (A.sl false 1) hnew, rfl, trivial⟩))⟩
end Go.Proofs.YtfmcncflooechaaGreatDoor

/- Walks: draws of catalogs with sets. Plain theorems. -/
set_option linter.unusedVariables false
set_option linter.unusedSimpArgs false
namespace Go.Proofs.YtfmcncflooechaaGreatDoor
open Go Go.Fw
set_option maxRecDepth 100000
theorem call_d0 {P : Program} {S : State} {Ω : Opq} (hΩ : Ω = std) (k : Nat) {g : Nat} {args : List A} {R : A → List A → Prop} {K : A → State → Prop} (hc : XCtr P g args R) (hd : args.all isData = true) (hn : args.all noOwn = true)
    (h : ∀ x outs, R x outs → outs = args ∧ noOwn (rootO Ω k S x).1 = true ∧ K (rootO Ω k S x).1 (rootO Ω k S x).2) : CallX P g args S K :=
  call_rel hΩ k hc [] (by simp) ⟨_, mutL_data hd hn⟩ fun x outs hR => let ⟨h1, h2, h3⟩ := h x outs hR; ⟨[], rfl, by rw [h1]; exact mutL_data hd hn, h2, h3⟩
theorem c_l1Source (bs : List A) : PCtr PP n_spec_l1Source [.sl false 1 bs] (src bs 0) := by
  obtain ⟨Ω, hΩ⟩ : ∃ Ω, Ω = std := ⟨_, rfl⟩
  have htab := tab
  refine PCtr.walk tab hΩ fn_spec_l1Source rfl ?_
  generalize PP = P at *
  cbv
  exact .same
/-- A draw of what is told apart from its source. -/
def D0 (bs : List A) (Q : A → Prop) : A → List A → Prop := fun x o => o = [.sl false 1 bs] ∧ Q x
end Go.Proofs.YtfmcncflooechaaGreatDoor

/- Walks: draws of what is asked; sets that hold. Plain theorems. -/
set_option linter.unusedVariables false
set_option linter.unusedSimpArgs false
namespace Go.Proofs.YtfmcncflooechaaGreatDoor
open Go Go.Fw
set_option maxRecDepth 100000
/-- Some terms, held alone. -/
def ownTs (n : Nat) (x : A) : Prop := ∃ ts : List Trm, x = .sl true 7 (ts.map Trm.enc) ∧ ts.length ≤ n
theorem frz_T (ts : List Trm) : (ts.map Trm.enc).map frz = ts.map Trm.enc := by rw [List.map_map]; exact List.map_congr_left fun c _ => rfl
theorem d_l3Ask {bs : List A} (hb : Src bs) (l : List Pck) (hl : l.length ≤ 40) (p : Int) (h0 : 0 ≤ p) (h1 : p + 10 ≤ 1099511627776) : XCtr PP n_spec_l3Ask [src bs p, encP l] (DR bs p 10 [encP l] (ownTs 4)) := by
  obtain ⟨Ω, hΩ⟩ : ∃ Ω, Ω = std := ⟨_, rfl⟩
  have hN := fun p n a b c => d_l1Next hb p n a b c
  have hA := fun n => d_AnyTerm n
  obtain ⟨N, hNN⟩ : ∃ N : Int, N = (l.length : Int) := ⟨_, rfl⟩
  have hN40 : N ≤ 40 := by omega
  have hat : ∀ r : Int, 0 ≤ r → r < N → ∃ nm v1 v2 v3 sz ps ds bs, (l.map (Pck.enc false))[r.toNat]? = some (.agg [str nm, i64 v1, i64 v2, i64 v3, i64 sz, .sl false 1 ps, .sl false 1 ds, .sl false 7 bs]) := fun r a b => by
    obtain ⟨h0, h1, h2, h3⟩ := pk_at (c := l) (k := r) (by simp only [inB, Bool.and_eq_true, decide_eq_true_eq]; omega)
    obtain ⟨ps, ds, bs, hen, hp, hd, hb⟩ := enc_raw (pk l r)
    exact ⟨_, _, _, _, _, ps, ds, bs, by rw [List.getElem?_map, h2]; exact congrArg some hen⟩
  obtain ⟨xs, hxs⟩ : ∃ xs, xs = l.map (Pck.enc false) := ⟨_, rfl⟩
  have hxl : Ω.int (Ω.len xs) = N := by rw [hxs, hNN]; subst hΩ; show ((l.map _).length : Int) = _; rw [List.length_map]
  unfold encP
  rw [← hxs] at hat ⊢
  obtain ⟨F, hF⟩ : ∃ F : List Trm → List A, F = fun s => s.map Trm.enc := ⟨_, rfl⟩
  have hF0 : F [] = [] := by rw [hF]; rfl
  have hFl : ∀ s, (F s).length = s.length := fun s => by rw [hF]; exact List.length_map _
  have hFs : ∀ (s : List Trm) (t : Trm), Ω.app (Ω.take s.length (F s)) [t.enc] = F (s ++ [t]) := fun s t => by
    subst hΩ; rw [hF]; show List.take s.length (List.map Trm.enc s) ++ _ = List.map Trm.enc (s ++ [t])
    rw [List.map_append, List.take_of_length_le (by simp)]; rfl
  have hFt : ∀ s, A.sl true 7 (Ω.take s.length (F s)) = .sl true 7 (s.map Trm.enc) := fun s => by
    subst hΩ; rw [hF]; exact congrArg _ (List.take_of_length_le (by simp))
  have hFt0 : ∀ s m, s.length = m → A.sl true 7 (Ω.take m (F s)) = .sl true 7 (s.map Trm.enc) := fun s m h => by rw [← h, hFt]
  clear hF hxs
  have htab := tab
  have hmo := hmo
  refine XCtr.walkO tab hΩ 3 fn_spec_l3Ask rfl rfl ?_
  generalize PP = P at *
  cbv
  refine call_dr false hΩ 3 (hN _ 3 (by omega) (by omega) (by omega)) rfl rfl rfl (fun q1 x q1a q1b ⟨r0, hx, hr0⟩ => ?_)
  subst hx
  have hr0 := hr0.2 (by omega)
  have he0 : Ω.ar .add .i64 1 r0 = 1 + r0 := by subst hΩ; exact wrap64 (by omega) (by omega)
  cbv
  refine loopX htab hΩ (fun i : Int × Int × List Trm => ⟨[(0, .pt 0 0 0), (1, .sl false 8 xs), (5, .vw 1 0 i.2.2.length), (6, i64 i.1), (33, .pt 0 0 0), (34, .sl false 8 xs)], 33, [some ⟨2, [.agg [.sl false 1 bs, i64 i.2.1]], true⟩, some ⟨7, F i.2.2, false⟩]⟩)
    (fun i => 0 ≤ i.1 ∧ i.1 ≤ 3 ∧ p ≤ i.2.1 ∧ i.2.1 + i.1 ≤ p + 5 ∧ (i.2.2.length : Int) + i.1 ≤ 3) (fun i => i.1.toNat) (1 + r0, q1, [])
    ⟨by dsimp only; omega, by dsimp only; omega, by dsimp only; omega, by dsimp only; omega, by show ((0 : Nat) : Int) + (1 + r0) ≤ 3; omega⟩ ((Sbs.cut 2 rfl).trans (Sbs.mk rfl (by show _ = [_, some (Row.mk 7 (F []) false)]; rw [hF0]; rfl) ⟨rfl, rfl, rfl, congrArg i64 he0, rfl, rfl, trivial⟩)) ?_
  rintro ⟨k, q, s⟩ ⟨i1, i2, i3, i4, i5⟩
  dsimp only at i1 i2 i3 i4 i5
  have hFli := hFl s
  obtain ⟨m, hm⟩ : ∃ m, s.length = m := ⟨_, rfl⟩
  have hrows : ∀ {R0 : Option Row} {X : A} {t : Trm}, X = t.enc → [R0, some (Row.mk 7 (Ω.app (Ω.take m (F s)) [X]) false)] = [R0, some (Row.mk 7 (F (s ++ [t])) false)] := fun {R0 X t} h => by rw [h, ← hm, hFs]
  have hvw : ∀ {X : A} {t : Trm}, A.vw 1 0 (Ω.plus m (Ω.len [X])) = .vw 1 0 (s ++ [t]).length := fun {X t} => by subst hΩ; rw [List.length_append, hm]; rfl
  have hsl : ∀ t : Trm, (((s ++ [t]).length : Nat) : Int) + (k - 1) ≤ 3 := fun t => by rw [List.length_append, List.length_singleton]; omega
  have hm3 : m ≤ 3 := by omega
  have hk1 : k ≤ 4611686018427387904 := by omega
  have hqq : q + 1 ≤ 1099511627776 := by omega
  have hqk : q ≤ p + 5 := by omega
  have hpos : ∀ {b : Bool}, Ω.cmp .gtr k 0 = true → 0 < k := fun h => by subst hΩ; exact gt_t h
  have hlp : Ω.cmp .gtr (Ω.int (Ω.len xs)) 0 = true → 1 ≤ N := fun h => by rw [hxl, hΩ] at h; have := gt_t h; omega
  have hln : Ω.int (Ω.len xs) ≤ 4294967296 := by rw [hxl]; omega
  rw [hm] at hFli i5 ⊢
  have hfin : ∀ q' : Int, p ≤ q' → q' ≤ p + 5 → ownTs 4 (A.sl true 7 (s.map Trm.enc)) := fun _ _ _ => ⟨s, rfl, by omega⟩
  cbv
  refine br (fun hk => ?_) (fun hk => ?_) <;> cbv
  · have hk := hpos (b := true) hk
    refine br (fun hg => ?_) (fun hg => ?_) <;> cbv
    · have hg2 := hlp (by subst hΩ; exact hg)
      refine call_dr false hΩ 3 (hN _ _ (by omega) (by omega) hln) rfl rfl rfl (fun q2 x q2a q2b ⟨r, hx, hr⟩ => ?_)
      subst hx
      have hr : 0 ≤ r ∧ r < Ω.int (Ω.len xs) := hr.2 (by show 1 ≤ Ω.int (Ω.len xs); rw [hxl]; exact hg2)
      rw [hxl] at hr
      obtain ⟨nm, v1, v2, v3, sz, ps, ds, bz, hx⟩ := hat r hr.1 hr.2
      cbv
      refine ⟨⟨hr.1⟩, _, hx, ?_⟩
      cbv
      refine call_pure hΩ 3 (hA nm) rfl (fits _) rfl rfl ?_
      cbv
      exact ⟨⟨rfl, okAll rfl, by show (m + 1) * 64 ≤ 140737488355328; omega, by show m + 1 ≤ 9223372036854775807; omega⟩, (k - 1, q2, s ++ [inTop nm]), ⟨by dsimp only; omega, by dsimp only; omega, by dsimp only; omega, by dsimp only; omega, hsl _⟩, by dsimp only; omega, (Sbs.cut 2 rfl).trans (Sbs.mk rfl (hrows (by rfl)) ⟨rfl, rfl, hvw, decI hΩ (by omega) hk1, rfl, rfl, trivial⟩)⟩
    · exact ⟨⟨rfl, by show m ≤ (F s).length; omega⟩, _, _, .of (hFt0 s m hm), .same, ⟨q, by omega, by omega, rfl, hfin q i3 hqk⟩, rfl⟩
  · exact ⟨⟨rfl, by show m ≤ (F s).length; omega⟩, _, _, .of (hFt0 s m hm), .same, ⟨q, by omega, by omega, rfl, hfin q i3 hqk⟩, rfl⟩
end Go.Proofs.YtfmcncflooechaaGreatDoor

/- Walks: draws of two sets. Plain theorems. -/
set_option linter.unusedVariables false
set_option linter.unusedSimpArgs false
namespace Go.Proofs.YtfmcncflooechaaGreatDoor
open Go Go.Fw
set_option maxRecDepth 100000
/-- A catalog, two sets. -/
def css (x : A) : Prop := ∃ (l : List Pck) (f t : List Int), x = .tup [encP l, .sl false 1 (f.map i64), .sl false 1 (t.map i64)] ∧ (∀ o ∈ l, o.Small) ∧ l.length ≤ 40 ∧ f.length ≤ 1048576 ∧ t.length ≤ 1048576
theorem d_l5Draw {bs : List A} (hb : Src bs) (p : Int) (h0 : 0 ≤ p) (h1 : p + 1200 ≤ 1099511627776) : XCtr PP n_spec_l5Draw [src bs p] (DR bs p 1200 [] css) := by
  obtain ⟨Ω, hΩ⟩ : ∃ Ω, Ω = std := ⟨_, rfl⟩
  have hcat := fun p a b => d_l2Catalog hb p a b
  have hset := fun p l a b c d => d_l3DrawSet hb l a b p c d
  have hask := fun l hl p a b => d_l3Ask hb l hl p a b
  have hC := fun p n a b c => d_l1Chance hb p n a b c
  have hflt : ∀ l : List Pck, l.length ≤ 40 → (∀ o ∈ l, o.Small) → ∃ r, PCtr PP n_spec_CatalogFault [encP l] (i64 r) := fun l a b => ⟨_, c_specCatalogFault l (by omega) b⟩
  have hl3 : ∀ (l : List Pck) (s : List Int), l.length ≤ 40 → s.length ≤ 1048576 → ∃ r, PCtr PP n_spec_l3Set [encP l, .sl false 1 (s.map i64)] (boo r) := fun l s a b => ⟨_, c_l3Set l s (by omega) b⟩
  have hsol : ∀ (l : List Pck) (ts : List Trm) (y : List Int), l.length ≤ 40 → (∀ o ∈ l, o.Small) → ts.length ≤ 1048576 → y.length ≤ 1048576 → RCtr PP n_spec_l4Solve [encP l, .sl false 7 (ts.map Trm.enc), .sl false 1 (y.map i64), i64 ((60 : Nat) : Int)] someS := fun l ts y a b c d => r_l4Solve l ts y 60 (by omega) c d (Nat.le_of_ble_eq_true rfl) b
  obtain ⟨F, hF⟩ : ∃ F : List Int → List A, F = fun s => s.map i64 := ⟨_, rfl⟩
  have hFm : ∀ s : List Int, s.map i64 = F s := fun s => by rw [hF]
  have htab := tab
  have hmo := hmo
  refine XCtr.walkO tab hΩ 3 fn_spec_l5Draw rfl rfl ?_
  generalize PP = P at *
  cbv
  refine call_dr true hΩ 3 (hcat _ (by omega) (by omega)) rfl rfl rfl (fun q1 x q1a q1b ⟨l, hx, hl, hll⟩ => ?_)
  rw [show fzA true x = encP l by rw [hx]; show frz (A.sl true 8 _) = _; rw [frz_sl, encP_frz]; rfl]
  obtain ⟨cf, hflt⟩ := hflt l hll hl
  replace hset := fun p a b => hset p l hll hl a b
  replace hask := hask l hll
  replace hsol := fun ts y c => hsol l ts y hll hl c
  replace hl3 := fun s => hl3 l s hll
  have hcss : ∀ (f t : List Int), f.length ≤ 1048576 → t.length ≤ 1048576 → css (.tup [encP l, .sl false 1 (F f), .sl false 1 (F t)]) := fun f t a b => ⟨l, f, t, by rw [hFm, hFm], hl, hll, a, b⟩
  obtain ⟨cs, hcs⟩ : ∃ cs, cs = l.map (Pck.enc false) := ⟨_, rfl⟩
  unfold encP at *
  rw [← hcs] at hflt hset hask hsol hcss hl3 ⊢
  simp only [hFm] at hl3 hsol
  have fz1 : ∀ s : List Int, fzA true (.sl true 1 (s.map i64)) = .sl false 1 (F s) := fun s => by show frz (A.sl true 1 _) = _; rw [frz_sl, frz_I, hFm]
  cbv
  refine call_dr true hΩ 3 (hset _ (by omega) (by omega)) rfl rfl rfl (fun q2 x q2a q2b ⟨s1, hx, hs1⟩ => ?_)
  rw [show fzA true x = .sl false 1 (F s1) by rw [hx, fz1]]
  cbv
  refine call_dr true hΩ 3 (hset _ (by omega) (by omega)) rfl rfl rfl (fun q3 x q3a q3b ⟨s2, hx, hs2⟩ => ?_)
  rw [show fzA true x = .sl false 1 (F s2) by rw [hx, fz1]]
  cbv
  refine loopX htab hΩ (fun i : Nat × Int × List Int × List Int => ⟨[(0, .pt 0 0 0), (5, .sl false 8 cs), (6, .sl false 1 (F i.2.2.1)), (7, .sl false 1 (F i.2.2.2)), (8, i64 (Ω.int i.1)), (51, .pt 0 0 0)], 51, [some ⟨2, [.agg [.sl false 1 bs, i64 i.2.1]], true⟩]⟩)
    (fun i => i.1 ≤ 4 ∧ p ≤ i.2.1 ∧ i.2.1 ≤ p + 1000 + 20 * i.1 ∧ i.2.2.1.length ≤ 1048576 ∧ i.2.2.2.length ≤ 1048576) (fun i => 4 - i.1) (0, q3, s1, s2)
    ⟨by dsimp only; omega, by dsimp only; omega, by dsimp only; omega, by dsimp only; omega, by dsimp only; omega⟩ (Sbs.mk rfl rfl ⟨rfl, rfl, rfl, rfl, zeroI hΩ, rfl, trivial⟩) ?_
  rintro ⟨i, q, f, t⟩ ⟨i1, i2, i3, i4, i5⟩
  dsimp only at i1 i2 i3 i4 i5
  have hout : ∀ q' : Int, p ≤ q' → q' ≤ p + 1200 → DR bs p 1200 [] css (.tup [.sl false 8 cs, .sl false 1 (F f), .sl false 1 (F t)]) [src bs q'] := fun q' a b => ⟨q', a, b, rfl, hcss f t i4 i5⟩
  obtain ⟨b3, hl3⟩ := hl3 f i4
  have hi4 : Ω.cmp .lss (Ω.int i) 4 = true → i < 4 := fun h => by subst hΩ; have h : (i : Int) < 4 := lt_t h; omega
  have hq0 : q ≤ p + 1080 := by omega
  have hnx : ∀ q' : Int, q' ≤ q + 20 → q' ≤ p + 1000 + 20 * ((i + 1 : Nat) : Int) := fun q' h => by omega
  clear i3
  dsimp only
  cbv
  repeat' (first
    | (refine br (fun h => ?_) (fun h => ?_) <;> cbv)
    | (refine call_pure hΩ 3 hflt rfl (fits _) rfl rfl ?_; cbv)
    | (refine call_pure hΩ 3 hl3 rfl (fits _) rfl rfl ?_; cbv)
    | (refine call_dr false hΩ 3 (hC _ 2 (by omega) (by omega) (by omega)) rfl rfl rfl (fun q4 x q4a q4b ⟨c4, hx⟩ => ?_); subst hx; cbv)
    | exact ⟨_, _, .same, .same, hout _ (by omega) (by omega), rfl⟩)
  refine call_dr true hΩ 3 (hask _ (by omega) (by omega)) rfl rfl rfl (fun q5 x q5a q5b ⟨t2, hx, ht2⟩ => ?_)
  rw [show fzA true x = .sl false 7 (t2.map Trm.enc) by rw [hx]; show frz (A.sl true 7 _) = _; rw [frz_sl, frz_T]]
  have hsol := hsol t2 f (by omega) i4
  obtain ⟨u2, hu2⟩ : ∃ u2, u2 = t2.map Trm.enc := ⟨_, rfl⟩
  rw [← hu2] at hsol ⊢
  cbv
  refine call_r hΩ 3 hsol rfl (fits _) (fun x ⟨c, n, s2, hx, hs2⟩ => ?_)
  subst hx
  refine ⟨rfl, ?_⟩
  rw [hFm]
  have hi5 : i < 4 := hi4 (by assumption)
  cbv
  refine br (fun h => ?_) (fun h => ?_) <;> cbv
  · exact ⟨(i + 1, q5, t, s2), ⟨by dsimp only; omega, by dsimp only; omega, hnx q5 (by omega), i5, hs2⟩, by dsimp only; omega, (Sbs.cut 1 rfl).trans (Sbs.mk rfl rfl ⟨rfl, rfl, rfl, rfl, incI hΩ (by omega), rfl, trivial⟩)⟩
  · exact ⟨(i + 1, q5, f, t), ⟨by dsimp only; omega, by dsimp only; omega, hnx q5 (by omega), i4, i5⟩, by dsimp only; omega, (Sbs.cut 1 rfl).trans (Sbs.mk rfl rfl ⟨rfl, rfl, rfl, rfl, incI hΩ (by omega), rfl, trivial⟩)⟩
end Go.Proofs.YtfmcncflooechaaGreatDoor

/- Walks: numbers' lists, one behind another. Plain theorems. -/
set_option linter.unusedVariables false
set_option linter.unusedSimpArgs false
namespace Go.Proofs
open Go.Shelf

end Go.Proofs
namespace Go.Proofs.YtfmcncflooechaaGreatDoor
open Go Go.Fw Go.Proofs
set_option maxRecDepth 100000
theorem frz_S (l : List (List UInt8)) : (l.map str).map frz = l.map str := by rw [List.map_map]; exact List.map_congr_left fun c _ => rfl
end Go.Proofs.YtfmcncflooechaaGreatDoor

/- Walks: a name put into names that are in order. Plain theorems. -/
set_option linter.unusedVariables false
set_option linter.unusedSimpArgs false
namespace Go.Proofs.YtfmcncflooechaaGreatDoor
open Go Go.Fw Go.Sort
set_option maxRecDepth 100000
/-- How l5Put goes on: what is there, is v in it, what is left. -/
def putGo (v : List UInt8) (l : List (List UInt8)) : List (List UInt8) → Bool → List (List UInt8) → List (List UInt8)
  | o, d, [] => if d then o else o ++ [v]
  | o, d, x :: xs => if x = v then l else if v < x ∧ d = false then putGo v l (o ++ [v] ++ [x]) true xs else putGo v l (o ++ [x]) d xs
def put5 (v : List UInt8) (l : List (List UInt8)) : List (List UInt8) := putGo v l [] false l
theorem putGo_at {v : List UInt8} {l o : List (List UInt8)} {d : Bool} {i : Nat} {x : List UInt8} {xs : List (List UInt8)} (h : xs[i]? = some x) :
    putGo v l o d (xs.drop i) = if x = v then l else if v < x ∧ d = false then putGo v l (o ++ [v] ++ [x]) true (xs.drop (i + 1)) else putGo v l (o ++ [x]) d (xs.drop (i + 1)) := by
  obtain ⟨h1, h2⟩ := List.getElem?_eq_some_iff.1 h
  rw [List.drop_eq_getElem_cons h1, h2, putGo]
theorem eqSt {Ω : Opq} (hΩ : Ω = std) {x y : List UInt8} (h : Ω.cmpS .eql x y = true) : x = y := by subst hΩ; exact of_decide_eq_true ((by simpa [cmpSS] using (show cmpSS .eql x y = true from h)))
theorem eqSf {Ω : Opq} (hΩ : Ω = std) {x y : List UInt8} (h : Ω.cmpS .eql x y = false) : x ≠ y := by subst hΩ; exact fun e => by subst e; have h : cmpSS .eql x x = false := h; simp [cmpSS] at h
theorem gtSB {Ω : Opq} (hΩ : Ω = std) (x y : List UInt8) : Ω.cmpS .gtr x y = decide (y < x) := by
  subst hΩ
  show (!(Op.bytesLess x y || x == y)) = _
  rw [bytesLess_eq, Bool.eq_iff_iff]
  simp only [Bool.not_eq_true', Bool.or_eq_false_iff, decide_eq_false_iff_not, beq_eq_false_iff_ne, decide_eq_true_eq]
  constructor
  · rintro ⟨h1, h2⟩
    exact (List.le_iff_lt_or_eq.1 (List.not_lt.1 h1)).resolve_right fun e => h2 e.symm
  · intro h
    exact ⟨List.not_lt.2 (List.le_iff_lt_or_eq.2 (.inl h)), fun e => by subst e; exact List.lt_irrefl _ h⟩
theorem c_l5Put (l : List (List UInt8)) (v : List UInt8) (hl : l.length ≤ 1048576) : PCtr PP n_spec_l5Put [.sl false 1 (l.map str), str v] (.sl false 1 ((put5 v l).map str)) := by
  obtain ⟨Ω, hΩ⟩ : ∃ Ω, Ω = std := ⟨_, rfl⟩
  obtain ⟨F, hF⟩ : ∃ F : List (List UInt8) → List A, F = fun l => l.map str := ⟨_, rfl⟩
  have hFm : ∀ t : List (List UInt8), t.map str = F t := fun t => by rw [hF]
  have hFz : ∀ t, (F t).map frz = F t := fun t => by rw [hF]; exact frz_S t
  have hlen : ∀ t, (F t).length = t.length := fun t => by rw [hF, List.length_map]
  have hap : ∀ t x, Ω.app (Ω.take (Ω.len (F t)) (F t)) [str x] = F (t ++ [x]) := fun t x => by rw [takeAll hΩ, ← hFm, ← hFm, List.map_append]; subst hΩ; rfl
  have hpl : ∀ t x, Ω.plus (Ω.len (F t)) (Ω.len [str x]) = Ω.len (F (t ++ [x])) := fun t x => by rw [← hap, takeAll hΩ]; subst hΩ; exact (List.length_append).symm
  have hF0 : F [] = [] := by rw [hF]; rfl
  rw [hFm, hFm]
  obtain ⟨r, hr⟩ : ∃ r, r = put5 v l := ⟨_, rfl⟩
  rw [← hr]
  suffices h : RCtr PP n_spec_l5Put [.sl false 1 (F l), str v] fun x => ∃ o, x = .sl o 1 (F r) from RCtr.p (h.frz.mono fun x ⟨y, ⟨o, ho⟩, hx⟩ => by rw [hx, ho, frz_sl, hFz])
  obtain ⟨xs, hxs⟩ : ∃ xs, xs = l.map str := ⟨_, rfl⟩
  have hxl : xs.length = l.length := by rw [hxs, List.length_map]
  rw [← hFm l, ← hxs]
  have htab := tab
  refine RCtr.walk tab hΩ fn_spec_l5Put rfl ?_
  generalize PP = P at *
  cbv
  refine loopX htab hΩ (fun i : Nat × List (List UInt8) × Bool => ⟨[(0, .sl false 1 xs), (1, str v), (5, .vw 0 0 (Ω.len (F i.2.1))), (6, boo i.2.2), (7, i64 (Ω.int i.1))], 50, [some ⟨1, F i.2.1, false⟩]⟩)
    (fun i => i.1 ≤ l.length ∧ i.2.1.length ≤ i.1 + (if i.2.2 then 1 else 0) ∧ r = putGo v l i.2.1 i.2.2 (l.drop i.1)) (fun i => l.length - i.1) (0, [], false) ⟨Nat.zero_le _, Nat.zero_le _, hr⟩
    (Sbs.mk rfl (by dsimp only; rw [hF0]) ⟨rfl, rfl, by dsimp only; rw [hF0]; subst hΩ; rfl, rfl, zeroI hΩ, trivial⟩) ?_
  rintro ⟨i, o, d⟩ ⟨hi, ho, he⟩
  dsimp only at hi ho he
  have hol := hlen o
  have hlo : Ω.len (F o) = (F o).length := by subst hΩ; rfl
  have hle : Ω.len (F o) ≤ (F o).length := by rw [hlo]; exact Nat.le_refl _
  have htk : Ω.take (Ω.len (F o)) (F o) = F o := takeAll hΩ _
  have hob : o.length ≤ 1048577 := by split at ho <;> omega
  have rest : ∀ {X Y : Prop}, X → Y → X ∧ Y := fun h h' => ⟨h, h'⟩
  cbv
  refine br (fun h => ?_) (fun h => ?_) <;> cbv
  · replace h := ltI hΩ h
    obtain ⟨x, hx⟩ := at_of (cs := l) (by omega : i < l.length)
    rw [putGo_at hx] at he
    have hgt := gtSB hΩ x v
    have hap2 := hap (o ++ [v]) x
    have hpl2 := hpl (o ++ [v]) x
    have hap1 := hap o v
    have hpl1 := hpl o v
    have hap0 := hap o x
    have hpl0 := hpl o x
    refine ⟨⟨nnI hΩ⟩, _, rdI hΩ hxs hx, ?_⟩
    cbv
    refine br (fun g => ?_) (fun g => ?_) <;> cbv
    · have g := eqSt hΩ g
      exact ⟨_, ⟨false, rfl⟩, .of (congrArg (A.sl false 1) (by rw [he, if_pos g, hxs, hFm]))⟩
    have g := eqSf hΩ g
    rw [if_neg g] at he
    refine ⟨⟨nnI hΩ⟩, _, rdI hΩ hxs hx, ?_⟩
    cbv
    refine br (fun k => ?_) (fun k => ?_) <;> cbv
    · have k : v < x := by have k : Ω.cmpS .gtr x v = true := k; rw [hgt] at k; exact of_decide_eq_true k
      refine br (fun q => ?_) (fun q => ?_) <;> cbv
      · have q : d = false := notA hΩ (iteA hΩ q)
        rw [if_pos ⟨k, q⟩] at he
        rw [if_neg (by rw [q]; simp)] at ho
        refine ⟨⟨rfl, okAll rfl, by show (Ω.len (F o) + 1) * 16 ≤ 140737488355328; omega, by show Ω.len (F o) + 1 ≤ 9223372036854775807; omega⟩, ?_⟩
        cbv
        refine ⟨⟨nnI hΩ⟩, _, rdI hΩ hxs hx, ?_⟩
        cbv
        have hlv := hlen (o ++ [v])
        rw [List.length_append, List.length_singleton] at hlv
        refine ⟨⟨rfl, okAll rfl, by show (Ω.plus (Ω.len (F o)) (Ω.len [str v]) + 1) * 16 ≤ 140737488355328; rw [hpl1]; subst hΩ; show ((F (o ++ [v])).length + 1) * 16 ≤ _; omega, by show Ω.plus (Ω.len (F o)) (Ω.len [str v]) + 1 ≤ 9223372036854775807; rw [hpl1]; subst hΩ; show (F (o ++ [v])).length + 1 ≤ _; omega⟩,
          (i + 1, o ++ [v] ++ [x], true), ⟨by dsimp only; omega, by simp; omega, he⟩, by dsimp only; omega, (Sbs.cut 1 rfl).trans (Sbs.mk rfl ?_ ⟨rfl, rfl, ?_, rfl, incI hΩ (by omega), trivial⟩)⟩
        · show [some (Row.mk 1 (Ω.app (Ω.take (Ω.plus (Ω.len (F o)) (Ω.len [str v])) (Ω.app (Ω.take (Ω.len (F o)) (F o)) [str v])) [str x]) false)] = _
          rw [hap1, hpl1, hap2]
        · show A.vw 0 0 (Ω.plus (Ω.plus (Ω.len (F o)) (Ω.len [str v])) (Ω.len [str x])) = _
          rw [hpl1, hpl2]
      · have q : d = true := notB hΩ (iteA hΩ q)
        rw [if_neg (by rw [q]; simp)] at he
        rw [if_pos q] at ho
        refine ⟨⟨nnI hΩ⟩, _, rdI hΩ hxs hx, ?_⟩
        cbv
        refine ⟨⟨rfl, okAll rfl, by show (Ω.len (F o) + 1) * 16 ≤ 140737488355328; omega, by show Ω.len (F o) + 1 ≤ 9223372036854775807; omega⟩,
          (i + 1, o ++ [x], d), ⟨by dsimp only; omega, by simp [q]; omega, he⟩, by dsimp only; omega, (Sbs.cut 1 rfl).trans (Sbs.mk rfl (by show [some (Row.mk 1 (Ω.app (Ω.take (Ω.len (F o)) (F o)) [str x]) false)] = _; rw [hap0]) ⟨rfl, rfl, congrArg (A.vw 0 0) hpl0, rfl, incI hΩ (by omega), trivial⟩)⟩
    · have k : ¬ v < x := by have k : Ω.cmpS .gtr x v = false := k; rw [hgt] at k; exact of_decide_eq_false k
      rw [if_neg (fun h => k h.1)] at he
      refine ⟨⟨nnI hΩ⟩, _, rdI hΩ hxs hx, ?_⟩
      cbv
      refine ⟨⟨rfl, okAll rfl, by show (Ω.len (F o) + 1) * 16 ≤ 140737488355328; omega, by show Ω.len (F o) + 1 ≤ 9223372036854775807; omega⟩,
        (i + 1, o ++ [x], d), ⟨by dsimp only; omega, by simp; omega, he⟩, by dsimp only; omega, (Sbs.cut 1 rfl).trans (Sbs.mk rfl (by show [some (Row.mk 1 (Ω.app (Ω.take (Ω.len (F o)) (F o)) [str x]) false)] = _; rw [hap0]) ⟨rfl, rfl, congrArg (A.vw 0 0) hpl0, rfl, incI hΩ (by omega), trivial⟩)⟩
  · replace h := geI hΩ h
    rw [List.drop_of_length_le (by omega), putGo] at he
    have hap1 := hap o v
    have hpl1 := hpl o v
    refine br (fun q => ?_) (fun q => ?_) <;> cbv
    · rw [if_neg (by rw [notA hΩ q]; simp)] at he
      refine ⟨⟨rfl, okAll rfl, by show (Ω.len (F o) + 1) * 16 ≤ 140737488355328; omega, by show Ω.len (F o) + 1 ≤ 9223372036854775807; omega⟩, _, ⟨true, rfl⟩, ⟨rfl, ?_⟩, .of ?_⟩
      · show Ω.plus (Ω.len (F o)) (Ω.len [str v]) ≤ (Ω.app (Ω.take (Ω.len (F o)) (F o)) [str v]).length
        rw [hap1, hpl1]; subst hΩ; exact Nat.le_refl _
      · show A.sl true 1 (Ω.take (Ω.plus (Ω.len (F o)) (Ω.len [str v])) (Ω.app (Ω.take (Ω.len (F o)) (F o)) [str v])) = _
        rw [hap1, hpl1, takeAll hΩ, he]
    · rw [if_pos (notB hΩ q)] at he
      exact ⟨_, ⟨true, rfl⟩, ⟨rfl, hle⟩, .of (by rw [he]; exact congrArg (A.sl true 1) htk)⟩
end Go.Proofs.YtfmcncflooechaaGreatDoor

/- Walks: names in a set, sets without a place; what they say of plain data. Plain theorems. -/
set_option linter.unusedVariables false
set_option linter.unusedSimpArgs false
namespace Go.Proofs.YtfmcncflooechaaGreatDoor
open Go Go.Fw
set_option maxRecDepth 100000
theorem c_l5One (l : List Pck) (s : List Int) (n : List UInt8) (hl : l.length ≤ 1048576) (hs : s.length ≤ 1048576) (hk : ∀ k ∈ s, inB k 0 ((l.length : Int) - 1) = true) : PCtr PP n_spec_l5One [encP l, .sl false 1 (s.map i64), str n] (i64 (nmF l n s)) := by
  obtain ⟨Ω, hΩ⟩ : ∃ Ω, Ω = std := ⟨_, rfl⟩
  obtain ⟨r, hr⟩ : ∃ r, r = nmF l n s := ⟨_, rfl⟩
  rw [← hr]
  have hat : ∀ k, inB k 0 ((l.length : Int) - 1) = true → 0 ≤ k ∧ ∃ v1 v2 v3 sz ps ds bs, (l.map (Pck.enc false))[k.toNat]? = some (.agg [str (pk l k).n, i64 v1, i64 v2, i64 v3, i64 sz, .sl false 1 ps, .sl false 1 ds, .sl false 7 bs]) := fun k h => by
    obtain ⟨h0, h1, h2, h3⟩ := pk_at h
    obtain ⟨ps, ds, bs, hen, hp, hd, hb⟩ := enc_raw (pk l k)
    exact ⟨h0, _, _, _, _, ps, ds, bs, by rw [List.getElem?_map, h2]; exact congrArg some hen⟩
  obtain ⟨ys, hys⟩ : ∃ ys, ys = s.map i64 := ⟨_, rfl⟩
  have hylen : ys.length = s.length := by rw [hys, List.length_map]
  unfold encP at *
  rw [← hys]
  generalize l.map (Pck.enc false) = xs at *
  have htab := tab
  have hmo := hmo
  refine PCtr.walk tab hΩ fn_spec_l5One rfl ?_
  generalize PP = P at *
  cbv
  refine loopX htab hΩ (fun i : Nat => ⟨[(0, .sl false 8 xs), (1, .sl false 1 ys), (2, .sc (.string (mkS n))), (7, .sc (.int .i64 (Ω.int i)))], 28, []⟩) (fun i => i ≤ s.length ∧ r = nmF l n (s.drop i)) (fun i => s.length - i) 0
    ⟨Nat.zero_le _, hr⟩ (Sbs.mk rfl rfl ⟨rfl, rfl, rfl, zeroI hΩ, trivial⟩) ?_
  rintro i ⟨hi, he⟩
  cbv
  refine br (fun h => ?_) (fun h => ?_) <;> cbv
  · replace h := ltI hΩ h
    obtain ⟨c, hcc⟩ := at_of (cs := s) (by omega : i < s.length)
    rw [nmF_at hcc] at he
    obtain ⟨hc0, v1, v2, v3, sz, ps, ds, bs, hx⟩ := hat c (hk c (List.mem_of_getElem? hcc))
    generalize (pk l c).n = nn at hx he
    refine ⟨⟨nnI hΩ⟩, _, rdI hΩ hys hcc, ?_⟩
    cbv
    refine ⟨⟨hc0⟩, _, hx, ?_⟩
    cbv
    refine br (fun g => ?_) (fun g => ?_) <;> cbv
    · refine ⟨⟨nnI hΩ⟩, _, rdI hΩ hys hcc, ?_⟩
      cbv
      exact .of (congrArg i64 (by rw [he, if_pos (by subst hΩ; exact g)]))
    · rw [if_neg (by subst hΩ; rw [show (nn == n) = false from g]; simp)] at he
      exact ⟨i + 1, ⟨by omega, he⟩, by omega, Sbs.mk rfl rfl ⟨rfl, rfl, rfl, incI hΩ (by omega), trivial⟩⟩
  · replace h := geI hΩ h
    exact .of (congrArg i64 (by rw [he, List.drop_of_length_le (by omega)]; rfl))
/-- Is a name borne twice? -/
def twice (c : List Pck) (s : List Int) : Nat → List Int → Bool
  | _, [] => false
  | i, k :: ks => twB c s i (pk c k).n || twice c s (i + 1) ks
theorem twice_at {c : List Pck} {s : List Int} {l : List Int} {i : Nat} {k : Int} {j : Nat} (h : l[i]? = some k) : twice c s j (l.drop i) = (twB c s j (pk c k).n || twice c s (j + 1) (l.drop (i + 1))) := by
  obtain ⟨h1, h2⟩ := List.getElem?_eq_some_iff.1 h
  rw [List.drop_eq_getElem_cons h1, h2, twice]
/-- Each name leads to its own place. -/
def apart (c : List Pck) (s : List Int) : List Int → Bool
  | [] => true
  | k :: ks => decide (nmF c (pk c k).n s = k) && apart c s ks
theorem apart_at {c : List Pck} {s : List Int} {l : List Int} {i : Nat} {k : Int} (h : l[i]? = some k) : apart c s (l.drop i) = (decide (nmF c (pk c k).n s = k) && apart c s (l.drop (i + 1))) := by
  obtain ⟨h1, h2⟩ := List.getElem?_eq_some_iff.1 h
  rw [List.drop_eq_getElem_cons h1, h2, apart]
theorem c_l5Apart (l : List Pck) (s : List Int) (hl : l.length ≤ 1048576) (hs : s.length ≤ 1048576) (hk : ∀ k ∈ s, inB k 0 ((l.length : Int) - 1) = true) : PCtr PP n_spec_l5Apart [encP l, .sl false 1 (s.map i64)] (boo (apart l s s)) := by
  obtain ⟨Ω, hΩ⟩ : ∃ Ω, Ω = std := ⟨_, rfl⟩
  obtain ⟨r, hr⟩ : ∃ r, r = apart l s s := ⟨_, rfl⟩
  rw [← hr]
  have hat : ∀ k, inB k 0 ((l.length : Int) - 1) = true → 0 ≤ k ∧ ∃ v1 v2 v3 sz ps ds bs, (l.map (Pck.enc false))[k.toNat]? = some (.agg [str (pk l k).n, i64 v1, i64 v2, i64 v3, i64 sz, .sl false 1 ps, .sl false 1 ds, .sl false 7 bs]) := fun k h => by
    obtain ⟨h0, h1, h2, h3⟩ := pk_at h
    obtain ⟨ps, ds, bs, hen, hp, hd, hb⟩ := enc_raw (pk l k)
    exact ⟨h0, _, _, _, _, ps, ds, bs, by rw [List.getElem?_map, h2]; exact congrArg some hen⟩
  have hone := fun n => c_l5One l s n hl hs hk
  obtain ⟨Q, hQ⟩ : ∃ Q : Int → Int → Bool, Q = fun a b => decide (a = b) := ⟨_, rfl⟩
  obtain ⟨ys, hys⟩ : ∃ ys, ys = s.map i64 := ⟨_, rfl⟩
  have hylen : ys.length = s.length := by rw [hys, List.length_map]
  unfold encP at *
  rw [← hys] at hone ⊢
  generalize l.map (Pck.enc false) = xs at *
  have htab := tab
  have hmo := hmo
  refine PCtr.walk tab hΩ fn_spec_l5Apart rfl ?_
  generalize PP = P at *
  cbv
  refine loopX htab hΩ (fun i : Nat => ⟨[(0, .sl false 8 xs), (1, .sl false 1 ys), (5, .sc (.int .i64 (Ω.int i)))], 28, []⟩) (fun i => i ≤ s.length ∧ r = apart l s (s.drop i)) (fun i => s.length - i) 0
    ⟨Nat.zero_le _, hr⟩ (Sbs.mk rfl rfl ⟨rfl, rfl, zeroI hΩ, trivial⟩) ?_
  rintro i ⟨hi, he⟩
  cbv
  refine br (fun h => ?_) (fun h => ?_) <;> cbv
  · replace h := ltI hΩ h
    obtain ⟨c, hcc⟩ := at_of (cs := s) (by omega : i < s.length)
    rw [apart_at hcc] at he
    obtain ⟨hc0, v1, v2, v3, sz, ps, ds, bs, hx⟩ := hat c (hk c (List.mem_of_getElem? hcc))
    have hone := hone (pk l c).n
    generalize nmF l (pk l c).n s = q at hone he
    generalize (pk l c).n = nn at hx hone
    refine ⟨VC_drawn htab hΩ hmo (by kernel_rfl) ?_⟩
    cbv
    refine ⟨⟨nnI hΩ⟩, _, rdI hΩ hys hcc, ?_⟩
    cbv
    refine ⟨⟨hc0⟩, _, hx, ?_⟩
    cbv
    refine QCall_pure (k := 3) hone rfl (fits _) rfl ?_
    cbv
    refine ⟨⟨nnI hΩ⟩, _, rdI hΩ hys hcc, ?_⟩
    cbv
    refine br (fun g => ?_) (fun g => ?_) <;> cbv
    · have g := neI_t hΩ g
      exact .of (congrArg boo (by rw [he, decide_eq_false g]; rfl))
    · have g := neI_f hΩ g
      rw [decide_eq_true g, Bool.true_and] at he
      exact ⟨i + 1, ⟨by omega, he⟩, by omega, Sbs.mk rfl rfl ⟨rfl, rfl, incI hΩ (by omega), trivial⟩⟩
  · replace h := geI hΩ h
    exact .of (congrArg boo (by rw [he, List.drop_of_length_le (by omega)]; rfl))
end Go.Proofs.YtfmcncflooechaaGreatDoor

/- Walks: the names that change, on both sides. Plain theorems. -/
set_option linter.unusedVariables false
set_option linter.unusedSimpArgs false
namespace Go.Proofs.YtfmcncflooechaaGreatDoor
open Go Go.Fw Go.Sort
set_option maxRecDepth 100000
/-- Does a name change? -/
def chB (c : List Pck) (f t : List Int) (n : List UInt8) : Bool := !decide (nmF c n f = nmF c n t)
def chS (c : List Pck) (f t : List Int) : List (List UInt8) := (c.map Pck.n).foldl (fun o n => if chB c f t n then put5 n o else o) []
theorem foldl_at {α β : Type} {g : β → α → β} {b : β} {xs : List α} {i : Nat} {x : α} (h : xs[i]? = some x) : (xs.drop i).foldl g b = (xs.drop (i + 1)).foldl g (g b x) := by
  obtain ⟨h1, h2⟩ := List.getElem?_eq_some_iff.1 h
  rw [List.drop_eq_getElem_cons h1, h2, List.foldl_cons]
theorem putGo_len {v : List UInt8} {l : List (List UInt8)} : ∀ {xs o : List (List UInt8)} {d : Bool}, l.length + 1 ≤ o.length + xs.length + (if d then 0 else 1) → (putGo v l o d xs).length ≤ o.length + xs.length + (if d then 0 else 1)
  | [], o, d, h => by rw [putGo]; split <;> simp
  | x :: xs, o, d, h => by
    rw [putGo]
    simp only [List.length_cons] at h ⊢
    split
    · omega
    · split
      · rename_i h1 h2
        rw [h2.2] at h ⊢
        have := putGo_len (v := v) (l := l) (xs := xs) (o := o ++ [v] ++ [x]) (d := true) (by simp at h ⊢; omega)
        simp at this ⊢; omega
      · have := putGo_len (v := v) (l := l) (xs := xs) (o := o ++ [x]) (d := d) (by simp at h ⊢; omega)
        simp at this ⊢; omega
theorem put5_len (v : List UInt8) (l : List (List UInt8)) : (put5 v l).length ≤ l.length + 1 := by
  have := putGo_len (v := v) (l := l) (xs := l) (o := []) (d := false) (by simp)
  simpa [put5] using this
theorem c_l5Changed (l : List Pck) (f t : List Int) (hl : l.length ≤ 1048576) (hf : f.length ≤ 1048576) (ht : t.length ≤ 1048576) (hkf : ∀ k ∈ f, inB k 0 ((l.length : Int) - 1) = true) (hkt : ∀ k ∈ t, inB k 0 ((l.length : Int) - 1) = true) :
    PCtr PP n_spec_l5Changed [encP l, .sl false 1 (f.map i64), .sl false 1 (t.map i64)] (.sl false 1 ((chS l f t).map str)) := by
  obtain ⟨Ω, hΩ⟩ : ∃ Ω, Ω = std := ⟨_, rfl⟩
  obtain ⟨r, hr⟩ : ∃ r, r = chS l f t := ⟨_, rfl⟩
  have hnf := fun n => c_l5One l f n hl hf hkf
  have hnt := fun n => c_l5One l t n hl ht hkt
  rw [← hr]
  unfold chS at hr
  obtain ⟨ns, hns⟩ : ∃ ns, ns = l.map Pck.n := ⟨_, rfl⟩
  have hnl : ns.length = l.length := by rw [hns, List.length_map]
  rw [← hns] at hr
  have hat : ∀ (i : Nat) (n : List UInt8), ns[i]? = some n → ∃ v1 v2 v3 sz ps ds bs, (l.map (Pck.enc false))[i]? = some (.agg [str n, i64 v1, i64 v2, i64 v3, i64 sz, .sl false 1 ps, .sl false 1 ds, .sl false 7 bs]) := fun i n h => by
    rw [hns, List.getElem?_map, Option.map_eq_some_iff] at h
    obtain ⟨p, hp, rfl⟩ := h
    obtain ⟨ps, ds, bs, hen, _, _, _⟩ := enc_raw p
    exact ⟨_, _, _, _, ps, ds, bs, by rw [List.getElem?_map, hp]; exact congrArg some hen⟩
  obtain ⟨F, hF⟩ : ∃ F : List (List UInt8) → List A, F = fun l => l.map str := ⟨_, rfl⟩
  have hFm : ∀ t : List (List UInt8), t.map str = F t := fun t => by rw [hF]
  have hF0 : F [] = [] := by rw [hF]; rfl
  have hpt := fun (o : List (List UInt8)) (n : List UInt8) (h : o.length ≤ 1048576) => c_l5Put o n h
  simp only [hFm] at hpt ⊢
  suffices h : RCtr PP n_spec_l5Changed [encP l, .sl false 1 (f.map i64), .sl false 1 (t.map i64)] fun x => x = .sl false 1 (F r) from RCtr.p h
  obtain ⟨fa, hfa⟩ : ∃ fa, fa = f.map i64 := ⟨_, rfl⟩
  obtain ⟨ta, hta⟩ : ∃ ta, ta = t.map i64 := ⟨_, rfl⟩
  unfold encP at *
  rw [← hfa] at hnf ⊢
  rw [← hta] at hnt ⊢
  have hxl : (l.map (Pck.enc false)).length = ns.length := by rw [List.length_map, hnl]
  generalize l.map (Pck.enc false) = xs at *
  clear hfa hta hF
  have htab := tab
  refine RCtr.walk tab hΩ fn_spec_l5Changed rfl ?_
  generalize PP = P at *
  cbv
  refine loopX htab hΩ (fun i : Nat × List (List UInt8) => ⟨[(0, .sl false 8 xs), (1, .sl false 1 fa), (2, .sl false 1 ta), (7, .sl false 1 (F i.2)), (8, i64 (Ω.int i.1))], 35, []⟩)
    (fun i => i.1 ≤ ns.length ∧ i.2.length ≤ i.1 ∧ r = (ns.drop i.1).foldl (fun o n => if chB l f t n then put5 n o else o) i.2) (fun i => ns.length - i.1) (0, []) ⟨Nat.zero_le _, Nat.le_refl _, hr⟩
    ((Sbs.thaw (r := 0) rfl rfl).trans ((Sbs.cut 0 rfl).trans (Sbs.mk rfl rfl ⟨rfl, rfl, rfl, by dsimp only; rw [hF0]; rfl, zeroI hΩ, trivial⟩))) ?_
  rintro ⟨i, o⟩ ⟨hi, ho, he⟩
  dsimp only at hi ho he
  cbv
  refine br (fun h => ?_) (fun h => ?_) <;> cbv
  · replace h := ltI hΩ h
    obtain ⟨n, hx⟩ := at_of (cs := ns) (by omega : i < ns.length)
    rw [foldl_at hx] at he
    obtain ⟨v1, v2, v3, sz, ps, ds, bs, hx⟩ := hat i n hx
    have hpt := hpt o n (by omega)
    have hpl := put5_len n o
    have hnf := hnf n
    have hnt := hnt n
    rw [show chB l f t n = !decide (nmF l n f = nmF l n t) from rfl] at he
    generalize nmF l n f = a at *
    generalize nmF l n t = b at *
    generalize put5 n o = o' at *
    refine ⟨⟨nnI hΩ⟩, _, rdJ hΩ hx, ?_⟩
    cbv
    refine call_pure hΩ 3 hnf rfl (fits _) rfl rfl ?_
    cbv
    refine call_pure hΩ 3 hnt rfl (fits _) rfl rfl ?_
    cbv
    refine br (fun g => ?_) (fun g => ?_) <;> cbv
    · have g := neZt hΩ g
      rw [decide_eq_false g, Bool.not_false, if_pos rfl] at he
      refine call_share hΩ 3 hpt rfl (fits _) rfl ?_
      cbv
      exact ⟨(i + 1, o'), ⟨by dsimp only; omega, by dsimp only; omega, he⟩, by dsimp only; omega, Sbs.mk rfl rfl ⟨rfl, rfl, rfl, rfl, incI hΩ (by omega), trivial⟩⟩
    · have g := neZf hΩ g
      rw [decide_eq_true g, Bool.not_true, if_neg (by simp)] at he
      exact ⟨(i + 1, o), ⟨by dsimp only; omega, by dsimp only; omega, he⟩, by dsimp only; omega, Sbs.mk rfl rfl ⟨rfl, rfl, rfl, rfl, incI hΩ (by omega), trivial⟩⟩
  · replace h := geI hΩ h
    rw [List.drop_of_length_le (by omega)] at he
    exact ⟨_, rfl, .of (by rw [he]; rfl)⟩
end Go.Proofs.YtfmcncflooechaaGreatDoor

/- Lists in strict order: what compaction of a sorted list gives, and what put5 keeps. Plain theorems, no program. -/
set_option linter.unusedVariables false
set_option linter.unusedSimpArgs false
namespace Go.Proofs.YtfmcncflooechaaGreatDoor
open Go Go.Fw Go.Sort Go.Lib
theorem ltS_tr (a b c : List UInt8) (h : a < b) (h' : b < c) : a < c := List.lt_trans h h'
theorem ltS_tri (a b : List UInt8) : a < b ∨ a = b ∨ b < a := by
  by_cases h : a < b
  · exact .inl h
  · rcases List.le_iff_lt_or_eq.1 (List.not_lt.1 h) with h | h
    · exact .inr (.inr h)
    · exact .inr (.inl h.symm)
theorem putGo_spec {v : List UInt8} {l : List (List UInt8)} : ∀ {xs o : List (List UInt8)} {d : Bool}, (o ++ xs).Pairwise (· < ·) → (d = true → v ∈ o) → (d = false → v ∉ o ∧ (∀ y ∈ o, y < v)) → (∀ x, x ∈ l → x = v ∨ x ∈ o ++ xs) → (∀ x ∈ o ++ xs, x = v ∨ x ∈ l) → l.Pairwise (· < ·) → (v ∈ xs → v ∈ l) →
    (putGo v l o d xs).Pairwise (· < ·) ∧ ∀ x, x ∈ putGo v l o d xs ↔ x = v ∨ x ∈ l
  | [], o, d, h1, h2, h3, h4, h5, h6, h7 => by
    rw [putGo]
    rw [List.append_nil] at h1 h4 h5
    cases d with
    | true => rw [if_pos rfl]; exact ⟨h1, fun x => ⟨h5 x, fun h => h.elim (fun e => e ▸ h2 rfl) fun hx => (h4 x hx).elim (fun e => e ▸ h2 rfl) id⟩⟩
    | false =>
      rw [if_neg (by simp)]
      refine ⟨?_, fun x => ?_⟩
      · rw [List.pairwise_append]; exact ⟨h1, by simp, fun a ha b hb => by rw [List.mem_singleton] at hb; subst hb; exact (h3 rfl).2 a ha⟩
      · rw [List.mem_append, List.mem_singleton]
        exact ⟨fun h => h.elim (h5 x) .inl, fun h => h.elim .inr fun hx => (h4 x hx).elim .inr .inl⟩
  | x :: xs, o, d, h1, h2, h3, h4, h5, h6, h7 => by
    rw [putGo]
    split
    · rename_i e
      have hv : v ∈ l := h7 (by simp [e])
      exact ⟨h6, fun y => ⟨.inr, fun h => h.elim (fun e => e ▸ hv) id⟩⟩
    · rename_i hne
      have ho := (List.pairwise_append.1 h1)
      split
      · rename_i hk
        obtain ⟨hk1, rfl⟩ := hk
        have h3' := h3 rfl
        have hxs := List.pairwise_cons.1 ho.2.1
        refine putGo_spec ?_ (fun _ => by simp) (fun h => by cases h) (fun y hy => ?_) (fun y hy => ?_) h6 (fun h => h7 (by simp [h]))
        · rw [List.append_assoc, List.append_assoc, List.pairwise_append]
          refine ⟨ho.1, ?_, fun a ha b hb => ?_⟩
          · simp only [List.singleton_append, List.pairwise_cons]
            exact ⟨fun b hb => (List.mem_cons.1 hb).elim (fun e => e ▸ hk1) fun hb => ltS_tr _ _ _ hk1 (hxs.1 b hb), hxs⟩
          · simp only [List.singleton_append, List.mem_cons] at hb
            rcases hb with rfl | rfl | hb
            · exact h3'.2 a ha
            · exact ho.2.2 a ha b (by simp)
            · exact ho.2.2 a ha b (by simp [hb])
        · rcases h4 y hy with h | h
          · exact .inl h
          · right; simp at h ⊢; exact h.imp id .inr
        · simp at hy
          rcases hy with hy | hy | hy | hy
          · exact h5 y (by simp [hy])
          · exact .inl hy
          · exact h5 y (by simp [hy])
          · exact h5 y (by simp [hy])
      · rename_i hk
        refine putGo_spec (by simpa using h1) (fun h => by simp [h2 h]) (fun h => ?_) (fun y hy => by simpa using h4 y hy) (fun y hy => h5 y (by simpa using hy)) h6 (fun h => h7 (by simp [h]))
        subst h
        have h3' := h3 rfl
        refine ⟨by simp [h3'.1]; exact fun e => hne e.symm, fun y hy => ?_⟩
        rcases List.mem_append.1 hy with hy | hy
        · exact h3'.2 y hy
        · rw [List.mem_singleton] at hy
          subst hy
          rcases ltS_tri y v with h | h | h
          · exact h
          · exact absurd h hne
          · exact absurd ⟨h, rfl⟩ hk
theorem put5_spec {v : List UInt8} {l : List (List UInt8)} (h : l.Pairwise (· < ·)) : (put5 v l).Pairwise (· < ·) ∧ ∀ x, x ∈ put5 v l ↔ x = v ∨ x ∈ l :=
  putGo_spec (by simpa using h) (fun h => by cases h) (fun _ => by simp) (fun x hx => by simp [hx]) (fun x hx => .inr (by simpa using hx)) h (fun h => h)
theorem foldPut_spec {p : List UInt8 → Bool} : ∀ {ns o : List (List UInt8)}, o.Pairwise (· < ·) → (ns.foldl (fun o n => if p n then put5 n o else o) o).Pairwise (· < ·) ∧ ∀ x, x ∈ ns.foldl (fun o n => if p n then put5 n o else o) o ↔ x ∈ o ∨ (x ∈ ns ∧ p x = true)
  | [], o, h => ⟨h, by simp⟩
  | n :: ns, o, h => by
    rw [List.foldl_cons]
    cases hp : p n with
    | false =>
      obtain ⟨h1, h2⟩ := foldPut_spec (p := p) (ns := ns) h
      refine ⟨h1, fun x => (h2 x).trans ⟨fun h => h.imp id fun h => ⟨by simp [h.1], h.2⟩, fun h => h.imp id fun h => ⟨?_, h.2⟩⟩⟩
      rcases List.mem_cons.1 h.1 with rfl | h1
      · rw [hp] at h; cases h.2
      · exact h1
    | true =>
      obtain ⟨g1, g2⟩ := put5_spec (v := n) h
      obtain ⟨h1, h2⟩ := foldPut_spec (p := p) (ns := ns) g1
      refine ⟨h1, fun x => (h2 x).trans ⟨fun h => ?_, fun h => ?_⟩⟩
      · rcases h with h | h
        · rcases (g2 x).1 h with rfl | h
          · exact .inr ⟨by simp, hp⟩
          · exact .inl h
        · exact .inr ⟨by simp [h.1], h.2⟩
      · rcases h with h | h
        · exact .inl ((g2 x).2 (.inr h))
        · rcases List.mem_cons.1 h.1 with rfl | h1
          · exact .inl ((g2 x).2 (.inl rfl))
          · exact .inr ⟨h1, h.2⟩
theorem ch_len {c : List Pck} {f t : List Int} : (chS c f t).length ≤ c.length := by
  unfold chS
  have : ∀ (ns o : List (List UInt8)), (ns.foldl (fun o n => if chB c f t n then put5 n o else o) o).length ≤ o.length + ns.length := by
    intro ns
    induction ns with
    | nil => intro o; simp
    | cons n ns ih =>
      intro o
      rw [List.foldl_cons]
      refine Nat.le_trans (ih _) ?_
      have := put5_len n o
      split <;> simp only [List.length_cons] <;> omega
  have := this (c.map Pck.n) []
  simpa using this
end Go.Proofs.YtfmcncflooechaaGreatDoor

/- Walks: a change put to a set. Plain theorems. -/
set_option linter.unusedVariables false
set_option linter.unusedSimpArgs false
namespace Go.Proofs.YtfmcncflooechaaGreatDoor
open Go Go.Fw
set_option maxRecDepth 100000
def newS (c : List Pck) (s : List Int) (x : Chg) : List Int :=
  let a := if x.k = 1 then s else s.filter fun k => !decide (k = nmF c x.n s)
  if x.k = 2 then a else put3 (findF c x.n x.w) a
def newC (c : List Pck) (s : List Int) (x : Chg) : Int :=
  if inB x.k 1 3 = false then 5 else if (x.k ≠ 1 ∧ (nmF c x.n s < 0 ∨ cmpV (pk c (nmF c x.n s)).v x.o ≠ 0)) ∨ (x.k ≠ 2 ∧ findF c x.n x.w < 0) then 4 else if x.k = 1 ∧ 0 ≤ nmF c x.n s then 6 else 0
theorem nmF_mem {c : List Pck} {n : List UInt8} : ∀ {s : List Int}, 0 ≤ nmF c n s → nmF c n s ∈ s
  | [], h => by rw [nmF] at h; omega
  | k :: s, h => by
    rw [nmF] at h ⊢
    split
    · simp
    · rename_i h0; rw [if_neg h0] at h; exact List.mem_cons_of_mem _ (nmF_mem h)
end Go.Proofs.YtfmcncflooechaaGreatDoor

/- Walks: the program's change of a set. Plain theorems. -/
set_option linter.unusedVariables false
set_option linter.unusedSimpArgs false
namespace Go.Proofs.YtfmcncflooechaaGreatDoor
open Go Go.Fw
set_option maxRecDepth 100000
theorem put3_perm (v : Int) : ∀ l : List Int, (put3 v l).Perm (v :: l)
  | [] => .refl _
  | x :: l => by
    rw [put3]
    split
    · exact .refl _
    · exact ((put3_perm v l).cons x).trans (.swap _ _ _)
end Go.Proofs.YtfmcncflooechaaGreatDoor

/- Walks: what can be spared. Plain theorems. -/
set_option linter.unusedVariables false
set_option linter.unusedSimpArgs false
namespace Go.Proofs.YtfmcncflooechaaGreatDoor
open Go Go.Fw
set_option maxRecDepth 100000
theorem rise_adj {s : List Int} : ∀ (n i : Nat), s.length - i = n → riseAll s i (s.drop i) = true → ∀ j x y, i ≤ j → 1 ≤ j → s[j - 1]? = some x → s[j]? = some y → x < y
  | 0, i, hn, _, j, x, y, hij, _, _, hy => by
    have := (List.getElem?_eq_some_iff.1 hy).1
    omega
  | n + 1, i, hn, h, j, x, y, hij, h1, hx, hy => by
    have hi : i < s.length := by omega
    rw [riseAll_at (List.getElem?_eq_getElem hi), Bool.and_eq_true] at h
    by_cases hji : j = i
    · subst hji
      have h2 := h.1
      rw [Bool.or_eq_true] at h2
      rcases h2 with h2 | h2
      · have : j = 0 := by simpa using h2
        omega
      · have h3 := of_decide_eq_true h2
        rw [List.getD_eq_getElem?_getD, hx] at h3
        rw [List.getElem?_eq_getElem hi] at hy
        cases hy
        exact h3
    · exact rise_adj n (i + 1) (by omega) h.2 j x y (by omega) h1 hx hy
theorem setF_rise {c : List Pck} {s : List Int} (h : setF c s = 0) : riseAll s 0 (s.drop 0) = true := by
  unfold setF at h
  split at h
  · rename_i h0; exact absurd h h0
  · split at h
    · rename_i h1
      rw [setOk_eq, Bool.and_eq_true] at h1
      exact h1.1
    · simp at h
theorem setF_lt {c : List Pck} {s : List Int} (h : setF c s = 0) : ∀ (d i : Nat) (x y : Int), s[i]? = some x → s[i + d + 1]? = some y → x < y
  | 0, i, x, y, hx, hy => rise_adj _ 0 rfl (setF_rise h) (i + 1) x y (by omega) (by omega) hx hy
  | d + 1, i, x, y, hx, hy => by
    have hlt := (List.getElem?_eq_some_iff.1 hy).1
    obtain ⟨z, hz⟩ : ∃ z, s[i + d + 1]? = some z := ⟨_, List.getElem?_eq_getElem (by omega)⟩
    have h1 := setF_lt h d i x z hx hz
    have h2 := rise_adj _ 0 rfl (setF_rise h) (i + (d + 1) + 1) z y (by omega) (by omega) hz hy
    omega
end Go.Proofs.YtfmcncflooechaaGreatDoor

/- Walks: do all of a set's asks hold? Plain theorems. -/
set_option linter.unusedVariables false
set_option linter.unusedSimpArgs false
namespace Go.Proofs.YtfmcncflooechaaGreatDoor
open Go Go.Fw
set_option maxRecDepth 100000
theorem setF_pw {c : List Pck} {s : List Int} (h : setF c s = 0) : s.Pairwise (· < ·) := by
  rw [List.pairwise_iff_getElem]
  intro i j hi hj hij
  exact setF_lt h (j - i - 1) i _ _ (List.getElem?_eq_getElem hi) (by rw [show i + (j - i - 1) + 1 = j by omega]; exact List.getElem?_eq_getElem hj)
end Go.Proofs.YtfmcncflooechaaGreatDoor

/- What a change of a set keeps. Plain theorems, no program. -/
set_option linter.unusedVariables false
set_option linter.unusedSimpArgs false
namespace Go.Proofs.YtfmcncflooechaaGreatDoor
open Go Go.Fw
theorem idxFrom_spec {α : Type} {p : α → Bool} : ∀ {l : List α} {i : Nat}, 0 ≤ idxFrom p i l → ∃ j o, l[j]? = some o ∧ p o = true ∧ idxFrom p i l = ((i + j : Nat) : Int)
  | [], i, h => by rw [idxFrom] at h; omega
  | x :: l, i, h => by
    rw [idxFrom] at h ⊢
    split
    · rename_i hp; exact ⟨0, x, rfl, hp, by simp⟩
    · rename_i hp
      rw [if_neg hp] at h
      obtain ⟨j, o, h1, h2, h3⟩ := idxFrom_spec h
      exact ⟨j + 1, o, by simpa using h1, h2, by rw [h3]; congr 1; omega⟩
theorem findF_spec {c : List Pck} {n : List UInt8} {v : Ver} (h : 0 ≤ findF c n v) : inB (findF c n v) 0 ((c.length : Int) - 1) = true ∧ (pk c (findF c n v)).n = n ∧ (pk c (findF c n v)).v = v := by
  obtain ⟨j, o, h1, h2, h3⟩ := idxFrom_spec h
  have hj := (List.getElem?_eq_some_iff.1 h1).1
  have e : findF c n v = (j : Int) := by unfold findF idx; rw [h3]; simp
  rw [e]
  have e2 : pk c (j : Int) = o := by
    unfold pk
    rw [List.getD_eq_getElem?_getD, Int.toNat_natCast, h1]; rfl
  rw [e2]
  unfold isP at h2
  simp only [Bool.and_eq_true, beq_iff_eq, decide_eq_true_eq] at h2
  refine ⟨?_, h2.1, h2.2⟩
  simp only [inB, Bool.and_eq_true, decide_eq_true_eq]; omega
/-- A set that is in order, of places, each name once. -/
structure Good (c : List Pck) (s : List Int) : Prop where
  lt : s.Pairwise (· < ·)
  at_ : ∀ k ∈ s, inB k 0 ((c.length : Int) - 1) = true
  nm : s.Pairwise fun a b => (pk c a).n ≠ (pk c b).n
theorem Good.le {c : List Pck} {s : List Int} (h : Good c s) : s.Pairwise (· ≤ ·) := h.lt.imp fun h => by omega
theorem len_bound {L : Int} : ∀ {s : List Int} {lo : Int}, s.Pairwise (· < ·) → (∀ k ∈ s, lo ≤ k ∧ k < L) → (s.length : Int) ≤ max 0 (L - lo)
  | [], lo, _, _ => by simp; omega
  | x :: s, lo, h, hk => by
    rw [List.pairwise_cons] at h
    have h1 := len_bound (lo := x + 1) h.2 fun k hk' => ⟨by have := h.1 k hk'; omega, (hk k (by simp [hk'])).2⟩
    have h2 := hk x (by simp)
    rw [List.length_cons]; omega
theorem Good.len {c : List Pck} {s : List Int} (h : Good c s) : s.length ≤ c.length := by
  have := len_bound (L := (c.length : Int)) (lo := 0) h.lt fun k hk => by
    have := h.at_ k hk
    simp only [inB, Bool.and_eq_true, decide_eq_true_eq] at this; omega
  omega
theorem nmF_no {c : List Pck} {n : List UInt8} : ∀ {s : List Int}, (∀ k ∈ s, 0 ≤ k) → nmF c n s < 0 → ∀ k ∈ s, (pk c k).n ≠ n
  | [], _, _, k, hk => by cases hk
  | x :: s, h0, h, k, hk => by
    rw [nmF] at h
    split at h
    · have := h0 x (by simp); omega
    · rename_i hx
      rcases List.mem_cons.1 hk with rfl | hk
      · intro e; exact hx (by simp [e])
      · exact nmF_no (fun k hk => h0 k (by simp [hk])) h k hk
theorem nmF_name {c : List Pck} {n : List UInt8} : ∀ {s : List Int}, 0 ≤ nmF c n s → (pk c (nmF c n s)).n = n
  | [], h => by rw [nmF] at h; omega
  | x :: s, h => by
    rw [nmF] at h ⊢
    split
    · rename_i hx; simpa using hx
    · rename_i hx; rw [if_neg hx] at h; exact nmF_name h
theorem put3_strict {v : Int} : ∀ {l : List Int}, l.Pairwise (· < ·) → v ∉ l → (put3 v l).Pairwise (· < ·)
  | [], _, _ => by simp [put3]
  | x :: l, h, hv => by
    rw [List.pairwise_cons] at h
    rw [put3]
    split
    · rename_i hlt
      rw [List.pairwise_cons, List.pairwise_cons]
      refine ⟨fun y hy => ?_, h⟩
      rcases List.mem_cons.1 hy with rfl | hy
      · exact hlt
      · have := h.1 y hy; omega
    · rename_i hlt
      rw [List.pairwise_cons]
      have hne : v ≠ x := fun e => hv (by simp [e])
      refine ⟨fun y hy => ?_, put3_strict h.2 fun hm => hv (by simp [hm])⟩
      rcases put3_mem hy with rfl | hy
      · omega
      · exact h.1 y hy
theorem pairwise_name {c : List Pck} : ∀ {s : List Int}, (s.Pairwise fun a b => (pk c a).n ≠ (pk c b).n) → ∀ {a b : Int}, a ∈ s → b ∈ s → a ≠ b → (pk c a).n ≠ (pk c b).n
  | [], _, _, _, ha, _, _ => by cases ha
  | x :: s, h, a, b, ha, hb, hne => by
    rw [List.pairwise_cons] at h
    rcases List.mem_cons.1 ha with rfl | ha'
    · rcases List.mem_cons.1 hb with rfl | hb'
      · exact absurd rfl hne
      · exact h.1 b hb'
    · rcases List.mem_cons.1 hb with rfl | hb'
      · exact (h.1 a ha').symm
      · exact pairwise_name h.2 ha' hb' hne
theorem Good.filter {c : List Pck} {s : List Int} (h : Good c s) (p : Int → Bool) : Good c (s.filter p) := ⟨h.lt.filter _, fun k hk => h.at_ k (List.mem_filter.1 hk).1, h.nm.filter _⟩
theorem Good.put {c : List Pck} {s : List Int} (h : Good c s) {v : Int} (hv : inB v 0 ((c.length : Int) - 1) = true) (hn : ∀ k ∈ s, (pk c k).n ≠ (pk c v).n) : Good c (put3 v s) := by
  have hnot : v ∉ s := fun hm => hn v hm rfl
  refine ⟨put3_strict h.lt hnot, fun k hk => ?_, ?_⟩
  · rcases put3_mem hk with rfl | hk
    · exact hv
    · exact h.at_ k hk
  · refine (put3_perm v s).symm.pairwise ?_ fun hab => Ne.symm hab
    rw [List.pairwise_cons]
    exact ⟨fun k hk => (hn k hk).symm, h.nm⟩
theorem newC_zero {c : List Pck} {s : List Int} {x : Chg} (h : newC c s x = 0) : inB x.k 1 3 = true ∧ (x.k = 1 ∨ (0 ≤ nmF c x.n s ∧ (pk c (nmF c x.n s)).v = x.o)) ∧ (x.k = 2 ∨ 0 ≤ findF c x.n x.w) ∧ (x.k = 1 → nmF c x.n s < 0) := by
  unfold newC at h
  split at h
  · cases h
  · rename_i h1
    split at h
    · cases h
    · rename_i h2
      split at h
      · cases h
      · rename_i h3
        refine ⟨by simpa using h1, ?_, by omega, by omega⟩
        by_cases hk : x.k = 1
        · exact .inl hk
        · refine .inr ⟨by omega, cmpV_zero.1 (by omega)⟩
theorem Good.new {c : List Pck} {s : List Int} {x : Chg} (hg : Good c s) (h : newC c s x = 0) : Good c (newS c s x) := by
  obtain ⟨h1, h2, h3, h4⟩ := newC_zero h
  have h0 : ∀ k ∈ s, 0 ≤ k := fun k hk => (pk_at (hg.at_ k hk)).1
  obtain ⟨a, ha⟩ : ∃ a, a = if x.k = 1 then s else s.filter fun k => !decide (k = nmF c x.n s) := ⟨_, rfl⟩
  have hga : Good c a := by rw [ha]; split <;> first | exact hg | exact hg.filter _
  have hna : ∀ k ∈ a, (pk c k).n ≠ x.n := by
    rw [ha]
    split
    · rename_i hk; exact nmF_no h0 (h4 hk)
    · rename_i hk
      intro k hk'
      obtain ⟨m1, m2⟩ := List.mem_filter.1 hk'
      have hnn := (h2.resolve_left hk).1
      have := pairwise_name hg.nm m1 (nmF_mem hnn) (by simpa using m2)
      rwa [nmF_name hnn] at this
  unfold newS
  dsimp only
  rw [← ha]
  split
  · exact hga
  · rename_i hk
    obtain ⟨f1, f2, f3⟩ := findF_spec (h3.resolve_left hk)
    exact hga.put f1 fun k hk => by rw [f2]; exact hna k hk
theorem twice_false {c : List Pck} {s : List Int} : ∀ (n i : Nat), s.length - i = n → twice c s i (s.drop i) = false → ∀ j k, i ≤ j → s[j]? = some k → twB c s j (pk c k).n = false
  | 0, i, hn, _, j, k, hij, hk => by have := (List.getElem?_eq_some_iff.1 hk).1; omega
  | n + 1, i, hn, h, j, k, hij, hk => by
    have hi : i < s.length := by omega
    rw [twice_at (List.getElem?_eq_getElem hi), Bool.or_eq_false_iff] at h
    by_cases e : j = i
    · subst e
      rw [List.getElem?_eq_getElem hi] at hk
      obtain rfl := Option.some.inj hk
      exact h.1
    · exact twice_false n (i + 1) (by omega) h.2 j k (by omega) hk
theorem twice_true {c : List Pck} {s : List Int} : ∀ (n i : Nat), s.length - i = n → (∀ j k, i ≤ j → s[j]? = some k → twB c s j (pk c k).n = false) → twice c s i (s.drop i) = false
  | 0, i, hn, _ => by rw [List.drop_of_length_le (by omega)]; rfl
  | n + 1, i, hn, h => by
    have hi : i < s.length := by omega
    rw [twice_at (List.getElem?_eq_getElem hi), Bool.or_eq_false_iff]
    exact ⟨h i _ (Nat.le_refl _) (List.getElem?_eq_getElem hi), twice_true n (i + 1) (by omega) fun j k hj => h j k (by omega)⟩
theorem twice_names {c : List Pck} {s : List Int} : twice c s 0 s = false ↔ s.Pairwise fun a b => (pk c a).n ≠ (pk c b).n := by
  have e : twice c s 0 s = twice c s 0 (s.drop 0) := by rw [List.drop_zero]
  rw [e]
  constructor
  · intro h
    rw [List.pairwise_iff_getElem]
    intro i j hi hj hij e
    have := twice_false _ 0 rfl h j _ (Nat.zero_le _) (List.getElem?_eq_getElem hj)
    unfold twB at this
    rw [List.any_eq_false] at this
    refine this s[i] ?_ (by simp [e])
    rw [List.mem_iff_getElem]
    exact ⟨i, by simp; omega, by rw [List.getElem_take]⟩
  · intro h
    refine twice_true _ 0 rfl fun j k _ hk => ?_
    unfold twB
    rw [List.any_eq_false]
    intro o ho he
    obtain ⟨i, hi, rfl⟩ := List.mem_iff_getElem.1 ho
    obtain ⟨hj, rfl⟩ := List.getElem?_eq_some_iff.1 hk
    rw [List.getElem_take] at he
    have hij : i < j := by simp at hi; omega
    exact List.pairwise_iff_getElem.1 h i j (by omega) hj hij (by simpa using he)
theorem apart_all {c : List Pck} {s : List Int} : ∀ {l : List Int}, apart c s l = true ↔ ∀ k ∈ l, nmF c (pk c k).n s = k
  | [] => by simp [apart]
  | x :: l => by rw [apart, Bool.and_eq_true, decide_eq_true_eq, apart_all]; simp
theorem nmF_self {c : List Pck} : ∀ {s : List Int}, (s.Pairwise fun a b => (pk c a).n ≠ (pk c b).n) → ∀ k ∈ s, nmF c (pk c k).n s = k
  | [], _, k, hk => by cases hk
  | x :: s, h, k, hk => by
    rw [List.pairwise_cons] at h
    rw [nmF]
    rcases List.mem_cons.1 hk with rfl | hk
    · simp
    · rw [if_neg (by simpa using h.1 k hk)]; exact nmF_self h.2 k hk
theorem apart_twice {c : List Pck} {s : List Int} (h : s.Pairwise (· < ·)) : apart c s s = !twice c s 0 s := by
  cases ht : twice c s 0 s with
  | false => rw [Bool.not_false, apart_all]; exact nmF_self (twice_names.1 ht)
  | true =>
    rw [Bool.not_true, ← Bool.not_eq_true]
    intro ha
    rw [apart_all] at ha
    have : twice c s 0 s = false := by
      rw [twice_names]
      refine h.imp_of_mem fun {a b} hma hmb hab e => ?_
      have h1 := ha a hma
      have h2 := ha b hmb
      rw [e, h2] at h1
      omega
    rw [this] at ht; cases ht
end Go.Proofs.YtfmcncflooechaaGreatDoor

/- Walks: what is asked of two sets; the changes between them, on both sides. Plain theorems. -/
set_option linter.unusedVariables false
set_option linter.unusedSimpArgs false
namespace Go.Proofs.YtfmcncflooechaaGreatDoor
open Go Go.Fw
set_option maxRecDepth 100000
theorem nmF_ge {c : List Pck} {n : List UInt8} : ∀ {s : List Int}, (∀ k ∈ s, inB k 0 ((c.length : Int) - 1) = true) → -1 ≤ nmF c n s
  | [], _ => by rw [nmF]; omega
  | k :: s, h => by
    rw [nmF]
    split
    · have := (pk_at (h k (by simp))).1; omega
    · exact nmF_ge fun k hk => h k (by simp [hk])
def dltC (c : List Pck) (f t : List Int) : Int := if setF c f ≠ 0 then setF c f else if setF c t ≠ 0 then setF c t else if twice c f 0 f = true ∨ twice c t 0 t = true then 6 else 0
theorem c_l5Asked (l : List Pck) (f t : List Int) (hl : l.length ≤ 1048576) (ho : ∀ o ∈ l, o.Small) (hf : f.length ≤ 1048576) (ht : t.length ≤ 1048576) : PCtr PP n_spec_l5Asked [encP l, .sl false 1 (f.map i64), .sl false 1 (t.map i64)] (i64 (dltC l f t)) := by
  obtain ⟨Ω, hΩ⟩ : ∃ Ω, Ω = std := ⟨_, rfl⟩
  have h1 := c_specSetFault l f hl ho hf
  have h2 := c_specSetFault l t hl ho ht
  have h3 : setF l f = 0 → PCtr PP n_spec_l5Apart [encP l, .sl false 1 (f.map i64)] (boo (!twice l f 0 f)) := fun h => by
    have := c_l5Apart l f hl hf (setF_in h); rwa [apart_twice (setF_pw h)] at this
  have h4 : setF l t = 0 → PCtr PP n_spec_l5Apart [encP l, .sl false 1 (t.map i64)] (boo (!twice l t 0 t)) := fun h => by
    have := c_l5Apart l t hl ht (setF_in h); rwa [apart_twice (setF_pw h)] at this
  obtain ⟨r, hr⟩ : ∃ r, r = dltC l f t := ⟨_, rfl⟩
  rw [← hr]
  unfold dltC at hr
  generalize setF l f = a at *
  generalize setF l t = b at *
  generalize twice l f 0 f = p at *
  generalize twice l t 0 t = q at *
  obtain ⟨p', hp⟩ : ∃ x, (!p) = x := ⟨_, rfl⟩
  obtain ⟨q', hq⟩ : ∃ x, (!q) = x := ⟨_, rfl⟩
  rw [hp] at h3
  rw [hq] at h4
  unfold encP at *
  generalize l.map (Pck.enc false) = xs at *
  generalize f.map i64 = fa at *
  generalize t.map i64 = ta at *
  have htab := tab
  refine PCtr.walk tab hΩ fn_spec_l5Asked rfl ?_
  generalize PP = P at *
  cbv
  refine call_pure hΩ 3 h1 rfl (fits _) rfl rfl ?_
  cbv
  repeat' (first | (refine br (fun hh => ?_) (fun hh => ?_) <;> (repeat' (first | replace hh := iteA hΩ hh | replace hh := iteB hΩ hh)) <;> (first | replace hh := neZt hΩ hh | replace hh := neZf hΩ hh | replace hh := eqZt hΩ hh | replace hh := eqZf hΩ hh | replace hh := ltZt hΩ hh | replace hh := ltZf hΩ hh | replace hh := geZt hΩ hh | replace hh := geZf hΩ hh | replace hh := gtZt hΩ hh | replace hh := gtZf hΩ hh | replace hh := leZt hΩ hh | replace hh := leZf hΩ hh | replace hh := notA hΩ hh | replace hh := notB hΩ hh | skip) <;> (first | (exfalso; (first | omega | (cases hh; done) | (simp_all; done))) | cbv)) | (refine call_pure hΩ 3 h2 rfl (fits _) rfl rfl ?_; cbv) | (refine call_pure hΩ 3 (h3 (by omega)) rfl (fits _) rfl rfl ?_; cbv) | (refine call_pure hΩ 3 (h4 (by omega)) rfl (fits _) rfl rfl ?_; cbv))
  all_goals (refine .of (congrArg i64 ?_); clear h1 h2 h3 h4 htab; subst hΩ; subst hr; simp_all [std, cmpIS])
/-- What became of a name. -/
def chg (c : List Pck) (f t : List Int) (n : List UInt8) : Chg :=
  ⟨if nmF c n f < 0 then 1 else if nmF c n t < 0 then 2 else 3, n, if nmF c n f < 0 then Ver.zero else (pk c (nmF c n f)).v, if nmF c n t < 0 then Ver.zero else (pk c (nmF c n t)).v⟩
def chgS (c : List Pck) (f t : List Int) : List Chg := (chS c f t).map (chg c f t)
theorem c_l15Changes (l : List Pck) (f t : List Int) (hl : l.length ≤ 1048576) (hf : f.length ≤ 1048576) (ht : t.length ≤ 1048576) (hkf : ∀ k ∈ f, inB k 0 ((l.length : Int) - 1) = true) (hkt : ∀ k ∈ t, inB k 0 ((l.length : Int) - 1) = true) :
    PCtr PP n_spec_l15Changes [encP l, .sl false 1 (f.map i64), .sl false 1 (t.map i64)] (.sl true 8 ((chgS l f t).map Chg.enc)) := by
  obtain ⟨Ω, hΩ⟩ : ∃ Ω, Ω = std := ⟨_, rfl⟩
  have hat : ∀ (s : List Int) n, (∀ k ∈ s, inB k 0 ((l.length : Int) - 1) = true) → 0 ≤ nmF l n s → ∃ n' v1 v2 v3 sz ps ds bs, (pk l (nmF l n s)).v = ⟨v1, v2, v3⟩ ∧ (l.map (Pck.enc false))[(nmF l n s).toNat]? = some (.agg [str n', i64 v1, i64 v2, i64 v3, i64 sz, .sl false 1 ps, .sl false 1 ds, .sl false 7 bs]) := fun s n hs h => by
    obtain ⟨h0, h1, h2, h3⟩ := pk_at (hs _ (nmF_mem (c := l) (n := n) (s := s) h))
    obtain ⟨ps, ds, bs, hen, hp, hd, hb⟩ := enc_raw (pk l (nmF l n s))
    exact ⟨_, (pk l (nmF l n s)).v.a, (pk l (nmF l n s)).v.b, (pk l (nmF l n s)).v.c, _, ps, ds, bs, rfl, by rw [List.getElem?_map, h2]; exact congrArg some hen⟩
  have hatf := fun n => hat f n hkf
  have hatt := fun n => hat t n hkt
  clear hat
  have hnf := fun n => c_l5One l f n hl hf hkf
  have hnt := fun n => c_l5One l t n hl ht hkt
  have hch := c_l5Changed l f t hl hf ht hkf hkt
  have hcl := ch_len (c := l) (f := f) (t := t)
  unfold chgS
  have hcg : ∀ n ∈ chS l f t, ¬ nmF l n f = nmF l n t ∧ -1 ≤ nmF l n f ∧ -1 ≤ nmF l n t := fun n hn => by
    have := ((foldPut_spec (p := chB l f t) (ns := l.map Pck.n) (o := []) (by simp)).2 n).1 hn
    simp only [List.not_mem_nil, false_or] at this
    refine ⟨?_, nmF_ge hkf, nmF_ge hkt⟩
    have := this.2
    unfold chB at this
    simpa using this
  generalize chS l f t = ns at *
  obtain ⟨C, hC⟩ : ∃ C : Nat → List A, C = fun i => ((ns.take i).map (chg l f t)).map Chg.enc := ⟨_, rfl⟩
  have hC0 : C 0 = [] := by rw [hC]; rfl
  have hCl : ∀ i, (C i).length ≤ i := fun i => by rw [hC]; simp only [List.length_map, List.length_take]; omega
  have hCi : ∀ i n, ns[i]? = some n → Ω.app (Ω.take (Ω.len (C i)) (C i)) [(chg l f t n).enc] = C (i + 1) := fun i n h => by
    rw [takeAll hΩ, hC]; dsimp only; rw [List.take_add_one, h, List.map_append, List.map_append]; subst hΩ; rfl
  have hpl : ∀ i n (x : A), ns[i]? = some n → Ω.plus (Ω.len (C i)) (Ω.len [x]) = Ω.len (C (i + 1)) := fun i n x h => by rw [show Ω.len [x] = Ω.len [(chg l f t n).enc] by subst hΩ; rfl]; rw [← hCi i n h, takeAll hΩ]; subst hΩ; exact (List.length_append).symm
  have hfin : (ns.map (chg l f t)).map Chg.enc = C ns.length := by rw [hC]; dsimp only; rw [List.take_length]
  rw [hfin]
  obtain ⟨m, hm⟩ : ∃ m, m = ns.length := ⟨_, rfl⟩
  rw [← hm]
  obtain ⟨q, hq⟩ : ∃ q, q = ns.map str := ⟨_, rfl⟩
  have hql : q.length = ns.length := by rw [hq, List.length_map]
  have hqz : q.map frz = q := by rw [hq]; exact frz_S _
  rw [← hq] at hch
  unfold chg Chg.enc Chg.cells at hCi
  dsimp only at hCi
  unfold encP at *
  generalize f.map i64 = fa at *
  generalize t.map i64 = ta at *
  generalize l.map (Pck.enc false) = xs at *
  clear hC hfin
  have htab := tab
  refine PCtr.walk tab hΩ fn_spec_l15Changes rfl ?_
  generalize PP = P at *
  cbv
  refine call_share hΩ 3 hch rfl (fits _) rfl ?_
  cbv
  refine loopX htab hΩ (fun i : Nat => ⟨[(0, .sl false 8 xs), (1, .sl false 1 fa), (2, .sl false 1 ta), (7, .vw 0 0 (Ω.len (C i))), (8, .sl false 1 q), (9, i64 (Ω.int i))], 66, [some ⟨8, C i, false⟩]⟩) (fun i => i ≤ ns.length) (fun i => ns.length - i) 0 (Nat.zero_le _)
    (Sbs.mk rfl (by rw [hC0]) ⟨rfl, rfl, rfl, by rw [hC0]; subst hΩ; rfl, rfl, zeroI hΩ, trivial⟩) (fun i hi => ?_)
  have hCli := hCl i
  have hlo : Ω.len (C i) = (C i).length := by subst hΩ; rfl
  have hle : Ω.len (C i) ≤ (C i).length := by rw [hlo]; exact Nat.le_refl _
  have htk : Ω.take (Ω.len (C i)) (C i) = C i := takeAll hΩ _
  cbv
  refine br (fun h => ?_) (fun h => ?_) <;> cbv
  · replace h := ltI hΩ h
    obtain ⟨n, hn⟩ := at_of (cs := ns) (by omega : i < ns.length)
    have hCi := hCi i n hn
    have hpl := fun x => hpl i n x hn
    obtain ⟨hne, hg1, hg2⟩ := hcg n (List.mem_of_getElem? hn)
    have hnf := hnf n
    have hnt := hnt n
    have hatf := hatf n
    have hatt := hatt n
    generalize nmF l n f = a at *
    generalize nmF l n t = b at *
    refine ⟨⟨nnI hΩ⟩, _, rdI hΩ hq hn, ?_⟩
    cbv
    refine call_pure hΩ 3 hnf rfl (fits _) rfl rfl ?_
    cbv
    refine ⟨⟨nnI hΩ⟩, _, rdI hΩ hq hn, ?_⟩
    cbv
    refine call_pure hΩ 3 hnt rfl (fits _) rfl rfl ?_
    cbv
    refine ⟨⟨nnI hΩ⟩, _, rdI hΩ hq hn, ?_⟩
    cbv
    repeat' (first
      | (refine br (fun hh => ?_) (fun hh => ?_) <;> (repeat' (first | replace hh := iteA hΩ hh | replace hh := iteB hΩ hh)) <;> (first | replace hh := neZt hΩ hh | replace hh := neZf hΩ hh | replace hh := eqZt hΩ hh | replace hh := eqZf hΩ hh | replace hh := ltZt hΩ hh | replace hh := ltZf hΩ hh | replace hh := geZt hΩ hh | replace hh := geZf hΩ hh | replace hh := gtZt hΩ hh | replace hh := gtZf hΩ hh | replace hh := leZt hΩ hh | replace hh := leZf hΩ hh | replace hh := notA hΩ hh | replace hh := notB hΩ hh | skip) <;> (first | (exfalso; (first | omega | (cases hh; done) | (simp_all; done))) | cbv))
      | (obtain ⟨n', v1, v2, v3, sz, ps, ds, bs, hv, hx⟩ := hatf (by omega); rw [hv] at hCi; refine ⟨⟨by omega⟩, _, hx, ?_⟩; clear hatf; cbv)
      | (obtain ⟨n', v1, v2, v3, sz, ps, ds, bs, hv, hx⟩ := hatt (by omega); rw [hv] at hCi; refine ⟨⟨by omega⟩, _, hx, ?_⟩; clear hatt; cbv))
    all_goals (first
      | (have e1 : ¬ a < 0 := by omega)
      | (have e1 : a < 0 := by omega))
    all_goals (first
      | (have e2 : ¬ b < 0 := by omega)
      | (have e2 : b < 0 := by omega))
    all_goals simp only [e1, e2, if_true, if_false] at hCi
    all_goals exact ⟨⟨rfl, okAll rfl, by show (Ω.len (C i) + 1) * 72 ≤ 140737488355328; omega, by show Ω.len (C i) + 1 ≤ 9223372036854775807; omega⟩, i + 1, by omega, by omega,
        (Sbs.cut 1 rfl).trans (Sbs.mk rfl (by rw [← hCi]; rfl) ⟨rfl, rfl, rfl, congrArg (A.vw 0 0) (hpl _), rfl, incI hΩ (by omega), trivial⟩)⟩
  · replace h := geI hΩ h
    obtain rfl : m = i := by omega
    exact ⟨⟨rfl, hle⟩, .of (congrArg (A.sl true 8) htk)⟩
end Go.Proofs.YtfmcncflooechaaGreatDoor

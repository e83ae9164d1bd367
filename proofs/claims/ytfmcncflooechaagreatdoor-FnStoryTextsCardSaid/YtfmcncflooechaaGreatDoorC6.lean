/- Walks: draws of changes. Plain theorems. -/
import Derived.Test.YtfmcncflooechaaGreatDoorC5
import Derived.Deep.Slices
import Derived.ChangeStays
import Derived.OpenShut
import Derived.WalkKit
import Derived.ProofKit
set_option linter.unusedVariables false
set_option linter.unusedSimpArgs false
namespace Go.Proofs.YtfmcncflooechaaGreatDoor
open Go Go.Fw
set_option maxRecDepth 100000
/-- Some changes. -/
def cgs (x : A) : Prop := ∃ g : List Chg, x = .sl true 8 (g.map Chg.enc) ∧ g.length ≤ 100
theorem dltC_zero2 {c : List Pck} {f t : List Int} (h : dltC c f t = 0) : setF c f = 0 ∧ setF c t = 0 ∧ twice c f 0 f = false ∧ twice c t 0 t = false := by
  unfold dltC at h
  split at h
  · omega
  · split at h
    · omega
    · split at h
      · cases h
      · rename_i h1 h2 h3
        refine ⟨by omega, by omega, ?_, ?_⟩
        · cases hq : twice c f 0 f
          · rfl
          · exact absurd (.inl hq) h3
        · cases hq : twice c t 0 t
          · rfl
          · exact absurd (.inr hq) h3
theorem d_l15List {bs : List A} (hb : Src bs) (l : List Pck) (f t : List Int) (hl : l.length ≤ 40) (ho : ∀ o ∈ l, o.Small) (hf : f.length ≤ 1048576) (ht : t.length ≤ 1048576) (p : Int) (h0 : 0 ≤ p) (h1 : p + 60 ≤ 1099511627776) :
    XCtr PP n_spec_l15List [src bs p, encP l, .sl false 1 (f.map i64), .sl false 1 (t.map i64)] (DR bs p 60 [encP l, .sl false 1 (f.map i64), .sl false 1 (t.map i64)] cgs) := by
  obtain ⟨Ω, hΩ⟩ : ∃ Ω, Ω = std := ⟨_, rfl⟩
  obtain ⟨F, hF⟩ : ∃ F : List Chg → List A, F = fun l => l.map Chg.enc := ⟨_, rfl⟩
  have hFm : ∀ t : List Chg, t.map Chg.enc = F t := fun t => by rw [hF]
  have hlen : ∀ t, (F t).length = t.length := fun t => by rw [hF, List.length_map]
  have hap : ∀ t x, Ω.app (Ω.take (Ω.len (F t)) (F t)) [x.enc] = F (t ++ [x]) := fun t x => by rw [takeAll hΩ, ← hFm, ← hFm, List.map_append]; subst hΩ; rfl
  have hpl : ∀ t (x : Chg), Ω.plus (Ω.len (F t)) (Ω.len [x.enc]) = Ω.len (F (t ++ [x])) := fun t x => by rw [← hap, takeAll hΩ]; subst hΩ; exact (List.length_append).symm
  have hF0 : F [] = [] := by rw [hF]; rfl
  have hC := fun p n a b c => d_l1Chance hb p n a b c
  have hP := fun p ns a b c d => d_l1Pick hb p ns a b c d
  have hbn := fun p a b => d_l1BentName hb p a b
  have hv := fun p a b => d_l1Version hb p a b
  have hbv := fun p a b => d_l1BentVersion hb p a b
  have hA := c_l5Asked l f t (by omega) ho hf ht
  obtain ⟨k, hk⟩ : ∃ k, k = dltC l f t := ⟨_, rfl⟩
  have hch : k = 0 → ∃ g : List Chg, PCtr PP n_spec_l15Changes [encP l, .sl false 1 (f.map i64), .sl false 1 (t.map i64)] (.sl true 8 (F g)) ∧ g.length ≤ 40 ∧ roFree (.sl true 8 (F g)) = true := fun h => by
    have hkf := setF_in (dltC_zero2 (hk.symm.trans h)).1
    have hkt := setF_in (dltC_zero2 (hk.symm.trans h)).2.1
    refine ⟨chgS l f t, ?_, ?_, ?_⟩
    · rw [← hFm]; exact c_l15Changes l f t (by omega) hf ht hkf hkt
    · unfold chgS; rw [List.length_map]; exact Nat.le_trans ch_len hl
    · rw [← hFm]; exact roFAll fun x hx => by obtain ⟨c, _, rfl⟩ := List.mem_map.1 hx; rfl
  rw [← hk] at hA
  have hout : ∀ (g : List Chg) (q : Int), p ≤ q → q ≤ p + 60 → g.length ≤ 100 → DR bs p 60 [encP l, .sl false 1 (f.map i64), .sl false 1 (t.map i64)] cgs (.sl true 8 (F g)) [src bs q, encP l, .sl false 1 (f.map i64), .sl false 1 (t.map i64)] := fun g q a b c => ⟨q, a, b, rfl, g, by rw [hFm], c⟩
  clear hk hF
  unfold encP at *
  generalize l.map (Pck.enc false) = cs at *
  generalize f.map i64 = fs at *
  generalize t.map i64 = ts at *
  have htab := tab
  have hmo := hmo
  refine XCtr.walkO tab hΩ 3 fn_spec_l15List rfl rfl ?_
  generalize PP = P at *
  cbv
  refine call_pure hΩ 3 hA rfl (fits _) rfl rfl ?_
  cbv
  refine br (fun h => ?_) (fun h => ?_) <;> cbv
  · obtain ⟨g, hch, hg, rg⟩ := hch (eqZt hΩ h)
    refine call_pure hΩ 3 hch rfl (fits _) rg rfl ?_
    cbv
    have XB : (F g : List A) = F g := by first | rfl | exact hF0.symm
    have LB : Ω.len (F g) = Ω.len (F g) := by first | rfl | (rw [hF0]; subst hΩ; rfl)
    have hlg : Ω.len (F g) = (F g).length := by subst hΩ; first | rfl | (rw [hF0]; rfl)
    have hfg := hlen g
    refine call_dr false hΩ 3 (hC _ 8 (by omega) (by omega) (by omega)) rfl rfl rfl (fun q1 x q1a q1b ⟨b1, hx⟩ => ?_)
    subst hx
    cbv
    refine br (fun h1 => ?_) (fun h1 => ?_) <;> cbv
    · refine call_pick (ns := [0, 1, 2, 3, 4]) hΩ (hP _ _ (by omega) (by omega) (Nat.zero_lt_succ _) (Nat.le_of_ble_eq_true rfl)) rfl rfl rfl rfl (by decide) (fun q2 n q2a q2b hn => ?_)
      cbv
      refine call_dr false hΩ 3 (hbn _ (by omega) (by omega)) rfl rfl rfl (fun q3 x q3a q3b ⟨nm, hx⟩ => ?_)
      subst hx
      cbv
      refine call_dr false hΩ 3 (hv _ (by omega) (by omega)) rfl rfl rfl (fun q4 x q4a q4b ⟨v, hx⟩ => ?_)
      obtain ⟨va, vb, vc⟩ := v
      subst hx
      cbv
      refine call_dr false hΩ 3 (hbv _ (by omega) (by omega)) rfl rfl rfl (fun q5 x q5a q5b ⟨v, hx⟩ => ?_)
      obtain ⟨wa, wb, wc⟩ := v
      subst hx
      cbv
      refine ⟨⟨rfl, okAll rfl, by show (Ω.len (F g) + 1) * 72 ≤ 140737488355328; omega, by show Ω.len (F g) + 1 ≤ 9223372036854775807; omega⟩, ?_⟩
      cbv
      have eX : (Ω.app (Ω.take (Ω.len (F g)) (F g)) [Chg.enc (⟨n, nm, ⟨va, vb, vc⟩, ⟨wa, wb, wc⟩⟩ : Chg)]) = F (g ++ [(⟨n, nm, ⟨va, vb, vc⟩, ⟨wa, wb, wc⟩⟩ : Chg)]) := by first | exact hap _ _ | (rw [← hFm]; subst hΩ; rfl)
      have eL : (Ω.plus (Ω.len (F g)) (Ω.len [Chg.enc (⟨n, nm, ⟨va, vb, vc⟩, ⟨wa, wb, wc⟩⟩ : Chg)])) = Ω.len (F (g ++ [(⟨n, nm, ⟨va, vb, vc⟩, ⟨wa, wb, wc⟩⟩ : Chg)])) := by first | exact hpl _ _ | (rw [← hFm]; subst hΩ; rfl)
      have hgl : (g ++ [(⟨n, nm, ⟨va, vb, vc⟩, ⟨wa, wb, wc⟩⟩ : Chg)]).length ≤ 41 := by first | omega | (simp; omega) | simp
      refine br (fun h => ?_) (fun h => ?_) <;> cbv
      · have hp : 0 < (g ++ [(⟨n, nm, ⟨va, vb, vc⟩, ⟨wa, wb, wc⟩⟩ : Chg)]).length := by
          have h : (0 : Int) < Ω.int (Ω.plus (Ω.len (F g)) (Ω.len [Chg.enc (⟨n, nm, ⟨va, vb, vc⟩, ⟨wa, wb, wc⟩⟩ : Chg)])) := gtZt hΩ h
          rw [eL] at h
          have e := hlen (g ++ [(⟨n, nm, ⟨va, vb, vc⟩, ⟨wa, wb, wc⟩⟩ : Chg)])
          subst hΩ
          have h : (0 : Int) < ((F (g ++ [(⟨n, nm, ⟨va, vb, vc⟩, ⟨wa, wb, wc⟩⟩ : Chg)])).length : Int) := h
          omega
        refine call_dr false hΩ 3 (hC _ 8 (by omega) (by omega) (by omega)) rfl rfl rfl (fun q8 x q8a q8b ⟨b2, hx⟩ => ?_)
        subst hx
        cbv
        refine br (fun h2 => ?_) (fun h2 => ?_) <;> cbv
        · refine call_dr false hΩ 3 (hv _ (by omega) (by omega)) rfl rfl rfl (fun q9 x q9a q9b ⟨sv, hx⟩ => ?_)
          obtain ⟨sa, sb, sc⟩ := sv
          subst hx
          cbv
          obtain ⟨c0, hc0⟩ := at_of (cs := g ++ [(⟨n, nm, ⟨va, vb, vc⟩, ⟨wa, wb, wc⟩⟩ : Chg)]) hp
          obtain ⟨k0, n0, ⟨a0, b0, d0⟩, ⟨a1, b1', d1⟩⟩ := c0
          have hz : (Ω.app (Ω.take (Ω.len (F g)) (F g)) [Chg.enc (⟨n, nm, ⟨va, vb, vc⟩, ⟨wa, wb, wc⟩⟩ : Chg)])[Ω.plus 0 (Ω.nat 0)]? = some (Chg.enc ⟨k0, n0, ⟨a0, b0, d0⟩, ⟨a1, b1', d1⟩⟩) := by
            rw [eX, ← hFm]; subst hΩ; show ((g ++ [(⟨n, nm, ⟨va, vb, vc⟩, ⟨wa, wb, wc⟩⟩ : Chg)]).map Chg.enc)[0]? = _; rw [List.getElem?_map, hc0]; rfl
          refine ⟨⟨Int.le_refl 0, by show (0 : Int) < ((Ω.plus (Ω.len (F g)) (Ω.len [Chg.enc (⟨n, nm, ⟨va, vb, vc⟩, ⟨wa, wb, wc⟩⟩ : Chg)]) : Nat) : Int); rw [eL]; have e := hlen (g ++ [(⟨n, nm, ⟨va, vb, vc⟩, ⟨wa, wb, wc⟩⟩ : Chg)]); subst hΩ; show (0 : Int) < ((F (g ++ [(⟨n, nm, ⟨va, vb, vc⟩, ⟨wa, wb, wc⟩⟩ : Chg)])).length : Int); omega⟩, _, hz, ?_⟩
          cbv
          have hset : Ω.set (Ω.app (Ω.take (Ω.len (F g)) (F g)) [Chg.enc (⟨n, nm, ⟨va, vb, vc⟩, ⟨wa, wb, wc⟩⟩ : Chg)]) (Ω.plus 0 (Ω.nat 0)) (Chg.enc ⟨k0, n0, ⟨sa, sb, sc⟩, ⟨a1, b1', d1⟩⟩) = F ((g ++ [(⟨n, nm, ⟨va, vb, vc⟩, ⟨wa, wb, wc⟩⟩ : Chg)]).set 0 ⟨k0, n0, ⟨sa, sb, sc⟩, ⟨a1, b1', d1⟩⟩) := by
            rw [eX, ← hFm, ← hFm]; subst hΩ; show ((g ++ [(⟨n, nm, ⟨va, vb, vc⟩, ⟨wa, wb, wc⟩⟩ : Chg)]).map Chg.enc).set 0 _ = _; rw [List.map_set]
          have eLs : (Ω.plus (Ω.len (F g)) (Ω.len [Chg.enc (⟨n, nm, ⟨va, vb, vc⟩, ⟨wa, wb, wc⟩⟩ : Chg)])) = Ω.len (F ((g ++ [(⟨n, nm, ⟨va, vb, vc⟩, ⟨wa, wb, wc⟩⟩ : Chg)]).set 0 ⟨k0, n0, ⟨sa, sb, sc⟩, ⟨a1, b1', d1⟩⟩)) := by
            rw [eL]; subst hΩ; show (F (g ++ [(⟨n, nm, ⟨va, vb, vc⟩, ⟨wa, wb, wc⟩⟩ : Chg)])).length = (F _).length; rw [hlen, hlen, List.length_set]
          exact ⟨⟨rfl, by show Ω.plus (Ω.len (F g)) (Ω.len [Chg.enc (⟨n, nm, ⟨va, vb, vc⟩, ⟨wa, wb, wc⟩⟩ : Chg)]) ≤ (Ω.set (Ω.app (Ω.take (Ω.len (F g)) (F g)) [Chg.enc (⟨n, nm, ⟨va, vb, vc⟩, ⟨wa, wb, wc⟩⟩ : Chg)]) (Ω.plus 0 (Ω.nat 0)) (Chg.enc ⟨k0, n0, ⟨sa, sb, sc⟩, ⟨a1, b1', d1⟩⟩)).length; rw [hset, eLs]; subst hΩ; exact Nat.le_refl _⟩, _, _, .of (show A.sl true 8 (Ω.take (Ω.plus (Ω.len (F g)) (Ω.len [Chg.enc (⟨n, nm, ⟨va, vb, vc⟩, ⟨wa, wb, wc⟩⟩ : Chg)])) (Ω.set (Ω.app (Ω.take (Ω.len (F g)) (F g)) [Chg.enc (⟨n, nm, ⟨va, vb, vc⟩, ⟨wa, wb, wc⟩⟩ : Chg)]) (Ω.plus 0 (Ω.nat 0)) (Chg.enc ⟨k0, n0, ⟨sa, sb, sc⟩, ⟨a1, b1', d1⟩⟩))) = A.sl true 8 (F ((g ++ [(⟨n, nm, ⟨va, vb, vc⟩, ⟨wa, wb, wc⟩⟩ : Chg)]).set 0 ⟨k0, n0, ⟨sa, sb, sc⟩, ⟨a1, b1', d1⟩⟩)) by rw [hset, eLs, takeAll hΩ]), .same, hout ((g ++ [(⟨n, nm, ⟨va, vb, vc⟩, ⟨wa, wb, wc⟩⟩ : Chg)]).set 0 ⟨k0, n0, ⟨sa, sb, sc⟩, ⟨a1, b1', d1⟩⟩) q9 (by omega) (by omega) (by rw [List.length_set]; omega), rfl⟩
        · exact ⟨⟨rfl, by show Ω.plus (Ω.len (F g)) (Ω.len [Chg.enc (⟨n, nm, ⟨va, vb, vc⟩, ⟨wa, wb, wc⟩⟩ : Chg)]) ≤ (Ω.app (Ω.take (Ω.len (F g)) (F g)) [Chg.enc (⟨n, nm, ⟨va, vb, vc⟩, ⟨wa, wb, wc⟩⟩ : Chg)]).length; rw [eL, eX]; subst hΩ; exact Nat.le_refl _⟩, _, _, .of (show A.sl true 8 (Ω.take (Ω.plus (Ω.len (F g)) (Ω.len [Chg.enc (⟨n, nm, ⟨va, vb, vc⟩, ⟨wa, wb, wc⟩⟩ : Chg)])) (Ω.app (Ω.take (Ω.len (F g)) (F g)) [Chg.enc (⟨n, nm, ⟨va, vb, vc⟩, ⟨wa, wb, wc⟩⟩ : Chg)])) = A.sl true 8 (F (g ++ [(⟨n, nm, ⟨va, vb, vc⟩, ⟨wa, wb, wc⟩⟩ : Chg)])) by rw [eL, eX, takeAll hΩ]), .same, hout (g ++ [(⟨n, nm, ⟨va, vb, vc⟩, ⟨wa, wb, wc⟩⟩ : Chg)]) q8 (by omega) (by omega) (by omega), rfl⟩
      · exact ⟨⟨rfl, by show Ω.plus (Ω.len (F g)) (Ω.len [Chg.enc (⟨n, nm, ⟨va, vb, vc⟩, ⟨wa, wb, wc⟩⟩ : Chg)]) ≤ (Ω.app (Ω.take (Ω.len (F g)) (F g)) [Chg.enc (⟨n, nm, ⟨va, vb, vc⟩, ⟨wa, wb, wc⟩⟩ : Chg)]).length; rw [eL, eX]; subst hΩ; exact Nat.le_refl _⟩, _, _, .of (show A.sl true 8 (Ω.take (Ω.plus (Ω.len (F g)) (Ω.len [Chg.enc (⟨n, nm, ⟨va, vb, vc⟩, ⟨wa, wb, wc⟩⟩ : Chg)])) (Ω.app (Ω.take (Ω.len (F g)) (F g)) [Chg.enc (⟨n, nm, ⟨va, vb, vc⟩, ⟨wa, wb, wc⟩⟩ : Chg)])) = A.sl true 8 (F (g ++ [(⟨n, nm, ⟨va, vb, vc⟩, ⟨wa, wb, wc⟩⟩ : Chg)])) by rw [eL, eX, takeAll hΩ]), .same, hout (g ++ [(⟨n, nm, ⟨va, vb, vc⟩, ⟨wa, wb, wc⟩⟩ : Chg)]) q5 (by omega) (by omega) (by omega), rfl⟩
    · have eX : (F g) = F (g) := XB
      have eL : (Ω.len (F g)) = Ω.len (F (g)) := LB
      have hgl : (g).length ≤ 41 := by first | omega | (simp; omega) | simp
      refine br (fun h => ?_) (fun h => ?_) <;> cbv
      · have hp : 0 < (g).length := by
          have h : (0 : Int) < Ω.int (Ω.len (F g)) := gtZt hΩ h
          rw [eL] at h
          have e := hlen (g)
          subst hΩ
          have h : (0 : Int) < ((F (g)).length : Int) := h
          omega
        refine call_dr false hΩ 3 (hC _ 8 (by omega) (by omega) (by omega)) rfl rfl rfl (fun q8 x q8a q8b ⟨b2, hx⟩ => ?_)
        subst hx
        cbv
        refine br (fun h2 => ?_) (fun h2 => ?_) <;> cbv
        · refine call_dr false hΩ 3 (hv _ (by omega) (by omega)) rfl rfl rfl (fun q9 x q9a q9b ⟨sv, hx⟩ => ?_)
          obtain ⟨sa, sb, sc⟩ := sv
          subst hx
          cbv
          obtain ⟨c0, hc0⟩ := at_of (cs := g) hp
          obtain ⟨k0, n0, ⟨a0, b0, d0⟩, ⟨a1, b1', d1⟩⟩ := c0
          have hz : (F g)[Ω.plus 0 (Ω.nat 0)]? = some (Chg.enc ⟨k0, n0, ⟨a0, b0, d0⟩, ⟨a1, b1', d1⟩⟩) := by
            rw [eX, ← hFm]; subst hΩ; show ((g).map Chg.enc)[0]? = _; rw [List.getElem?_map, hc0]; rfl
          refine ⟨⟨Int.le_refl 0, by show (0 : Int) < ((Ω.len (F g) : Nat) : Int); rw [eL]; have e := hlen (g); subst hΩ; show (0 : Int) < ((F (g)).length : Int); omega⟩, _, hz, ?_⟩
          cbv
          have hset : Ω.set (F g) (Ω.plus 0 (Ω.nat 0)) (Chg.enc ⟨k0, n0, ⟨sa, sb, sc⟩, ⟨a1, b1', d1⟩⟩) = F ((g).set 0 ⟨k0, n0, ⟨sa, sb, sc⟩, ⟨a1, b1', d1⟩⟩) := by
            rw [eX, ← hFm, ← hFm]; subst hΩ; show ((g).map Chg.enc).set 0 _ = _; rw [List.map_set]
          have eLs : (Ω.len (F g)) = Ω.len (F ((g).set 0 ⟨k0, n0, ⟨sa, sb, sc⟩, ⟨a1, b1', d1⟩⟩)) := by
            rw [eL]; subst hΩ; show (F (g)).length = (F _).length; rw [hlen, hlen, List.length_set]
          exact ⟨⟨rfl, by show Ω.len (F g) ≤ (Ω.set (F g) (Ω.plus 0 (Ω.nat 0)) (Chg.enc ⟨k0, n0, ⟨sa, sb, sc⟩, ⟨a1, b1', d1⟩⟩)).length; rw [hset, eLs]; subst hΩ; exact Nat.le_refl _⟩, _, _, .of (show A.sl true 8 (Ω.take (Ω.len (F g)) (Ω.set (F g) (Ω.plus 0 (Ω.nat 0)) (Chg.enc ⟨k0, n0, ⟨sa, sb, sc⟩, ⟨a1, b1', d1⟩⟩))) = A.sl true 8 (F ((g).set 0 ⟨k0, n0, ⟨sa, sb, sc⟩, ⟨a1, b1', d1⟩⟩)) by rw [hset, eLs, takeAll hΩ]), .same, hout ((g).set 0 ⟨k0, n0, ⟨sa, sb, sc⟩, ⟨a1, b1', d1⟩⟩) q9 (by omega) (by omega) (by rw [List.length_set]; omega), rfl⟩
        · exact ⟨⟨rfl, by show Ω.len (F g) ≤ (F g).length; rw [eL, eX]; subst hΩ; exact Nat.le_refl _⟩, _, _, .of (show A.sl true 8 (Ω.take (Ω.len (F g)) (F g)) = A.sl true 8 (F (g)) by rw [eL, eX, takeAll hΩ]), .same, hout (g) q8 (by omega) (by omega) (by omega), rfl⟩
      · exact ⟨⟨rfl, by show Ω.len (F g) ≤ (F g).length; rw [eL, eX]; subst hΩ; exact Nat.le_refl _⟩, _, _, .of (show A.sl true 8 (Ω.take (Ω.len (F g)) (F g)) = A.sl true 8 (F (g)) by rw [eL, eX, takeAll hΩ]), .same, hout (g) q1 (by omega) (by omega) (by omega), rfl⟩
  · skip
    have XB : (([] : List A) : List A) = F ([] : List Chg) := by first | rfl | exact hF0.symm
    have LB : (0 : Nat) = Ω.len (F ([] : List Chg)) := by first | rfl | (rw [hF0]; subst hΩ; rfl)
    have hlg : (0 : Nat) = (F ([] : List Chg)).length := by subst hΩ; first | rfl | (rw [hF0]; rfl)
    have hfg := hlen ([] : List Chg)
    refine call_dr false hΩ 3 (hC _ 8 (by omega) (by omega) (by omega)) rfl rfl rfl (fun q1 x q1a q1b ⟨b1, hx⟩ => ?_)
    subst hx
    cbv
    refine br (fun h1 => ?_) (fun h1 => ?_) <;> cbv
    · refine call_pick (ns := [0, 1, 2, 3, 4]) hΩ (hP _ _ (by omega) (by omega) (Nat.zero_lt_succ _) (Nat.le_of_ble_eq_true rfl)) rfl rfl rfl rfl (by decide) (fun q2 n q2a q2b hn => ?_)
      cbv
      refine call_dr false hΩ 3 (hbn _ (by omega) (by omega)) rfl rfl rfl (fun q3 x q3a q3b ⟨nm, hx⟩ => ?_)
      subst hx
      cbv
      refine call_dr false hΩ 3 (hv _ (by omega) (by omega)) rfl rfl rfl (fun q4 x q4a q4b ⟨v, hx⟩ => ?_)
      obtain ⟨va, vb, vc⟩ := v
      subst hx
      cbv
      refine call_dr false hΩ 3 (hbv _ (by omega) (by omega)) rfl rfl rfl (fun q5 x q5a q5b ⟨v, hx⟩ => ?_)
      obtain ⟨wa, wb, wc⟩ := v
      subst hx
      cbv
      refine ⟨⟨rfl, okAll rfl, by show ((0 : Nat) + 1) * 72 ≤ 140737488355328; omega, by show (0 : Nat) + 1 ≤ 9223372036854775807; omega⟩, ?_⟩
      cbv
      have eX : (Ω.app (Ω.take ((0 : Nat)) (([] : List A))) [Chg.enc (⟨n, nm, ⟨va, vb, vc⟩, ⟨wa, wb, wc⟩⟩ : Chg)]) = F (([] : List Chg) ++ [(⟨n, nm, ⟨va, vb, vc⟩, ⟨wa, wb, wc⟩⟩ : Chg)]) := by first | exact hap _ _ | (rw [← hFm]; subst hΩ; rfl)
      have eL : (Ω.plus ((0 : Nat)) (Ω.len [Chg.enc (⟨n, nm, ⟨va, vb, vc⟩, ⟨wa, wb, wc⟩⟩ : Chg)])) = Ω.len (F (([] : List Chg) ++ [(⟨n, nm, ⟨va, vb, vc⟩, ⟨wa, wb, wc⟩⟩ : Chg)])) := by first | exact hpl _ _ | (rw [← hFm]; subst hΩ; rfl)
      have hgl : (([] : List Chg) ++ [(⟨n, nm, ⟨va, vb, vc⟩, ⟨wa, wb, wc⟩⟩ : Chg)]).length ≤ 41 := by first | omega | (simp; omega) | simp
      refine br (fun h => ?_) (fun h => ?_) <;> cbv
      · have hp : 0 < (([] : List Chg) ++ [(⟨n, nm, ⟨va, vb, vc⟩, ⟨wa, wb, wc⟩⟩ : Chg)]).length := by
          have h : (0 : Int) < Ω.int (Ω.plus ((0 : Nat)) (Ω.len [Chg.enc (⟨n, nm, ⟨va, vb, vc⟩, ⟨wa, wb, wc⟩⟩ : Chg)])) := gtZt hΩ h
          rw [eL] at h
          have e := hlen (([] : List Chg) ++ [(⟨n, nm, ⟨va, vb, vc⟩, ⟨wa, wb, wc⟩⟩ : Chg)])
          subst hΩ
          have h : (0 : Int) < ((F (([] : List Chg) ++ [(⟨n, nm, ⟨va, vb, vc⟩, ⟨wa, wb, wc⟩⟩ : Chg)])).length : Int) := h
          omega
        refine call_dr false hΩ 3 (hC _ 8 (by omega) (by omega) (by omega)) rfl rfl rfl (fun q8 x q8a q8b ⟨b2, hx⟩ => ?_)
        subst hx
        cbv
        refine br (fun h2 => ?_) (fun h2 => ?_) <;> cbv
        · refine call_dr false hΩ 3 (hv _ (by omega) (by omega)) rfl rfl rfl (fun q9 x q9a q9b ⟨sv, hx⟩ => ?_)
          obtain ⟨sa, sb, sc⟩ := sv
          subst hx
          cbv
          obtain ⟨c0, hc0⟩ := at_of (cs := ([] : List Chg) ++ [(⟨n, nm, ⟨va, vb, vc⟩, ⟨wa, wb, wc⟩⟩ : Chg)]) hp
          obtain ⟨k0, n0, ⟨a0, b0, d0⟩, ⟨a1, b1', d1⟩⟩ := c0
          have hz : (Ω.app (Ω.take ((0 : Nat)) (([] : List A))) [Chg.enc (⟨n, nm, ⟨va, vb, vc⟩, ⟨wa, wb, wc⟩⟩ : Chg)])[Ω.plus 0 (Ω.nat 0)]? = some (Chg.enc ⟨k0, n0, ⟨a0, b0, d0⟩, ⟨a1, b1', d1⟩⟩) := by
            rw [eX, ← hFm]; subst hΩ; show ((([] : List Chg) ++ [(⟨n, nm, ⟨va, vb, vc⟩, ⟨wa, wb, wc⟩⟩ : Chg)]).map Chg.enc)[0]? = _; rw [List.getElem?_map, hc0]; rfl
          refine ⟨⟨Int.le_refl 0, by show (0 : Int) < ((Ω.plus ((0 : Nat)) (Ω.len [Chg.enc (⟨n, nm, ⟨va, vb, vc⟩, ⟨wa, wb, wc⟩⟩ : Chg)]) : Nat) : Int); rw [eL]; have e := hlen (([] : List Chg) ++ [(⟨n, nm, ⟨va, vb, vc⟩, ⟨wa, wb, wc⟩⟩ : Chg)]); subst hΩ; show (0 : Int) < ((F (([] : List Chg) ++ [(⟨n, nm, ⟨va, vb, vc⟩, ⟨wa, wb, wc⟩⟩ : Chg)])).length : Int); omega⟩, _, hz, ?_⟩
          cbv
          have hset : Ω.set (Ω.app (Ω.take ((0 : Nat)) (([] : List A))) [Chg.enc (⟨n, nm, ⟨va, vb, vc⟩, ⟨wa, wb, wc⟩⟩ : Chg)]) (Ω.plus 0 (Ω.nat 0)) (Chg.enc ⟨k0, n0, ⟨sa, sb, sc⟩, ⟨a1, b1', d1⟩⟩) = F ((([] : List Chg) ++ [(⟨n, nm, ⟨va, vb, vc⟩, ⟨wa, wb, wc⟩⟩ : Chg)]).set 0 ⟨k0, n0, ⟨sa, sb, sc⟩, ⟨a1, b1', d1⟩⟩) := by
            rw [eX, ← hFm, ← hFm]; subst hΩ; show ((([] : List Chg) ++ [(⟨n, nm, ⟨va, vb, vc⟩, ⟨wa, wb, wc⟩⟩ : Chg)]).map Chg.enc).set 0 _ = _; rw [List.map_set]
          have eLs : (Ω.plus ((0 : Nat)) (Ω.len [Chg.enc (⟨n, nm, ⟨va, vb, vc⟩, ⟨wa, wb, wc⟩⟩ : Chg)])) = Ω.len (F ((([] : List Chg) ++ [(⟨n, nm, ⟨va, vb, vc⟩, ⟨wa, wb, wc⟩⟩ : Chg)]).set 0 ⟨k0, n0, ⟨sa, sb, sc⟩, ⟨a1, b1', d1⟩⟩)) := by
            rw [eL]; subst hΩ; show (F (([] : List Chg) ++ [(⟨n, nm, ⟨va, vb, vc⟩, ⟨wa, wb, wc⟩⟩ : Chg)])).length = (F _).length; rw [hlen, hlen, List.length_set]
          exact ⟨⟨rfl, by show Ω.plus ((0 : Nat)) (Ω.len [Chg.enc (⟨n, nm, ⟨va, vb, vc⟩, ⟨wa, wb, wc⟩⟩ : Chg)]) ≤ (Ω.set (Ω.app (Ω.take ((0 : Nat)) (([] : List A))) [Chg.enc (⟨n, nm, ⟨va, vb, vc⟩, ⟨wa, wb, wc⟩⟩ : Chg)]) (Ω.plus 0 (Ω.nat 0)) (Chg.enc ⟨k0, n0, ⟨sa, sb, sc⟩, ⟨a1, b1', d1⟩⟩)).length; rw [hset, eLs]; subst hΩ; exact Nat.le_refl _⟩, _, _, .of (show A.sl true 8 (Ω.take (Ω.plus ((0 : Nat)) (Ω.len [Chg.enc (⟨n, nm, ⟨va, vb, vc⟩, ⟨wa, wb, wc⟩⟩ : Chg)])) (Ω.set (Ω.app (Ω.take ((0 : Nat)) (([] : List A))) [Chg.enc (⟨n, nm, ⟨va, vb, vc⟩, ⟨wa, wb, wc⟩⟩ : Chg)]) (Ω.plus 0 (Ω.nat 0)) (Chg.enc ⟨k0, n0, ⟨sa, sb, sc⟩, ⟨a1, b1', d1⟩⟩))) = A.sl true 8 (F ((([] : List Chg) ++ [(⟨n, nm, ⟨va, vb, vc⟩, ⟨wa, wb, wc⟩⟩ : Chg)]).set 0 ⟨k0, n0, ⟨sa, sb, sc⟩, ⟨a1, b1', d1⟩⟩)) by rw [hset, eLs, takeAll hΩ]), .same, hout ((([] : List Chg) ++ [(⟨n, nm, ⟨va, vb, vc⟩, ⟨wa, wb, wc⟩⟩ : Chg)]).set 0 ⟨k0, n0, ⟨sa, sb, sc⟩, ⟨a1, b1', d1⟩⟩) q9 (by omega) (by omega) (by rw [List.length_set]; omega), rfl⟩
        · exact ⟨⟨rfl, by show Ω.plus ((0 : Nat)) (Ω.len [Chg.enc (⟨n, nm, ⟨va, vb, vc⟩, ⟨wa, wb, wc⟩⟩ : Chg)]) ≤ (Ω.app (Ω.take ((0 : Nat)) (([] : List A))) [Chg.enc (⟨n, nm, ⟨va, vb, vc⟩, ⟨wa, wb, wc⟩⟩ : Chg)]).length; rw [eL, eX]; subst hΩ; exact Nat.le_refl _⟩, _, _, .of (show A.sl true 8 (Ω.take (Ω.plus ((0 : Nat)) (Ω.len [Chg.enc (⟨n, nm, ⟨va, vb, vc⟩, ⟨wa, wb, wc⟩⟩ : Chg)])) (Ω.app (Ω.take ((0 : Nat)) (([] : List A))) [Chg.enc (⟨n, nm, ⟨va, vb, vc⟩, ⟨wa, wb, wc⟩⟩ : Chg)])) = A.sl true 8 (F (([] : List Chg) ++ [(⟨n, nm, ⟨va, vb, vc⟩, ⟨wa, wb, wc⟩⟩ : Chg)])) by rw [eL, eX, takeAll hΩ]), .same, hout (([] : List Chg) ++ [(⟨n, nm, ⟨va, vb, vc⟩, ⟨wa, wb, wc⟩⟩ : Chg)]) q8 (by omega) (by omega) (by omega), rfl⟩
      · exact ⟨⟨rfl, by show Ω.plus ((0 : Nat)) (Ω.len [Chg.enc (⟨n, nm, ⟨va, vb, vc⟩, ⟨wa, wb, wc⟩⟩ : Chg)]) ≤ (Ω.app (Ω.take ((0 : Nat)) (([] : List A))) [Chg.enc (⟨n, nm, ⟨va, vb, vc⟩, ⟨wa, wb, wc⟩⟩ : Chg)]).length; rw [eL, eX]; subst hΩ; exact Nat.le_refl _⟩, _, _, .of (show A.sl true 8 (Ω.take (Ω.plus ((0 : Nat)) (Ω.len [Chg.enc (⟨n, nm, ⟨va, vb, vc⟩, ⟨wa, wb, wc⟩⟩ : Chg)])) (Ω.app (Ω.take ((0 : Nat)) (([] : List A))) [Chg.enc (⟨n, nm, ⟨va, vb, vc⟩, ⟨wa, wb, wc⟩⟩ : Chg)])) = A.sl true 8 (F (([] : List Chg) ++ [(⟨n, nm, ⟨va, vb, vc⟩, ⟨wa, wb, wc⟩⟩ : Chg)])) by rw [eL, eX, takeAll hΩ]), .same, hout (([] : List Chg) ++ [(⟨n, nm, ⟨va, vb, vc⟩, ⟨wa, wb, wc⟩⟩ : Chg)]) q5 (by omega) (by omega) (by omega), rfl⟩
    · have eX : (([] : List A)) = F (([] : List Chg)) := XB
      have eL : ((0 : Nat)) = Ω.len (F (([] : List Chg))) := LB
      have hgl : (([] : List Chg)).length ≤ 41 := by first | omega | (simp; omega) | simp
      refine br (fun h => ?_) (fun h => ?_) <;> cbv
      · have hp : 0 < (([] : List Chg)).length := by
          have h : (0 : Int) < Ω.int ((0 : Nat)) := gtZt hΩ h
          rw [eL] at h
          have e := hlen (([] : List Chg))
          subst hΩ
          have h : (0 : Int) < ((F (([] : List Chg))).length : Int) := h
          omega
        exact absurd hp (Nat.lt_irrefl 0)
      · exact ⟨⟨rfl, by show (0 : Nat) ≤ (([] : List A)).length; rw [eL, eX]; subst hΩ; exact Nat.le_refl _⟩, _, _, .of (show A.sl true 8 (Ω.take ((0 : Nat)) (([] : List A))) = A.sl true 8 (F (([] : List Chg))) by rw [eL, eX, takeAll hΩ]), .same, hout (([] : List Chg)) q1 (by omega) (by omega) (by omega), rfl⟩
/-- Some changes, only read. -/
def cgf (x : A) : Prop := ∃ g : List Chg, x = .sl false 8 (g.map Chg.enc) ∧ g.length ≤ 100
theorem d_DrawFormatChanges {bs : List A} (hb : Src bs) : XCtr PP n_spec_DrawFormatChanges [.sl false 1 bs] (D0 bs cgf) := by
  obtain ⟨Ω, hΩ⟩ : ∃ Ω, Ω = std := ⟨_, rfl⟩
  have hS := c_l1Source bs
  have hD := d_l5Draw hb 0 (by omega) (by omega)
  have hL := fun l f t a b c d p e g => d_l15List hb l f t a b c d p e g
  have htab := tab
  refine XCtr.walkO tab hΩ 3 fn_spec_DrawFormatChanges rfl rfl ?_
  generalize PP = P at *
  cbv
  refine call_share hΩ 3 hS rfl (fits _) rfl ?_
  cbv
  refine call_dr false hΩ 3 hD rfl rfl rfl (fun q1 x q1a q1b hx => ?_)
  obtain ⟨l, f, t, rfl, h1, h2, h3, h4⟩ := hx
  have hL := hL l f t h2 h1 h3 h4 q1 (by omega) (by omega)
  unfold encP at *
  generalize l.map (Pck.enc false) = xs at *
  generalize f.map i64 = ys at *
  generalize t.map i64 = zs at *
  cbv
  refine call_dr true hΩ 3 hL rfl rfl rfl (fun q2 x q2a q2b hx => ?_)
  obtain ⟨g, rfl, hg⟩ := hx
  have hcg : cgf (.sl false 8 (g.map Chg.enc)) := ⟨g, rfl, hg⟩
  rw [show fzA true (.sl true 8 (g.map Chg.enc)) = .sl false 8 (g.map Chg.enc) from by show frz (A.sl true 8 _) = _; rw [frz_sl, List.map_map]; exact congrArg _ (List.map_congr_left fun c _ => rfl)]
  generalize g.map Chg.enc = gs at *
  cbv
  exact ⟨_, _, .same, .same, ⟨rfl, hcg⟩, rfl⟩
end Go.Proofs.YtfmcncflooechaaGreatDoor

/- The law of sets in which nobody is barred, walked; what it says of plain data. Plain theorems. -/
set_option linter.unusedVariables false
set_option linter.unusedSimpArgs false
namespace Go.Proofs.YtfmcncflooechaaGreatDoor
open Go Go.Fw
set_option maxRecDepth 100000
theorem c_lwBig (bs : List A) : PCtr PP n_laws_lwBig [.sl false 1 bs] (boo (decide (1048576 < bs.length))) := by
  obtain ⟨Ω, hΩ⟩ : ∃ Ω, Ω = std := ⟨_, rfl⟩
  obtain ⟨r, hr⟩ : ∃ r, r = decide (1048576 < bs.length) := ⟨_, rfl⟩
  rw [← hr]
  have htab := tab
  refine PCtr.walk tab hΩ fn_laws_lwBig rfl ?_
  generalize PP = P at *
  cbv
  refine .of (congrArg boo ?_)
  subst hΩ
  show decide ((bs.length : Int) > 1048576) = r
  rw [hr, Bool.eq_iff_iff, decide_eq_true_eq, decide_eq_true_eq]; omega
end Go.Proofs.YtfmcncflooechaaGreatDoor

/- The law of the stories' texts, walked. Plain theorems. -/
set_option linter.unusedVariables false
set_option linter.unusedSimpArgs false
namespace Go.Proofs.YtfmcncflooechaaGreatDoor
open Go Go.Fw
set_option maxRecDepth 100000
theorem fmtL_len : ∀ {g : List Chg} {acc : List UInt8}, (fmtL g acc).length ≤ acc.length + 39 * g.length
  | [], acc => Nat.le_refl _
  | x :: g, acc => by
    rw [fmtL]
    split
    · rename_i h
      have h1 := (lineT_len h).1
      have h2 := fmtL_len (g := g) (acc := acc ++ lineT x)
      simp only [List.length_append, List.length_cons] at h2 ⊢
      omega
    · simp
theorem roF_chgs (k a : Int) (g : List Chg) : roFree (.agg [i64 k, i64 a, .sl true 8 (g.map Chg.enc)]) = true := by
  rw [roFree_agg]
  have : roFree (.sl true 8 (g.map Chg.enc)) = true := roFAll fun x hx => by obtain ⟨c, _, rfl⟩ := List.mem_map.1 hx; rfl
  simp only [List.all_cons, List.all_nil, this]; rfl
theorem frz_chgs (k a : Int) (g : List Chg) : frz (.agg [i64 k, i64 a, .sl true 8 (g.map Chg.enc)]) = .agg [i64 k, i64 a, .sl false 8 (g.map Chg.enc)] := by
  have : frz (.sl true 8 (g.map Chg.enc)) = .sl false 8 (g.map Chg.enc) := by rw [frz_sl, List.map_map]; exact congrArg _ (List.map_congr_left fun c _ => rfl)
  rw [frz_agg]; simp only [List.map_cons, List.map_nil, this]; rfl
theorem sqS {Ω : Opq} (hΩ : Ω = std) {x : List UInt8} : Ω.cmpS .eql x x = true := by
  rcases h : Ω.cmpS .eql x x with _ | _
  · exact absurd rfl (sqF hΩ h)
  · rfl


set_option maxHeartbeats 2000000 in
theorem c_lawStoryTexts (bs : List A) (hby : ∀ i, i < bs.length → ∃ c : UInt8, bs[i]? = some (.sc (.int .u8 (c.toNat : Int)))) : PCtr PP n_laws_FnStoryTexts [.sl false 1 bs] (boo true) := by
  obtain ⟨Ω, hΩ⟩ : ∃ Ω, Ω = std := ⟨_, rfl⟩
  have hbig := c_lwBig bs
  have hdr : bs.length ≤ 1048576 → _ := fun h => d_DrawFormatChanges (bs := bs) ⟨h, hby⟩
  have hif := fun (g : List Chg) (h : g.length ≤ 100) => c_implFormatChanges g (by omega)
  have hsf := fun (g : List Chg) (h : g.length ≤ 100) => c_specFormatChanges g (by omega)
  have hpc := fun (s : List UInt8) (h : s.length ≤ 1048576) => c_implParseChanges s h
  have hce := chgEq
  obtain ⟨big, hbg⟩ : ∃ big, big = decide (1048576 < bs.length) := ⟨_, rfl⟩
  have hdr' : big = false → _ := fun h => hdr (by rw [hbg] at h; simpa using h)
  clear hdr
  rw [← hbg] at hbig
  clear hbg
  have htab := tab
  have hmo := hmo
  refine PCtr.walk tab hΩ fn_laws_FnStoryTexts rfl ?_
  generalize PP = P at *
  cbv
  refine call_pure hΩ 3 hbig rfl (fits _) rfl rfl ?_
  cbv
  refine br (fun h => ?_) (fun h => ?_) <;> cbv
  · exact .same
  refine call_d0 hΩ 3 (hdr' h) rfl rfl ?_
  rintro x o ⟨ho, g, rfl, hg⟩
  refine ⟨ho, ?_⟩
  have hif := hif g hg
  have hsf := hsf g hg
  have hpf := parse_fmt (g := g)
  have hrl : (fmtC g).length ≤ 3900 := by have := fmtL_len (g := g) (acc := []); unfold fmtC; simp only [List.length_nil] at this; omega
  obtain ⟨r, hr⟩ : ∃ r, r = fmtC g := ⟨_, rfl⟩
  rw [← hr] at hif hsf hpf hrl
  have hpc := hpc r (by omega)
  obtain ⟨⟨kk, aa, pg⟩, hz⟩ : ∃ z, z = parseC r := ⟨_, rfl⟩
  rw [← hz] at hpc hpf
  have rz := roF_chgs kk aa pg
  have fz := frz_chgs kk aa pg
  unfold chgsA at hpc
  dsimp only at hpc
  obtain ⟨gs, hgs⟩ : ∃ gs, gs = g.map Chg.enc := ⟨_, rfl⟩
  obtain ⟨zs, hzs⟩ : ∃ zs, zs = pg.map Chg.enc := ⟨_, rfl⟩
  rw [← hgs] at hif hsf ⊢
  rw [← hzs] at hpc rz fz
  clear hr hz
  refine ⟨rfl, ?_⟩
  cbv
  refine call_pure hΩ 3 hif rfl (fits _) rfl rfl ?_
  cbv
  refine call_pf hΩ 3 hpc rfl (fits _) rz fz rfl ?_
  cbv
  refine br (fun q => ?_) (fun q => ?_) <;> cbv
  · refine call_pure hΩ 3 hsf rfl (fits _) rfl rfl ?_
    cbv
    exact .of (congrArg boo (sqS hΩ))
  have hne := sqF hΩ q
  refine br (fun q2 => ?_) (fun q2 => ?_) <;> cbv
  · refine call_pure hΩ 3 hsf rfl (fits _) rfl rfl ?_
    cbv
    exact .of (congrArg boo (sqS hΩ))
  have e := hpf hne (by omega)
  have ek : kk = 0 := congrArg Prod.fst e
  have ea : aa = 0 := congrArg (fun z => z.2.1) e
  have eg : pg = g := congrArg (fun z => z.2.2) e
  subst ek
  subst ea
  subst eg
  obtain rfl : zs = gs := hzs.trans hgs.symm
  clear hpf hpc rz fz hsf
  refine br (fun h => (ne_self hΩ h).elim) (fun h => ?_)
  cbv
  refine br (fun h => (ne_self hΩ (iteB hΩ h)).elim) (fun h => ?_)
  cbv
  have hzl : zs.length = pg.length := by rw [hzs, List.length_map]
  obtain ⟨n, hn⟩ : ∃ n, n = pg.length := ⟨_, rfl⟩
  refine loopX htab hΩ (fun i : Nat => ⟨[(3, .sl false 8 zs), (4, str r), (5, .rp [i64 0, i64 0, .sl false 8 zs]), (6, i64 (Ω.int i))], 58, []⟩) (fun i => i ≤ n) (fun i => n - i) 0 (Nat.zero_le _)
    (((Sbs.unlk (r := 0) rfl rfl).trans (Sbs.thaw0 (r := 0) rfl rfl rfl)).trans ((Sbs.cut 0 rfl).trans (Sbs.mk rfl rfl ⟨rfl, rfl, rfl, zeroI hΩ, trivial⟩))) (fun i hi => ?_)
  cbv
  refine br (fun h => ?_) (fun h => ?_) <;> cbv
  · replace h := ltI hΩ h
    obtain ⟨c, hc⟩ := at_of (cs := pg) (by omega : i < _)
    refine ⟨VC_drawn htab hΩ hmo (by kernel_rfl) ?_⟩
    cbv
    refine ⟨⟨nnI hΩ⟩, _, rdI hΩ hzs hc, ?_⟩
    cbv
    refine ⟨⟨nnI hΩ⟩, _, rdI hΩ hzs hc, ?_⟩
    cbv
    refine eqX_chg hce c ?_
    cbv
    exact ⟨i + 1, by omega, by omega, Sbs.mk rfl rfl ⟨rfl, rfl, rfl, incI hΩ (by omega), trivial⟩⟩
  · refine call_pure hΩ 3 hif rfl (fits _) rfl rfl ?_
    cbv
    exact .of (congrArg boo (sqS hΩ))
end Go.Proofs.YtfmcncflooechaaGreatDoor

/- What a reading of an argument says of it: it is read-only plain data. Plain theorems, no condition. -/
set_option linter.unusedVariables false
set_option linter.unusedSimpArgs false
namespace Go.Fw
/-- Types of plain data. -/
inductive Ty where
  | int (k : IntKind)
  | bool
  | str
  | sl (e : Ty)
  | st (fs : List Ty)
mutual
def Ty.n : Ty → Nat
  | .st fs => Ty.nL fs
  | .int _ => 1
  | .bool => 1
  | .str => 1
  | .sl _ => 1
def Ty.nL : List Ty → Nat
  | [] => 0
  | x :: xs => x.n + Ty.nL xs
end
def Ty.elem (e : Ty) (cs : List A) : A :=
  match e with
  | .st _ => .agg cs
  | _ => cs.headD .un
mutual
def TyOK (P : Program) : Ty → TypeId → Prop
  | .int k, t => P.underlying t = some (.int k)
  | .bool, t => P.underlying t = some .bool
  | .str, t => P.underlying t = some .string
  | .sl e, t => ∃ te, P.underlying t = some (.slice te) ∧ P.cellsOf te = e.n ∧ Nat.ble 1 e.n = true ∧ TyOK P e te
  | .st fs, t => ∃ f, P.underlying t = some (.struct f) ∧ P.cellsOf t = Ty.nL fs ∧ TysOK P 0 fs f.toList
def TysOK (P : Program) : Nat → List Ty → List Field → Prop
  | _, [], [] => True
  | o, x :: xs, f :: fs => f.offset = o ∧ P.cellsOf f.type = x.n ∧ TyOK P x f.type ∧ TysOK P (o + x.n) xs fs
  | _, _, _ => False
end
mutual
inductive Shp : Ty → List A → Prop
  | int {k : IntKind} {n : Int} (h : (Lit.int k n).wf = true) : Shp (.int k) [.sc (.int k n)]
  | bool {b : Bool} : Shp .bool [.sc (.bool b)]
  | str {s : List UInt8} (h : s.length ≤ maxLen) : Shp .str [.sc (.string (mkS s))]
  | sl {e : Ty} {ys : List A} (h : ∀ y ∈ ys, Shp e y.cells) (h2 : ∀ y ∈ ys, y = e.elem y.cells) (hl : ys.length ≤ maxLen) : Shp (.sl e) [.sl false e.n ys]
  | st {fs : List Ty} {xs : List A} (h : ShpL fs xs) : Shp (.st fs) xs
inductive ShpL : List Ty → List A → Prop
  | nil : ShpL [] []
  | cons {t : Ty} {ts : List Ty} {xs ys : List A} (h : Shp t xs) (hl : ShpL ts ys) : ShpL (t :: ts) (xs ++ ys)
end
mutual
theorem Shp.length : ∀ {t : Ty} {xs : List A}, Shp t xs → xs.length = t.n
  | _, _, .int _ => rfl
  | _, _, .bool => rfl
  | _, _, .str _ => rfl
  | _, _, .sl _ _ _ => rfl
  | _, _, .st h => by rw [Ty.n]; exact h.length
theorem ShpL.length : ∀ {ts : List Ty} {xs : List A}, ShpL ts xs → xs.length = Ty.nL ts
  | _, _, .nil => rfl
  | _, _, .cons h hl => by rw [List.length_append, h.length, hl.length, Ty.nL]
end
theorem elem_cells {e : Ty} {cs : List A} (h : Shp e cs) : (e.elem cs).cells = cs := by
  cases h <;> rfl
theorem cells_list {w : World} {base : Nat} {a : Addr} {n : Nat} {cs : List Value} (h : w.cells? base a n = some cs) (hn : 0 < n) :
    ∃ cur e fr, w.heap[a.block]? = some (.cells cur e fr) ∧ a.spot = none ∧ cs = (cur.toList.drop a.off).take n ∧ cs.length = n := by
  unfold World.cells? at h
  split at h <;> try simp at h
  have hget : ∀ (l : List Nat) (r : List Value), l.mapM (fun i => w.cell? (a.add i)) = some r → r.length = l.length ∧ ∀ (j i : Nat), l[j]? = some i → ∃ v, r[j]? = some v ∧ w.cell? (a.add i) = some v := by
    intro l
    induction l with
    | nil => intro r h; simp at h; subst h; simp
    | cons x l ih =>
      intro r h
      simp only [List.mapM_cons, Option.bind_eq_bind, Option.pure_def, Option.bind_eq_some_iff, Option.some.injEq] at h
      obtain ⟨v, hv, r', hr', rfl⟩ := h
      obtain ⟨h1, h2⟩ := ih r' hr'
      refine ⟨by simp [h1], fun j i hj => ?_⟩
      cases j with
      | zero => simp at hj; subst hj; exact ⟨v, rfl, hv⟩
      | succ j => simpa using h2 j i (by simpa using hj)
  obtain ⟨hl, hat⟩ := hget _ _ h
  rw [List.length_range] at hl
  obtain ⟨v0, _, hv0⟩ := hat 0 0 (by rw [List.getElem?_range hn])
  have hblk : ∀ i, (a.add i).block = a.block := fun i => by unfold Addr.add; split <;> rfl
  unfold World.cell? at hv0
  rw [hblk] at hv0
  split at hv0 <;> try simp at hv0
  rename_i cur e fr hh
  have hsp : a.spot = none := by
    cases hs : a.spot with
    | none => rfl
    | some s => simp [Addr.add, hs] at hv0
  refine ⟨cur, e, fr, hh, hsp, ?_, hl⟩
  have ha : a = ⟨a.block, a.off, none⟩ := by cases a; simp at hsp; subst hsp; rfl
  have hcell : ∀ i, w.cell? (a.add i) = cur[a.off + i]? := fun i => by rw [ha, add_none, cell_at hh]
  have hlen : a.off + n ≤ cur.size := by
    obtain ⟨v, _, hv⟩ := hat (n - 1) (n - 1) (by rw [List.getElem?_range (by omega)])
    rw [hcell] at hv
    have := (Array.getElem?_eq_some_iff.1 hv).1
    omega
  apply List.ext_getElem?
  intro j
  by_cases hj : j < n
  · obtain ⟨v, hv1, hv2⟩ := hat j j (by rw [List.getElem?_range hj])
    rw [hv1, List.getElem?_take_of_lt hj, List.getElem?_drop]
    rw [hcell] at hv2
    simpa using hv2.symm
  · rw [List.getElem?_eq_none (by omega), List.getElem?_eq_none (by simp; omega)]
theorem add_block (a : Addr) (i : Nat) : (a.add i).block = a.block := by unfold Addr.add; split <;> rfl
theorem rows_rel {w : World} {G : Nat → Prop} {n : Nat} {X : Nat → List A} {l : List Value} : ∀ len : Nat, (∀ i, i < len → RelL w G (X i) ((l.drop (i * n)).take n) []) → RelL w G ((List.range len).flatMap X) (l.take (len * n)) []
  | 0, _ => by simpa using RelL.nil
  | len + 1, h => by
    have h1 := rows_rel (X := X) len fun i hi => h i (by omega)
    have h2 := h1.append (h len (by omega))
    rw [List.range_succ, List.flatMap_append, Nat.succ_mul, List.take_add]
    simpa using h2
mutual
theorem trod_rel {H : Type} {enc : TypeId × Value → H} {P : Program} {w : World} {base : Nat} {sp : Nat → Bool} {held : Bool} (hsp : ∀ b, sp b = true) :
    ∀ (ty : Ty) (t : TypeId) (fuel : Nat) (cs : List Value) (x : DataW H × List MemPlace), TyOK P ty t → DataW.trod enc P w base sp held fuel t cs = some x → ∃ xs, RelL w (Old w) xs cs [] ∧ Shp ty xs
  | .int k, t, 0, cs, x, hu, h => by simp [DataW.trod] at h
  | .int k, t, fuel + 1, cs, x, hu, h => by
    have hu : P.underlying t = some (.int k) := hu
    unfold DataW.trod at h
    rw [hu] at h
    split at h <;> try simp_all
    obtain ⟨⟨rfl, hw⟩, _⟩ := h
    exact ⟨_, .cons (F := []) (Fs := []) (.sc rfl) .nil, .int hw⟩
  | .bool, t, 0, cs, x, hu, h => by simp [DataW.trod] at h
  | .bool, t, fuel + 1, cs, x, hu, h => by
    have hu : P.underlying t = some .bool := hu
    unfold DataW.trod at h
    rw [hu] at h
    split at h <;> try simp_all
    exact ⟨_, .cons (F := []) (Fs := []) (.sc rfl) .nil, .bool⟩
  | .str, t, 0, cs, x, hu, h => by simp [DataW.trod] at h
  | .str, t, fuel + 1, cs, x, hu, h => by
    have hu : P.underlying t = some .string := hu
    unfold DataW.trod at h
    rw [hu] at h
    split at h <;> try simp_all
    rename_i s
    refine ⟨[.sc (.string (mkS (bs s)))], .cons (F := []) (Fs := []) (.sc rfl) .nil, .str ?_⟩
    rw [bs_length]; exact h.1
  | .sl e, t, fuel, cs, x, hu, h => by
    obtain ⟨te, hu, hc, hpos, hte⟩ := hu
    have hpos := Nat.le_of_ble_eq_true hpos
    rcases Go.Deep.open_slice hu h with ⟨rfl, _⟩ | ⟨a, len, cap, m, n, D, Pl, rfl, _, hl, hm, hmm, _, hel⟩
    · exact ⟨[.sl false e.n []], .cons (F := []) (Fs := []) .nils .nil, .sl (by simp) (by simp) (by simp)⟩
    · rw [hsp, if_pos rfl] at hmm
      subst hmm
      rw [hc] at hel
      by_cases hm0 : m = 0
      · subst hm0
        have : len = 0 := by omega
        subst this
        exact ⟨[.sl false e.n []], .cons (F := []) (Fs := []) .roz .nil, .sl (by simp) (by simp) (by simp)⟩
      · obtain ⟨cs0, hc0, _⟩ := hel 0 (by omega)
        obtain ⟨cur, et, fr, hh, hspot, _, _⟩ := cells_list hc0 hpos
        rw [add_block] at hh
        have hspot' : a.spot = none := by
          cases hs : a.spot with
          | none => rfl
          | some s => simp [Addr.add, hs] at hspot
        have ha : a = ⟨a.block, a.off, none⟩ := by cases a; simp at hspot'; subst hspot'; rfl
        have hX : ∀ i, i < m → ∃ xs, RelL w (Old w) xs ((cur.toList.drop (a.off + i * e.n)).take e.n) [] ∧ Shp e xs := fun i hi => by
          obtain ⟨csi, hci, hti⟩ := hel i hi
          obtain ⟨cur', et', fr', hh', _, hcs, _⟩ := cells_list hci hpos
          rw [add_block, hh] at hh'
          simp only [Option.some.injEq, Obj.cells.injEq] at hh'
          obtain ⟨rfl, _, _⟩ := hh'
          obtain ⟨xs, h1, h2⟩ := trod_rel hsp e te n csi _ hte hti
          refine ⟨xs, ?_, h2⟩
          rw [hcs] at h1
          have : (a.add (i * e.n)).off = a.off + i * e.n := by rw [ha, add_none]
          rw [this] at h1
          exact h1
        let X : Nat → List A := fun i => if h : i < m then Classical.choose (hX i h) else []
        have hX1 : ∀ i, i < m → RelL w (Old w) (X i) ((cur.toList.drop (a.off + i * e.n)).take e.n) [] ∧ Shp e (X i) := fun i hi => by
          have : X i = Classical.choose (hX i hi) := by simp only [X]; rw [dif_pos hi]
          rw [this]; exact Classical.choose_spec (hX i hi)
        have hmem : ∀ y ∈ (List.range len).map fun i => e.elem (X i), Shp e y.cells ∧ y = e.elem y.cells := fun y hy => by
          obtain ⟨i, hi, rfl⟩ := List.mem_map.1 hy
          have hi := List.mem_range.1 hi
          have hs := (hX1 i (by omega)).2
          rw [elem_cells hs]
          exact ⟨hs, rfl⟩
        refine ⟨[.sl false e.n ((List.range len).map fun i => e.elem (X i))], .cons (F := []) (Fs := []) ?_ .nil, .sl (fun y hy => (hmem y hy).1) (fun y hy => (hmem y hy).2) (by simp; omega)⟩
        have hlt : a.block < w.heap.size := (Array.getElem?_eq_some_iff.1 hh).1
        rw [ha]
        refine .ro hh hlt (fun y hy => ?_) (by simp) rfl ?_ (by omega) (by omega)
        · have := (hmem y hy).1.length
          exact this
        · have hf : flat ((List.range len).map fun i => e.elem (X i)) = (List.range len).flatMap X := by
            unfold flat
            rw [List.flatMap_map]
            have : ∀ l : List Nat, (∀ i ∈ l, i < m) → l.flatMap (fun i => (e.elem (X i)).cells) = l.flatMap X := by
              intro l
              induction l with
              | nil => intro _; rfl
              | cons i l ih =>
                intro hl
                rw [List.flatMap_cons, List.flatMap_cons, ih fun j hj => hl j (by simp [hj]), elem_cells (hX1 i (hl i (by simp))).2]
            exact this _ fun i hi => by have := List.mem_range.1 hi; omega
          rw [hf]
          refine rows_rel len fun i hi => ?_
          have := (hX1 i (by omega)).1
          rw [← List.drop_drop] at this
          exact this
  | .st fs, t, 0, cs, x, hu, h => by simp [DataW.trod] at h
  | .st fs, t, fuel + 1, cs, x, hu, h => by
    obtain ⟨f, hu, hc, hfs⟩ := hu
    unfold DataW.trod at h
    rw [hu] at h
    simp only at h
    split at h <;> try simp at h
    rename_i hlen
    obtain ⟨ys, hys, _⟩ := h
    obtain ⟨xs, h1, h2⟩ := trod_rels hsp fs f.toList fuel 0 cs ys hfs (by rw [hlen, hc]; omega) hys
    exact ⟨xs, by simpa using h1, .st h2⟩
theorem trod_rels {H : Type} {enc : TypeId × Value → H} {P : Program} {w : World} {base : Nat} {sp : Nat → Bool} {held : Bool} (hsp : ∀ b, sp b = true) :
    ∀ (tys : List Ty) (fs : List Field) (fuel o : Nat) (cs : List Value) (ys : List (DataW H × List MemPlace)), TysOK P o tys fs → cs.length = o + Ty.nL tys →
      fs.mapM (fun f => DataW.trod enc P w base sp held fuel f.type ((cs.drop f.offset).take (P.cellsOf f.type))) = some ys → ∃ xs, RelL w (Old w) xs (cs.drop o) [] ∧ ShpL tys xs
  | [], [], fuel, o, cs, ys, _, hl, _ => ⟨[], by rw [List.drop_eq_nil_of_le (by rw [hl, Ty.nL]; omega)]; exact .nil, .nil⟩
  | [], _ :: _, fuel, o, cs, ys, hu, hl, h => hu.elim
  | _ :: _, [], fuel, o, cs, ys, hu, hl, h => hu.elim
  | ty :: tys, f :: fs, fuel, o, cs, ys, hu, hl, h => by
    obtain ⟨ho, hc, ht, hts⟩ := hu
    simp only [List.mapM_cons, Option.bind_eq_bind, Option.pure_def, Option.bind_eq_some_iff, Option.some.injEq] at h
    obtain ⟨y, hy, ys', hys', _⟩ := h
    rw [ho, hc] at hy
    obtain ⟨xs1, h1, h2⟩ := trod_rel hsp ty f.type fuel _ _ ht hy
    rw [Ty.nL] at hl
    obtain ⟨xs2, h3, h4⟩ := trod_rels hsp tys fs fuel (o + ty.n) cs ys' hts (by omega) hys'
    refine ⟨xs1 ++ xs2, ?_, .cons h2 h4⟩
    have := h1.append h3
    rw [← List.drop_drop, List.take_append_drop] at this
    simpa using this
end
end Go.Fw

/- The closing of a law's row. Plain theorems, no condition. -/
set_option linter.unusedVariables false
set_option linter.unusedSimpArgs false
namespace Go.Fw
open Go.ChangeShapes Go.WideShapes Go.ChangeAt Go.RowKit
def PlainT (P : Program) (t : TypeId) : Prop := ∃ ty, TyOK P ty t
theorem tys_fields {P : Program} : ∀ {tys : List Ty} {fs : List Field} {o : Nat}, TysOK P o tys fs → (∀ f ∈ fs, PlainT P f.type) ∧ Ty.nL tys = (fs.map fun f => P.cellsOf f.type).sum ∧
    ∀ (j : Nat) f, fs[j]? = some f → f.offset = o + ((fs.take j).map fun f => P.cellsOf f.type).sum
  | [], [], o, _ => ⟨by simp, rfl, by simp⟩
  | [], _ :: _, o, h => h.elim
  | _ :: _, [], o, h => h.elim
  | ty :: tys, f :: fs, o, h => by
    obtain ⟨h1, h2, h3, h4⟩ := h
    obtain ⟨g1, g2, g3⟩ := tys_fields h4
    refine ⟨fun f' hf => ?_, by rw [Ty.nL, g2, ← h2]; simp, fun j f' hj => ?_⟩
    · rcases List.mem_cons.1 hf with rfl | hf
      · exact ⟨ty, h3⟩
      · exact g1 f' hf
    · cases j with
      | zero => simp at hj; subst hj; simp [h1]
      | succ j =>
        have := g3 j f' (by simpa using hj)
        rw [this, ← h2]; simp; omega
theorem kids (P : Program) : Kids P (PlainT P) := by
  refine ⟨?_, ?_, ?_, ?_, ?_⟩
  · rintro t e ⟨ty, h⟩ hu
    cases ty with
    | sl _ => obtain ⟨te, h, _⟩ := h; rw [hu] at h; simp at h
    | st _ => obtain ⟨f, h, _⟩ := h; rw [hu] at h; simp at h
    | _ => rw [TyOK, hu] at h; simp at h
  · rintro t e ⟨ty, h⟩ hu
    cases ty with
    | sl e' => obtain ⟨te, h, _, _, h2⟩ := h; rw [hu] at h; simp at h; subst h; exact ⟨e', h2⟩
    | st _ => obtain ⟨f, h, _⟩ := h; rw [hu] at h; simp at h
    | _ => rw [TyOK, hu] at h; simp at h
  · rintro t e n ⟨ty, h⟩ hu
    cases ty with
    | sl _ => obtain ⟨te, h, _⟩ := h; rw [hu] at h; simp at h
    | st _ => obtain ⟨f, h, _⟩ := h; rw [hu] at h; simp at h
    | _ => rw [TyOK, hu] at h; simp at h
  · rintro t fs ⟨ty, h⟩ hu
    cases ty with
    | sl _ => obtain ⟨te, h, _⟩ := h; rw [hu] at h; simp at h
    | st tys =>
      obtain ⟨f, h, hc, hts⟩ := h
      rw [hu] at h
      simp at h
      subst h
      obtain ⟨g1, g2, g3⟩ := tys_fields hts
      exact ⟨g1, by rw [hc, g2], fun j f hj => by rw [g3 j f hj, Nat.zero_add]⟩
    | _ => rw [TyOK, hu] at h; simp at h
  · rintro t k e ⟨ty, h⟩ hu
    cases ty with
    | sl _ => obtain ⟨te, h, _⟩ := h; rw [hu] at h; simp at h
    | st _ => obtain ⟨f, h, _⟩ := h; rw [hu] at h; simp at h
    | _ => rw [TyOK, hu] at h; simp at h
theorem plain_sz {P : Program} {t e : TypeId} (h : PlainT P t) (hu : P.underlying t = some (.slice e)) : 0 < P.cellsOf e := by
  obtain ⟨ty, h⟩ := h
  cases ty with
  | sl _ => obtain ⟨te, h, hc, hb, _⟩ := h; rw [hu] at h; simp at h; subst h; rw [hc]; exact Nat.le_of_ble_eq_true hb
  | st _ => obtain ⟨f, h, _⟩ := h; rw [hu] at h; simp at h
  | _ => rw [TyOK, hu] at h; simp at h
section
variable {H : Type} {enc : TypeId × Value → H} {P : Program}
theorem stays_all {W W' : World} {sp' : Nat → Bool} : ∀ {ts : List TypeId} {vs : List Value} {ds : List (DataW H)} {ps : List MemPlace}, (∀ t ∈ ts, PlainT P t) → DataW.TrodAll enc P W 0 (fun _ => true) true ts vs ds ps →
    (∀ p ∈ ps, W.sameAt W' p) → (∀ p ∈ ps, sp' p.block = true) → DataW.TrodAll enc P W' 0 sp' true ts vs ds ps
  | [], [], [], ps, _, h, _, _ => h
  | t :: ts, v :: vs, d :: ds, ps, ht, h, hsame, hs => by
    obtain ⟨p, q, ⟨n, hn⟩, hl, rfl⟩ := h
    refine ⟨p, q, ⟨n, ?_⟩, stays_all (fun t h => ht t (by simp [h])) hl (fun x hx => hsame x (by simp [hx])) (fun x hx => hs x (by simp [hx])), rfl⟩
    exact DataW.trod_stays (kids P) plain_sz (by simp) (ht t (by simp)) hn (fun x hx => hsame x (by simp [hx])) (fun x hx => hs x (by simp [hx]))
theorem post_law {f : Func} {s : ChangeSpec} {apart fresh handsOn again : Bool} {W W' : World} {args : Array Value} {ds gs : List (DataW H)} {before : List MemPlace} {tb : TypeId} (hsv : s.vars = [])
    (hW : DataW.Whole enc P f.params.toList s.vars apart W args.toList ds gs before) (htys : ∀ t ∈ f.params.toList, PlainT P t) (hrt : f.resultTypes = #[tb]) (hub : P.underlying tb = some .bool)
    (hfn : s.fn H (ds ++ gs) = { results := [.lit (.bool true)], args := ds }) (hb : Below W.heap.size W W') : s.post enc P f apart fresh handsOn again W args (.bool true) W' := by
  have hW0 := hW
  obtain ⟨p, q, hA, hV, rfl, hfz, hnd⟩ := hW
  rw [hsv] at hV
  obtain ⟨rfl, rfl⟩ := trodVars_none hV
  rw [List.append_nil] at hfz hnd hW0
  have hlt := hW0.lt
  have hsame : ∀ x ∈ p, W.sameAt W' x := fun x hx => hb.same (hlt x hx)
  have hres : ∀ (b : Nat) (sp : Nat → Bool) (hd : Bool), DataW.TrodAll enc P W' b sp hd f.resultTypes.toList ((Value.bool true).resultList f.resultTypes.size) (s.fn H (ds ++ [])).results [] := fun b sp hd => by
    rw [hfn, hrt]
    exact trodAll_cons_mk (shut_bool hub _) trodAll_mk0
  have hargs : ∀ sp : Nat → Bool, (∀ x ∈ p, sp x.block = true) → DataW.TrodAll enc P W' 0 sp true f.params.toList args.toList (s.fn H (ds ++ [])).args p := fun sp hs => by
    rw [hfn]; exact stays_all htys hA hsame hs
  have hvars : ∀ sp : Nat → Bool, DataW.TrodVars enc P W' sp s.vars (s.fn H (ds ++ [])).vars [] := fun sp => by rw [hfn, hsv]; rfl
  have hold : ∀ x ∈ p, (fun b => decide (b < W.heap.size)) x.block = true := fun x hx => by simpa using hlt x hx
  refine ⟨ds, [], p, [], p, [], hW0, hres _ _ _, hargs _ hold, hvars _, World.keptBut_mono (fun x hx => ⟨hx, .inr (.inl hx)⟩) (hb.frame (· ∈ p)), fun _ => ?_⟩
  refine ⟨?_, _, _, ([] ++ p) ++ [], ⟨[] ++ p, [], trodAll_append (hargs _ (fun _ _ => rfl)) (hres 0 (fun _ => true) true), hvars _, rfl, ?_, ?_⟩, ?_⟩
  · intro j t r h1 h2
    exact ok_one (v := .bool true) hrt rfl (okWide_bool_mk hub true) j t r h1 h2
  · intro b off hp
    have hp' : MemPlace.cell b off ∈ p := by simpa using hp
    rw [hb.frozen (p := ⟨b, off, none⟩) (hlt _ hp')]
    exact hfz b off hp'
  · intro ha
    simpa using hnd ha
  · intro x hx _
    simpa using hx
end
mutual
def tyChk (P : Program) : Ty → TypeId → Bool
  | .int k, t => match P.underlying t with | some (.int k') => decide (k' = k) | _ => false
  | .bool, t => match P.underlying t with | some .bool => true | _ => false
  | .str, t => match P.underlying t with | some .string => true | _ => false
  | .sl e, t => match P.underlying t with | some (.slice te) => P.cellsOf te == e.n && (Nat.ble 1 e.n && tyChk P e te) | _ => false
  | .st fs, t => match P.underlying t with | some (.struct f) => P.cellsOf t == Ty.nL fs && tysChk P 0 fs f.toList | _ => false
def tysChk (P : Program) : Nat → List Ty → List Field → Bool
  | _, [], [] => true
  | o, x :: xs, f :: fs => f.offset == o && (P.cellsOf f.type == x.n && (tyChk P x f.type && tysChk P (o + x.n) xs fs))
  | _, _, _ => false
end
mutual
theorem tyChk_ok {P : Program} : ∀ (ty : Ty) (t : TypeId), tyChk P ty t = true → TyOK P ty t
  | .int k, t, h => by
    rw [tyChk] at h; split at h <;> try simp at h
    rename_i hu; subst h; rw [TyOK]; exact hu
  | .bool, t, h => by
    rw [tyChk] at h; split at h <;> try simp at h
    rename_i hu; rw [TyOK]; exact hu
  | .str, t, h => by
    rw [tyChk] at h; split at h <;> try simp at h
    rename_i hu; rw [TyOK]; exact hu
  | .sl e, t, h => by
    rw [tyChk] at h; split at h <;> try simp at h
    rename_i te hu; rw [TyOK]
    exact ⟨te, hu, h.1, by simpa using h.2.1, tyChk_ok e te h.2.2⟩
  | .st fs, t, h => by
    rw [tyChk] at h; split at h <;> try simp at h
    rename_i f hu; rw [TyOK]
    exact ⟨f, hu, h.1, tysChk_ok fs _ _ h.2⟩
theorem tysChk_ok {P : Program} : ∀ (tys : List Ty) (o : Nat) (fs : List Field), tysChk P o tys fs = true → TysOK P o tys fs
  | [], _, [], _ => by rw [TysOK]; trivial
  | [], _, _ :: _, h => by simp [tysChk] at h
  | _ :: _, _, [], h => by simp [tysChk] at h
  | x :: xs, o, f :: fs, h => by
    rw [tysChk] at h
    simp only [Bool.and_eq_true, beq_iff_eq] at h
    rw [TysOK]
    exact ⟨h.1, h.2.1, tyChk_ok x _ h.2.2.1, tysChk_ok xs _ fs h.2.2.2⟩
end
theorem slice_cells {P : Program} {W : World} {base : Nat} {t e : TypeId} {v : Value} (hu : P.underlying t = some (.slice e)) (h : Value.okWide P W .any base t v) : v.cells.toList = [v] := by
  unfold Value.okWide at h
  rw [hu] at h
  simp only at h
  unfold Cell.okWide at h
  rw [hu] at h
  cases v <;> first | rfl | (simp [Cell.ok, hu] at h)
end Go.Fw

/- Shapes of arguments. Plain theorems. -/
set_option linter.unusedVariables false
set_option linter.unusedSimpArgs false
namespace Go.Proofs.YtfmcncflooechaaGreatDoor
open Go Go.Fw
open Go.ChangeShapes Go.WideShapes Go.ChangeAt Go.RowKit
/-- Bytes. -/
theorem shp_bytes {xs : List A} (h : Shp (.sl (.int .u8)) xs) : ∃ bs : List A, xs = [.sl false 1 bs] ∧ bs.length ≤ Go.maxLen ∧ ∀ i, i < bs.length → ∃ c : UInt8, bs[i]? = some (.sc (.int .u8 (c.toNat : Int))) := by
  cases h with | sl h1 h2 hl =>
  rename_i ys
  refine ⟨ys, rfl, hl, fun i hi => ?_⟩
  obtain ⟨y, hy⟩ : ∃ y, ys[i]? = some y := ⟨_, List.getElem?_eq_getElem hi⟩
  have hm := List.mem_of_getElem? hy
  have e := h2 y hm
  have s := h1 y hm
  generalize y.cells = cs at *
  cases s with
  | int hwf =>
    rename_i n
    have hb : 0 ≤ n ∧ n < 256 := by
      simp only [Lit.wf, Bool.and_eq_true, decide_eq_true_eq] at hwf
      have h3 : IntKind.u8.min = 0 := by decide
      have h4 : IntKind.u8.max = 255 := by decide
      omega
    refine ⟨UInt8.ofNat n.toNat, ?_⟩
    rw [hy, e]
    show some (A.sc (.int .u8 n)) = _
    have : ((UInt8.ofNat n.toNat).toNat : Int) = n := by simp; omega
    rw [this]
end Go.Proofs.YtfmcncflooechaaGreatDoor
